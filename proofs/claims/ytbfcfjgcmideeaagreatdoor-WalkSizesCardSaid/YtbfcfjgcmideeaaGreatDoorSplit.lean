/- strings.Split at a slash. -/
import Derived.Test.YtbfcfjgcmideeaaGreatDoorM1
import Derived.Test.YtbfcfjgcmideeaaGreatDoorListed
import Derived.Test.YtbfcfjgcmideeaaGreatDoorShelf
import Derived.Lib.RowBridge
import Derived.Lib.SliceRun
import Derived.WalkSpells
import Derived.Outline
namespace Go.Proofs.YtbfcfjgcmideeaaGreatDoor
open Go.RowKit
attribute [local go_sem] Later.cell_eq max2_i min2_i max_2 min_2 max_3 min_3
/-- A whole block of texts. -/
def StrRow (w : World) (g : Nat) (xs : List ByteArray) : Prop := w.heap[g]? = some (.cells (xs.map Value.string).toArray 9 (0, 0))
theorem StrRow.lt {w : World} {g : Nat} {xs : List ByteArray} (h : StrRow w g xs) : g < w.heap.size := (Array.getElem?_eq_some_iff.1 h).1
theorem StrRow.keep {w w' : World} {g : Nat} {xs : List ByteArray} (h : StrRow w g xs) (hb : Below w.heap.size w w') : StrRow w' g xs := (hb.block g h.lt).trans h
theorem StrRow.far {w : World} {g : Nat} {xs : List ByteArray} (h : StrRow w g xs) {p : Addr} (hp : g ≠ p.block) (u : Value) : StrRow (w.setCell p u) g xs := (Below.heap_setCell w p u g hp).trans h
theorem StrRow.cell {w : World} {g : Nat} {xs : List ByteArray} (h : StrRow w g xs) {i : Nat} {x : ByteArray} (hi : xs[i]? = some x) : w.cell? ⟨g, i, none⟩ = some (.string x) := by
  rw [cell_of_row w g i _ _ _ h]
  simp [hi]
theorem StrRow.free {w : World} {g : Nat} {xs : List ByteArray} (h : StrRow w g xs) (i : Nat) : w.frozen? ⟨g, i, none⟩ = false := frozen_of_row w g i _ _ h
theorem StrRow.set_ {w : World} {g : Nat} {xs : List ByteArray} (h : StrRow w g xs) (i : Nat) (x : ByteArray) : StrRow (w.setCell ⟨g, i, none⟩ (.string x)) g (xs.set i x) := by
  unfold StrRow
  rw [heap_setCell_same w g i _ _ _ h]
  congr 2
  apply Array.ext'
  simp [List.map_set]
theorem str_info' : (Tryz.prog.info? 9).map (fun i => (i.zero, i.size, i.bytes)) = some (some (.string ⟨#[]⟩), 1, 16) := by kernel_rfl
theorem make_strs (n : Nat) (hn : n ≤ 1000001) (w : World) :
    (Instr.makeSlice 33 (.int .i64 (n : Int)) (.int .i64 (n : Int))).run Tryz.prog w = .ok (.slice (some ⟨w.heap.size, 0, none⟩) n n) (w.alloc (.cells (Array.replicate n (.string ⟨#[]⟩)) 9)) := by
  obtain ⟨i0, hi, hz0, hz1, hz2⟩ := info_parts str_info'
  have h := run_make_rowN 33 9 i0 (.string ⟨#[]⟩) Tryz.underlying33 hi hz0 .i64 .i64 n n (Nat.le_refl _) (by rw [hz2]; omega) (by omega) w
  have e : madeCells (Value.string ⟨#[]⟩).cells (n * i0.size) = Array.replicate n (.string ⟨#[]⟩) := by
    rw [hz1, Nat.mul_one]
    apply Array.ext'
    rw [show (Value.string ⟨#[]⟩).cells = #[Value.string ⟨#[]⟩] from rfl, toList_madeCells_one]
    simp
  rw [h, e]
theorem strRow_made (w : World) (n g : Nat) (hg : g = w.heap.size) : StrRow (w.alloc (.cells (Array.replicate n (.string ⟨#[]⟩)) 9)) g (List.replicate n ⟨#[]⟩) := by
  subst hg
  unfold StrRow
  rw [heap_alloc_new]
  congr 2
  apply Array.ext'
  simp
theorem count_le_size (s : ByteArray) : Lib.countByte s.data.toList 47 ≤ s.size := by
  have := List.count_le_length (a := (47 : UInt8)) (l := s.data.toList)
  rw [Array.length_toList] at this
  exact this
theorem set_mid {α : Type} (xs : List α) (y z : α) (k : Nat) : (xs ++ List.replicate (k + 1) z).set xs.length y = (xs ++ [y]) ++ List.replicate k z := by
  rw [List.set_append_right _ _ (Nat.le_refl _), Nat.sub_self, List.replicate_succ, List.set_cons_zero, List.append_assoc]; rfl
theorem ret_slice {A : Option Addr} {a b c d : Nat} (h : a = c) (h' : b = d) : Ending.returned (.slice A a b) = .returned (.slice A c d) := by rw [h, h']
set_option maxHeartbeats 2000000 in
set_option maxRecDepth 100000 in
theorem genSplit_calls (s : ByteArray) (hs : s.size ≤ 1000000) (w : World) :
    Calls Tryz.prog 283 #[.string s, .string ⟨#[47]⟩, .int .i64 0, .int .i64 (-1)] w fun e w' => ∃ g, ∃ xs : List ByteArray, (e = .returned (.slice (some ⟨g, 0, none⟩) xs.length xs.length) ∧ w.heap.size ≤ g ∧ StrRow w' g xs ∧ xs.map (·.data.toList) = pieces s.data.toList) ∧ Below w.heap.size w w' := by
  obtain ⟨n, hn⟩ : ∃ n, Lib.countByte s.data.toList 47 = n := ⟨_, rfl⟩
  have hns : n ≤ s.size := by rw [← hn]; exact count_le_size s
  have HN := Lib.hid hn
  clear hn
  obtain ⟨N, hN⟩ : ∃ N, n + 1 = N := ⟨_, rfl⟩
  have hmk := make_strs N (by omega)
  have hmin : min (N : Int) ((s.size : Int) + 1) = (N : Int) := by omega
  have hnc : (n : Int) + 1 = (N : Int) := by omega
  have hnd : (N : Int) - 1 = (n : Int) := by omega
  have HNN := Lib.hid hN
  have hN1 : N ≤ 1000001 := by omega
  clear hN
  go_enter Tryz.func283, Tryz.ntmps283
  go_wp2_with (go_at_call 293; refine (Tryz.strings_Count_one _ _ _).mono ?_; rintro _ w1 ⟨rfl, hw1⟩; obtain rfl : w = w1 := hw1.symm; rw [HN.out])
  have hr0 := strRow_made w N w.heap.size rfl
  have hb0 : Below w.heap.size w (w.alloc (.cells (Array.replicate N (.string ⟨#[]⟩)) 9)) := below_alloc (Below.refl _ _) _
  obtain ⟨g, hg⟩ : ∃ g, w.heap.size = g := ⟨_, rfl⟩
  rw [hg] at hr0
  have HG := Lib.hid hg
  try rw [hg]
  clear hmk hmin hnc hnd hg
  go_loopg [0, 10] n (fun gk s0 s10 wr => ∃ (r : ByteArray) (xs : List ByteArray), xs.length + gk = n ∧ s0 = .string r ∧ s10 = .int .i64 xs.length ∧ Hid (Lib.countByte r.data.toList 47 = gk) ∧ r.size ≤ 1000000 ∧ Hid (xs.map (·.data.toList) ++ pieces r.data.toList = pieces s.data.toList) ∧ StrRow wr g (xs ++ List.replicate (gk + 1) ⟨#[]⟩) ∧ Below w.heap.size w wr)
  case atStart => exact ⟨s, [], by simp, rfl, rfl, HN, hs, Lib.hid rfl, by rw [HNN.out]; exact hr0, hb0⟩
  case round =>
    clear hr0 hb0
    obtain ⟨r, xs, hxs, rfl, rfl, hc, hrs, hp, hrow, hb⟩ := hrel
    have hf := hrow.free xs.length
    have hgl := hrow.lt
    cases gk with
    | zero =>
      obtain ⟨x0, hx0⟩ : ∃ x, (xs ++ List.replicate (0 + 1) ⟨#[]⟩)[xs.length]? = some x := ⟨⟨#[]⟩, by simp⟩
      have hcell := hrow.cell hx0
      have e1 : decide (xs.length < n) = false := decide_eq_false (by omega)
      have hN2 : xs.length + 1 = N := by have := HNN.out; omega
      have hx1 : xs.length < N := by omega
      have HP : Hid ((xs ++ [r]).map (·.data.toList) = pieces s.data.toList) := Lib.hid (by rw [List.map_append, ← hp.out, pieces_none _ (count_none hc.out)]; rfl)
      have HR := Lib.hid hrow
      have HN2 := Lib.hid hN2
      clear hrow hx0 hN2
      go_wp2
      go_ret
      refine ⟨g, xs ++ [r], ⟨ret_slice (by simp) (by simp; exact HN2.out.symm), by rw [HG.out]; exact Nat.le_refl _, ?_, HP.out⟩, hb.setCell (by show _ ≤ g; rw [← HG.out]; exact Nat.le_refl _) _⟩
      have h := HR.out.set_ xs.length r
      rw [set_mid] at h
      simpa using h
    | succ gk =>
      obtain ⟨p, q, hpq, hp47, hix, hq⟩ := index_hit _ _ hc.out
      have hx1 : xs.length < n := by omega
      have hx2 : xs.length < N := by have := HNN.out; omega
      have e1 : decide ((xs.length : Int) < (n : Int)) = true := decide_eq_true (by omega)
      obtain ⟨x0, hx0⟩ : ∃ x, (xs ++ List.replicate (gk + 1 + 1) ⟨#[]⟩)[xs.length]? = some x := ⟨⟨#[]⟩, by simp⟩
      have hcell := hrow.cell hx0
      have HIX := Lib.hid hix
      have hlen : r.size = p.length + 1 + q.length := by
        have := congrArg List.length hpq
        rw [Array.length_toList, List.length_append, List.length_cons] at this
        have h2 : r.size = r.data.size := rfl
        omega
      have hpr : p.length ≤ r.size := by omega
      have hpr1 : p.length + 1 ≤ r.size := by omega
      have HPQ := Lib.hid hpq
      have HP47 := Lib.hid hp47
      have HQ := Lib.hid hq
      have HR := Lib.hid hrow
      have HLEN := Lib.hid hlen
      clear hpq hp47 hix hq hrow hx0 hlen
      go_wp2_with (go_at_call 193; refine (Tryz.strings_Index_one _ _ _).mono ?_; rintro _ w1 ⟨rfl, hw1⟩; obtain rfl : wr = w1 := hw1.symm; rw [HIX.out])
      go_roundg gk
      case measure => omega
      case rel =>
        refine ⟨_, xs ++ [r.extract 0 p.length], by simp; omega, rfl, by simp, ?_, ?_, ?_, ?_, hb.setCell (by show _ ≤ g; rw [← HG.out]; exact Nat.le_refl _) _⟩
        · refine Lib.hid ?_
          rw [Lib.extract_to_end, HPQ.out, show List.drop (p.length + 1) (p ++ 47 :: q) = q by simp]
          exact HQ.out
        · rw [ByteArray.size_extract]; omega
        · refine Lib.hid ?_
          rw [List.map_append, List.append_assoc, ← hp.out, Lib.extract_to_end, List.map_cons, List.map_nil, Lib.extract_data, HPQ.out, pieces_hit _ _ HP47.out]
          simp
        · have h := HR.out.set_ xs.length (r.extract 0 p.length)
          rw [set_mid] at h
          exact h
/-- strings.Split at a slash. -/
theorem split_calls (s : ByteArray) (hs : s.size ≤ 1000000) (w : World) :
    Calls Tryz.prog 263 #[.string s, .string ⟨#[47]⟩] w fun e w' => ∃ g, ∃ xs : List ByteArray, (e = .returned (.slice (some ⟨g, 0, none⟩) xs.length xs.length) ∧ w.heap.size ≤ g ∧ StrRow w' g xs ∧ xs.map (·.data.toList) = pieces s.data.toList) ∧ Below w.heap.size w w' := by
  go_enter Tryz.func263, Tryz.ntmps263
  go_wp2_with (go_at_call 283; refine (genSplit_calls s hs _).mono ?_; rintro _ w1 ⟨g, xs, ⟨rfl, hg, hr, hp⟩, hb⟩; have HP := Lib.hid hp; have HR := Lib.hid hr; clear hp hr)
  go_ret
  exact ⟨g, xs, ⟨rfl, hg, HR.out, HP.out⟩, hb⟩
end Go.Proofs.YtbfcfjgcmideeaaGreatDoor
