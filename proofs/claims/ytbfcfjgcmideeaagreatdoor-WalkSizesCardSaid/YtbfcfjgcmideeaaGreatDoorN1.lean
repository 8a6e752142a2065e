/- strings.ContainsAny at the two bytes 0 and '/', for every string of at most 64 bytes (valid UTF-8 or not). -/
/- tree.kinds and its four functions, tree.node: what a node must be by itself. -/
/- tree.Name: may a name be? -/
import Derived.Test.YtbfcfjgcmideeaaGreatDoorM1
import Derived.Test.YtbfcfjgcmideeaaGreatDoorShelf
import Derived.WalkKit
import Derived.BigQuiet
import Derived.Deep.QuietTactic
import Derived.Lib.Hide
import Derived.Lib.IndexAny
import Derived.Laws.RangeAny
import Derived.Deep.LoopGhost
import Derived.Laws.EntriesVeiled
namespace Go.Proofs.YtbfcfjgcmideeaaGreatDoor
open Go.RowKit

def ch2 : ByteArray := ⟨#[0, 47]⟩
/-- What one step of a range over a string passes by. -/
theorem decode_pass (s : ByteArray) (pos : Nat) (h : pos < s.size) (ha : 128 ≤ (s[pos]'h).toNat) :
    Utf8.valid (Utf8.decode s pos).1 = true ∧ pos + (Utf8.decode s pos).2 ≤ s.size ∧ ∀ j b, pos ≤ j → j < pos + (Utf8.decode s pos).2 → s.data.toList[j]? = some b → 128 ≤ b.toNat := by
  have hget : ∀ k (hk : pos + k < s.size) b, s.data.toList[pos + k]? = some b → s.get! (pos + k) = b := by
    intro k hk b hb
    have h1 := Lib.data_getElem? s (pos + k) hk
    rw [h1] at hb
    have h2 := get_at s (pos + k) hk
    simp only [Nat.add_zero] at h2
    rw [h2]; exact Option.some.inj hb
  have h0 : ∀ b, s.data.toList[pos]? = some b → 128 ≤ b.toNat := fun b hb => by
    rw [Lib.data_getElem? s pos h] at hb; rw [← Option.some.inj hb]; exact ha
  have hcont : ∀ k, (decide (pos + k < s.size) && (s.get! (pos + k)).toNat / 64 == 2) = true → pos + k < s.size ∧ ∀ b, s.data.toList[pos + k]? = some b → 128 ≤ b.toNat := by
    intro k hk
    rw [Bool.and_eq_true, decide_eq_true_iff, beq_iff_eq] at hk
    refine ⟨hk.1, fun b hb => ?_⟩
    have := hk.2
    rw [hget k hk.1 b hb] at this
    omega
  have hn : ¬ (s[pos]'h).toNat < 128 := by omega
  have one : ∀ j b, pos ≤ j → j < pos + 1 → s.data.toList[j]? = some b → 128 ≤ b.toNat := fun j b h1 h2 hb => h0 b (by rw [← hb]; congr 1; omega)
  have hve : Utf8.valid ((Utf8.runeError : Nat) : Int) = true := by decide
  simp only [Utf8.decode, get_at s pos h, hn, if_false]
  split
  · rename_i hc
    rw [Bool.and_eq_true] at hc
    obtain ⟨c1, c2⟩ := hcont 1 hc.2
    split
    · refine ⟨?_, by show pos + 2 ≤ _; omega, fun j b h1 h2 hb => ?_⟩
      · show Utf8.valid (((s[pos]'h).toNat % 32 * 64 + (s.get! (pos + 1)).toNat % 64 : Nat) : Int) = true
        rw [validRune_eq, validRune, decide_eq_true_iff]; omega
      · have h2' : j < pos + 2 := h2
        by_cases e : j = pos
        · subst e; exact h0 b hb
        · obtain rfl : j = pos + 1 := by omega
          exact c2 b hb
    · exact ⟨hve, by show pos + 1 ≤ _; omega, one⟩
  · split
    · rename_i hc
      rw [Bool.and_eq_true, Bool.and_eq_true] at hc
      obtain ⟨c1, c2⟩ := hcont 1 hc.1.2
      obtain ⟨d1, d2⟩ := hcont 2 hc.2
      split
      · rename_i hv
        rw [Bool.and_eq_true] at hv
        refine ⟨hv.2, by show pos + 3 ≤ _; omega, fun j b h1 h2 hb => ?_⟩
        have h2' : j < pos + 3 := h2
        by_cases e : j = pos
        · subst e; exact h0 b hb
        · by_cases e1 : j = pos + 1
          · subst e1; exact c2 b hb
          · obtain rfl : j = pos + 2 := by omega
            exact d2 b hb
      · exact ⟨hve, by show pos + 1 ≤ _; omega, one⟩
    · split
      · rename_i hc
        rw [Bool.and_eq_true, Bool.and_eq_true, Bool.and_eq_true] at hc
        obtain ⟨c1, c2⟩ := hcont 1 hc.1.1.2
        obtain ⟨d1, d2⟩ := hcont 2 hc.1.2
        obtain ⟨e1, e2⟩ := hcont 3 hc.2
        split
        · rename_i hv
          rw [Bool.and_eq_true] at hv
          refine ⟨hv.2, by show pos + 4 ≤ _; omega, fun j b h1 h2 hb => ?_⟩
          have h2' : j < pos + 4 := h2
          by_cases x0 : j = pos
          · subst x0; exact h0 b hb
          · by_cases x1 : j = pos + 1
            · subst x1; exact c2 b hb
            · by_cases x2 : j = pos + 2
              · subst x2; exact d2 b hb
              · obtain rfl : j = pos + 3 := by omega
                exact e2 b hb
        · exact ⟨hve, by show pos + 1 ≤ _; omega, one⟩
      · exact ⟨hve, by show pos + 1 ≤ _; omega, one⟩

set_option maxHeartbeats 1000000 in
set_option maxRecDepth 1000000 in
theorem indexRune_err (w : World) :
    Calls Tryz.prog 277 #[.string ⟨#[0, 47]⟩, .int .i32 65533] w fun e w' => e = .returned (.int .i64 (-1)) ∧ Below w.heap.size w w' := by
  obtain ⟨s, hs⟩ : ∃ s : ByteArray, s = ⟨#[0, 47]⟩ := ⟨_, rfl⟩
  have hz : s.size = 2 := by rw [hs]; rfl
  have hd0 : Utf8.decode s 0 = (0, 1) := by rw [hs]; rfl
  have hd1 : Utf8.decode s 1 = (47, 1) := by rw [hs]; rfl
  rw [← hs]
  have HZ := Lib.hid hz
  have H0 := Lib.hid hd0
  have H1 := Lib.hid hd1
  clear hs hz hd0 hd1
  go_enter Tryz.func277, Tryz.ntmps277
  go_wp2
  go_loopg [5, 6] 2 (fun g _ _ wx => ∃ i : Nat, i + g = 2 ∧ wx = w.iter s i)
  case atStart => exact ⟨0, by omega, rfl⟩
  case round =>
    obtain ⟨i, hig, rfl⟩ := hrel
    cases gk with
    | zero =>
      obtain rfl : i = 2 := by omega
      have hnx := fun ty => run_next_end (P := Tryz.prog) w s 2 ty (by rw [HZ.out]; omega)
      go_wp2
      go_ret
      exact ⟨rfl, by unfold World.iter; exact (by repeat (first | exact Below.refl _ _ | assumption | refine Below.drew ?_ | refine below_drewN ?_ _ | refine below_alloc ?_ _ | refine below_set ?_ (by simp) _ | refine below_step ?_ (by assumption)))⟩
    | succ g =>
      have hd : (Utf8.decode s i).1 ≠ 65533 ∧ (Utf8.decode s i).2 = 1 := by
        have : i = 0 ∨ i = 1 := by omega
        rcases this with rfl | rfl
        · rw [H0.out]; decide
        · rw [H1.out]; decide
      have hnx := fun ty => run_next_any (P := Tryz.prog) w s i ty (by rw [HZ.out]; omega)
      rw [hd.2] at hnx
      have hne : (((Utf8.decode s i).1 : Int) == 65533) = false := beq_eq_false_iff_ne.2 (by have := hd.1; omega)
      clear hd
      generalize (Utf8.decode s i).1 = c at *
      go_wp2
      go_roundg g
      case measure => omega
      case rel => exact ⟨i + 1, by omega, rfl⟩
theorem indexByte_nil (s : ByteArray) (h : s.size = 0) (c : Int) (w : World) :
    Calls Tryz.prog 290 #[.string s, .int .u8 c] w fun e w' => e = .returned (.int .i64 (-1)) ∧ w' = w := by
  have hl : s.data.toList = [] := by rw [← List.length_eq_zero_iff, Array.length_toList]; exact h
  have := Tryz.strings_IndexByte s c w
  rw [hl] at this
  exact this
set_option maxHeartbeats 1000000 in
set_option maxRecDepth 1000000 in
theorem indexRune_no (r : Int) (h0 : 128 ≤ r) (h1 : r ≤ 1114111) (hv : Utf8.valid r = true) (he : r ≠ 65533) (w : World) :
    Calls Tryz.prog 277 #[.string ⟨#[0, 47]⟩, .int .i32 r] w fun e w' => e = .returned (.int .i64 (-1)) ∧ Below w.heap.size w w' := by
  have hne : (r == 65533) = false := beq_eq_false_iff_ne.2 he
  have hvr : Lib.validRune r = true := by
    rw [validRune_eq] at hv
    rw [← hv]; rfl
  obtain ⟨f1, f2, f3⟩ := encode_facts r hv h0
  obtain ⟨rs, hrs⟩ : ∃ rs : ByteArray, Utf8.encode r = rs := ⟨_, rfl⟩
  rw [hrs] at f1 f2
  simp only [hrs] at f3
  have hvr' := Lib.hid hvr
  have HF := Lib.hid f3
  clear hv f3 he hvr
  by_cases h2 : rs.size = 2
  · obtain ⟨x, hx⟩ : ∃ x : UInt8, rs[1]'(by omega) = x := ⟨_, rfl⟩
    have f4 : 128 ≤ x.toNat := by
      have := HF.out (by omega)
      simp only [h2] at this
      rw [← hx]; exact this
    have hx1 : ∀ h : 1 < rs.size, rs[1]'h = x := fun _ => hx
    have h47 : ((47 : Int) == (x.toNat : Int)) = false := beq_eq_false_iff_ne.2 (by omega)
    have h47' : ((47 : Int) != (x.toNat : Int)) = true := by rw [bne_iff_ne]; omega
    have hc47 : ∀ h : 1 < (⟨#[0, 47]⟩ : ByteArray).size, (⟨#[0, 47]⟩ : ByteArray)[1]'h = 47 := fun _ => rfl
    clear hx HF f1 f2
    go_enter Tryz.func277, Tryz.ntmps277
    go_wp2_with (go_at_call 291; refine (Tryz.utf8_ValidRune _ _).mono ?_; rintro e w' ⟨rfl, rfl⟩; rw [hvr'.out])
    go_step3
    go_wp2
    refine wp_loop_once ?_
    go_wp2
    go_step3
    go_wp2
    refine wp_region_later (by kernel_rfl) (by kernel_rfl) ?_
    repeat (go_big_quiet_step (fail))
    refine wpQuiet_nil ?_
    intro wL hbL
    go_wp2
    refine wp_region_later (by kernel_rfl) (by kernel_rfl) ?_
    repeat (go_big_quiet_step ((exact Calls.later_same (indexByte_nil _ (by rfl) _ _))))
    refine wpQuiet_nil ?_
    intro wL hbL
    go_wp2
    simp (config := { zetaDelta := true }) only [Exit.inBlock, Exit.then, Exit.noGoto_ret]
    go_ret
    exact ⟨rfl, (by repeat (first | exact Below.refl _ _ | assumption | refine Below.drew ?_ | refine below_drewN ?_ _ | refine below_alloc ?_ _ | refine below_set ?_ (by simp) _ | refine below_step ?_ (by assumption)))⟩
  · have h3 : 3 ≤ rs.size := by omega
    clear h2 f1 HF
    go_enter Tryz.func277, Tryz.ntmps277
    go_wp2_with (go_at_call 291; refine (Tryz.utf8_ValidRune _ _).mono ?_; rintro e w' ⟨rfl, rfl⟩; rw [hvr'.out])
    go_step3
    go_wp2
    refine wp_loop_once ?_
    go_wp2
    simp (config := { zetaDelta := true }) only [Exit.inBlock, Exit.noGoto_ret]
    go_ret
    exact ⟨rfl, (by repeat (first | exact Below.refl _ _ | assumption | refine Below.drew ?_ | refine below_drewN ?_ _ | refine below_alloc ?_ _ | refine below_set ?_ (by simp) _ | refine below_step ?_ (by assumption)))⟩
theorem indexRune_high (r : Int) (h0 : 128 ≤ r) (hv : Utf8.valid r = true) (w : World) :
    Calls Tryz.prog 277 #[.string ⟨#[0, 47]⟩, .int .i32 r] w fun e w' => e = .returned (.int .i64 (-1)) ∧ Below w.heap.size w w' := by
  by_cases he : r = 65533
  · subst he; exact indexRune_err w
  · have h1 : r ≤ 1114111 := by
      rw [validRune_eq, validRune, decide_eq_true_iff] at hv; omega
    exact indexRune_no r h0 h1 hv he w

def setObjW (w : World) (k : Nat) (o : Obj) : World := { w with heap := w.heap.setIfInBounds k o }
theorem setObj_size (w : World) (k : Nat) (o : Obj) : (setObjW w k o).heap.size = w.heap.size := by simp [setObjW]
theorem setObj_at {w : World} {k : Nat} (h : k < w.heap.size) (o : Obj) : (setObjW w k o).heap[k]? = some o := by simp [setObjW, h]
theorem below_setObj (w : World) (k : Nat) (o : Obj) : Below k w (setObjW w k o) :=
  ⟨rfl, rfl, rfl, by simp [setObjW], fun j hj => by simp only [setObjW]; rw [Array.getElem?_setIfInBounds_ne (by omega)]⟩
theorem next_at {P : Program} (w : World) (k : Nat) (s : ByteArray) (pos : Nat) (ty : TypeId) (hh : w.heap[k]? = some (.stringIter s pos)) (h : pos < s.size) :
    (Instr.next (.pointer (some ⟨k, 0, none⟩)) true ty).run P w = .ok (.tuple #[.bool true, .int .i64 pos, .int .i32 (Utf8.decode s pos).1]) (setObjW w k (.stringIter s (pos + (Utf8.decode s pos).2))) := by
  simp only [Instr.next, getObj, setObj, Sem.run_bind, Sem.run, hh, Result.andThen, h, if_true]
  simp [goInt, setObjW]
theorem next_end {P : Program} (w : World) (k : Nat) (s : ByteArray) (pos : Nat) (ty : TypeId) (hh : w.heap[k]? = some (.stringIter s pos)) (h : ¬ pos < s.size) :
    (Instr.next (.pointer (some ⟨k, 0, none⟩)) true ty).run P w = .ok (.tuple #[.bool false]) w := by
  simp [Instr.next, getObj, Sem.run, hh, h]

/-- Bytes ahead of i are none of the two. -/
def Free (s : ByteArray) (i : Nat) : Prop := Lib.NoAny s.data.toList [0, 47] i
set_option maxHeartbeats 2000000 in
set_option maxRecDepth 1000000 in
theorem indexAny_short (s : ByteArray) (w : World) (h8 : s.size ≤ 8) :
    Calls Tryz.prog 260 #[.string s, .string ⟨#[0, 47]⟩] w fun e w' => (∃ r : Int, e = .returned (.int .i64 r) ∧ decide (0 ≤ r) = Lib.containsAny s.data.toList [0, 47]) ∧ Below w.heap.size w w' := by
  have h8z : decide ((8 : Int) < (s.size : Int)) = false := decide_eq_false (by omega)
  go_enter Tryz.func260, Tryz.ntmps260
  go_wp2_with (go_at_call 278; refine (Tryz.strings_shouldUseASCIISet _ _).mono ?_; rintro e w' ⟨rfl, hw⟩; rw [hw, h8z])
  go_loopg [9, 10] s.size (fun g _ _ wx => ∃ i : Nat, i ≤ s.size ∧ s.size ≤ i + g ∧ Below w.heap.size w wx ∧ w.heap.size < wx.heap.size ∧ wx.heap[w.heap.size]? = some (.stringIter s i) ∧ Free s i)
  case atStart => exact ⟨0, by omega, by omega, by unfold World.iter; exact (by repeat (first | exact Below.refl _ _ | assumption | refine Below.drew ?_ | refine below_drewN ?_ _ | refine below_alloc ?_ _ | refine below_set ?_ (by simp) _ | refine below_step ?_ (by assumption))), by simp [World.iter], World.iter_heap w s 0, Lib.NoAny.zero _ _⟩
  case round =>
    obtain ⟨i, hi, hig, hb, hz, hh, hno⟩ := hrel
    by_cases hlt : i < s.size
    · obtain ⟨x, hx⟩ : ∃ x : UInt8, s[i]'hlt = x := ⟨_, rfl⟩
      have hxl : s.data.toList[i]? = some x := by rw [← hx]; exact Lib.data_getElem? s i hlt
      have hnx := fun ty => next_at (P := Tryz.prog) wr w.heap.size s i ty hh hlt
      have hb1 : Below w.heap.size w (setObjW wr w.heap.size (.stringIter s (i + (Utf8.decode s i).2))) := hb.trans (below_setObj _ _ _)
      have hh1 : (setObjW wr w.heap.size (.stringIter s (i + (Utf8.decode s i).2))).heap[w.heap.size]? = some (.stringIter s (i + (Utf8.decode s i).2)) := setObj_at hz _
      have hz1 : w.heap.size < (setObjW wr w.heap.size (.stringIter s (i + (Utf8.decode s i).2))).heap.size := by rw [setObj_size]; exact hz
      by_cases h128 : x.toNat < 128
      · have hd : Utf8.decode s i = (x.toNat, 1) := by rw [← hx]; exact decode_ascii s i hlt (by rw [hx]; exact h128)
        rw [hd] at hnx hb1 hh1 hz1
        simp only at hnx hb1 hh1 hz1
        have Hx := Lib.hid hxl
        have HN := Lib.hid hno
        have HH := Lib.hid hh1
        clear hxl hx hno hd hh hh1
        generalize setObjW wr w.heap.size (.stringIter s (i + 1)) = w2 at *
        have hcon := Lib.contains_iff_indexByte [0, 47] x
        have hback : ((x.toNat : Int)).toNat.toUInt8 = x := by simp
        cases hin : ([0, 47] : List UInt8).contains x
        · rw [hin] at hcon
          have hlt2 : ¬ ((0 : Int) ≤ Lib.indexByte [0, 47] x) := of_decide_eq_false hcon.symm
          have HI := Lib.hid hin
          clear hcon hin
          go_wp2_with (go_at_call 277; refine (Tryz.strings_IndexRune_ascii _ _ _ (by omega) (by omega)).mono ?_; rintro e w' ⟨rfl, hw⟩; rw [hw, hback])
          go_roundg (gk - 1)
          case measure => omega
          case rel => exact ⟨i + 1, by omega, by omega, hb1, hz1, HH.out, HN.out.succ Hx.out HI.out⟩
        · rw [hin] at hcon
          have hge : (0 : Int) ≤ Lib.indexByte [0, 47] x := of_decide_eq_true hcon.symm
          have HI := Lib.hid hin
          clear hcon hin
          go_wp2_with (go_at_call 277; refine (Tryz.strings_IndexRune_ascii _ _ _ (by omega) (by omega)).mono ?_; rintro e w' ⟨rfl, hw⟩; rw [hw, hback])
          go_ret
          exact ⟨⟨i, rfl, by rw [Lib.containsAny, Lib.indexAny_hit HN.out Hx.out HI.out]⟩, hb1⟩
      · obtain ⟨p1, p2, p3⟩ := decode_pass s i hlt (by rw [hx]; omega)
        obtain ⟨q1, q2⟩ := decode_high s i hlt (by rw [hx]; omega)
        have hno2 : Free s (i + (Utf8.decode s i).2) := by
          intro j b hj hjb
          by_cases hji : j < i
          · exact hno j b hji hjb
          · have := p3 j b (by omega) hj hjb
            simp only [List.contains_eq_mem, decide_eq_false_iff_not, List.mem_cons, List.not_mem_nil, or_false, not_or]
            exact ⟨fun e => by rw [e] at this; simp at this, fun e => by rw [e] at this; simp at this⟩
        have HN := Lib.hid hno2
        have HH := Lib.hid hh1
        have HV := Lib.hid p1
        clear hx hxl hno hno2 hh hh1 p1 p3
        generalize (Utf8.decode s i).2 = k at *
        generalize (Utf8.decode s i).1 = c at *
        generalize setObjW wr w.heap.size (.stringIter s (i + k)) = w2 at *
        go_wp2_with (go_at_call 277; refine (indexRune_high _ (by omega) HV.out _).mono ?_; rintro e w3 ⟨rfl, hb3⟩)
        go_roundg (gk - 1)
        case measure => omega
        case rel => exact ⟨i + k, by omega, by omega, below_step hb1 hb3, Nat.lt_of_lt_of_le hz1 hb3.size, (hb3.block _ hz1).trans HH.out, HN.out⟩
    · obtain rfl : i = s.size := by omega
      have hnx := fun ty => next_end (P := Tryz.prog) wr w.heap.size s s.size ty hh (by omega)
      have HN := Lib.hid hno
      clear hno
      go_wp2
      go_ret
      exact ⟨⟨-1, rfl, by rw [Lib.containsAny, Lib.indexAny_none (by rw [← Lib.size_eq]; exact HN.out)]⟩, hb⟩

set_option maxHeartbeats 400000 in
set_option maxRecDepth 100000 in
theorem containsAny_calls (s : ByteArray) (w : World) (hs : s.size ≤ 4096) :
    Calls Tryz.prog 224 #[.string s, .string ⟨#[0, 47]⟩] w fun e w' => e = .returned (.bool (Lib.containsAny s.data.toList [0, 47])) ∧ Below w.heap.size w w' := by
  have H : Calls Tryz.prog 260 #[.string s, .string ⟨#[0, 47]⟩] w fun e w' => (∃ r : Int, e = .returned (.int .i64 r) ∧ decide (0 ≤ r) = Lib.containsAny s.data.toList [0, 47]) ∧ Below w.heap.size w w' := by
    by_cases h8 : s.size ≤ 8
    · exact indexAny_short s w h8
    · refine (Tryz.strings_IndexAny_long Tryz.zeroValue277 s ⟨#[0, 47]⟩ w (by show 2 ≤ 2; omega) (by omega) (by omega) (by show 2 < _; omega) ?_).mono fun e w' ⟨he, hw⟩ => ⟨⟨_, he, rfl⟩, hw ▸ ?_⟩
      · intro j b hj
        have : j = 0 ∨ j = 1 ∨ 2 ≤ j := by omega
        rcases this with rfl | rfl | h
        · cases hj; decide
        · cases hj; decide
        · rw [List.getElem?_eq_none (by show 2 ≤ j; omega)] at hj; cases hj
      · exact (by repeat (first | exact Below.refl _ _ | assumption | refine Below.drew ?_ | refine below_drewN ?_ _ | refine below_alloc ?_ _ | refine below_set ?_ (by simp) _ | refine below_step ?_ (by assumption)))
  have H' := Lib.hid H
  clear H
  go_enter Tryz.func224, Tryz.ntmps224
  go_wp2_with (go_at_call 260; refine H'.out.mono ?_; rintro e w' ⟨⟨r, rfl, hr⟩, hb⟩; have HR := Lib.hid hr; clear hr)
  go_ret
  exact ⟨ret_bool ‹Hid _›.out, ‹Below _ _ _›⟩
end Go.Proofs.YtbfcfjgcmideeaaGreatDoor
namespace Go.Proofs.YtbfcfjgcmideeaaGreatDoor
open Go.RowKit
theorem toList_nil (s : ByteArray) : s.toList = [] ↔ s.size = 0 := by
  rw [ByteArray.toList_eq, ← List.length_eq_zero_iff, Array.length_toList]; rfl
theorem no0_iff (s : ByteArray) : no0 s = true ↔ Lib.indexByte s.data.toList 0 < 0 := by
  unfold no0
  rw [Lib.contains_iff_indexByte]
  simp

set_option maxHeartbeats 400000 in
theorem kind0_calls (n : TNode) (hn : n.Fits) (D L : Option Addr) (cd cl : Nat) (w : World) :
    Calls Tryz.prog 182 #[.agg #[.int .u8 n.kind, .int .i64 n.mode, .int .i64 n.user, .int .i64 n.group, .int .i64 n.links, .int .i64 n.time, .slice D n.data.length cd, .string n.target, .slice L n.list.length cl, .int .i64 n.parent]] w fun e w' => e = .returned (.bool n.k0) ∧ Below w.heap.size w w' := by
  obtain ⟨_, i1, i2, i3, i4, i5, i6, b1, b2, b3, _⟩ := hn
  have H : bits .or .i64 (bits .or .i64 (bits .or .i64 (bits .or .i64 (bits .or .i64 n.mode n.user) n.group) n.links) n.time) n.parent = 0 ↔ n.mode = 0 ∧ n.user = 0 ∧ n.group = 0 ∧ n.links = 0 ∧ n.time = 0 ∧ n.parent = 0 := by
    rw [or_zero _ _ (or_i64 _ _) i6, or_zero _ _ (or_i64 _ _) i5, or_zero _ _ (or_i64 _ _) i4, or_zero _ _ (or_i64 _ _) i3, or_zero _ _ i1 i2]
    simp only [and_assoc]
  have H' := Lib.hid H
  clear H i1 i2 i3 i4 i5 i6
  go_enter Tryz.func182, Tryz.ntmps182
  go_wp2
  all_goals go_ret
  · have h := ‹bits _ _ _ _ = 0›
    obtain ⟨e1, e2, e3, e4, e5, e6⟩ := H'.out.mp h
    refine ⟨ret_bool ?_, (by repeat (first | exact Below.refl _ _ | assumption | refine Below.drew ?_ | refine below_drewN ?_ _ | refine below_alloc ?_ _ | refine below_set ?_ (by simp) _ | refine below_step ?_ (by assumption)))⟩
    rw [Bool.eq_iff_iff, beq_iff_eq, TNode.k0, decide_eq_true_iff]; omega
  · have h := ‹¬ bits _ _ _ _ = 0›
    rw [H'.out] at h
    refine ⟨ret_bool ?_, (by repeat (first | exact Below.refl _ _ | assumption | refine Below.drew ?_ | refine below_drewN ?_ _ | refine below_alloc ?_ _ | refine below_set ?_ (by simp) _ | refine below_step ?_ (by assumption)))⟩
    symm; rw [TNode.k0, decide_eq_false_iff_not]; intro hh; exact h ⟨hh.1, hh.2.1, hh.2.2.1, hh.2.2.2.1, hh.2.2.2.2.1, hh.2.2.2.2.2.1⟩

set_option maxHeartbeats 400000 in
theorem kind1_calls (n : TNode) (hn : n.Fits) (D L : Option Addr) (cd cl : Nat) (w : World) :
    Calls Tryz.prog 183 #[.agg #[.int .u8 n.kind, .int .i64 n.mode, .int .i64 n.user, .int .i64 n.group, .int .i64 n.links, .int .i64 n.time, .slice D n.data.length cd, .string n.target, .slice L n.list.length cl, .int .i64 n.parent]] w fun e w' => e = .returned (.bool n.k1) ∧ Below w.heap.size w w' := by
  obtain ⟨_, i1, i2, i3, i4, i5, i6, b1, b2, b3, _⟩ := hn
  unfold I64 at i6
  by_cases h1 : n.data.length ≤ 65536
  · by_cases h2 : wrap64 ((n.list.length : Int) + n.target.size + n.parent) = 0
    all_goals
      go_enter Tryz.func183, Tryz.ntmps183
      go_wp2
      all_goals go_ret
      all_goals refine ⟨ret_bool ?_, (by repeat (first | exact Below.refl _ _ | assumption | refine Below.drew ?_ | refine below_drewN ?_ _ | refine below_alloc ?_ _ | refine below_set ?_ (by simp) _ | refine below_step ?_ (by assumption)))⟩
      all_goals unfold wrap64 at h2
      all_goals rw [Bool.eq_iff_iff, TNode.k1, decide_eq_true_iff]
      all_goals simp only [beq_iff_eq, Bool.false_eq_true, false_iff]
      all_goals omega
  · go_enter Tryz.func183, Tryz.ntmps183
    go_wp2
    all_goals go_ret
    all_goals refine ⟨ret_bool ?_, (by repeat (first | exact Below.refl _ _ | assumption | refine Below.drew ?_ | refine below_drewN ?_ _ | refine below_alloc ?_ _ | refine below_set ?_ (by simp) _ | refine below_step ?_ (by assumption)))⟩
    all_goals rw [Bool.eq_iff_iff, TNode.k1, decide_eq_true_iff]
    all_goals simp only [Bool.false_eq_true, false_iff]
    all_goals omega
set_option maxHeartbeats 400000 in
theorem kind2_calls (n : TNode) (hn : n.Fits) (D L : Option Addr) (cd cl : Nat) (w : World) :
    Calls Tryz.prog 184 #[.agg #[.int .u8 n.kind, .int .i64 n.mode, .int .i64 n.user, .int .i64 n.group, .int .i64 n.links, .int .i64 n.time, .slice D n.data.length cd, .string n.target, .slice L n.list.length cl, .int .i64 n.parent]] w fun e w' => e = .returned (.bool n.k2) ∧ Below w.heap.size w w' := by
  obtain ⟨_, i1, i2, i3, i4, i5, i6, b1, b2, b3, _⟩ := hn
  go_enter Tryz.func184, Tryz.ntmps184
  go_wp2
  all_goals go_ret
  all_goals refine ⟨ret_bool ?_, (by repeat (first | exact Below.refl _ _ | assumption | refine Below.drew ?_ | refine below_drewN ?_ _ | refine below_alloc ?_ _ | refine below_set ?_ (by simp) _ | refine below_step ?_ (by assumption)))⟩
  all_goals rw [Bool.eq_iff_iff, TNode.k2]
  all_goals simp only [decide_eq_true_iff, Bool.false_eq_true, false_iff]
  all_goals omega
set_option maxHeartbeats 400000 in
theorem kind3_calls (n : TNode) (hn : n.Fits) (D L : Option Addr) (cd cl : Nat) (w : World) :
    Calls Tryz.prog 185 #[.agg #[.int .u8 n.kind, .int .i64 n.mode, .int .i64 n.user, .int .i64 n.group, .int .i64 n.links, .int .i64 n.time, .slice D n.data.length cd, .string n.target, .slice L n.list.length cl, .int .i64 n.parent]] w fun e w' => e = .returned (.bool n.k3) ∧ Below w.heap.size w w' := by
  obtain ⟨_, i1, i2, i3, i4, i5, i6, b1, b2, b3, _⟩ := hn
  go_enter Tryz.func185, Tryz.ntmps185
  go_wp2_with (go_at_call 126; refine (Tryz.strings_Contains_one _ _ _).mono ?_; rintro e w' ⟨rfl, rfl⟩)
  all_goals go_ret
  all_goals refine ⟨ret_bool ?_, (by repeat (first | exact Below.refl _ _ | assumption | refine Below.drew ?_ | refine below_drewN ?_ _ | refine below_alloc ?_ _ | refine below_set ?_ (by simp) _ | refine below_step ?_ (by assumption)))⟩
  all_goals have hz := toList_nil n.target
  all_goals have hno := no0_iff n.target
  all_goals rw [Bool.eq_iff_iff, TNode.k3]
  all_goals simp only [hz, hno, decide_eq_true_iff, Bool.false_eq_true, false_iff, Bool.and_eq_true, Bool.not_eq_true', decide_eq_false_iff_not, beq_iff_eq, List.isEmpty_eq_false_iff, ne_eq] at *
  all_goals omega
theorem kinds_calls (w : World) : Calls Tryz.prog 115 #[] w fun e w' => e = .returned (.agg #[.func (.func 182) #[] #[], .func (.func 183) #[] #[], .func (.func 184) #[] #[], .func (.func 185) #[] #[]]) ∧ Below w.heap.size w w' := by
  go_enter Tryz.func115, Tryz.ntmps115
  go_wp2
  exact bodyPost_ret (v := .agg #[.func (.func 182) #[] #[], .func (.func 183) #[] #[], .func (.func 184) #[] #[], .func (.func 185) #[] #[]]) (by simp [results, Tryz.results115, go_sem]) rfl ⟨rfl, (by repeat (first | exact Below.refl _ _ | assumption | refine Below.drew ?_ | refine below_drewN ?_ _ | refine below_alloc ?_ _ | refine below_set ?_ (by simp) _ | refine below_step ?_ (by assumption)))⟩
end Go.Proofs.YtbfcfjgcmideeaaGreatDoor
namespace Go.Proofs.YtbfcfjgcmideeaaGreatDoor
open Go.RowKit
theorem contains_hasBad (s : ByteArray) : Lib.containsAny s.data.toList [0, 47] = hasBad s := by
  unfold hasBad Lib.containsAny
  generalize s.data.toList = l
  induction l with
  | nil => rfl
  | cons b l ih =>
    have hge := Lib.indexAny_ge [0, 47] l
    rw [Lib.indexAny, List.any_cons, ← ih]
    have hc : ([0, 47] : List UInt8).contains b = (b == 0 || b == 47) := by simp; rfl
    rw [hc]
    cases h : (b == 0 || b == 47)
    · simp only [Bool.false_eq_true, if_false, Bool.false_or]
      by_cases hm : Lib.indexAny l [0, 47] = -1
      · rw [hm]; rfl
      · rw [if_neg (by simpa using hm)]
        exact decide_eq_decide.2 (by omega)
    · simp
set_option maxHeartbeats 400000 in
theorem name_calls (s : ByteArray) (w : World) :
    Calls Tryz.prog 186 #[.string s] w fun e w' => e = .returned (.bool (nameOK s)) ∧ Below w.heap.size w w' := by
  go_enter Tryz.func186, Tryz.ntmps186
  go_wp2_with (go_at_call 224; refine (containsAny_calls _ _ (by omega)).mono ?_; rintro e w' ⟨rfl, hb⟩)
  all_goals go_ret
  · exact ⟨ret_bool (by symm; rw [nameOK, decide_eq_false_iff_not]; exact fun h => h.1 ‹_›), (by repeat (first | exact Below.refl _ _ | assumption | refine Below.drew ?_ | refine below_drewN ?_ _ | refine below_alloc ?_ _ | refine below_set ?_ (by simp) _ | refine below_step ?_ (by assumption)))⟩
  · exact ⟨ret_bool (by symm; rw [nameOK, decide_eq_false_iff_not]; exact fun h => h.2.2.1 ‹_›), (by repeat (first | exact Below.refl _ _ | assumption | refine Below.drew ?_ | refine below_drewN ?_ _ | refine below_alloc ?_ _ | refine below_set ?_ (by simp) _ | refine below_step ?_ (by assumption)))⟩
  · exact ⟨ret_bool (by symm; rw [nameOK, decide_eq_false_iff_not]; exact fun h => h.2.2.2.1 ‹_›), (by repeat (first | exact Below.refl _ _ | assumption | refine Below.drew ?_ | refine below_drewN ?_ _ | refine below_alloc ?_ _ | refine below_set ?_ (by simp) _ | refine below_step ?_ (by assumption)))⟩
  · refine ⟨ret_bool ?_, (by repeat (first | exact Below.refl _ _ | assumption | refine Below.drew ?_ | refine below_drewN ?_ _ | refine below_alloc ?_ _ | refine below_set ?_ (by simp) _ | refine below_step ?_ (by assumption)))⟩
    rw [Bool.eq_iff_iff, nameOK, contains_hasBad]
    simp only [Bool.and_eq_true, Bool.not_eq_true', beq_eq_false_iff_ne, List.isEmpty_eq_false_iff, decide_eq_true_iff, ne_eq]
    constructor
    · rintro ⟨⟨⟨a, b⟩, c⟩, d⟩; exact ⟨a, by omega, b, c, d⟩
    · rintro ⟨a, _, b, c, d⟩; exact ⟨⟨⟨a, b⟩, c⟩, d⟩
  · exact ⟨ret_bool (by symm; rw [nameOK, decide_eq_false_iff_not]; intro h; have := h.2.1; omega), (by repeat (first | exact Below.refl _ _ | assumption | refine Below.drew ?_ | refine below_drewN ?_ _ | refine below_alloc ?_ _ | refine below_set ?_ (by simp) _ | refine below_step ?_ (by assumption)))⟩
end Go.Proofs.YtbfcfjgcmideeaaGreatDoor
