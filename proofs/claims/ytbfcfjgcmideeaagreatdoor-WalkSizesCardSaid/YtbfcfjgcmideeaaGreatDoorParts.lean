/- paths.parts: a path's parts. -/
import Derived.Test.YtbfcfjgcmideeaaGreatDoorSplit
import Derived.Test.YtbfcfjgcmideeaaGreatDoorM2
import Derived.Outline
namespace Go.Proofs.YtbfcfjgcmideeaaGreatDoor
open Go.RowKit
attribute [local go_sem] Later.cell_eq
def neB (x : ByteArray) : Bool := x.size != 0
theorem parts1_calls (x : ByteArray) (w : World) :
    Calls Tryz.prog 264 #[.string x] w fun e w' => e = .returned (.bool (!neB x)) ∧ w' = w := by
  have hz := Lib.hid (toList_nil x)
  by_cases h : x.size = 0
  · have h1 : x.toList = [] := hz.out.mpr h
    have h2 : x.toList.isEmpty = true := by rw [h1]; rfl
    have H := Lib.hid (show (!neB x) = true by unfold neB; simp [h])
    clear h h1
    go_enter Tryz.func264, Tryz.ntmps264
    go_wp2
    go_ret
    exact ⟨ret_bool H.out.symm, rfl⟩
  · have h1 : ¬ x.toList = [] := fun e => h (hz.out.mp e)
    have h2 : x.toList.isEmpty = false := by simpa using h1
    have H := Lib.hid (show (!neB x) = false by unfold neB; simp [h])
    clear h
    go_enter Tryz.func264, Tryz.ntmps264
    go_wp2
    go_ret
    exact ⟨ret_bool H.out.symm, rfl⟩
/-- The first text that is empty. -/
def FirstAt (xs : List ByteArray) (r : Int) : Prop := (r = -1 ∧ ∀ x ∈ xs, neB x = true) ∨ ∃ (k : Nat) (x : ByteArray), r = k ∧ xs[k]? = some x ∧ neB x = false ∧ ∀ y ∈ xs.take k, neB y = true
set_option maxHeartbeats 1000000 in
theorem indexEmpty_calls (xs : List ByteArray) (hl : xs.length ≤ 1000001) (g : Nat) (w : World) (hr : StrRow w g xs) :
    Calls Tryz.prog 282 #[.slice (some ⟨g, 0, none⟩) xs.length xs.length, .func (.func 264) #[] #[]] w fun e w' => ∃ r, (e = .returned (.int .i64 r) ∧ FirstAt xs r) ∧ w' = w := by
  have HR := Lib.hid hr
  clear hr
  go_enter Tryz.func282, Tryz.ntmps282
  go_wp2
  go_loopg [8] xs.length (fun gk s8 wr => ∃ i : Nat, i + gk = xs.length ∧ s8 = .int .i64 i ∧ Hid (∀ y ∈ xs.take i, neB y = true) ∧ wr = w)
  case atStart => exact ⟨0, by omega, rfl, Lib.hid (by simp), rfl⟩
  case round =>
    obtain ⟨i, hg, rfl, HT, hw⟩ := hrel
    obtain rfl : w = wr := hw.symm
    cases gk with
    | zero =>
      obtain rfl : i = xs.length := by omega
      go_wp2
      go_ret
      have hF : FirstAt xs (-1) := .inl ⟨rfl, fun x hx => HT.out x (by rw [List.take_length]; exact hx)⟩
      first | exact ⟨-1, ⟨rfl, hF⟩, rfl⟩ | exact ⟨-1, rfl, hF⟩ | exact ⟨⟨-1, rfl, hF⟩, rfl⟩
    | succ gk =>
      obtain ⟨x, hx⟩ : ∃ x, xs[i]? = some x := ⟨xs[i]'(by omega), by simp⟩
      have hc := HR.out.cell hx
      have HX := Lib.hid hx
      clear hx
      cases hn : neB x with
      | true =>
        have HN := Lib.hid hn
        clear hn
        go_wp2_with (go_at_call 264; refine (parts1_calls x _).mono ?_; rintro _ w1 ⟨rfl, hw1⟩; obtain rfl : w = w1 := hw1.symm; rw [HN.out])
        go_roundg gk
        case measure => omega
        case rel => exact ⟨i + 1, by omega, by go_num, Lib.hid (by
          intro y hy
          rw [List.take_add_one, HX.out, List.mem_append] at hy
          rcases hy with hy | hy
          · exact HT.out y hy
          · simp at hy; rw [hy]; exact HN.out), rfl⟩
      | false =>
        have HN := Lib.hid hn
        clear hn
        go_wp2_with (go_at_call 264; refine (parts1_calls x _).mono ?_; rintro _ w1 ⟨rfl, hw1⟩; obtain rfl : w = w1 := hw1.symm; rw [HN.out])
        go_ret
        have hF : FirstAt xs i := .inr ⟨i, x, rfl, HX.out, HN.out, HT.out⟩
        first | exact ⟨i, ⟨rfl, hF⟩, rfl⟩ | exact ⟨i, rfl, hF⟩ | exact ⟨⟨i, rfl, hF⟩, rfl⟩
def setFrom (ys : List ByteArray) : Nat → List ByteArray → List ByteArray
  | _, [] => ys
  | i, x :: r => setFrom (ys.set i x) (i + 1) r
theorem setFrom_length : ∀ (l : List ByteArray) (ys : List ByteArray) (i : Nat), (setFrom ys i l).length = ys.length
  | [], _, _ => rfl
  | x :: r, ys, i => by rw [setFrom, setFrom_length r]; simp
theorem setFrom_take : ∀ (l : List ByteArray) (ys : List ByteArray) (i k : Nat), k ≤ i → (setFrom ys i l).take k = ys.take k
  | [], _, _, _, _ => rfl
  | x :: r, ys, i, k, h => by rw [setFrom, setFrom_take r _ _ _ (by omega), List.take_set_of_le h]
theorem StrRow.cells_ {g : Nat} : ∀ (l : List ByteArray) (i : Nat) {w : World} {ys : List ByteArray}, StrRow w g ys → StrRow (w.setCells g i (l.map Value.string)) g (setFrom ys i l)
  | [], _, _, _, h => h
  | x :: r, i, _, _, h => StrRow.cells_ r (i + 1) (h.set_ i x)
theorem filter_all {xs : List ByteArray} (h : ∀ x ∈ xs, neB x = true) : xs.filter neB = xs := List.filter_eq_self.2 h
theorem str_zero (w : World) : (zeroValue 9).run Tryz.prog w = .ok (.string ⟨#[]⟩) w := by kernel_rfl
set_option maxHeartbeats 2000000 in
set_option maxRecDepth 100000 in
theorem deleteEmpty_calls (xs : List ByteArray) (hl : xs.length ≤ 1000001) (g : Nat) (w : World) (hr : StrRow w g xs) (B : Nat) (hB : B ≤ g) {a : World} (hb : Below B a w) :
    Calls Tryz.prog 262 #[.slice (some ⟨g, 0, none⟩) xs.length xs.length, .func (.func 264) #[] #[]] w fun e w' => ∃ ys, (e = .returned (.slice (some ⟨g, 0, none⟩) (xs.filter neB).length xs.length) ∧ StrRow w' g ys ∧ ys.length = xs.length ∧ ys.take (xs.filter neB).length = xs.filter neB) ∧ Below B a w' := by
  have HR := Lib.hid hr
  have HB := Lib.hid hb
  clear hr hb
  go_enter Tryz.func262, Tryz.ntmps262
  go_upto_region 2 with (go_at_call 282; refine (indexEmpty_calls xs hl g _ HR.out).mono ?_; rintro _ w1 ⟨r, ⟨rfl, hf⟩, hw1⟩; obtain rfl : w = w1 := hw1.symm)
  rcases hf with ⟨rfl, hall⟩ | ⟨k, x, rfl, hk, hx, hpre⟩
  · have HF := Lib.hid (filter_all hall)
    clear hall
    go_wp2
    go_ret
    exact ⟨xs, ⟨ret_slice (by rw [HF.out]) rfl, HR.out, rfl, by rw [HF.out]; exact List.take_length⟩, HB.out⟩
  · have hkl := (List.getElem?_eq_some_iff.1 hk).1
    have hne : ((k : Int) == -1) = false := beq_eq_false_iff_ne.2 (by omega)
    have HK := Lib.hid hk
    have HX := Lib.hid hx
    have HP := Lib.hid (filter_all hpre)
    clear hk hx hpre
    go_wp2
    have hstart : Hid ((xs.take (k + 1)).filter neB = xs.take k) := Lib.hid (by
      rw [List.take_add_one, HK.out, List.filter_append, HP.out]; simp [HX.out])
    go_loopg [5, 6] xs.length (fun gk s5 s6 wr => ∃ (i j : Nat) (ys : List ByteArray), j + gk = xs.length + (k + 1) ∧ k + 1 ≤ j ∧ j ≤ xs.length ∧ i < j ∧ s5 = .int .i64 i ∧ s6 = .int .i64 j ∧ StrRow wr g ys ∧ ys.length = xs.length ∧ Hid (ys.take i = (xs.take j).filter neB) ∧ Hid (((xs.take j).filter neB).length = i) ∧ Hid (∀ m, j ≤ m → ys[m]? = xs[m]?) ∧ Below B a wr)
    case atStart => exact ⟨k, k + 1, xs, by omega, by omega, by omega, by omega, rfl, by go_num, HR.out, rfl, Lib.hid hstart.out.symm, Lib.hid (by rw [hstart.out, List.length_take]; omega), Lib.hid fun _ _ => rfl, HB.out⟩
    case round =>
      obtain ⟨i, j, ys, hg, hj1, hjl, hij, rfl, rfl, hrow, hyl, HT, HL, HM, hb⟩ := hrel
      by_cases hend : j = xs.length
      · subst hend
        have hgl := hrow.lt
        have e1 : decide ((xs.length : Int) < (xs.length : Int)) = false := decide_eq_false (by omega)
        have hcl : ∀ ty, (Builtin.clear_ #[33] ty #[.slice (some ⟨g, i, none⟩) (xs.length - i) (xs.length - i)]).run Tryz.prog wr = .ok (.tuple #[]) (wr.setCells g i (List.replicate (xs.length - i) (.string ⟨#[]⟩))) :=
          fun ty => Lib.run_clear_slice wr _ _ ty _ Tryz.underlying33 str_zero rfl rfl g i _ _ (by omega) (fun t ht => by
            obtain ⟨y, hy⟩ : ∃ y, ys[i + t]? = some y := ⟨ys[i + t]'(by omega), by simp⟩
            rw [hrow.cell hy]; rfl) (fun t ht => hrow.free (i + t))
        have hil : i < xs.length := hij
        have HROW := Lib.hid hrow
        have HFA : Hid ((xs.take xs.length).filter neB = xs.filter neB) := Lib.hid (by rw [List.take_length])
        clear hrow
        go_wp2
        go_ret
        refine ⟨setFrom ys i (List.replicate (xs.length - i) ⟨#[]⟩), ⟨ret_slice (by rw [← HFA.out, HL.out]) rfl, ?_, by rw [setFrom_length]; exact hyl, ?_⟩, below_cells hB _ _ hb⟩
        · have h := HROW.out.cells_ (List.replicate (xs.length - i) ⟨#[]⟩) i
          rwa [List.map_replicate] at h
        · rw [← HFA.out, HL.out, setFrom_take _ _ _ _ (Nat.le_refl _)]; exact HT.out
      · have hjl' : j < xs.length := by omega
        obtain ⟨y, hy⟩ : ∃ y, xs[j]? = some y := ⟨xs[j]'(by omega), by simp⟩
        have hc := hrow.cell ((HM.out j (Nat.le_refl _)).trans hy)
        have hgl := hrow.lt
        obtain ⟨z, hz⟩ : ∃ z, ys[i]? = some z := ⟨ys[i]'(by omega), by simp⟩
        have hci := hrow.cell hz
        have hfi := hrow.free i
        have hil : i < xs.length := by omega
        have HROW := Lib.hid hrow
        have HY := Lib.hid hy
        have HTS : Hid ((xs.take (j + 1)).filter neB = (xs.take j).filter neB ++ if neB y then [y] else []) := Lib.hid (by
          rw [List.take_add_one, hy, List.filter_append]; simp [List.filter_cons])
        clear hrow hy hz hend
        cases hn : neB y with
        | true =>
          have HN := Lib.hid hn
          clear hn
          go_wp2_with (go_at_call 264; refine (parts1_calls y _).mono ?_; rintro _ w1 ⟨rfl, hw1⟩; obtain rfl : wr = w1 := hw1.symm; rw [HN.out])
          go_roundg (gk - 1)
          case measure => omega
          case rel =>
            refine ⟨i + 1, j + 1, ys.set i y, by omega, by omega, by omega, by omega, by go_num, by go_num, HROW.out.set_ i y, by simp [hyl], Lib.hid ?_, Lib.hid ?_, Lib.hid ?_, hb.setCell (by show _ ≤ g; exact hB) _⟩
            · rw [HTS.out, HN.out, if_pos rfl, ← HT.out, List.take_add_one, List.getElem?_set_self (by omega), List.take_set_of_le (Nat.le_refl _)]; rfl
            · rw [HTS.out, HN.out, if_pos rfl, List.length_append, HL.out]; rfl
            · intro m hm; rw [List.getElem?_set_ne (by omega)]; exact HM.out m (by omega)
        | false =>
          have HN := Lib.hid hn
          clear hn
          go_wp2_with (go_at_call 264; refine (parts1_calls y _).mono ?_; rintro _ w1 ⟨rfl, hw1⟩; obtain rfl : wr = w1 := hw1.symm; rw [HN.out])
          go_roundg (gk - 1)
          case measure => omega
          case rel =>
            refine ⟨i, j + 1, ys, by omega, by omega, by omega, by omega, rfl, by go_num, HROW.out, hyl, Lib.hid ?_, Lib.hid ?_, Lib.hid ?_, hb⟩
            · rw [HTS.out, HN.out]; simpa using HT.out
            · rw [HTS.out, HN.out]; simpa using HL.out
            · intro m hm; exact HM.out m (by omega)
theorem filter_parts (xs : List ByteArray) : (xs.filter neB).map (·.data.toList) = (xs.map (·.data.toList)).filter fun p => !p.isEmpty := by
  induction xs with
  | nil => rfl
  | cons x r ih =>
    have e : (!x.data.toList.isEmpty) = neB x := by
      unfold neB
      rw [Bool.eq_iff_iff]
      simp only [Bool.not_eq_true', List.isEmpty_eq_false_iff, bne_iff_ne, ne_eq]
      rw [← List.length_eq_zero_iff, Array.length_toList]
      exact Iff.rfl
    rw [List.filter_cons, List.map_cons, List.filter_cons, e]
    split
    · rw [List.map_cons, ih]
    · exact ih
theorem elem_str : Elem Tryz.prog 33 9 1 16 := Elem.mk' (z := .string ⟨#[]⟩) Tryz.underlying33 (by kernel_rfl) rfl (by decide)
/-- Texts that the call made, at the head of a row. -/
def OwnStr (w : World) (B : Nat) (v : Value) (l : List (List UInt8)) : Prop := ∃ xs : List ByteArray, Own w B 9 1 v (xs.map fun x => [Value.string x]) ∧ xs.map (·.data.toList) = l
theorem flat_single (xs : List ByteArray) : (xs.map fun x => [Value.string x]).flatten = xs.map Value.string := by
  induction xs with
  | nil => rfl
  | cons a r ih => rw [List.map_cons, List.flatten_cons, ih]; rfl
theorem own_strRow {w : World} {B g cap : Nat} {ys xs : List ByteArray} (h : StrRow w g ys) (hB : B ≤ g) (hc : cap = ys.length) (hm : cap ≤ maxLen) (ht : ys.take xs.length = xs) : Own w B 9 1 (.slice (some ⟨g, 0, none⟩) xs.length cap) (xs.map fun x => [Value.string x]) := by
  have hxs : xs.length ≤ ys.length := by
    have := congrArg List.length ht
    rw [List.length_take] at this
    omega
  have hf := flat_single xs
  refine ⟨⟨by rw [hf]; simp, .inr ⟨g, cap, _, by simp, hB, h, by rw [List.length_map]; omega, hm, by rw [List.size_toArray, List.length_map]; omega, ?_⟩⟩, by simp⟩
  rw [hf, List.length_map, Nat.mul_one, ← List.map_take, ht]
set_option maxHeartbeats 1000000 in
theorem parts_calls (s : ByteArray) (hs : s.size ≤ 1000000) (w : World) :
    Calls Tryz.prog 228 #[.string s] w fun e w' => ∃ v, (e = .returned v ∧ OwnStr w' w.heap.size v (partsOf s.data.toList)) ∧ Below w.heap.size w w' := by
  go_enter Tryz.func228, Tryz.ntmps228
  go_wp2_with (first
    | (go_at_call 263; refine (split_calls s hs _).mono ?_; rintro _ w1 ⟨g, xs, ⟨rfl, hg, hr, hp⟩, hb⟩; have HP := Lib.hid hp; have HR := Lib.hid hr; have hxl : xs.length ≤ 1000001 := (by have h := congrArg List.length hp; rw [List.length_map, pieces_length] at h; have := count_le_size s; omega); clear hp hr)
    | (go_at_call 262; refine (deleteEmpty_calls xs hxl g _ HR.out w.heap.size hg hb).mono ?_; rintro _ w2 ⟨ys, ⟨rfl, hr2, hyl, hyt⟩, hb2⟩; have HR2 := Lib.hid hr2; have HYL := Lib.hid hyl; have HYT := Lib.hid hyt; clear hr2 hyl hyt))
  go_ret
  refine ⟨_, ⟨rfl, xs.filter neB, own_strRow HR2.out hg HYL.out.symm (by unfold maxLen; omega) HYT.out, ?_⟩, hb2⟩
  rw [filter_parts, HP.out]; rfl
end Go.Proofs.YtbfcfjgcmideeaaGreatDoor
