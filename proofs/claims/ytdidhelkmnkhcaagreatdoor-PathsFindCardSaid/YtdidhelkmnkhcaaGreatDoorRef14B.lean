/- The reference of layer 14: Bad, parts. -/
import Derived.Test.YtdidhelkmnkhcaaGreatDoorRef14A
import Derived.Test.YtdidhelkmnkhcaaGreatDoorM2
namespace Go.Proofs.YtdidhelkmnkhcaaGreatDoor
open Go.RowKit
attribute [local go_sem] Later.cell_eq
theorem index_mem (l : List UInt8) (b : UInt8) : 0 ≤ Lib.indexByte l b ↔ b ∈ l := by
  have := Lib.contains_iff_indexByte l b
  rw [← List.contains_iff_mem, this, decide_eq_true_iff]
theorem badS_iff (s : List UInt8) : badS s = (decide (1024 < s.length) || decide (0 ∈ s)) := by
  unfold badS
  rw [decide_eq_decide.2 (index_mem s 0)]
set_option maxHeartbeats 1000000 in
theorem refBad_calls (s : ByteArray) (hs : s.size ≤ 140737488355328) (w : World) :
    Calls Tryz.prog 154 #[.string s] w fun e w' => e = .returned (.bool (badS s.data.toList)) ∧ w' = w := by
  have hsl : s.data.toList.length = s.size := Array.length_toList
  have HSL := Lib.hid hsl
  have HBS := Lib.hid (badS_iff s.data.toList)
  clear hsl
  go_enter Tryz.func154, Tryz.ntmps154
  go_wp2
  go_loopg [3] s.size (fun gk s3 wr => ∃ i : Nat, i + gk = s.size ∧ s3 = .int .i64 i ∧ Hid (0 ∉ s.data.toList.take i) ∧ wr = w)
  case atStart => exact ⟨0, by omega, rfl, Lib.hid (by simp), rfl⟩
  case round =>
    obtain ⟨i, hg, rfl, H0, hw⟩ := hrel
    obtain rfl : w = wr := hw.symm
    cases gk with
    | zero =>
      obtain rfl : i = s.size := by omega
      have HR : Hid (decide (1024 < s.size) = badS s.data.toList) := Lib.hid (by
        rw [HBS.out, HSL.out]
        have h := H0.out
        rw [List.take_of_length_le (by rw [HSL.out]; exact Nat.le_refl _)] at h
        rw [decide_eq_false h, Bool.or_false])
      by_cases h : 1024 < s.size
      · have e1 : decide ((1024 : Int) < (s.size : Int)) = true := decide_eq_true (by omega)
        have HT : Hid (badS s.data.toList = true) := Lib.hid (by rw [← HR.out, decide_eq_true h])
        clear h
        go_wp2
        go_ret
        exact ⟨ret_bool HT.out.symm, rfl⟩
      · have e1 : decide ((1024 : Int) < (s.size : Int)) = false := decide_eq_false (by omega)
        have HT : Hid (badS s.data.toList = false) := Lib.hid (by rw [← HR.out, decide_eq_false h])
        clear h
        go_wp2
        go_ret
        exact ⟨ret_bool HT.out.symm, rfl⟩
    | succ g =>
      have hi : i < s.size := by omega
      have hts := List.take_add_one (l := s.data.toList) (i := i)
      rw [get_byte s i hi] at hts
      obtain ⟨b, hbn⟩ : ∃ b, s[i]'hi = b := ⟨_, rfl⟩
      rw [hbn] at hts
      have hb : (s[i]'hi).toNat = b.toNat := by rw [hbn]
      have HM : Hid (b ∈ s.data.toList) := Lib.hid (by rw [← hbn]; exact List.mem_of_getElem? (get_byte s i hi))
      have HT := Lib.hid hts
      clear hts hbn
      by_cases h0 : b = 0
      · have e0 : ((b.toNat : Int) == 0) = true := by rw [h0]; rfl
        have e0' : b.toNat = 0 := by rw [h0]; rfl
        have HR : Hid (badS s.data.toList = true) := Lib.hid (by rw [HBS.out, show decide ((0 : UInt8) ∈ s.data.toList) = true from decide_eq_true (by rw [← h0]; exact HM.out), Bool.or_true])
        clear h0
        go_wp2
        go_ret
        exact ⟨ret_bool HR.out.symm, rfl⟩
      · have e0 : ((b.toNat : Int) == 0) = false := beq_eq_false_iff_ne.2 (fun e => h0 (UInt8.toNat_inj.1 (by show _ = 0; omega)))
        have e0' : ¬ b.toNat = 0 := fun e => h0 (UInt8.toNat_inj.1 e)
        have HN := Lib.hid h0
        clear h0
        go_wp2
        go_roundg g
        case measure => omega
        case rel => exact ⟨i + 1, by omega, by go_num, Lib.hid (by
          rw [HT.out, List.mem_append]
          rintro (h | h)
          · exact H0.out h
          · simp at h; exact HN.out h.symm), rfl⟩
theorem extract_mid (s : ByteArray) (f i : Nat) : (s.extract f i).data.toList = (s.data.toList.take i).drop f := by
  rw [ByteArray.data_extract, Array.toList_extract, List.extract_eq_take_drop, List.drop_take]
/-- How far the reference has come with a path's parts. -/
def PartsSt (s : ByteArray) (f i : Nat) (l : List (List UInt8)) : Prop :=
  (i ≤ s.size ∧ f ≤ i ∧ PartsTo s.data.toList f l ∧ 47 ∉ (s.data.toList.take i).drop f) ∨ (i = s.size + 1 ∧ f = s.size + 1 ∧ l = partsOf s.data.toList)
theorem partsSt_end {s : ByteArray} {f : Nat} {l : List (List UInt8)} (h : PartsSt s f (s.size + 1) l) : l = partsOf s.data.toList := by
  rcases h with ⟨h, -⟩ | ⟨-, -, h⟩
  · omega
  · exact h
theorem partsSt_go {s : ByteArray} {f i : Nat} {l : List (List UInt8)} {b : UInt8} (h : PartsSt s f i l) (hi : i < s.size) (hb : s.data.toList[i]? = some b) (h47 : b ≠ 47) : PartsSt s f (i + 1) l := by
  rcases h with ⟨-, h2, h3, h4⟩ | ⟨h, -⟩
  · refine .inl ⟨by omega, by omega, h3, ?_⟩
    rw [mid_step h2 hb, List.mem_append]
    rintro (h | h)
    · exact h4 h
    · simp at h; exact h47 h.symm
  · omega
theorem partsSt_hit {s : ByteArray} {f i : Nat} {l : List (List UInt8)} (h : PartsSt s f i l) (hi : i ≤ s.size) (hb : i = s.size ∨ s.data.toList[i]? = some 47) :
    f ≤ i ∧ (f < i → PartsSt s (i + 1) (i + 1) (l ++ [(s.extract f i).data.toList])) ∧ (i ≤ f → PartsSt s (i + 1) (i + 1) l) := by
  have hsl : s.data.toList.length = s.size := Array.length_toList
  rcases h with ⟨-, h2, h3, h4⟩ | ⟨h, -⟩
  · refine ⟨h2, fun hlt => ?_, fun hle => ?_⟩
    · have hne : (s.data.toList.take i).drop f ≠ [] := fun e => by rw [mid_nil (by omega)] at e; omega
      rw [extract_mid]
      by_cases hie : i = s.size
      · subst hie
        refine .inr ⟨rfl, rfl, ?_⟩
        rw [← hsl] at h4 hne ⊢
        rw [partsTo_end (by omega) h4 h3, if_neg hne]
      · have hb' : s.data.toList[i]? = some 47 := hb.resolve_left hie
        refine .inl ⟨by omega, Nat.le_refl _, ?_, by rw [mid_self]; simp⟩
        have := partsTo_next h2 hb' h4 h3
        rwa [if_neg hne] at this
    · have hnil : (s.data.toList.take i).drop f = [] := (mid_nil (by omega)).2 hle
      by_cases hie : i = s.size
      · subst hie
        refine .inr ⟨rfl, rfl, ?_⟩
        rw [← hsl] at h4 hnil
        have := partsTo_end (by omega) h4 h3
        rw [if_pos hnil, List.append_nil] at this
        exact this.symm
      · have hb' : s.data.toList[i]? = some 47 := hb.resolve_left hie
        refine .inl ⟨by omega, Nat.le_refl _, ?_, by rw [mid_self]; simp⟩
        have := partsTo_next h2 hb' h4 h3
        rwa [if_pos hnil, List.append_nil] at this
  · omega
theorem own_letter {w : World} {B : Nat} {v : Value} {xs : List ByteArray} (h : Own w B 9 1 v (xs.map fun x => [Value.string x])) : ∃ A c, v = .slice A xs.length c ∧ xs.length ≤ c := by
  rcases h.shape with ⟨rfl, h4⟩ | ⟨g, c, rfl, h4, -⟩
  · have : xs = [] := by simpa using h4
    subst this
    exact ⟨none, 0, rfl, Nat.le_refl _⟩
  · exact ⟨some ⟨g, 0, none⟩, c, by simp, by simpa using h4⟩
def PartsPost (s : ByteArray) (w : World) (e : Ending) (w' : World) : Prop := ∃ v, (e = .returned v ∧ OwnStr w' w.heap.size v (partsOf s.data.toList)) ∧ Below w.heap.size w w'
set_option maxHeartbeats 2000000 in
set_option maxRecDepth 100000 in
theorem refParts_calls (s : ByteArray) (hs : s.size ≤ 1000000) (w : World) :
    Calls Tryz.prog 155 #[.string s] w (PartsPost s w) := by
  go_enter Tryz.func155, Tryz.ntmps155
  go_wp2
  go_loopg [3, 4, 5] (s.size + 1) (fun gk sl sf si wr => ∃ (xs : List ByteArray) (f i : Nat), i + gk = s.size + 1 ∧ sf = .int .i64 f ∧ si = .int .i64 i ∧ xs.length ≤ i ∧ Hid (PartsSt s f i (xs.map (·.data.toList))) ∧ Own wr w.heap.size 9 1 sl (xs.map fun x => [Value.string x]) ∧ Below w.heap.size w wr)
  case atStart => exact ⟨[], 0, 0, by omega, rfl, rfl, Nat.le_refl _, Lib.hid (.inl ⟨Nat.zero_le _, Nat.le_refl _, partsTo_start _, by simp⟩), Own.nil _ _ _ _, Below.refl _ _⟩
  case round =>
    obtain ⟨xs, f, i, hg, rfl, rfl, hxl, HP, hown, hb⟩ := hrel
    have HO := Lib.hid hown
    have HB := Lib.hid hb
    cases gk with
    | zero =>
      obtain rfl : i = s.size + 1 := by omega
      have e1 : decide (((s.size : Int) + 1) ≤ (s.size : Int)) = false := decide_eq_false (by omega)
      clear hown hb
      go_wp2
      go_ret
      exact ⟨_, ⟨rfl, xs, HO.out, partsSt_end HP.out⟩, HB.out⟩
    | succ g =>
      have hi : i ≤ s.size := by omega
      have hi1 : (i : Int) ≤ (s.size : Int) := by omega
      have hxs : xs.length ≤ 1000001 := by omega
      by_cases hlt : i < s.size
      · have hl1 : decide ((i : Int) < (s.size : Int)) = true := decide_eq_true (by omega)
        have hl2 : decide (i < s.size) = true := decide_eq_true hlt
        have hgb := get_byte s i hlt
        obtain ⟨b, hbn⟩ : ∃ b, s[i]'hlt = b := ⟨_, rfl⟩
        rw [hbn] at hgb
        have hb' : (s[i]'hlt).toNat = b.toNat := by rw [hbn]
        have HGB := Lib.hid hgb
        clear hgb hbn
        by_cases h47 : b = 47
        · have e47 : ((b.toNat : Int) == 47) = true := by rw [byte47]; simpa using h47
          have e47n : ((b.toNat : Int) != 47) = false := by rw [h47]; rfl
          have e47' : b.toNat = 47 := by rw [h47]; rfl
          obtain ⟨hf, hh1, hh2⟩ := partsSt_hit HP.out hi (.inr (by rw [HGB.out, h47]))
          by_cases hfi : f < i
          · have hf1 : decide ((f : Int) < (i : Int)) = true := decide_eq_true (by omega)
            have hf2 : (f : Int) < (i : Int) := by omega
            have HN := Lib.hid (hh1 hfi)
            have hf3 : (f : Int) ≤ (i : Int) := by omega
            clear h47 hh1 hh2
            obtain ⟨A0, c0, rfl, hc0⟩ := own_letter hown
            go_wp2_with (at_builtin; refine wpList_append_one rfl _ _ 66 rfl elem_str xs.length (by simp) [.string (s.extract f i)] rfl HO.out HB.out rfl rfl (by simp [Value.oneCell']) (by unfold maxLen; omega) (by omega) ?_; rintro _ w2 hown2 hb2 - - ⟨g', c', rfl, hc', hg'⟩; have HO2 := Lib.hid hown2; have HB2 := Lib.hid hb2; clear hown2 hb2)
            go_roundg g
            case measure => omega
            case rel => exact ⟨xs ++ [s.extract f i], i + 1, i + 1, by omega, by go_num, by go_num, by simp; omega, Lib.hid (by rw [List.map_append]; exact HN.out), by rw [List.map_append]; exact HO2.out, HB2.out⟩
          · have hf1 : decide ((f : Int) < (i : Int)) = false := decide_eq_false (by omega)
            have hf2 : ¬ (f : Int) < (i : Int) := by omega
            have HN := Lib.hid (hh2 (by omega))
            clear h47 hh1 hh2 hown hb
            go_wp2
            go_roundg g
            case measure => omega
            case rel => exact ⟨xs, i + 1, i + 1, by omega, by go_num, by go_num, by omega, HN, HO.out, HB.out⟩
        · have e47 : ((b.toNat : Int) == 47) = false := by rw [byte47]; simpa using h47
          have e47n : ((b.toNat : Int) != 47) = true := bne_iff_ne.2 (fun e => h47 (UInt8.toNat_inj.1 (by show _ = 47; omega)))
          have e47' : ¬ b.toNat = 47 := fun e => h47 (UInt8.toNat_inj.1 e)
          have HN := Lib.hid (partsSt_go HP.out hlt HGB.out h47)
          clear h47 hown hb
          go_wp2
          go_roundg g
          case measure => omega
          case rel => exact ⟨xs, f, i + 1, by omega, rfl, by go_num, by omega, HN, HO.out, HB.out⟩
      · have hl1 : decide ((i : Int) < (s.size : Int)) = false := decide_eq_false (by omega)
        have hl2 : decide (i < s.size) = false := decide_eq_false hlt
        obtain ⟨hf, hh1, hh2⟩ := partsSt_hit HP.out hi (.inl (by omega))
        have h47 : True := trivial
        by_cases hfi : f < i
        · have hf1 : decide ((f : Int) < (i : Int)) = true := decide_eq_true (by omega)
          have hf2 : (f : Int) < (i : Int) := by omega
          have HN := Lib.hid (hh1 hfi)
          have hf3 : (f : Int) ≤ (i : Int) := by omega
          clear h47 hh1 hh2
          obtain ⟨A0, c0, rfl, hc0⟩ := own_letter hown
          go_wp2_with (at_builtin; refine wpList_append_one rfl _ _ 66 rfl elem_str xs.length (by simp) [.string (s.extract f i)] rfl HO.out HB.out rfl rfl (by simp [Value.oneCell']) (by unfold maxLen; omega) (by omega) ?_; rintro _ w2 hown2 hb2 - - ⟨g', c', rfl, hc', hg'⟩; have HO2 := Lib.hid hown2; have HB2 := Lib.hid hb2; clear hown2 hb2)
          go_roundg g
          case measure => omega
          case rel => exact ⟨xs ++ [s.extract f i], i + 1, i + 1, by omega, by go_num, by go_num, by simp; omega, Lib.hid (by rw [List.map_append]; exact HN.out), by rw [List.map_append]; exact HO2.out, HB2.out⟩
        · have hf1 : decide ((f : Int) < (i : Int)) = false := decide_eq_false (by omega)
          have hf2 : ¬ (f : Int) < (i : Int) := by omega
          have HN := Lib.hid (hh2 (by omega))
          clear h47 hh1 hh2 hown hb
          go_wp2
          go_roundg g
          case measure => omega
          case rel => exact ⟨xs, i + 1, i + 1, by omega, by go_num, by go_num, by omega, HN, HO.out, HB.out⟩
end Go.Proofs.YtdidhelkmnkhcaaGreatDoor
