/- The law of PathsSplit: it answers true. -/
import Derived.Test.YtdidhelkmnkhcaaDoorLives14
import Derived.Test.YtdidhelkmnkhcaaDoorSplitLawPure
namespace Go.Proofs.YtdidhelkmnkhcaaDoor
open Go.RowKit
attribute [local go_sem] Later.cell_eq
theorem size_len {r : ByteArray} {l : List UInt8} (h : r.data.toList = l) : r.size = l.length := by rw [← h, Array.length_toList]; rfl
set_option maxHeartbeats 4000000 in
set_option maxRecDepth 100000 in
theorem lawSplit_calls (p : ByteArray) (hp : p.size ≤ 140737488355328) (n : ByteArray) (hn : n.size ≤ 140737488355328) (w : World) :
    Calls Tryd.prog 7 #[.string p, .string n] w fun e w' => e = .returned (.bool true) ∧ Below w.heap.size w w' := by
  by_cases hg : p.size + n.size ≤ 50000
  · have g1 : decide ((50000 : Int) < (p.size : Int) + (n.size : Int)) = false := decide_eq_false (by omega)
    have hp2 : p.size ≤ 1000000 := by omega
    have hn2 : n.size ≤ 1000000 := by omega
    have hp3 : p.size ≤ 50000 := by omega
    have hlp : p.data.toList.length = p.size := Array.length_toList
    have hbl := baseS_len p.data.toList
    have hdl := dirS_len p.data.toList
    rw [hlp] at hbl hdl
    have hbl2 : (baseS p.data.toList).length ≤ 60000 := by omega
    have hdl2 : (dirS p.data.toList).length ≤ 60000 := by omega
    clear hlp hbl hdl
    go_enter Tryd.func7, Tryd.ntmps7
    go_upto_region 4 with (first
      | (go_at_call 20; refine (pjoin_calls r2 r1 hr2s hr1s _).mono ?_; rintro _ w3 ⟨q, ⟨rfl, hq⟩, hw3⟩; obtain rfl := hw3.symm; have HQ : Hid (q.data.toList = joinS (dirS p.data.toList) (baseS p.data.toList)) := Lib.hid (by rw [hq, HR2.out, HR1.out]); have hqs : q.size ≤ 1000000 := (by rw [size_len hq]; have := joinS_len r2.data.toList r1.data.toList; rw [← size_len rfl, ← size_len rfl] at this; omega); clear hq)
      | (go_at_call 16; refine (base_calls p hp2 _).mono ?_; rintro _ w1 ⟨r1, ⟨rfl, hr1⟩, hb1⟩; have HR1 := Lib.hid hr1; have hr1s : r1.size ≤ 1000000 := (by rw [size_len hr1]; omega); have hr1b : r1.size ≤ 60000 := (by rw [size_len hr1]; omega); have HB1 := Lib.hid hb1; clear hr1 hb1)
      | (go_at_call 18; refine (pdir_calls p hp2 _).mono ?_; rintro _ w2 ⟨r2, ⟨rfl, hr2⟩, hw2⟩; obtain rfl := hw2.symm; have HR2 := Lib.hid hr2; have hr2s : r2.size ≤ 1000000 := (by rw [size_len hr2]; omega); have hr2b : r2.size ≤ 60000 := (by rw [size_len hr2]; omega); clear hr2))
    clear hr1s hr2s hr1b hr2b
    go_upto_region 4 with fail
    obtain ⟨wA, hwA⟩ : ∃ x, x = w1 := ⟨_, rfl⟩
    rw [← hwA]
    rw [← hwA] at HB1
    clear hwA
    by_cases hbs : baseS p.data.toList = [47]
    case' pos => have hr47 : r1 = ⟨#[47]⟩ := str_ext (HR1.out.trans hbs)
    case' neg => have hr47 : ¬ r1.toList = [47] := fun e => hbs (by rw [← HR1.out, ← ByteArray.toList_eq]; exact e)
    case' neg => have HQB : Hid (baseS q.data.toList = baseS p.data.toList) := Lib.hid (by rw [HQ.out]; exact (split_law _ hbs).1)
    case' neg => have HQD : Hid (dirS q.data.toList = dirS p.data.toList) := Lib.hid (by rw [HQ.out]; exact (split_law _ hbs).2)
    all_goals clear hbs
    case' pos => go_upto_region 6 with (go_at_call 16; refine (base_calls _ (by assumption) _).mono ?_; rintro _ w4 ⟨r4, ⟨rfl, hr4⟩, hb4⟩; obtain rfl : r1 = r4 := (str_ext (hr4.trans HR1.out.symm)).symm; replace HB1 := Lib.hid (below_step HB1.out hb4); clear hr4 hb4)
    case' neg => go_upto_region 6 with (first
      | (go_at_call 18; refine (pdir_calls _ (by assumption) _).mono ?_; rintro _ w5 ⟨r5, ⟨rfl, hr5⟩, hw5⟩; obtain rfl := hw5.symm; obtain rfl : r2 = r5 := (by first | exact (str_ext (hr5.trans HR2.out.symm)).symm | exact (str_ext ((hr5.trans HQD.out).trans HR2.out.symm)).symm); clear hr5)
      | (go_at_call 16; refine (base_calls _ (by assumption) _).mono ?_; rintro _ w4 ⟨r4, ⟨rfl, hr4⟩, hb4⟩; obtain rfl : r1 = r4 := (by first | exact (str_ext (hr4.trans HR1.out.symm)).symm | exact (str_ext ((hr4.trans HQB.out).trans HR1.out.symm)).symm); replace HB1 := Lib.hid (below_step HB1.out hb4); clear hr4 hb4))
    case' pos =>
      have hlive := HB1.out
      go_wp2
      go_loopg [6] n.size (fun gk s6 wr => ∃ i : Nat, i + gk = n.size ∧ s6 = .int .i64 i ∧ Hid (47 ∉ n.data.toList.take i) ∧ Below w.heap.size w wr)
      case atStart => exact ⟨0, by omega, rfl, Lib.hid (by simp), hlive⟩
      case round =>
        clear hlive HB1
        obtain ⟨i, hgk, rfl, H47, hb⟩ := hrel
        have HB := Lib.hid hb
        clear hb
        cases gk with
        | zero =>
          obtain rfl : i = n.size := by omega
          have HT : Hid (47 ∉ n.data.toList) := Lib.hid (by have := H47.out; rwa [List.take_of_length_le (by rw [Array.length_toList]; exact Nat.le_refl _)] at this)
          by_cases hn0 : n.toList = []
          · go_wp2_with (go_at_call 15; refine (lives14_calls _).mono ?_; rintro _ w7 ⟨rfl, hb7⟩; have HB7 := Lib.hid (below_step HB.out hb7); clear hb7)
            go_ret
            exact ⟨rfl, HB7.out⟩
          · have hn1 : n.toList.isEmpty = false := by simpa using hn0
            have HJ : Hid (baseS (joinS p.data.toList n.data.toList) = n.data.toList) := Lib.hid (join_base _ _ (by rw [← ByteArray.toList_eq]; exact hn0) HT.out)
            go_wp2_with (first
              | (go_at_call 15; refine (lives14_calls _).mono ?_; rintro _ w7 ⟨rfl, hb7⟩; have HB7 := Lib.hid (below_step HB.out hb7); clear hb7)
              | (go_at_call 16; refine (base_calls z hzs _).mono ?_; rintro _ w8 ⟨r8, ⟨rfl, hr8⟩, hb8⟩; obtain rfl : n = r8 := str_ext ((hr8.trans (by rw [HZ.out])).trans HJ.out).symm; replace HB := Lib.hid (below_step HB.out hb8); clear hr8 hb8)
              | (go_at_call 20; refine (pjoin_calls p n hp2 hn2 _).mono ?_; rintro _ w6 ⟨z, ⟨rfl, hz⟩, hw6⟩; obtain rfl := hw6.symm; have HZ := Lib.hid hz; have hzs : z.size ≤ 1000000 := (by rw [size_len hz]; have := joinS_len p.data.toList n.data.toList; rw [← size_len rfl, ← size_len rfl] at this; omega); clear hz))
            go_ret
            exact ⟨rfl, HB7.out⟩
        | succ g =>
          have hi : i < n.size := by omega
          have hts := List.take_add_one (l := n.data.toList) (i := i)
          rw [get_byte n i hi] at hts
          obtain ⟨b, hbn⟩ : ∃ b, n[i]'hi = b := ⟨_, rfl⟩
          rw [hbn] at hts
          have hbb : (n[i]'hi).toNat = b.toNat := by rw [hbn]
          have HT := Lib.hid hts
          clear hts hbn
          by_cases h47 : b = 47
          · have e47 : ((b.toNat : Int) == 47) = true := by rw [byte47]; simpa using h47
            have e47' : b.toNat = 47 := by rw [h47]; rfl
            clear h47
            go_wp2_with (go_at_call 15; refine (lives14_calls _).mono ?_; rintro _ w7 ⟨rfl, hb7⟩; have HB7 := Lib.hid (below_step HB.out hb7); clear hb7)
            go_ret
            exact ⟨rfl, HB7.out⟩
          · have e47 : ((b.toNat : Int) == 47) = false := by rw [byte47]; simpa using h47
            have e47' : ¬ b.toNat = 47 := fun e => h47 (UInt8.toNat_inj.1 e)
            have HN := Lib.hid h47
            clear h47
            go_wp2
            go_roundg g
            case measure => omega
            case rel => exact ⟨i + 1, by omega, by go_num, Lib.hid (by
              rw [HT.out, List.mem_append]
              rintro (h | h)
              · exact H47.out h
              · simp at h; exact HN.out h.symm), HB.out⟩
    case' neg =>
      have hlive := HB1.out
      go_wp2
      go_loopg [6] n.size (fun gk s6 wr => ∃ i : Nat, i + gk = n.size ∧ s6 = .int .i64 i ∧ Hid (47 ∉ n.data.toList.take i) ∧ Below w.heap.size w wr)
      case atStart => exact ⟨0, by omega, rfl, Lib.hid (by simp), hlive⟩
      case round =>
        clear hlive HB1
        obtain ⟨i, hgk, rfl, H47, hb⟩ := hrel
        have HB := Lib.hid hb
        clear hb
        cases gk with
        | zero =>
          obtain rfl : i = n.size := by omega
          have HT : Hid (47 ∉ n.data.toList) := Lib.hid (by have := H47.out; rwa [List.take_of_length_le (by rw [Array.length_toList]; exact Nat.le_refl _)] at this)
          by_cases hn0 : n.toList = []
          · go_wp2_with (go_at_call 15; refine (lives14_calls _).mono ?_; rintro _ w7 ⟨rfl, hb7⟩; have HB7 := Lib.hid (below_step HB.out hb7); clear hb7)
            go_ret
            exact ⟨rfl, HB7.out⟩
          · have hn1 : n.toList.isEmpty = false := by simpa using hn0
            have HJ : Hid (baseS (joinS p.data.toList n.data.toList) = n.data.toList) := Lib.hid (join_base _ _ (by rw [← ByteArray.toList_eq]; exact hn0) HT.out)
            go_wp2_with (first
              | (go_at_call 15; refine (lives14_calls _).mono ?_; rintro _ w7 ⟨rfl, hb7⟩; have HB7 := Lib.hid (below_step HB.out hb7); clear hb7)
              | (go_at_call 16; refine (base_calls z hzs _).mono ?_; rintro _ w8 ⟨r8, ⟨rfl, hr8⟩, hb8⟩; obtain rfl : n = r8 := str_ext ((hr8.trans (by rw [HZ.out])).trans HJ.out).symm; replace HB := Lib.hid (below_step HB.out hb8); clear hr8 hb8)
              | (go_at_call 20; refine (pjoin_calls p n hp2 hn2 _).mono ?_; rintro _ w6 ⟨z, ⟨rfl, hz⟩, hw6⟩; obtain rfl := hw6.symm; have HZ := Lib.hid hz; have hzs : z.size ≤ 1000000 := (by rw [size_len hz]; have := joinS_len p.data.toList n.data.toList; rw [← size_len rfl, ← size_len rfl] at this; omega); clear hz))
            go_ret
            exact ⟨rfl, HB7.out⟩
        | succ g =>
          have hi : i < n.size := by omega
          have hts := List.take_add_one (l := n.data.toList) (i := i)
          rw [get_byte n i hi] at hts
          obtain ⟨b, hbn⟩ : ∃ b, n[i]'hi = b := ⟨_, rfl⟩
          rw [hbn] at hts
          have hbb : (n[i]'hi).toNat = b.toNat := by rw [hbn]
          have HT := Lib.hid hts
          clear hts hbn
          by_cases h47 : b = 47
          · have e47 : ((b.toNat : Int) == 47) = true := by rw [byte47]; simpa using h47
            have e47' : b.toNat = 47 := by rw [h47]; rfl
            clear h47
            go_wp2_with (go_at_call 15; refine (lives14_calls _).mono ?_; rintro _ w7 ⟨rfl, hb7⟩; have HB7 := Lib.hid (below_step HB.out hb7); clear hb7)
            go_ret
            exact ⟨rfl, HB7.out⟩
          · have e47 : ((b.toNat : Int) == 47) = false := by rw [byte47]; simpa using h47
            have e47' : ¬ b.toNat = 47 := fun e => h47 (UInt8.toNat_inj.1 e)
            have HN := Lib.hid h47
            clear h47
            go_wp2
            go_roundg g
            case measure => omega
            case rel => exact ⟨i + 1, by omega, by go_num, Lib.hid (by
              rw [HT.out, List.mem_append]
              rintro (h | h)
              · exact H47.out h
              · simp at h; exact HN.out h.symm), HB.out⟩
  · have g1 : decide ((50000 : Int) < (p.size : Int) + (n.size : Int)) = true := decide_eq_true (by omega)
    go_enter Tryd.func7, Tryd.ntmps7
    go_wp2_with (go_at_call 15; refine (lives14_calls _).mono ?_; rintro _ w7 ⟨rfl, hb7⟩; have HB7 := Lib.hid hb7; clear hb7)
    go_ret
    exact ⟨rfl, HB7.out⟩
end Go.Proofs.YtdidhelkmnkhcaaDoor
