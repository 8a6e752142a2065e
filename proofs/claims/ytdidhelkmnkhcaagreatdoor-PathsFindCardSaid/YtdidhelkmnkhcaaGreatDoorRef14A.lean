/- The reference of layer 14: slash, bare, last, Base, Dir, Join, Bad, parts. -/
import Derived.Test.YtdidhelkmnkhcaaGreatDoorBase
namespace Go.Proofs.YtdidhelkmnkhcaaGreatDoor
open Go.RowKit
attribute [local go_sem] Later.cell_eq
theorem extract_tail (r : ByteArray) (n : Nat) : (r.extract n r.size).data.toList = r.data.toList.drop n := by
  have h : r.data.toList.length = r.size := Array.length_toList
  rw [ByteArray.data_extract, Array.toList_extract, List.extract_eq_take_drop, ← h, ← List.length_drop, List.take_length]
set_option maxHeartbeats 1000000 in
theorem refSlash_calls (s : ByteArray) (hs : s.size ≤ 140737488355328) (w : World) :
    Calls Tryz.prog 156 #[.string s] w fun e w' => e = .returned (.bool (slashEnd s.data.toList)) ∧ w' = w := by
  cases hn : s.size with
  | zero =>
    have h0 := nil_toList hn
    have HE : Hid (slashEnd s.data.toList = false) := Lib.hid (by rw [← ByteArray.toList_eq, h0]; rfl)
    go_enter Tryz.func156, Tryz.ntmps156
    go_wp2
    go_ret
    exact ⟨ret_bool HE.out.symm, rfl⟩
  | succ n =>
    have h0 := ne_toList hn
    have h1 : s.toList.isEmpty = false := by simpa using h0
    have hnn : n < s.size := by omega
    have hb := last_byte s n hn
    obtain ⟨b, hbn⟩ : ∃ b, s[n]'hnn = b := ⟨_, rfl⟩
    have hbn' : (s[n]'hnn).toNat = b.toNat := by rw [hbn]
    rw [hbn] at hb
    have HE : Hid (((b.toNat : Int) == 47) = slashEnd s.data.toList) := Lib.hid (by rw [hb, slashEnd_snoc, byte47])
    have hn2 : n ≤ 140737488355328 := by omega
    clear hb hbn
    go_enter Tryz.func156, Tryz.ntmps156
    go_wp2
    go_ret
    exact ⟨ret_bool HE.out, rfl⟩
theorem refJoin_calls (p n : ByteArray) (hp : p.size ≤ 1000000) (hn : n.size ≤ 1000000) (w : World) :
    Calls Tryz.prog 162 #[.string p, .string n] w fun e w' => ∃ r : ByteArray, (e = .returned (.string r) ∧ r.data.toList = joinS p.data.toList n.data.toList) ∧ w' = w := by
  by_cases h0 : p.toList = []
  · have HE : Hid (n.data.toList = joinS p.data.toList n.data.toList) := Lib.hid (by unfold joinS; rw [← ByteArray.toList_eq p, h0]; simp)
    go_enter Tryz.func162, Tryz.ntmps162
    go_wp2
    go_ret
    first | exact ⟨_, ⟨rfl, HE.out⟩, rfl⟩ | exact ⟨_, rfl, HE.out⟩ | exact ⟨⟨_, rfl, HE.out⟩, rfl⟩
  · have h1 : p.toList.isEmpty = false := by simpa using h0
    have HN : Hid (¬ p.data.toList = []) := Lib.hid (by rw [← ByteArray.toList_eq]; exact h0)
    cases hs : slashEnd p.data.toList with
    | true =>
      have HS := Lib.hid hs
      have HE : Hid ((p ++ n).data.toList = joinS p.data.toList n.data.toList) := Lib.hid (by unfold joinS; rw [if_pos (.inr hs)]; simp)
      clear hs
      go_enter Tryz.func162, Tryz.ntmps162
      go_wp2_with (go_at_call 156; refine (refSlash_calls p (by omega) _).mono ?_; rintro _ w1 ⟨rfl, hw1⟩; obtain rfl : w = w1 := hw1.symm; rw [HS.out])
      go_ret
      first | exact ⟨_, ⟨rfl, HE.out⟩, rfl⟩ | exact ⟨_, rfl, HE.out⟩ | exact ⟨⟨_, rfl, HE.out⟩, rfl⟩
    | false =>
      have HS := Lib.hid hs
      have HE : Hid ((p ++ ⟨#[47]⟩ ++ n).data.toList = joinS p.data.toList n.data.toList) := Lib.hid (by unfold joinS; rw [if_neg (fun h => h.elim HN.out (fun h => by rw [hs] at h; cases h))]; simp)
      clear hs
      go_enter Tryz.func162, Tryz.ntmps162
      go_wp2_with (go_at_call 156; refine (refSlash_calls p (by omega) _).mono ?_; rintro _ w1 ⟨rfl, hw1⟩; obtain rfl : w = w1 := hw1.symm; rw [HS.out])
      go_ret
      first | exact ⟨_, ⟨rfl, HE.out⟩, rfl⟩ | exact ⟨_, rfl, HE.out⟩ | exact ⟨⟨_, rfl, HE.out⟩, rfl⟩
end Go.Proofs.YtdidhelkmnkhcaaGreatDoor
