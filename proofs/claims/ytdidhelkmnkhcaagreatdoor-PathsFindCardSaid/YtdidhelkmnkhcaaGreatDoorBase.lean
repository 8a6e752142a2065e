/- paths.Base, paths.Dir, and the reference's slash, bare, last, Base, Dir, Join, Bad. -/
import Derived.Test.YtdidhelkmnkhcaaGreatDoorGoes
import Derived.Test.YtdidhelkmnkhcaaGreatDoorTrim
namespace Go.Proofs.YtdidhelkmnkhcaaGreatDoor
open Go.RowKit
attribute [local go_sem] Later.cell_eq
theorem slashEnd_nil : slashEnd [] = false := rfl
theorem slashEnd_snoc (r : List UInt8) (b : UInt8) : slashEnd (r ++ [b]) = (b == 47) := by
  unfold slashEnd Lib.hasSuffix
  rw [Bool.eq_iff_iff]
  simp
  exact eq_comm
theorem hasPrefix_head (s : List UInt8) : Lib.hasPrefix s [47] = true ↔ s.head? = some 47 := by
  unfold Lib.hasPrefix
  cases s with
  | nil => simp
  | cons a r => simp; exact eq_comm
theorem size_nil (s : ByteArray) : s.data.toList = [] ↔ s.size = 0 := by rw [← List.length_eq_zero_iff, Array.length_toList]; rfl
theorem nil_toList {s : ByteArray} (h : s.size = 0) : s.toList = [] := (toList_nil s).mpr h
theorem ne_toList {s : ByteArray} {n : Nat} (h : s.size = n + 1) : ¬ s.toList = [] := fun e => by have := (toList_nil s).mp e; omega
set_option maxHeartbeats 1000000 in
set_option maxRecDepth 100000 in
theorem base_calls (p : ByteArray) (hp : p.size ≤ 1000000) (w : World) :
    Calls Tryz.prog 83 #[.string p] w fun e w' => ∃ r : ByteArray, (e = .returned (.string r) ∧ r.data.toList = baseS p.data.toList) ∧ Below w.heap.size w w' := by
  have HB := Lib.hid (base_parts p.data.toList)
  have HZ := Lib.hid (size_nil p)
  go_enter Tryz.func83, Tryz.ntmps83
  go_upto_region 2 with (go_at_call 145; refine (parts_calls p hp _).mono ?_; rintro _ w1 ⟨v, ⟨rfl, xs, hown, hxs⟩, hb⟩)
  by_cases h0 : p.toList = []
  · have HE : Hid (baseS p.data.toList = [46]) := Lib.hid (by rw [← ByteArray.toList_eq, h0]; rfl)
    clear hxs hown
    go_wp2
    go_ret
    first | exact ⟨_, ⟨rfl, HE.out.symm⟩, hb⟩ | exact ⟨_, rfl, HE.out.symm⟩ | exact ⟨⟨_, rfl, HE.out.symm⟩, hb⟩
  · have h1 : p.toList.isEmpty = false := by simpa using h0
    have HN : Hid (¬ p.data.toList = []) := Lib.hid (by rw [← ByteArray.toList_eq]; exact h0)
    rcases List.eq_nil_or_concat xs with rfl | ⟨ys, x, rfl⟩
    · have HE : Hid (baseS p.data.toList = [47]) := Lib.hid (by rw [HB.out, if_neg HN.out, ← hxs]; rfl)
      obtain ⟨A, c, rfl⟩ : ∃ A c, v = .slice A 0 c := by
        rcases hown.shape with ⟨rfl, -⟩ | ⟨g, c, rfl, -⟩
        · exact ⟨_, _, rfl⟩
        · exact ⟨_, _, rfl⟩
      clear hxs hown
      go_wp2
      go_ret
      first | exact ⟨_, ⟨rfl, HE.out.symm⟩, hb⟩ | exact ⟨_, rfl, HE.out.symm⟩ | exact ⟨⟨_, rfl, HE.out.symm⟩, hb⟩
    · rw [List.concat_eq_append] at hown hxs
      have HE : Hid (x.data.toList = baseS p.data.toList) := Lib.hid (by rw [HB.out, if_neg HN.out, ← hxs]; simp)
      obtain ⟨g, c, rfl, hcell, hc⟩ : ∃ g c, v = .slice (some ⟨g, 0, none⟩) (ys.length + 1) c ∧ w1.cell? ⟨g, ys.length, none⟩ = some (.string x) ∧ ys.length + 1 ≤ c := by
        rcases hown.shape with ⟨-, h⟩ | ⟨g, c, rfl, hc, -⟩
        · simp at h
        · refine ⟨g, c, by simp, ?_, by simpa using hc⟩
          have := hown.cell (i := ys.length) (r := [Value.string x]) (by simp) (j := 0) rfl
          simpa using this
      have hm : ys.length ≤ 9000000000000000000 := by
        have h := congrArg List.length hxs
        have := List.length_filter_le (fun p : List UInt8 => !p.isEmpty) (pieces p.data.toList)
        have h2 := count_le_size p
        rw [pieces_length] at this
        simp only [List.length_map, List.length_append, List.length_cons, List.length_nil] at h
        unfold partsOf at h
        omega
      obtain ⟨n, hn⟩ : ∃ n, n = ys.length := ⟨_, rfl⟩
      rw [← hn] at hcell hc hm
      rw [← hn]
      clear hxs hown hn
      go_wp2
      go_ret
      first | exact ⟨_, ⟨rfl, HE.out⟩, hb⟩ | exact ⟨_, rfl, HE.out⟩ | exact ⟨⟨_, rfl, HE.out⟩, hb⟩
set_option maxHeartbeats 1000000 in
set_option maxRecDepth 100000 in
theorem pdir_calls (p : ByteArray) (hp : p.size ≤ 1000000) (w : World) :
    Calls Tryz.prog 84 #[.string p] w fun e w' => ∃ r : ByteArray, (e = .returned (.string r) ∧ r.data.toList = dirS p.data.toList) ∧ w' = w := by
  go_enter Tryz.func84, Tryz.ntmps84
  go_upto_region 2 with (go_at_call 146; refine (trimRight_calls p hp _).mono ?_; rintro _ w1 ⟨r, ⟨rfl, hr, hl⟩, hw1⟩; obtain rfl : w = w1 := hw1.symm; have HR := Lib.hid hr; clear hr)
  have hls := lastS_le r.data.toList
  have hrl : r.data.toList.length = r.size := Array.length_toList
  rw [hrl] at hls
  obtain ⟨n, hn⟩ : ∃ n, n = lastS r.data.toList := ⟨_, rfl⟩
  rw [← hn] at hls
  have HN := Lib.hid hn
  have hx := extract_size r n hls
  have HX : Hid ((r.extract 0 n).data.toList = r.data.toList.take n) := Lib.hid (by simp)
  have hrs : r.size ≤ 1000000 := by omega
  have hxs : (r.extract 0 n).size ≤ 1000000 := by omega
  clear hrl hn hx
  go_upto_region 3 with (first
    | (go_at_call 147; refine (lastIndexByte_calls r hrs _).mono ?_; rintro _ w1 ⟨rfl, hw1⟩; obtain rfl : w = w1 := hw1.symm; rw [← HN.out])
    | (go_at_call 146; refine (trimRight_calls (r.extract 0 n) hxs _).mono ?_; rintro _ w1 ⟨q, ⟨rfl, hq, hql⟩, hw1⟩; obtain rfl : w = w1 := hw1.symm; have HQ := Lib.hid hq; clear hq))
  have HD : Hid (dirS p.data.toList = if q.data.toList ≠ [] then q.data.toList else if p.data.toList.head? = some 47 then [47] else [46]) := Lib.hid (by
    unfold dirS; rw [HQ.out, HX.out, HN.out, HR.out])
  by_cases h0 : q.toList = []
  · have HQ0 : Hid (q.data.toList = []) := Lib.hid (by rw [← ByteArray.toList_eq]; exact h0)
    cases hs : Lib.hasPrefix p.data.toList [47] with
    | true =>
      have hs' : Lib.hasPrefix p.data.toList (⟨#[47]⟩ : ByteArray).data.toList = true := hs
      have HE : Hid ([47] = dirS p.data.toList) := Lib.hid (by rw [HD.out, if_neg (fun h => h HQ0.out), if_pos ((hasPrefix_head _).1 hs)])
      clear hs
      go_wp2_with (go_at_call 148; refine (Tryz.strings_HasPrefix p ⟨#[47]⟩ _).mono ?_; rintro _ w1 ⟨rfl, hw1⟩; obtain rfl : w = w1 := hw1.symm; rw [hs'])
      go_ret
      first | exact ⟨_, ⟨rfl, HE.out⟩, rfl⟩ | exact ⟨_, rfl, HE.out⟩ | exact ⟨⟨_, rfl, HE.out⟩, rfl⟩
    | false =>
      have hs' : Lib.hasPrefix p.data.toList (⟨#[47]⟩ : ByteArray).data.toList = false := hs
      have HE : Hid ([46] = dirS p.data.toList) := Lib.hid (by rw [HD.out, if_neg (fun h => h HQ0.out), if_neg (fun h => by rw [(hasPrefix_head _).2 h] at hs; cases hs)])
      clear hs
      go_wp2_with (go_at_call 148; refine (Tryz.strings_HasPrefix p ⟨#[47]⟩ _).mono ?_; rintro _ w1 ⟨rfl, hw1⟩; obtain rfl : w = w1 := hw1.symm; rw [hs'])
      go_ret
      first | exact ⟨_, ⟨rfl, HE.out⟩, rfl⟩ | exact ⟨_, rfl, HE.out⟩ | exact ⟨⟨_, rfl, HE.out⟩, rfl⟩
  · have h1 : q.toList.isEmpty = false := by simpa using h0
    have HE : Hid (q.data.toList = dirS p.data.toList) := Lib.hid (by rw [HD.out, if_pos (by rw [← ByteArray.toList_eq]; exact h0)])
    go_wp2
    go_ret
    first | exact ⟨_, ⟨rfl, HE.out⟩, rfl⟩ | exact ⟨_, rfl, HE.out⟩ | exact ⟨⟨_, rfl, HE.out⟩, rfl⟩
end Go.Proofs.YtdidhelkmnkhcaaGreatDoor
