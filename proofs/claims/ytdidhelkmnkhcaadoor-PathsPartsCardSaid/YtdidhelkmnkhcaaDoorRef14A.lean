/- The reference of layer 14: slash, bare, last, Base, Dir, Join, Bad, parts. -/
import Derived.Test.YtdidhelkmnkhcaaDoorBase
namespace Go.Proofs.YtdidhelkmnkhcaaDoor
open Go.RowKit
attribute [local go_sem] Later.cell_eq
theorem extract_tail (r : ByteArray) (n : Nat) : (r.extract n r.size).data.toList = r.data.toList.drop n := by
  have h : r.data.toList.length = r.size := Array.length_toList
  rw [ByteArray.data_extract, Array.toList_extract, List.extract_eq_take_drop, ← h, ← List.length_drop, List.take_length]
set_option maxHeartbeats 1000000 in
theorem refSlash_calls (s : ByteArray) (hs : s.size ≤ 140737488355328) (w : World) :
    Calls Tryd.prog 43 #[.string s] w fun e w' => e = .returned (.bool (slashEnd s.data.toList)) ∧ w' = w := by
  cases hn : s.size with
  | zero =>
    have h0 := nil_toList hn
    have HE : Hid (slashEnd s.data.toList = false) := Lib.hid (by rw [← ByteArray.toList_eq, h0]; rfl)
    go_enter Tryd.func43, Tryd.ntmps43
    go_wp2
    go_ret
    exact ⟨ret_bool HE.out.symm, rfl⟩
  | succ n =>
    have h0 := ne_toList hn
    have h1 : s.toList.isEmpty = false := by simpa using h0
    have hnn : n < s.size := by omega
    have hb := last_byte s n hn
    obtain ⟨b, hbn⟩ : ∃ b, s[n]'hnn = b := ⟨_, rfl⟩
    have hbn' : (s[n]'hnn).toNat = b.toNat := by rw [hbn]
    rw [hbn] at hb
    have HE : Hid (((b.toNat : Int) == 47) = slashEnd s.data.toList) := Lib.hid (by rw [hb, slashEnd_snoc, byte47])
    have hn2 : n ≤ 140737488355328 := by omega
    clear hb hbn
    go_enter Tryd.func43, Tryd.ntmps43
    go_wp2
    go_ret
    exact ⟨ret_bool HE.out, rfl⟩
set_option maxHeartbeats 1000000 in
theorem refBare_calls (s : ByteArray) (hs : s.size ≤ 1000000) (w : World) :
    Calls Tryd.prog 37 #[.string s] w fun e w' => ∃ r : ByteArray, (e = .returned (.string r) ∧ r.data.toList = bareS s.data.toList ∧ r.size ≤ s.size) ∧ w' = w := by
  go_enter Tryd.func37, Tryd.ntmps37
  go_wp2
  go_loopg [0] s.size (fun gk s0 wr => ∃ r : ByteArray, r.size = gk ∧ s0 = .string r ∧ r.size ≤ s.size ∧ Hid (bareS r.data.toList = bareS s.data.toList) ∧ wr = w)
  case atStart => exact ⟨s, rfl, rfl, Nat.le_refl _, Lib.hid rfl, rfl⟩
  case round =>
    obtain ⟨r, hr, rfl, hrs, HR, hw⟩ := hrel
    obtain rfl : w = wr := hw.symm
    cases gk with
    | zero =>
      have hn0 : r.data.toList = [] := (size_nil r).2 hr
      have HE : Hid (r.data.toList = bareS s.data.toList) := Lib.hid (by rw [← HR.out, hn0]; rfl)
      have HS : Hid (slashEnd r.data.toList = false) := Lib.hid (by rw [hn0]; rfl)
      clear hn0
      go_wp2_with (go_at_call 43; refine (refSlash_calls r (by omega) _).mono ?_; rintro _ w1 ⟨rfl, hw1⟩; obtain rfl : w = w1 := hw1.symm; rw [HS.out])
      go_ret
      first | exact ⟨_, ⟨rfl, HE.out, hrs⟩, rfl⟩ | exact ⟨_, rfl, HE.out, hrs⟩ | exact ⟨⟨_, rfl, HE.out, hrs⟩, rfl⟩
    | succ n =>
      have hb := last_byte r n hr
      have hn : n < r.size := by omega
      have hx := extract_size r n (by omega)
      obtain ⟨b, hbn⟩ : ∃ b, r[n]'hn = b := ⟨_, rfl⟩
      rw [hbn] at hb
      have HB := Lib.hid hb
      have HX := Lib.hid hx
      clear hx hbn
      by_cases h47 : b = 47
      · have HS : Hid (slashEnd r.data.toList = true) := Lib.hid (by rw [hb, slashEnd_snoc, h47]; rfl)
        have H47 := Lib.hid h47
        clear h47 hb
        go_wp2_with (go_at_call 43; refine (refSlash_calls r (by omega) _).mono ?_; rintro _ w1 ⟨rfl, hw1⟩; obtain rfl : w = w1 := hw1.symm; rw [HS.out])
        go_roundg n
        case measure => omega
        case rel => exact ⟨_, HX.out, rfl, by rw [HX.out]; omega, Lib.hid (by rw [← HR.out, HB.out, H47.out, bareS_hit]), rfl⟩
      · have HS : Hid (slashEnd r.data.toList = false) := Lib.hid (by rw [hb, slashEnd_snoc]; simpa using h47)
        have HE : Hid (r.data.toList = bareS s.data.toList) := Lib.hid (by rw [← HR.out, hb, bareS_stop _ h47])
        clear h47 hb
        go_wp2_with (go_at_call 43; refine (refSlash_calls r (by omega) _).mono ?_; rintro _ w1 ⟨rfl, hw1⟩; obtain rfl : w = w1 := hw1.symm; rw [HS.out])
        go_ret
        first | exact ⟨_, ⟨rfl, HE.out, hrs⟩, rfl⟩ | exact ⟨_, rfl, HE.out, hrs⟩ | exact ⟨⟨_, rfl, HE.out, hrs⟩, rfl⟩
set_option maxHeartbeats 1000000 in
theorem refLast_calls (s : ByteArray) (hs : s.size ≤ 1000000) (w : World) :
    Calls Tryd.prog 38 #[.string s] w fun e w' => e = .returned (.int .i64 (lastS s.data.toList : Nat)) ∧ w' = w := by
  have hsl : s.data.toList.length = s.size := Array.length_toList
  have HSL := Lib.hid hsl
  clear hsl
  go_enter Tryd.func38, Tryd.ntmps38
  go_wp2
  go_loopg [3, 4] s.size (fun gk s3 s4 wr => ∃ i n : Nat, i + gk = s.size ∧ s3 = .int .i64 n ∧ n ≤ i ∧ s4 = .int .i64 i ∧ Hid (n = lastS (s.data.toList.take i)) ∧ wr = w)
  case atStart => exact ⟨0, 0, by omega, rfl, Nat.le_refl _, rfl, Lib.hid rfl, rfl⟩
  case round =>
    obtain ⟨i, n, hg, rfl, hni, rfl, HL, hw⟩ := hrel
    obtain rfl : w = wr := hw.symm
    cases gk with
    | zero =>
      obtain rfl : i = s.size := by omega
      go_wp2
      go_ret
      exact ⟨ret_int (by rw [HL.out, List.take_of_length_le (by rw [HSL.out]; exact Nat.le_refl _)]), rfl⟩
    | succ g =>
      have hi : i < s.size := by omega
      have hts := List.take_add_one (l := s.data.toList) (i := i)
      rw [get_byte s i hi] at hts
      obtain ⟨b, hbn⟩ : ∃ b, s[i]'hi = b := ⟨_, rfl⟩
      rw [hbn] at hts
      have hb : (s[i]'hi).toNat = b.toNat := by rw [hbn]
      have HT := Lib.hid hts
      have HLN : Hid ((s.data.toList.take i).length = i) := Lib.hid (by rw [List.length_take, HSL.out]; omega)
      clear hts hbn
      by_cases h47 : b = 47
      · have e47 : ((b.toNat : Int) == 47) = true := by rw [byte47]; simpa using h47
        have e47' : b.toNat = 47 := by rw [h47]; rfl
        have H47 := Lib.hid h47
        clear h47
        go_wp2
        go_roundg g
        case measure => omega
        case rel => exact ⟨i + 1, i + 1, by omega, by go_num, by omega, by go_num, Lib.hid (by rw [HT.out, H47.out]; show _ = lastS (_ ++ [47]); rw [lastS_hit, HLN.out]), rfl⟩
      · have e47 : ((b.toNat : Int) == 47) = false := by rw [byte47]; simpa using h47
        have e47' : ¬ b.toNat = 47 := fun e => h47 (UInt8.toNat_inj.1 e)
        have H47 := Lib.hid h47
        clear h47
        go_wp2
        go_roundg g
        case measure => omega
        case rel => exact ⟨i + 1, n, by omega, rfl, by omega, by go_num, Lib.hid (by rw [HT.out, HL.out]; exact (lastS_go _ H47.out).symm), rfl⟩
set_option maxHeartbeats 1000000 in
theorem refBase_calls (p : ByteArray) (hp : p.size ≤ 1000000) (w : World) :
    Calls Tryd.prog 17 #[.string p] w fun e w' => ∃ r : ByteArray, (e = .returned (.string r) ∧ r.data.toList = baseS p.data.toList) ∧ w' = w := by
  by_cases h0 : p.toList = []
  · have HE : Hid ([46] = baseS p.data.toList) := Lib.hid (by rw [← ByteArray.toList_eq, h0]; rfl)
    go_enter Tryd.func17, Tryd.ntmps17
    go_wp2
    go_ret
    first | exact ⟨_, ⟨rfl, HE.out⟩, rfl⟩ | exact ⟨_, rfl, HE.out⟩ | exact ⟨⟨_, rfl, HE.out⟩, rfl⟩
  · have h1 : p.toList.isEmpty = false := by simpa using h0
    have HN : Hid (¬ p.data.toList = []) := Lib.hid (by rw [← ByteArray.toList_eq]; exact h0)
    go_enter Tryd.func17, Tryd.ntmps17
    go_upto_region 4 with (go_at_call 37; refine (refBare_calls p hp _).mono ?_; rintro _ w1 ⟨r, ⟨rfl, hr, hl⟩, hw1⟩; obtain rfl : w = w1 := hw1.symm; have HR := Lib.hid hr; clear hr)
    by_cases hr0 : r.toList = []
    · have HE : Hid ([47] = baseS p.data.toList) := Lib.hid (by unfold baseS; rw [if_neg HN.out, if_pos (by rw [← HR.out, ← ByteArray.toList_eq]; exact hr0)])
      go_wp2
      go_ret
      first | exact ⟨_, ⟨rfl, HE.out⟩, rfl⟩ | exact ⟨_, rfl, HE.out⟩ | exact ⟨⟨_, rfl, HE.out⟩, rfl⟩
    · have hr1 : r.toList.isEmpty = false := by simpa using hr0
      have HRN : Hid (¬ r.data.toList = []) := Lib.hid (by rw [← ByteArray.toList_eq]; exact hr0)
      have hls := lastS_le r.data.toList
      have hrl : r.data.toList.length = r.size := Array.length_toList
      rw [hrl] at hls
      obtain ⟨n, hn⟩ : ∃ n, n = lastS r.data.toList := ⟨_, rfl⟩
      rw [← hn] at hls
      have HNN := Lib.hid hn
      have hrs : r.size ≤ 1000000 := by omega
      have HE : Hid ((r.extract n r.size).data.toList = baseS p.data.toList) := Lib.hid (by
        unfold baseS
        rw [if_neg HN.out, if_neg (by rw [← HR.out]; exact HRN.out), ← HR.out, ← HNN.out]
        exact extract_tail r n)
      clear hrl hn
      go_wp2_with (go_at_call 38; refine (refLast_calls r hrs _).mono ?_; rintro _ w1 ⟨rfl, hw1⟩; obtain rfl : w = w1 := hw1.symm; rw [← HNN.out])
      go_ret
      first | exact ⟨_, ⟨rfl, HE.out⟩, rfl⟩ | exact ⟨_, rfl, HE.out⟩ | exact ⟨⟨_, rfl, HE.out⟩, rfl⟩
set_option maxHeartbeats 1000000 in
set_option maxRecDepth 100000 in
theorem refDir_calls (p : ByteArray) (hp : p.size ≤ 1000000) (w : World) :
    Calls Tryd.prog 19 #[.string p] w fun e w' => ∃ r : ByteArray, (e = .returned (.string r) ∧ r.data.toList = dirS p.data.toList) ∧ w' = w := by
  go_enter Tryd.func19, Tryd.ntmps19
  go_upto_region 2 with (go_at_call 37; refine (refBare_calls p hp _).mono ?_; rintro _ w1 ⟨r, ⟨rfl, hr, hl⟩, hw1⟩; obtain rfl : w = w1 := hw1.symm; have HR := Lib.hid hr; clear hr)
  have hls := lastS_le r.data.toList
  have hrl : r.data.toList.length = r.size := Array.length_toList
  rw [hrl] at hls
  obtain ⟨n, hn⟩ : ∃ n, n = lastS r.data.toList := ⟨_, rfl⟩
  rw [← hn] at hls
  have HN := Lib.hid hn
  have hx := extract_size r n hls
  have HX : Hid ((r.extract 0 n).data.toList = r.data.toList.take n) := Lib.hid (by simp)
  have hrs : r.size ≤ 1000000 := by omega
  have hxs : (r.extract 0 n).size ≤ 1000000 := by omega
  clear hrl hn hx
  go_upto_region 3 with (first
    | (go_at_call 38; refine (refLast_calls r hrs _).mono ?_; rintro _ w1 ⟨rfl, hw1⟩; obtain rfl : w = w1 := hw1.symm; rw [← HN.out])
    | (go_at_call 37; refine (refBare_calls (r.extract 0 n) hxs _).mono ?_; rintro _ w1 ⟨q, ⟨rfl, hq, hql⟩, hw1⟩; obtain rfl : w = w1 := hw1.symm; have HQ := Lib.hid hq; clear hq))
  have HD : Hid (dirS p.data.toList = if q.data.toList ≠ [] then q.data.toList else if p.data.toList.head? = some 47 then [47] else [46]) := Lib.hid (by
    unfold dirS; rw [HQ.out, HX.out, HN.out, HR.out])
  by_cases h0 : q.toList = []
  · have HQ0 : Hid (q.data.toList = []) := Lib.hid (by rw [← ByteArray.toList_eq]; exact h0)
    cases hn : p.size with
    | zero =>
      have hp0 := nil_toList hn
      have HE : Hid ([46] = dirS p.data.toList) := Lib.hid (by rw [HD.out, if_neg (fun h => h HQ0.out), if_neg (by rw [← ByteArray.toList_eq, hp0]; simp)])
      go_wp2
      go_ret
      first | exact ⟨_, ⟨rfl, HE.out⟩, rfl⟩ | exact ⟨_, rfl, HE.out⟩ | exact ⟨⟨_, rfl, HE.out⟩, rfl⟩
    | succ k =>
      have hp0 := ne_toList hn
      have hp1 : p.toList.isEmpty = false := by simpa using hp0
      have hk : 0 < p.size := by omega
      have hfb := first_byte p hk
      obtain ⟨b, hbn⟩ : ∃ b, p[0]'hk = b := ⟨_, rfl⟩
      rw [hbn] at hfb
      have hb : (p[0]'hk).toNat = b.toNat := by rw [hbn]
      by_cases h47 : b = 47
      · have e47 : ((b.toNat : Int) == 47) = true := by rw [byte47]; simpa using h47
        have e47' : b.toNat = 47 := by rw [h47]; rfl
        have HE : Hid ([47] = dirS p.data.toList) := Lib.hid (by rw [HD.out, if_neg (fun h => h HQ0.out), if_pos (by rw [hfb, h47])])
        clear h47 hfb hbn
        go_wp2
        go_ret
        first | exact ⟨_, ⟨rfl, HE.out⟩, rfl⟩ | exact ⟨_, rfl, HE.out⟩ | exact ⟨⟨_, rfl, HE.out⟩, rfl⟩
      · have e47 : ((b.toNat : Int) == 47) = false := by rw [byte47]; simpa using h47
        have e47' : ¬ b.toNat = 47 := fun e => h47 (UInt8.toNat_inj.1 e)
        have HE : Hid ([46] = dirS p.data.toList) := Lib.hid (by rw [HD.out, if_neg (fun h => h HQ0.out), if_neg (by rw [hfb]; simpa using h47)])
        clear h47 hfb hbn
        go_wp2
        go_ret
        first | exact ⟨_, ⟨rfl, HE.out⟩, rfl⟩ | exact ⟨_, rfl, HE.out⟩ | exact ⟨⟨_, rfl, HE.out⟩, rfl⟩
  · have h1 : q.toList.isEmpty = false := by simpa using h0
    have HE : Hid (q.data.toList = dirS p.data.toList) := Lib.hid (by rw [HD.out, if_pos (by rw [← ByteArray.toList_eq]; exact h0)])
    go_wp2
    go_ret
    first | exact ⟨_, ⟨rfl, HE.out⟩, rfl⟩ | exact ⟨_, rfl, HE.out⟩ | exact ⟨⟨_, rfl, HE.out⟩, rfl⟩
theorem refJoin_calls (p n : ByteArray) (hp : p.size ≤ 1000000) (hn : n.size ≤ 1000000) (w : World) :
    Calls Tryd.prog 21 #[.string p, .string n] w fun e w' => ∃ r : ByteArray, (e = .returned (.string r) ∧ r.data.toList = joinS p.data.toList n.data.toList) ∧ w' = w := by
  by_cases h0 : p.toList = []
  · have HE : Hid (n.data.toList = joinS p.data.toList n.data.toList) := Lib.hid (by unfold joinS; rw [← ByteArray.toList_eq p, h0]; simp)
    go_enter Tryd.func21, Tryd.ntmps21
    go_wp2
    go_ret
    first | exact ⟨_, ⟨rfl, HE.out⟩, rfl⟩ | exact ⟨_, rfl, HE.out⟩ | exact ⟨⟨_, rfl, HE.out⟩, rfl⟩
  · have h1 : p.toList.isEmpty = false := by simpa using h0
    have HN : Hid (¬ p.data.toList = []) := Lib.hid (by rw [← ByteArray.toList_eq]; exact h0)
    cases hs : slashEnd p.data.toList with
    | true =>
      have HS := Lib.hid hs
      have HE : Hid ((p ++ n).data.toList = joinS p.data.toList n.data.toList) := Lib.hid (by unfold joinS; rw [if_pos (.inr hs)]; simp)
      clear hs
      go_enter Tryd.func21, Tryd.ntmps21
      go_wp2_with (go_at_call 43; refine (refSlash_calls p (by omega) _).mono ?_; rintro _ w1 ⟨rfl, hw1⟩; obtain rfl : w = w1 := hw1.symm; rw [HS.out])
      go_ret
      first | exact ⟨_, ⟨rfl, HE.out⟩, rfl⟩ | exact ⟨_, rfl, HE.out⟩ | exact ⟨⟨_, rfl, HE.out⟩, rfl⟩
    | false =>
      have HS := Lib.hid hs
      have HE : Hid ((p ++ ⟨#[47]⟩ ++ n).data.toList = joinS p.data.toList n.data.toList) := Lib.hid (by unfold joinS; rw [if_neg (fun h => h.elim HN.out (fun h => by rw [hs] at h; cases h))]; simp)
      clear hs
      go_enter Tryd.func21, Tryd.ntmps21
      go_wp2_with (go_at_call 43; refine (refSlash_calls p (by omega) _).mono ?_; rintro _ w1 ⟨rfl, hw1⟩; obtain rfl : w = w1 := hw1.symm; rw [HS.out])
      go_ret
      first | exact ⟨_, ⟨rfl, HE.out⟩, rfl⟩ | exact ⟨_, rfl, HE.out⟩ | exact ⟨⟨_, rfl, HE.out⟩, rfl⟩
end Go.Proofs.YtdidhelkmnkhcaaDoor
