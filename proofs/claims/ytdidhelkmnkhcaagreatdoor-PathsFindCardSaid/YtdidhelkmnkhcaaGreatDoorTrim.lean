/- strings.TrimRight at a slash, strings.LastIndexByte at a slash. -/
import Derived.Test.YtdidhelkmnkhcaaGreatDoorM1
import Derived.WalkKit
import Derived.Outline
import Derived.Test.YtdidhelkmnkhcaaGreatDoorProg
import Derived.BigQuiet
import Derived.Deep.QuietTactic
import Derived.Lib.Hide
import Derived.Deep.LoopGhost
import Derived.IntWalk
namespace Go.Proofs.YtdidhelkmnkhcaaGreatDoor
open Go.RowKit
theorem get_byte (r : ByteArray) (n : Nat) (h : n < r.size) : r.data.toList[n]? = some (r[n]'h) := by
  rw [Array.getElem?_toList]; exact Array.getElem?_eq_getElem (by exact h)
theorem last_byte (r : ByteArray) (n : Nat) (h : r.size = n + 1) : r.data.toList = (r.extract 0 n).data.toList ++ [r[n]'(by omega)] := by
  have e : (r.extract 0 n).data.toList = r.data.toList.take n := by simp
  have hl : r.data.toList.length = n + 1 := by rw [Array.length_toList]; exact h
  have h2 := List.take_add_one (l := r.data.toList) (i := n)
  rw [List.take_of_length_le (by omega), get_byte r n (by omega)] at h2
  rw [e]; exact h2
theorem extract_size (r : ByteArray) (n : Nat) (h : n ≤ r.size) : (r.extract 0 n).size = n := by simp; omega
theorem byte47 (b : UInt8) : ((b.toNat : Int) == 47) = (b == 47) := by
  rw [Bool.eq_iff_iff, beq_iff_eq, beq_iff_eq]
  exact ⟨fun h => UInt8.toNat_inj.1 (by show _ = 47; omega), fun h => by rw [h]; rfl⟩
set_option maxHeartbeats 1000000 in
theorem trimRightByte_calls (s : ByteArray) (hs : s.size ≤ 1000000) (w : World) :
    Calls Tryz.prog 184 #[.string s, .int .u8 47] w fun e w' => ∃ r : ByteArray, (e = .returned (.string r) ∧ r.data.toList = bareS s.data.toList ∧ r.size ≤ s.size) ∧ w' = w := by
  go_enter Tryz.func184, Tryz.ntmps184
  go_wp2
  go_loopg [0] s.size (fun gk s0 wr => ∃ r : ByteArray, r.size = gk ∧ s0 = .string r ∧ r.size ≤ s.size ∧ Hid (bareS r.data.toList = bareS s.data.toList) ∧ wr = w)
  case atStart => exact ⟨s, rfl, rfl, Nat.le_refl _, Lib.hid rfl, rfl⟩
  case round =>
    obtain ⟨r, hr, rfl, hrs, HR, hw⟩ := hrel
    obtain rfl : w = wr := hw.symm
    cases gk with
    | zero =>
      have HE : Hid (r.data.toList = bareS s.data.toList) := Lib.hid (by rw [← HR.out, List.eq_nil_of_length_eq_zero (l := r.data.toList) (by rw [Array.length_toList]; exact hr)]; rfl)
      go_wp2
      go_ret
      first | exact ⟨_, ⟨rfl, HE.out, hrs⟩, rfl⟩ | exact ⟨_, rfl, HE.out, hrs⟩ | exact ⟨⟨_, rfl, HE.out, hrs⟩, rfl⟩
    | succ n =>
      have hb := last_byte r n hr
      have hn : n < r.size := by omega
      have hx := extract_size r n (by omega)
      obtain ⟨b, hbn⟩ : ∃ b, r[n]'(by omega) = b := ⟨_, rfl⟩
      rw [hbn] at hb
      have HB := Lib.hid hb
      have HX := Lib.hid hx
      have hbn' : (r[n]'hn).toNat = b.toNat := by rw [hbn]
      clear hb hx hbn
      by_cases h47 : b = 47
      · have e47 : ((b.toNat : Int) == 47) = true := by rw [byte47]; simpa using h47
        have e47' : b.toNat = 47 := by rw [h47]; rfl
        have H47 := Lib.hid h47
        clear h47
        go_wp2
        go_roundg n
        case measure => omega
        case rel => exact ⟨_, HX.out, rfl, by rw [HX.out]; omega, Lib.hid (by rw [← HR.out, HB.out, H47.out, bareS_hit]), rfl⟩
      · have e47 : ((b.toNat : Int) == 47) = false := by rw [byte47]; simpa using h47
        have e47' : ¬ b.toNat = 47 := fun e => h47 (UInt8.toNat_inj.1 e)
        have H47 := Lib.hid h47
        clear h47
        go_wp2
        go_ret
        have HE : r.data.toList = bareS s.data.toList := by rw [← HR.out, HB.out, bareS_stop _ H47.out]
        first | exact ⟨_, ⟨rfl, HE, hrs⟩, rfl⟩ | exact ⟨_, rfl, HE, hrs⟩ | exact ⟨⟨_, rfl, HE, hrs⟩, rfl⟩
set_option maxHeartbeats 1000000 in
set_option maxRecDepth 100000 in
theorem trimRight_calls (s : ByteArray) (hs : s.size ≤ 1000000) (w : World) :
    Calls Tryz.prog 146 #[.string s, .string ⟨#[47]⟩] w fun e w' => ∃ r : ByteArray, (e = .returned (.string r) ∧ r.data.toList = bareS s.data.toList ∧ r.size ≤ s.size) ∧ w' = w := by
  by_cases h0 : s.toList = []
  · have H0 := Lib.hid h0
    go_enter Tryz.func146, Tryz.ntmps146
    go_wp2
    go_ret
    have HE : s.data.toList = bareS s.data.toList := by rw [← ByteArray.toList_eq, H0.out]; rfl
    first | exact ⟨_, ⟨rfl, HE, Nat.le_refl _⟩, rfl⟩ | exact ⟨_, rfl, HE, Nat.le_refl _⟩ | exact ⟨⟨_, rfl, HE, Nat.le_refl _⟩, rfl⟩
  · have h1 : s.toList.isEmpty = false := by simpa using h0
    go_enter Tryz.func146, Tryz.ntmps146
    go_wp2_with (go_at_call 184; refine (trimRightByte_calls s hs _).mono ?_; rintro _ w1 ⟨r, ⟨rfl, hr, hl⟩, hw1⟩; obtain rfl : w = w1 := hw1.symm; have HR := Lib.hid hr; clear hr)
    go_ret
    first | exact ⟨_, ⟨rfl, HR.out, hl⟩, rfl⟩ | exact ⟨_, rfl, HR.out, hl⟩ | exact ⟨⟨_, rfl, HR.out, hl⟩, rfl⟩
set_option maxHeartbeats 1000000 in
theorem lastIndexByteString_calls (s : ByteArray) (hs : s.size ≤ 1000000) (w : World) :
    Calls Tryz.prog 188 #[.string s, .int .u8 47] w fun e w' => e = .returned (.int .i64 ((lastS s.data.toList : Nat) - 1)) ∧ w' = w := by
  go_enter Tryz.func188, Tryz.ntmps188
  go_wp2
  go_loopg [5] s.size (fun gk s5 wr => gk ≤ s.size ∧ s5 = .int .i64 ((gk : Int) - 1) ∧ Hid (lastS s.data.toList = lastS (s.data.toList.take gk)) ∧ wr = w)
  case atStart => exact ⟨Nat.le_refl _, rfl, Lib.hid (by rw [List.take_of_length_le (by show s.data.toList.length ≤ _; rw [Array.length_toList]; exact Nat.le_refl _)]), rfl⟩
  case round =>
    obtain ⟨hg, rfl, HL, hw⟩ := hrel
    obtain rfl : w = wr := hw.symm
    cases gk with
    | zero =>
      go_wp2
      go_ret
      exact ⟨ret_int (by rw [HL.out]; rfl), rfl⟩
    | succ n =>
      have hn : n < s.size := by omega
      have hts := List.take_add_one (l := s.data.toList) (i := n)
      rw [get_byte s n hn] at hts
      obtain ⟨b, hbn⟩ : ∃ b, s[n]'hn = b := ⟨_, rfl⟩
      rw [hbn] at hts
      have HT := Lib.hid hts
      have hb : (s[n]'hn).toNat = b.toNat := by rw [hbn]
      have hln : (s.data.toList.take n).length = n := by rw [List.length_take]; have : s.data.toList.length = s.size := Array.length_toList; omega
      have HLN := Lib.hid hln
      have e1 : (((n + 1 : Nat) : Int) - 1) = (n : Int) := by omega
      rw [e1]
      clear hts hbn hln e1
      by_cases h47 : b = 47
      · have e47 : ((b.toNat : Int) == 47) = true := by rw [byte47]; simpa using h47
        have e47' : b.toNat = 47 := by rw [h47]; rfl
        have H47 := Lib.hid h47
        clear h47
        go_wp2
        go_ret
        exact ⟨ret_int (by rw [HL.out, HT.out, H47.out]; show (n : Int) = ((lastS (_ ++ [47]) : Nat) : Int) - 1; rw [lastS_hit, HLN.out]; omega), rfl⟩
      · have e47 : ((b.toNat : Int) == 47) = false := by rw [byte47]; simpa using h47
        have e47' : ¬ b.toNat = 47 := fun e => h47 (UInt8.toNat_inj.1 e)
        have H47 := Lib.hid h47
        clear h47
        go_wp2
        go_roundg n
        case measure => omega
        case rel => exact ⟨by omega, rfl, Lib.hid (by rw [HL.out, HT.out]; exact lastS_go _ H47.out), rfl⟩
theorem lastIndexByte_calls (s : ByteArray) (hs : s.size ≤ 1000000) (w : World) :
    Calls Tryz.prog 147 #[.string s, .int .u8 47] w fun e w' => e = .returned (.int .i64 ((lastS s.data.toList : Nat) - 1)) ∧ w' = w := by
  go_enter Tryz.func147, Tryz.ntmps147
  go_wp2_with (go_at_call 188; refine (lastIndexByteString_calls s hs _).mono ?_; rintro _ w1 ⟨rfl, hw1⟩; obtain rfl : w = w1 := hw1.symm)
  go_ret
  exact ⟨rfl, rfl⟩
end Go.Proofs.YtdidhelkmnkhcaaGreatDoor
