/- The Book: each list of a kind is filled with marks. -/
/- The Book: each list of a kind is grown by marks. -/
import Derived.Test.YtbfcfjgcmideeaaGreatDoorB1
import Derived.Test.YtbfcfjgcmideeaaGreatDoorK1
namespace Go.Proofs.YtbfcfjgcmideeaaGreatDoor
open Go.RowKit
attribute [local go_sem] Later.cell_eq
def stEnt (a : Addr) (v : Value) : Sem Unit := storeVar 162 a v
theorem stEnt_eq (a : Addr) (v : Value) : storeVar 162 a v = stEnt a v := rfl
theorem stEnt_run (w : World) (b o : Nat) (n : Int) (ht : RowFree w b o 2) :
    (stEnt ⟨b, o, none⟩ (.agg (mkE n).toArray)).run Tryz.prog w = .ok () (w.setCells b o (mkE n)) :=
  run_storeVar_mid (P := Tryz.prog) w b o 162 (mkE n).toArray ht (by kernel_rfl) (by simp [mkE, Value.oneCell'])
def stNod (a : Addr) (v : Value) : Sem Unit := storeVar 80 a v
theorem stNod_eq (a : Addr) (v : Value) : storeVar 80 a v = stNod a v := rfl
theorem stNod_run (w : World) (b o : Nat) (n : Int) (ht : RowFree w b o 10) :
    (stNod ⟨b, o, none⟩ (.agg (mkN n).toArray)).run Tryz.prog w = .ok () (w.setCells b o (mkN n)) :=
  run_storeVar_mid (P := Tryz.prog) w b o 80 (mkN n).toArray ht (by kernel_rfl) (by simp [mkN, Value.oneCell'])
def stStp (a : Addr) (v : Value) : Sem Unit := storeVar 111 a v
theorem stStp_eq (a : Addr) (v : Value) : storeVar 111 a v = stStp a v := rfl
theorem stStp_run (w : World) (b o : Nat) (n : Int) (ht : RowFree w b o 4) :
    (stStp ⟨b, o, none⟩ (.agg (mkS n).toArray)).run Tryz.prog w = .ok () (w.setCells b o (mkS n)) :=
  run_storeVar_mid (P := Tryz.prog) w b o 111 (mkS n).toArray ht (by kernel_rfl) (by simp [mkS, Value.oneCell'])
attribute [local go_sem ↓] stEnt_eq stNod_eq stStp_eq
attribute [local go_sem] stEnt_run stNod_run stStp_run
set_option maxHeartbeats 2000000 in
theorem fillByte_calls (w : World) (B bk : Nat) (lab : Lab) (cs : Array Value) (s : KS) (hbk : w.heap[bk]? = some (.cells cs 53 (0, 0))) (hj : cs[1]? = some s.sv) (hlb : lab bk = (0, 1)) (hk : Kind w B lab 1 181 5 1 s) (h0 : s.d = 0) (hnum : ∀ x, x < s.N → NumOK w (s.num x)) (hfar : TabFar fun b => (lab b).1 = 1) (hN : s.N ≤ 1000000) :
    Calls Tryz.prog 72 #[.pointer (some ⟨bk, 0, none⟩)] w fun e w' => e = .returned (.tuple #[]) ∧ Kind w' B lab 1 181 5 1 { s with R := fun x => List.replicate (s.R x).length (mkB (s.num x)) } ∧ Turned (fun b => (lab b).1 = 1 ∧ (lab b).2 ≠ 0) w w' := by
  have hF := Fil.start mkB hk
  have hV : ∀ x, x < s.N → (∃ A c, s.V x = .slice A (s.R x).length c) ∧ s.L x = .slice none 0 0 ∧ (∀ g o n c, s.V x = .slice (some ⟨g, o, none⟩) n c → g < w.heap.size) := fun x hx => ⟨(hk.todo x (by omega) hx).1.len, (hk.todo x (by omega) hx).2, fun g o n c e => (hk.vlt hx g (by rw [e]; rfl)).2⟩
  have HS := Lib.hid (show ∀ x, x < s.N → (s.R x).length ≤ maxLen from fun x hx => (hk.todo x (by omega) hx).1.short)
  obtain ⟨A, c, hsv⟩ := own_len hk.held
  rw [s.rows_length] at hsv
  rw [hsv] at hj
  have HBK := Lib.hid hbk
  have HJ := Lib.hid hj
  have HLB := Lib.hid hlb
  have HNUM := Lib.hid hnum
  have H0 := Lib.hid h0
  have HSV := Lib.hid hsv
  have HV := Lib.hid hV
  have HFAR := Lib.hid hfar
  clear hbk hj hlb hnum h0 hk hsv hV hfar
  go_enter Tryz.func72, Tryz.ntmps72
  go_wp2
  go_loopg [2] s.N (fun g s2 wr => ∃ i : Nat, i + g = s.N ∧ s2 = .int .i64 i ∧ Hid (Fil w B lab 1 181 5 1 s mkB i 0 wr))
  case atStart => exact ⟨0, by omega, rfl, Lib.hid hF⟩
  case round =>
    clear hF
    obtain ⟨i, hg, rfl, HF⟩ := hrel
    have k1 := (cell_of_row wr bk 1 _ _ _ (HF.out.book (by decide) HLB.out HBK.out)).trans HJ.out
    cases gk with
    | zero =>
      obtain rfl : i = s.N := by omega
      go_wp2
      refine bodyPost_end (v := .tuple #[]) (by kernel_rfl) rfl ?_
      exact ⟨rfl, HF.out.done, HF.out.turned⟩
    | succ g =>
      obtain ⟨gs, c', e1, c0, c1, c2⟩ := HF.out.at (x := i) (by omega)
      rw [HSV.out] at e1
      cases e1
      obtain ⟨⟨Av, cv, hv⟩, hl, hlt⟩ := HV.out i (by omega)
      rw [hv] at c0
      rw [hl] at c1
      have hd : decide (i < s.N) = true := decide_eq_true (by omega)
      have hm := HS.out i (by omega)
      simp only [maxLen] at hm
      go_upto_region 4 with fail
      obtain ⟨wb, hwb⟩ : ∃ x, x = wr.alloc (.cells #[.slice Av (s.R i).length cv, .slice none 0 0, .int .i64 (s.num i)] 181) := ⟨_, rfl⟩
      have hb0 : wb.cell? ⟨wr.heap.size, 0, none⟩ = some (.slice Av (s.R i).length cv) := by rw [hwb, cell_of_row _ _ _ _ _ _ (heap_alloc_new wr _)]; rfl
      have hb2 : wb.cell? ⟨wr.heap.size, 2, none⟩ = some (.int .i64 (s.num i)) := by rw [hwb, cell_of_row _ _ _ _ _ _ (heap_alloc_new wr _)]; rfl
      have HFb := Lib.hid (HF.out.keep (wr' := wb) (by rw [hwb]; exact below_alloc (Below.refl _ _) _))
      have hsz := HF.out.turned.size
      rw [← hwb]
      obtain ⟨hb, hhb⟩ : ∃ x, x = wr.heap.size := ⟨_, rfl⟩
      rw [← hhb] at hb0 hb2 hsz
      rw [← hhb]
      have HN := Lib.hid (HNUM.out i (by omega))
      have hi : i < s.N := by omega
      clear hwb hhb k1 c0 c1 c2 HF
      go_wp2
      go_loopg [4] (s.R i).length (fun g s4 wi => ∃ k : Nat, k + g = (s.R i).length ∧ s4 = .int .i64 k ∧ Hid (Fil w B lab 1 181 5 1 s mkB i k wi) ∧ wi.cell? ⟨hb, 0, none⟩ = some (.slice Av (s.R i).length cv) ∧ wi.cell? ⟨hb, 2, none⟩ = some (.int .i64 (s.num i)))
      case atStart => exact ⟨0, by omega, rfl, HFb, hb0, hb2⟩
      case round =>
        clear HFb hb0 hb2
        obtain ⟨k, hkg, rfl, HF, hb0, hb2⟩ := hrel
        cases gk with
        | zero =>
          obtain rfl : k = (s.R i).length := by omega
          go_wp2
          go_roundg g
          case measure => omega
          case rel => exact ⟨i + 1, by omega, by go_num, Lib.hid HF.out.next⟩
        | succ gg =>
          have hkm : k < (s.R i).length := by omega
          obtain ⟨ga, rfl⟩ := HF.out.addr H0.out hi hv hkm
          obtain ⟨hth, hBg⟩ := HF.out.there H0.out hi hv hkm
          have hgb : ga ≠ hb := by have := hlt ga 0 _ _ hv; omega
          have HTH := Lib.hid hth
          have HV2 := Lib.hid hv
          clear hth hv hlt
          go_upto_region 7 with fail
          obtain ⟨wo, rfl⟩ : ∃ wo : World, wo = wr := ⟨_, rfl⟩
          have HNW := Lib.hid (HN.out.turned HF.out.turned fun g hg h => HFAR.out g hg h.1)
          have HB := Lib.hid (show wo.cell? ⟨hb, 0, none⟩ = _ ∧ wo.cell? ⟨hb, 2, none⟩ = _ from ⟨hb0, hb2⟩)
          go_region_law (first
            | (go_simp
               go_at_call 152
               refine (markByte_calls (s.num i) ⟨HN.out.1, HN.out.2.1⟩ _).mono ?_
               rintro _ w1 ⟨rfl, hb1⟩
               have hb0' := cell_keep hb1 (show wo.drew.cell? ⟨hb, 0, none⟩ = _ from hb0)
               have hb2' := cell_keep hb1 (show wo.drew.cell? ⟨hb, 2, none⟩ = _ from hb2)
               have HH1 := Lib.hid hb1
               obtain ⟨⟨old', hold'⟩, hfz'⟩ := there_one (there_below hb1 (show wo.drew.there _ _ _ from HTH.out))
               clear hb1))
          all_goals
            have hp := (HF.out.keep (wr' := w1) ⟨HH1.out.os, HH1.out.tape, HH1.out.output, HH1.out.size, HH1.out.block⟩).put H0.out hi HV2.out hkm rfl
            rw [Nat.mul_one] at hp
            go_wp2
            go_roundg gg
            case measure => omega
            case rel => exact ⟨k + 1, by omega, by go_num, Lib.hid hp, cell_cells hb0' (fun e => hgb e.symm) _ (mkB (s.num i)), cell_cells hb2' (fun e => hgb e.symm) _ (mkB (s.num i))⟩
set_option maxHeartbeats 2000000 in
theorem fillInt_calls (w : World) (B bk : Nat) (lab : Lab) (cs : Array Value) (s : KS) (hbk : w.heap[bk]? = some (.cells cs 53 (0, 0))) (hj : cs[2]? = some s.sv) (hlb : lab bk = (0, 1)) (hk : Kind w B lab 2 184 3 1 s) (h0 : s.d = 0) (hnum : ∀ x, x < s.N → NumOK w (s.num x)) (hfar : TabFar fun b => (lab b).1 = 2) (hN : s.N ≤ 1000000) :
    Calls Tryz.prog 73 #[.pointer (some ⟨bk, 0, none⟩)] w fun e w' => e = .returned (.tuple #[]) ∧ Kind w' B lab 2 184 3 1 { s with R := fun x => List.replicate (s.R x).length (mkI (s.num x)) } ∧ Turned (fun b => (lab b).1 = 2 ∧ (lab b).2 ≠ 0) w w' := by
  have hF := Fil.start mkI hk
  have hV : ∀ x, x < s.N → (∃ A c, s.V x = .slice A (s.R x).length c) ∧ s.L x = .slice none 0 0 ∧ (∀ g o n c, s.V x = .slice (some ⟨g, o, none⟩) n c → g < w.heap.size) := fun x hx => ⟨(hk.todo x (by omega) hx).1.len, (hk.todo x (by omega) hx).2, fun g o n c e => (hk.vlt hx g (by rw [e]; rfl)).2⟩
  have HS := Lib.hid (show ∀ x, x < s.N → (s.R x).length ≤ maxLen from fun x hx => (hk.todo x (by omega) hx).1.short)
  obtain ⟨A, c, hsv⟩ := own_len hk.held
  rw [s.rows_length] at hsv
  rw [hsv] at hj
  have HBK := Lib.hid hbk
  have HJ := Lib.hid hj
  have HLB := Lib.hid hlb
  have HNUM := Lib.hid hnum
  have H0 := Lib.hid h0
  have HSV := Lib.hid hsv
  have HV := Lib.hid hV
  have HFAR := Lib.hid hfar
  clear hbk hj hlb hnum h0 hk hsv hV hfar
  go_enter Tryz.func73, Tryz.ntmps73
  go_wp2
  go_loopg [2] s.N (fun g s2 wr => ∃ i : Nat, i + g = s.N ∧ s2 = .int .i64 i ∧ Hid (Fil w B lab 2 184 3 1 s mkI i 0 wr))
  case atStart => exact ⟨0, by omega, rfl, Lib.hid hF⟩
  case round =>
    clear hF
    obtain ⟨i, hg, rfl, HF⟩ := hrel
    have k1 := (cell_of_row wr bk 2 _ _ _ (HF.out.book (by decide) HLB.out HBK.out)).trans HJ.out
    cases gk with
    | zero =>
      obtain rfl : i = s.N := by omega
      go_wp2
      refine bodyPost_end (v := .tuple #[]) (by kernel_rfl) rfl ?_
      exact ⟨rfl, HF.out.done, HF.out.turned⟩
    | succ g =>
      obtain ⟨gs, c', e1, c0, c1, c2⟩ := HF.out.at (x := i) (by omega)
      rw [HSV.out] at e1
      cases e1
      obtain ⟨⟨Av, cv, hv⟩, hl, hlt⟩ := HV.out i (by omega)
      rw [hv] at c0
      rw [hl] at c1
      have hd : decide (i < s.N) = true := decide_eq_true (by omega)
      have hm := HS.out i (by omega)
      simp only [maxLen] at hm
      go_upto_region 4 with fail
      obtain ⟨wb, hwb⟩ : ∃ x, x = wr.alloc (.cells #[.slice Av (s.R i).length cv, .slice none 0 0, .int .i64 (s.num i)] 184) := ⟨_, rfl⟩
      have hb0 : wb.cell? ⟨wr.heap.size, 0, none⟩ = some (.slice Av (s.R i).length cv) := by rw [hwb, cell_of_row _ _ _ _ _ _ (heap_alloc_new wr _)]; rfl
      have hb2 : wb.cell? ⟨wr.heap.size, 2, none⟩ = some (.int .i64 (s.num i)) := by rw [hwb, cell_of_row _ _ _ _ _ _ (heap_alloc_new wr _)]; rfl
      have HFb := Lib.hid (HF.out.keep (wr' := wb) (by rw [hwb]; exact below_alloc (Below.refl _ _) _))
      have hsz := HF.out.turned.size
      rw [← hwb]
      obtain ⟨hb, hhb⟩ : ∃ x, x = wr.heap.size := ⟨_, rfl⟩
      rw [← hhb] at hb0 hb2 hsz
      rw [← hhb]
      have HN := Lib.hid (HNUM.out i (by omega))
      have hi : i < s.N := by omega
      clear hwb hhb k1 c0 c1 c2 HF
      go_wp2
      go_loopg [4] (s.R i).length (fun g s4 wi => ∃ k : Nat, k + g = (s.R i).length ∧ s4 = .int .i64 k ∧ Hid (Fil w B lab 2 184 3 1 s mkI i k wi) ∧ wi.cell? ⟨hb, 0, none⟩ = some (.slice Av (s.R i).length cv) ∧ wi.cell? ⟨hb, 2, none⟩ = some (.int .i64 (s.num i)))
      case atStart => exact ⟨0, by omega, rfl, HFb, hb0, hb2⟩
      case round =>
        clear HFb hb0 hb2
        obtain ⟨k, hkg, rfl, HF, hb0, hb2⟩ := hrel
        cases gk with
        | zero =>
          obtain rfl : k = (s.R i).length := by omega
          go_wp2
          go_roundg g
          case measure => omega
          case rel => exact ⟨i + 1, by omega, by go_num, Lib.hid HF.out.next⟩
        | succ gg =>
          have hkm : k < (s.R i).length := by omega
          obtain ⟨ga, rfl⟩ := HF.out.addr H0.out hi hv hkm
          obtain ⟨hth, hBg⟩ := HF.out.there H0.out hi hv hkm
          have hgb : ga ≠ hb := by have := hlt ga 0 _ _ hv; omega
          have HTH := Lib.hid hth
          have HV2 := Lib.hid hv
          clear hth hv hlt
          go_upto_region 7 with fail
          obtain ⟨wo, rfl⟩ : ∃ wo : World, wo = wr := ⟨_, rfl⟩
          have HNW := Lib.hid (HN.out.turned HF.out.turned fun g hg h => HFAR.out g hg h.1)
          have HB := Lib.hid (show wo.cell? ⟨hb, 0, none⟩ = _ ∧ wo.cell? ⟨hb, 2, none⟩ = _ from ⟨hb0, hb2⟩)
          go_region_law (first
            | (go_simp
               go_at_call 153
               refine (markInt_calls (s.num i) ⟨HN.out.1, HN.out.2.1⟩ _).mono ?_
               rintro _ w1 ⟨rfl, hb1⟩
               have hb0' := cell_keep hb1 (show wo.drew.cell? ⟨hb, 0, none⟩ = _ from hb0)
               have hb2' := cell_keep hb1 (show wo.drew.cell? ⟨hb, 2, none⟩ = _ from hb2)
               have HH1 := Lib.hid hb1
               obtain ⟨⟨old', hold'⟩, hfz'⟩ := there_one (there_below hb1 (show wo.drew.there _ _ _ from HTH.out))
               clear hb1))
          all_goals
            have hp := (HF.out.keep (wr' := w1) ⟨HH1.out.os, HH1.out.tape, HH1.out.output, HH1.out.size, HH1.out.block⟩).put H0.out hi HV2.out hkm rfl
            rw [Nat.mul_one] at hp
            go_wp2
            go_roundg gg
            case measure => omega
            case rel => exact ⟨k + 1, by omega, by go_num, Lib.hid hp, cell_cells hb0' (fun e => hgb e.symm) _ (mkI (s.num i)), cell_cells hb2' (fun e => hgb e.symm) _ (mkI (s.num i))⟩
set_option maxHeartbeats 2000000 in
theorem fillText_calls (w : World) (B bk : Nat) (lab : Lab) (cs : Array Value) (s : KS) (hbk : w.heap[bk]? = some (.cells cs 53 (0, 0))) (hj : cs[3]? = some s.sv) (hlb : lab bk = (0, 1)) (hk : Kind w B lab 3 179 9 1 s) (h0 : s.d = 0) (hnum : ∀ x, x < s.N → NumOK w (s.num x)) (hfar : TabFar fun b => (lab b).1 = 3) (hN : s.N ≤ 1000000) :
    Calls Tryz.prog 74 #[.pointer (some ⟨bk, 0, none⟩)] w fun e w' => e = .returned (.tuple #[]) ∧ Kind w' B lab 3 179 9 1 { s with R := fun x => List.replicate (s.R x).length (mkT (s.num x)) } ∧ Turned (fun b => (lab b).1 = 3 ∧ (lab b).2 ≠ 0) w w' := by
  have hF := Fil.start mkT hk
  have hV : ∀ x, x < s.N → (∃ A c, s.V x = .slice A (s.R x).length c) ∧ s.L x = .slice none 0 0 ∧ (∀ g o n c, s.V x = .slice (some ⟨g, o, none⟩) n c → g < w.heap.size) := fun x hx => ⟨(hk.todo x (by omega) hx).1.len, (hk.todo x (by omega) hx).2, fun g o n c e => (hk.vlt hx g (by rw [e]; rfl)).2⟩
  have HS := Lib.hid (show ∀ x, x < s.N → (s.R x).length ≤ maxLen from fun x hx => (hk.todo x (by omega) hx).1.short)
  obtain ⟨A, c, hsv⟩ := own_len hk.held
  rw [s.rows_length] at hsv
  rw [hsv] at hj
  have HBK := Lib.hid hbk
  have HJ := Lib.hid hj
  have HLB := Lib.hid hlb
  have HNUM := Lib.hid hnum
  have H0 := Lib.hid h0
  have HSV := Lib.hid hsv
  have HV := Lib.hid hV
  have HFAR := Lib.hid hfar
  clear hbk hj hlb hnum h0 hk hsv hV hfar
  go_enter Tryz.func74, Tryz.ntmps74
  go_wp2
  go_loopg [2] s.N (fun g s2 wr => ∃ i : Nat, i + g = s.N ∧ s2 = .int .i64 i ∧ Hid (Fil w B lab 3 179 9 1 s mkT i 0 wr))
  case atStart => exact ⟨0, by omega, rfl, Lib.hid hF⟩
  case round =>
    clear hF
    obtain ⟨i, hg, rfl, HF⟩ := hrel
    have k1 := (cell_of_row wr bk 3 _ _ _ (HF.out.book (by decide) HLB.out HBK.out)).trans HJ.out
    cases gk with
    | zero =>
      obtain rfl : i = s.N := by omega
      go_wp2
      refine bodyPost_end (v := .tuple #[]) (by kernel_rfl) rfl ?_
      exact ⟨rfl, HF.out.done, HF.out.turned⟩
    | succ g =>
      obtain ⟨gs, c', e1, c0, c1, c2⟩ := HF.out.at (x := i) (by omega)
      rw [HSV.out] at e1
      cases e1
      obtain ⟨⟨Av, cv, hv⟩, hl, hlt⟩ := HV.out i (by omega)
      rw [hv] at c0
      rw [hl] at c1
      have hd : decide (i < s.N) = true := decide_eq_true (by omega)
      have hm := HS.out i (by omega)
      simp only [maxLen] at hm
      go_upto_region 4 with fail
      obtain ⟨wb, hwb⟩ : ∃ x, x = wr.alloc (.cells #[.slice Av (s.R i).length cv, .slice none 0 0, .int .i64 (s.num i)] 179) := ⟨_, rfl⟩
      have hb0 : wb.cell? ⟨wr.heap.size, 0, none⟩ = some (.slice Av (s.R i).length cv) := by rw [hwb, cell_of_row _ _ _ _ _ _ (heap_alloc_new wr _)]; rfl
      have hb2 : wb.cell? ⟨wr.heap.size, 2, none⟩ = some (.int .i64 (s.num i)) := by rw [hwb, cell_of_row _ _ _ _ _ _ (heap_alloc_new wr _)]; rfl
      have HFb := Lib.hid (HF.out.keep (wr' := wb) (by rw [hwb]; exact below_alloc (Below.refl _ _) _))
      have hsz := HF.out.turned.size
      rw [← hwb]
      obtain ⟨hb, hhb⟩ : ∃ x, x = wr.heap.size := ⟨_, rfl⟩
      rw [← hhb] at hb0 hb2 hsz
      rw [← hhb]
      have HN := Lib.hid (HNUM.out i (by omega))
      have hi : i < s.N := by omega
      clear hwb hhb k1 c0 c1 c2 HF
      go_wp2
      go_loopg [4] (s.R i).length (fun g s4 wi => ∃ k : Nat, k + g = (s.R i).length ∧ s4 = .int .i64 k ∧ Hid (Fil w B lab 3 179 9 1 s mkT i k wi) ∧ wi.cell? ⟨hb, 0, none⟩ = some (.slice Av (s.R i).length cv) ∧ wi.cell? ⟨hb, 2, none⟩ = some (.int .i64 (s.num i)))
      case atStart => exact ⟨0, by omega, rfl, HFb, hb0, hb2⟩
      case round =>
        clear HFb hb0 hb2
        obtain ⟨k, hkg, rfl, HF, hb0, hb2⟩ := hrel
        cases gk with
        | zero =>
          obtain rfl : k = (s.R i).length := by omega
          go_wp2
          go_roundg g
          case measure => omega
          case rel => exact ⟨i + 1, by omega, by go_num, Lib.hid HF.out.next⟩
        | succ gg =>
          have hkm : k < (s.R i).length := by omega
          obtain ⟨ga, rfl⟩ := HF.out.addr H0.out hi hv hkm
          obtain ⟨hth, hBg⟩ := HF.out.there H0.out hi hv hkm
          have hgb : ga ≠ hb := by have := hlt ga 0 _ _ hv; omega
          have HTH := Lib.hid hth
          have HV2 := Lib.hid hv
          clear hth hv hlt
          go_upto_region 7 with fail
          obtain ⟨wo, rfl⟩ : ∃ wo : World, wo = wr := ⟨_, rfl⟩
          have HNW := Lib.hid (HN.out.turned HF.out.turned fun g hg h => HFAR.out g hg h.1)
          have HB := Lib.hid (show wo.cell? ⟨hb, 0, none⟩ = _ ∧ wo.cell? ⟨hb, 2, none⟩ = _ from ⟨hb0, hb2⟩)
          go_region_law (first
            | (go_simp
               go_at_call 154
               refine (markText_calls (s.num i) _ (HNW.out.keep (Below.refl _ _).drew)).mono ?_
               rintro _ w1 ⟨rfl, hb1⟩
               have hb0' := cell_keep hb1 (show wo.drew.cell? ⟨hb, 0, none⟩ = _ from hb0)
               have hb2' := cell_keep hb1 (show wo.drew.cell? ⟨hb, 2, none⟩ = _ from hb2)
               have HH1 := Lib.hid hb1
               obtain ⟨⟨old', hold'⟩, hfz'⟩ := there_one (there_below hb1 (show wo.drew.there _ _ _ from HTH.out))
               clear hb1))
          all_goals
            have hp := (HF.out.keep (wr' := w1) ⟨HH1.out.os, HH1.out.tape, HH1.out.output, HH1.out.size, HH1.out.block⟩).put H0.out hi HV2.out hkm rfl
            rw [Nat.mul_one] at hp
            go_wp2
            go_roundg gg
            case measure => omega
            case rel => exact ⟨k + 1, by omega, by go_num, Lib.hid hp, cell_cells hb0' (fun e => hgb e.symm) _ (mkT (s.num i)), cell_cells hb2' (fun e => hgb e.symm) _ (mkT (s.num i))⟩
set_option maxHeartbeats 2000000 in
theorem fillEntry_calls (w : World) (B bk : Nat) (lab : Lab) (cs : Array Value) (s : KS) (hbk : w.heap[bk]? = some (.cells cs 53 (0, 0))) (hj : cs[9]? = some s.sv) (hlb : lab bk = (0, 1)) (hk : Kind w B lab 9 214 162 2 s) (h0 : s.d = 0) (hnum : ∀ x, x < s.N → NumOK w (s.num x)) (hfar : TabFar fun b => (lab b).1 = 9) (hN : s.N ≤ 1000000) :
    Calls Tryz.prog 80 #[.pointer (some ⟨bk, 0, none⟩)] w fun e w' => e = .returned (.tuple #[]) ∧ Kind w' B lab 9 214 162 2 { s with R := fun x => List.replicate (s.R x).length (mkE (s.num x)) } ∧ Turned (fun b => (lab b).1 = 9 ∧ (lab b).2 ≠ 0) w w' := by
  have hF := Fil.start mkE hk
  have hV : ∀ x, x < s.N → (∃ A c, s.V x = .slice A (s.R x).length c) ∧ s.L x = .slice none 0 0 ∧ (∀ g o n c, s.V x = .slice (some ⟨g, o, none⟩) n c → g < w.heap.size) := fun x hx => ⟨(hk.todo x (by omega) hx).1.len, (hk.todo x (by omega) hx).2, fun g o n c e => (hk.vlt hx g (by rw [e]; rfl)).2⟩
  have HS := Lib.hid (show ∀ x, x < s.N → (s.R x).length ≤ maxLen from fun x hx => (hk.todo x (by omega) hx).1.short)
  obtain ⟨A, c, hsv⟩ := own_len hk.held
  rw [s.rows_length] at hsv
  rw [hsv] at hj
  have HBK := Lib.hid hbk
  have HJ := Lib.hid hj
  have HLB := Lib.hid hlb
  have HNUM := Lib.hid hnum
  have H0 := Lib.hid h0
  have HSV := Lib.hid hsv
  have HV := Lib.hid hV
  have HFAR := Lib.hid hfar
  clear hbk hj hlb hnum h0 hk hsv hV hfar
  go_enter Tryz.func80, Tryz.ntmps80
  go_wp2
  go_loopg [2] s.N (fun g s2 wr => ∃ i : Nat, i + g = s.N ∧ s2 = .int .i64 i ∧ Hid (Fil w B lab 9 214 162 2 s mkE i 0 wr))
  case atStart => exact ⟨0, by omega, rfl, Lib.hid hF⟩
  case round =>
    clear hF
    obtain ⟨i, hg, rfl, HF⟩ := hrel
    have k1 := (cell_of_row wr bk 9 _ _ _ (HF.out.book (by decide) HLB.out HBK.out)).trans HJ.out
    cases gk with
    | zero =>
      obtain rfl : i = s.N := by omega
      go_wp2
      refine bodyPost_end (v := .tuple #[]) (by kernel_rfl) rfl ?_
      exact ⟨rfl, HF.out.done, HF.out.turned⟩
    | succ g =>
      obtain ⟨gs, c', e1, c0, c1, c2⟩ := HF.out.at (x := i) (by omega)
      rw [HSV.out] at e1
      cases e1
      obtain ⟨⟨Av, cv, hv⟩, hl, hlt⟩ := HV.out i (by omega)
      rw [hv] at c0
      rw [hl] at c1
      have hd : decide (i < s.N) = true := decide_eq_true (by omega)
      have hm := HS.out i (by omega)
      simp only [maxLen] at hm
      go_upto_region 4 with fail
      obtain ⟨wb, hwb⟩ : ∃ x, x = wr.alloc (.cells #[.slice Av (s.R i).length cv, .slice none 0 0, .int .i64 (s.num i)] 214) := ⟨_, rfl⟩
      have hb0 : wb.cell? ⟨wr.heap.size, 0, none⟩ = some (.slice Av (s.R i).length cv) := by rw [hwb, cell_of_row _ _ _ _ _ _ (heap_alloc_new wr _)]; rfl
      have hb2 : wb.cell? ⟨wr.heap.size, 2, none⟩ = some (.int .i64 (s.num i)) := by rw [hwb, cell_of_row _ _ _ _ _ _ (heap_alloc_new wr _)]; rfl
      have HFb := Lib.hid (HF.out.keep (wr' := wb) (by rw [hwb]; exact below_alloc (Below.refl _ _) _))
      have hsz := HF.out.turned.size
      rw [← hwb]
      obtain ⟨hb, hhb⟩ : ∃ x, x = wr.heap.size := ⟨_, rfl⟩
      rw [← hhb] at hb0 hb2 hsz
      rw [← hhb]
      have HN := Lib.hid (HNUM.out i (by omega))
      have hi : i < s.N := by omega
      clear hwb hhb k1 c0 c1 c2 HF
      go_wp2
      go_loopg [4] (s.R i).length (fun g s4 wi => ∃ k : Nat, k + g = (s.R i).length ∧ s4 = .int .i64 k ∧ Hid (Fil w B lab 9 214 162 2 s mkE i k wi) ∧ wi.cell? ⟨hb, 0, none⟩ = some (.slice Av (s.R i).length cv) ∧ wi.cell? ⟨hb, 2, none⟩ = some (.int .i64 (s.num i)))
      case atStart => exact ⟨0, by omega, rfl, HFb, hb0, hb2⟩
      case round =>
        clear HFb hb0 hb2
        obtain ⟨k, hkg, rfl, HF, hb0, hb2⟩ := hrel
        cases gk with
        | zero =>
          obtain rfl : k = (s.R i).length := by omega
          go_wp2
          go_roundg g
          case measure => omega
          case rel => exact ⟨i + 1, by omega, by go_num, Lib.hid HF.out.next⟩
        | succ gg =>
          have hkm : k < (s.R i).length := by omega
          obtain ⟨ga, rfl⟩ := HF.out.addr H0.out hi hv hkm
          obtain ⟨hth, hBg⟩ := HF.out.there H0.out hi hv hkm
          have hgb : ga ≠ hb := by have := hlt ga 0 _ _ hv; omega
          have HTH := Lib.hid hth
          have HV2 := Lib.hid hv
          clear hth hv hlt
          go_upto_region 7 with fail
          obtain ⟨wo, rfl⟩ : ∃ wo : World, wo = wr := ⟨_, rfl⟩
          have HNW := Lib.hid (HN.out.turned HF.out.turned fun g hg h => HFAR.out g hg h.1)
          have HB := Lib.hid (show wo.cell? ⟨hb, 0, none⟩ = _ ∧ wo.cell? ⟨hb, 2, none⟩ = _ from ⟨hb0, hb2⟩)
          go_region_law (first
            | (go_simp
               go_at_call 160
               refine (markEntry_calls (s.num i) _ (HNW.out.keep (Below.refl _ _).drew)).mono ?_
               rintro _ w1 ⟨rfl, hb1⟩
               have hb0' := cell_keep hb1 (show wo.drew.cell? ⟨hb, 0, none⟩ = _ from hb0)
               have hb2' := cell_keep hb1 (show wo.drew.cell? ⟨hb, 2, none⟩ = _ from hb2)
               have HH1 := Lib.hid hb1
               have hfr' : RowFree w1 ga (k * 2) 2 := there_below hb1 (show wo.drew.there _ _ _ from HTH.out)
               clear hb1))
          all_goals
            have hp := (HF.out.keep (wr' := w1) ⟨HH1.out.os, HH1.out.tape, HH1.out.output, HH1.out.size, HH1.out.block⟩).put H0.out hi HV2.out hkm rfl
            skip
            go_wp2
            go_roundg gg
            case measure => omega
            case rel => exact ⟨k + 1, by omega, by go_num, Lib.hid hp, cell_cells hb0' (fun e => hgb e.symm) _ (mkE (s.num i)), cell_cells hb2' (fun e => hgb e.symm) _ (mkE (s.num i))⟩
set_option maxHeartbeats 2000000 in
theorem fillNode_calls (w : World) (B bk : Nat) (lab : Lab) (cs : Array Value) (s : KS) (hbk : w.heap[bk]? = some (.cells cs 53 (0, 0))) (hj : cs[10]? = some s.sv) (hlb : lab bk = (0, 1)) (hk : Kind w B lab 10 217 80 10 s) (h0 : s.d = 0) (hnum : ∀ x, x < s.N → NumOK w (s.num x)) (hfar : TabFar fun b => (lab b).1 = 10) (hN : s.N ≤ 1000000) :
    Calls Tryz.prog 81 #[.pointer (some ⟨bk, 0, none⟩)] w fun e w' => e = .returned (.tuple #[]) ∧ Kind w' B lab 10 217 80 10 { s with R := fun x => List.replicate (s.R x).length (mkN (s.num x)) } ∧ Turned (fun b => (lab b).1 = 10 ∧ (lab b).2 ≠ 0) w w' := by
  have hF := Fil.start mkN hk
  have hV : ∀ x, x < s.N → (∃ A c, s.V x = .slice A (s.R x).length c) ∧ s.L x = .slice none 0 0 ∧ (∀ g o n c, s.V x = .slice (some ⟨g, o, none⟩) n c → g < w.heap.size) := fun x hx => ⟨(hk.todo x (by omega) hx).1.len, (hk.todo x (by omega) hx).2, fun g o n c e => (hk.vlt hx g (by rw [e]; rfl)).2⟩
  have HS := Lib.hid (show ∀ x, x < s.N → (s.R x).length ≤ maxLen from fun x hx => (hk.todo x (by omega) hx).1.short)
  obtain ⟨A, c, hsv⟩ := own_len hk.held
  rw [s.rows_length] at hsv
  rw [hsv] at hj
  have HBK := Lib.hid hbk
  have HJ := Lib.hid hj
  have HLB := Lib.hid hlb
  have HNUM := Lib.hid hnum
  have H0 := Lib.hid h0
  have HSV := Lib.hid hsv
  have HV := Lib.hid hV
  have HFAR := Lib.hid hfar
  clear hbk hj hlb hnum h0 hk hsv hV hfar
  go_enter Tryz.func81, Tryz.ntmps81
  go_wp2
  go_loopg [2] s.N (fun g s2 wr => ∃ i : Nat, i + g = s.N ∧ s2 = .int .i64 i ∧ Hid (Fil w B lab 10 217 80 10 s mkN i 0 wr))
  case atStart => exact ⟨0, by omega, rfl, Lib.hid hF⟩
  case round =>
    clear hF
    obtain ⟨i, hg, rfl, HF⟩ := hrel
    have k1 := (cell_of_row wr bk 10 _ _ _ (HF.out.book (by decide) HLB.out HBK.out)).trans HJ.out
    cases gk with
    | zero =>
      obtain rfl : i = s.N := by omega
      go_wp2
      refine bodyPost_end (v := .tuple #[]) (by kernel_rfl) rfl ?_
      exact ⟨rfl, HF.out.done, HF.out.turned⟩
    | succ g =>
      obtain ⟨gs, c', e1, c0, c1, c2⟩ := HF.out.at (x := i) (by omega)
      rw [HSV.out] at e1
      cases e1
      obtain ⟨⟨Av, cv, hv⟩, hl, hlt⟩ := HV.out i (by omega)
      rw [hv] at c0
      rw [hl] at c1
      have hd : decide (i < s.N) = true := decide_eq_true (by omega)
      have hm := HS.out i (by omega)
      simp only [maxLen] at hm
      go_upto_region 4 with fail
      obtain ⟨wb, hwb⟩ : ∃ x, x = wr.alloc (.cells #[.slice Av (s.R i).length cv, .slice none 0 0, .int .i64 (s.num i)] 217) := ⟨_, rfl⟩
      have hb0 : wb.cell? ⟨wr.heap.size, 0, none⟩ = some (.slice Av (s.R i).length cv) := by rw [hwb, cell_of_row _ _ _ _ _ _ (heap_alloc_new wr _)]; rfl
      have hb2 : wb.cell? ⟨wr.heap.size, 2, none⟩ = some (.int .i64 (s.num i)) := by rw [hwb, cell_of_row _ _ _ _ _ _ (heap_alloc_new wr _)]; rfl
      have HFb := Lib.hid (HF.out.keep (wr' := wb) (by rw [hwb]; exact below_alloc (Below.refl _ _) _))
      have hsz := HF.out.turned.size
      rw [← hwb]
      obtain ⟨hb, hhb⟩ : ∃ x, x = wr.heap.size := ⟨_, rfl⟩
      rw [← hhb] at hb0 hb2 hsz
      rw [← hhb]
      have HN := Lib.hid (HNUM.out i (by omega))
      have hi : i < s.N := by omega
      clear hwb hhb k1 c0 c1 c2 HF
      go_wp2
      go_loopg [4] (s.R i).length (fun g s4 wi => ∃ k : Nat, k + g = (s.R i).length ∧ s4 = .int .i64 k ∧ Hid (Fil w B lab 10 217 80 10 s mkN i k wi) ∧ wi.cell? ⟨hb, 0, none⟩ = some (.slice Av (s.R i).length cv) ∧ wi.cell? ⟨hb, 2, none⟩ = some (.int .i64 (s.num i)))
      case atStart => exact ⟨0, by omega, rfl, HFb, hb0, hb2⟩
      case round =>
        clear HFb hb0 hb2
        obtain ⟨k, hkg, rfl, HF, hb0, hb2⟩ := hrel
        cases gk with
        | zero =>
          obtain rfl : k = (s.R i).length := by omega
          go_wp2
          go_roundg g
          case measure => omega
          case rel => exact ⟨i + 1, by omega, by go_num, Lib.hid HF.out.next⟩
        | succ gg =>
          have hkm : k < (s.R i).length := by omega
          obtain ⟨ga, rfl⟩ := HF.out.addr H0.out hi hv hkm
          obtain ⟨hth, hBg⟩ := HF.out.there H0.out hi hv hkm
          have hgb : ga ≠ hb := by have := hlt ga 0 _ _ hv; omega
          have HTH := Lib.hid hth
          have HV2 := Lib.hid hv
          clear hth hv hlt
          go_upto_region 7 with fail
          obtain ⟨wo, rfl⟩ : ∃ wo : World, wo = wr := ⟨_, rfl⟩
          have HNW := Lib.hid (HN.out.turned HF.out.turned fun g hg h => HFAR.out g hg h.1)
          have HB := Lib.hid (show wo.cell? ⟨hb, 0, none⟩ = _ ∧ wo.cell? ⟨hb, 2, none⟩ = _ from ⟨hb0, hb2⟩)
          go_region_law (first
            | (go_simp
               go_at_call 161
               refine (markNode_calls (s.num i) ⟨HN.out.1, HN.out.2.1⟩ _).mono ?_
               rintro _ w1 ⟨rfl, hb1⟩
               have hb0' := cell_keep hb1 (show wo.drew.cell? ⟨hb, 0, none⟩ = _ from hb0)
               have hb2' := cell_keep hb1 (show wo.drew.cell? ⟨hb, 2, none⟩ = _ from hb2)
               have HH1 := Lib.hid hb1
               have hfr' : RowFree w1 ga (k * 10) 10 := there_below hb1 (show wo.drew.there _ _ _ from HTH.out)
               clear hb1))
          all_goals
            have hp := (HF.out.keep (wr' := w1) ⟨HH1.out.os, HH1.out.tape, HH1.out.output, HH1.out.size, HH1.out.block⟩).put H0.out hi HV2.out hkm rfl
            skip
            go_wp2
            go_roundg gg
            case measure => omega
            case rel => exact ⟨k + 1, by omega, by go_num, Lib.hid hp, cell_cells hb0' (fun e => hgb e.symm) _ (mkN (s.num i)), cell_cells hb2' (fun e => hgb e.symm) _ (mkN (s.num i))⟩
set_option maxHeartbeats 2000000 in
theorem fillStep_calls (w : World) (B bk : Nat) (lab : Lab) (cs : Array Value) (s : KS) (hbk : w.heap[bk]? = some (.cells cs 53 (0, 0))) (hj : cs[12]? = some s.sv) (hlb : lab bk = (0, 1)) (hk : Kind w B lab 12 177 111 4 s) (h0 : s.d = 0) (hnum : ∀ x, x < s.N → NumOK w (s.num x)) (hfar : TabFar fun b => (lab b).1 = 12) (hN : s.N ≤ 1000000) :
    Calls Tryz.prog 83 #[.pointer (some ⟨bk, 0, none⟩)] w fun e w' => e = .returned (.tuple #[]) ∧ Kind w' B lab 12 177 111 4 { s with R := fun x => List.replicate (s.R x).length (mkS (s.num x)) } ∧ Turned (fun b => (lab b).1 = 12 ∧ (lab b).2 ≠ 0) w w' := by
  have hF := Fil.start mkS hk
  have hV : ∀ x, x < s.N → (∃ A c, s.V x = .slice A (s.R x).length c) ∧ s.L x = .slice none 0 0 ∧ (∀ g o n c, s.V x = .slice (some ⟨g, o, none⟩) n c → g < w.heap.size) := fun x hx => ⟨(hk.todo x (by omega) hx).1.len, (hk.todo x (by omega) hx).2, fun g o n c e => (hk.vlt hx g (by rw [e]; rfl)).2⟩
  have HS := Lib.hid (show ∀ x, x < s.N → (s.R x).length ≤ maxLen from fun x hx => (hk.todo x (by omega) hx).1.short)
  obtain ⟨A, c, hsv⟩ := own_len hk.held
  rw [s.rows_length] at hsv
  rw [hsv] at hj
  have HBK := Lib.hid hbk
  have HJ := Lib.hid hj
  have HLB := Lib.hid hlb
  have HNUM := Lib.hid hnum
  have H0 := Lib.hid h0
  have HSV := Lib.hid hsv
  have HV := Lib.hid hV
  have HFAR := Lib.hid hfar
  clear hbk hj hlb hnum h0 hk hsv hV hfar
  go_enter Tryz.func83, Tryz.ntmps83
  go_wp2
  go_loopg [2] s.N (fun g s2 wr => ∃ i : Nat, i + g = s.N ∧ s2 = .int .i64 i ∧ Hid (Fil w B lab 12 177 111 4 s mkS i 0 wr))
  case atStart => exact ⟨0, by omega, rfl, Lib.hid hF⟩
  case round =>
    clear hF
    obtain ⟨i, hg, rfl, HF⟩ := hrel
    have k1 := (cell_of_row wr bk 12 _ _ _ (HF.out.book (by decide) HLB.out HBK.out)).trans HJ.out
    cases gk with
    | zero =>
      obtain rfl : i = s.N := by omega
      go_wp2
      refine bodyPost_end (v := .tuple #[]) (by kernel_rfl) rfl ?_
      exact ⟨rfl, HF.out.done, HF.out.turned⟩
    | succ g =>
      obtain ⟨gs, c', e1, c0, c1, c2⟩ := HF.out.at (x := i) (by omega)
      rw [HSV.out] at e1
      cases e1
      obtain ⟨⟨Av, cv, hv⟩, hl, hlt⟩ := HV.out i (by omega)
      rw [hv] at c0
      rw [hl] at c1
      have hd : decide (i < s.N) = true := decide_eq_true (by omega)
      have hm := HS.out i (by omega)
      simp only [maxLen] at hm
      go_upto_region 4 with fail
      obtain ⟨wb, hwb⟩ : ∃ x, x = wr.alloc (.cells #[.slice Av (s.R i).length cv, .slice none 0 0, .int .i64 (s.num i)] 177) := ⟨_, rfl⟩
      have hb0 : wb.cell? ⟨wr.heap.size, 0, none⟩ = some (.slice Av (s.R i).length cv) := by rw [hwb, cell_of_row _ _ _ _ _ _ (heap_alloc_new wr _)]; rfl
      have hb2 : wb.cell? ⟨wr.heap.size, 2, none⟩ = some (.int .i64 (s.num i)) := by rw [hwb, cell_of_row _ _ _ _ _ _ (heap_alloc_new wr _)]; rfl
      have HFb := Lib.hid (HF.out.keep (wr' := wb) (by rw [hwb]; exact below_alloc (Below.refl _ _) _))
      have hsz := HF.out.turned.size
      rw [← hwb]
      obtain ⟨hb, hhb⟩ : ∃ x, x = wr.heap.size := ⟨_, rfl⟩
      rw [← hhb] at hb0 hb2 hsz
      rw [← hhb]
      have HN := Lib.hid (HNUM.out i (by omega))
      have hi : i < s.N := by omega
      clear hwb hhb k1 c0 c1 c2 HF
      go_wp2
      go_loopg [4] (s.R i).length (fun g s4 wi => ∃ k : Nat, k + g = (s.R i).length ∧ s4 = .int .i64 k ∧ Hid (Fil w B lab 12 177 111 4 s mkS i k wi) ∧ wi.cell? ⟨hb, 0, none⟩ = some (.slice Av (s.R i).length cv) ∧ wi.cell? ⟨hb, 2, none⟩ = some (.int .i64 (s.num i)))
      case atStart => exact ⟨0, by omega, rfl, HFb, hb0, hb2⟩
      case round =>
        clear HFb hb0 hb2
        obtain ⟨k, hkg, rfl, HF, hb0, hb2⟩ := hrel
        cases gk with
        | zero =>
          obtain rfl : k = (s.R i).length := by omega
          go_wp2
          go_roundg g
          case measure => omega
          case rel => exact ⟨i + 1, by omega, by go_num, Lib.hid HF.out.next⟩
        | succ gg =>
          have hkm : k < (s.R i).length := by omega
          obtain ⟨ga, rfl⟩ := HF.out.addr H0.out hi hv hkm
          obtain ⟨hth, hBg⟩ := HF.out.there H0.out hi hv hkm
          have hgb : ga ≠ hb := by have := hlt ga 0 _ _ hv; omega
          have HTH := Lib.hid hth
          have HV2 := Lib.hid hv
          clear hth hv hlt
          go_upto_region 7 with fail
          obtain ⟨wo, rfl⟩ : ∃ wo : World, wo = wr := ⟨_, rfl⟩
          have HNW := Lib.hid (HN.out.turned HF.out.turned fun g hg h => HFAR.out g hg h.1)
          have HB := Lib.hid (show wo.cell? ⟨hb, 0, none⟩ = _ ∧ wo.cell? ⟨hb, 2, none⟩ = _ from ⟨hb0, hb2⟩)
          go_region_law (first
            | (go_simp
               go_at_call 163
               refine (markStep_calls (s.num i) _ (HNW.out.keep (Below.refl _ _).drew)).mono ?_
               rintro _ w1 ⟨rfl, hb1⟩
               have hb0' := cell_keep hb1 (show wo.drew.cell? ⟨hb, 0, none⟩ = _ from hb0)
               have hb2' := cell_keep hb1 (show wo.drew.cell? ⟨hb, 2, none⟩ = _ from hb2)
               have HH1 := Lib.hid hb1
               have hfr' : RowFree w1 ga (k * 4) 4 := there_below hb1 (show wo.drew.there _ _ _ from HTH.out)
               clear hb1))
          all_goals
            have hp := (HF.out.keep (wr' := w1) ⟨HH1.out.os, HH1.out.tape, HH1.out.output, HH1.out.size, HH1.out.block⟩).put H0.out hi HV2.out hkm rfl
            skip
            go_wp2
            go_roundg gg
            case measure => omega
            case rel => exact ⟨k + 1, by omega, by go_num, Lib.hid hp, cell_cells hb0' (fun e => hgb e.symm) _ (mkS (s.num i)), cell_cells hb2' (fun e => hgb e.symm) _ (mkS (s.num i))⟩
end Go.Proofs.YtbfcfjgcmideeaaGreatDoor
namespace Go.Proofs.YtbfcfjgcmideeaaGreatDoor
open Go.RowKit
attribute [local go_sem] Later.cell_eq
theorem elem_rByte : Elem Tryz.prog 69 5 1 1 := Elem.mk' (z := .int .u8 0) Tryz.underlying69 (by kernel_rfl) rfl (by decide)
theorem elem_rEntry : Elem Tryz.prog 78 162 2 24 := Elem.mk' (z := .agg #[.string ⟨#[]⟩, .int .i64 0]) Tryz.underlying78 (by kernel_rfl) rfl (by decide)
theorem elem_rNode : Elem Tryz.prog 22 80 10 120 := Elem.mk' (z := .agg #[.int .u8 0, .int .i64 0, .int .i64 0, .int .i64 0, .int .i64 0, .int .i64 0, .slice none 0 0, .string ⟨#[]⟩, .slice none 0 0, .int .i64 0]) Tryz.underlying22 (by kernel_rfl) rfl (by decide)
theorem elem_rInt : Elem Tryz.prog 60 3 1 8 := Elem.mk' (z := .int .i64 0) Tryz.underlying60 (by kernel_rfl) rfl (by decide)
theorem elem_rText : Elem Tryz.prog 33 9 1 16 := Elem.mk' (z := .string ⟨#[]⟩) Tryz.underlying33 (by kernel_rfl) rfl (by decide)
theorem elem_rStep : Elem Tryz.prog 32 111 4 40 := Elem.mk' (z := .agg #[.string ⟨#[]⟩, .int .i64 0, .int .i64 0, .bool false]) Tryz.underlying32 (by kernel_rfl) rfl (by decide)
theorem markByte_lit (n : Int) (w : World) (hn : NumOK w n) :
    Calls Tryz.prog 152 #[.int .i64 n] w fun e w' => e = .returned (.int .u8 (1 + n % 250)) ∧ Below w.heap.size w w' := markByte_calls n ⟨hn.1, hn.2.1⟩ w
theorem markInt_lit (n : Int) (w : World) (hn : NumOK w n) :
    Calls Tryz.prog 153 #[.int .i64 n] w fun e w' => e = .returned (.int .i64 (-1000 - n)) ∧ Below w.heap.size w w' := markInt_calls n ⟨hn.1, hn.2.1⟩ w
theorem markText_lit (n : Int) (w : World) (hn : NumOK w n) :
    Calls Tryz.prog 154 #[.int .i64 n] w fun e w' => e = .returned (.string (wordS n)) ∧ Below w.heap.size w w' := markText_calls n w hn
theorem markEntry_lit (n : Int) (w : World) (hn : NumOK w n) :
    Calls Tryz.prog 160 #[.int .i64 n] w fun e w' => e = .returned (.agg #[.string (wordS n), .int .i64 0]) ∧ Below w.heap.size w w' := markEntry_calls n w hn
theorem markStep_lit (n : Int) (w : World) (hn : NumOK w n) :
    Calls Tryz.prog 163 #[.int .i64 n] w fun e w' => e = .returned (.agg #[.string (wordS n), .int .i64 0, .int .i64 0, .bool false]) ∧ Below w.heap.size w w' := markStep_calls n w hn
theorem markNode_lit (n : Int) (w : World) (hn : NumOK w n) :
    Calls Tryz.prog 161 #[.int .i64 n] w fun e w' => e = .returned (.agg #[.int .u8 0, .int .i64 (-1000 - n), .int .i64 0, .int .i64 0, .int .i64 0, .int .i64 0, .slice none 0 0, .string ⟨#[]⟩, .slice none 0 0, .int .i64 0]) ∧ Below w.heap.size w w' := markNode_calls n ⟨hn.1, hn.2.1⟩ w
set_option maxHeartbeats 2000000 in
theorem growInt_calls (w : World) (B bk : Nat) (lab : Lab) (cs : Array Value) (s : KS) (hB : B ≤ w.heap.size) (hbk : w.heap[bk]? = some (.cells cs 53 (0, 0))) (hj : cs[2]? = some s.sv) (hlb : lab bk = (0, 1)) (hk : Kind w B lab 2 184 3 1 s) (h0 : s.d = 0) (hnum : ∀ x, x < s.N → NumOK w (s.num x)) (hfar : TabFar fun b => (lab b).1 = 2) (hN : s.N ≤ 1000000) (hlen : ∀ x, x < s.N → (s.R x).length ≤ 1000000) (fresh : ∀ k, w.heap.size ≤ k → lab k = (0, 0)) :
    Calls Tryz.prog 85 #[.pointer (some ⟨bk, 0, none⟩)] w fun e w' => e = .returned (.tuple #[]) ∧ Gro w B lab 2 184 3 1 s mkI s.N w' := by
  have hF := Gro.start mkI hk h0 fresh
  have hV : ∀ x, x < s.N → ∃ A c, s.V x = .slice A (s.R x).length c := fun x hx => (hk.todo x (by omega) hx).1.len
  obtain ⟨A, c, hsv⟩ := own_len hk.held
  rw [s.rows_length] at hsv
  rw [hsv] at hj
  have hnb : ¬ (lab bk).1 = 2 := by rw [hlb]; decide
  have HBK := Lib.hid hbk
  have HJ := Lib.hid hj
  have HNB := Lib.hid hnb
  have HNUM := Lib.hid hnum
  have HSV := Lib.hid hsv
  have HV := Lib.hid hV
  have HL := Lib.hid hlen
  have HFAR := Lib.hid hfar
  clear hbk hj hlb hnum h0 hk hsv hV hlen fresh hnb hfar
  go_enter Tryz.func85, Tryz.ntmps85
  go_wp2
  go_loopg [2] s.N (fun g s2 wr => ∃ i : Nat, i + g = s.N ∧ s2 = .int .i64 i ∧ Hid (Gro w B lab 2 184 3 1 s mkI i wr))
  case atStart => exact ⟨0, by omega, rfl, Lib.hid hF⟩
  case round =>
    clear hF
    obtain ⟨i, hg, rfl, HF⟩ := hrel
    have k1 := (cell_of_row wr bk 2 _ _ _ (turned_book HF.out.turned HNB.out HBK.out)).trans HJ.out
    cases gk with
    | zero =>
      obtain rfl : i = s.N := by omega
      go_wp2
      refine bodyPost_end (v := .tuple #[]) (by kernel_rfl) rfl ?_
      exact ⟨rfl, HF.out⟩
    | succ g =>
      obtain ⟨gs, c', l, e1, c0, c1, c2, hl⟩ := HF.out.head (x := i) (by omega)
      rw [HSV.out] at e1
      cases e1
      obtain ⟨Av, cv, hv⟩ := HV.out i (by omega)
      rw [hv] at c0
      rw [hl (Nat.le_refl _)] at c1
      have hd : decide (i < s.N) = true := decide_eq_true (by omega)
      go_upto_region 4 with fail
      have hin := HF.out.into (show i < s.N by omega) (.cells #[.slice Av (s.R i).length cv, .slice none 0 0, .int .i64 (s.num i)] 184)
      rw [hv] at hin
      obtain ⟨wb, hwb⟩ : ∃ x, x = wr.alloc (.cells #[.slice Av (s.R i).length cv, .slice none 0 0, .int .i64 (s.num i)] 184) := ⟨_, rfl⟩
      rw [← hwb] at hin
      rw [← hwb]
      obtain ⟨hb, hhb⟩ : ∃ x, x = wr.heap.size := ⟨_, rfl⟩
      rw [← hhb] at hin
      rw [← hhb]
      have hb0 := cell_of_row wb hb 0 _ _ _ hin.box
      have HN := Lib.hid (HNUM.out i (by omega))
      have HLI := Lib.hid (HL.out i (by omega))
      have HIN := Lib.hid hin
      clear hwb hhb k1 c0 c1 c2 HF hin
      go_wp2
      go_loopg [4, 5] 40 (fun g s4 s5 wi => ∃ k : Nat, k + g = 40 ∧ s5 = .int .i64 k ∧ Hid (GroIn w B lab 2 184 3 1 s mkI i k s4 hb (.cells #[.slice Av (s.R i).length cv, .slice none 0 0, .int .i64 (s.num i)] 184 (0, 0)) wi))
      case atStart => exact ⟨0, by omega, rfl, HIN⟩
      case round =>
        clear HIN hb0
        obtain ⟨k, hkg, rfl, HF⟩ := hrel
        obtain ⟨A4, c4, h4⟩ := HF.out.own.len
        rw [List.length_append, List.length_replicate] at h4
        subst h4
        cases gk with
        | zero =>
          obtain rfl : k = 40 := by omega
          have k1 := (cell_of_row wr bk 2 _ _ _ (turned_book HF.out.turned HNB.out HBK.out)).trans HJ.out
          obtain ⟨gs', c', l', e1, c1, f1⟩ := HF.out.head
          rw [HSV.out] at e1
          cases e1
          go_wp2
          go_roundg g
          case measure => omega
          case rel => exact ⟨i + 1, by omega, by go_num, Lib.hid (HF.out.out HSV.out)⟩
        | succ gg =>
          have c2 : wr.cell? ⟨hb, 2, none⟩ = some (.int .i64 (s.num i)) := cell_of_row wr hb 2 _ _ _ HF.out.box
          go_wp2_with (first
            | (go_at_call 153
               refine (markInt_lit (s.num i) _ (HN.out.turned HF.out.turned HFAR.out)).mono ?_
               rintro _ w1 ⟨rfl, hb1⟩
               have HF1 := Lib.hid (HF.out.keep hb1)
               have hB1 : B ≤ w1.heap.size := Nat.le_trans hB (Nat.le_trans HF.out.turned.size hb1.size)
               have HH1 := Lib.hid hb1
               clear hb1)
            | (at_builtin
               refine wpList_append_grow rfl _ _ 60 rfl elem_rInt ((s.R i).length + k) (by rw [List.length_append, List.length_replicate]) (mkI (s.num i)) rfl HF1.out.own hB1 rfl rfl (by simp [mkI, Value.oneCell']) (by have := HLI.out; unfold maxLen; omega) (by have := HLI.out; omega) ?_
               rintro _ w2 hown2 hg2 hv2 ⟨A5, c5, rfl⟩
               have HF2 := Lib.hid (HF1.out.step hown2 hg2 hv2)
               clear hown2 hg2 hv2))
          go_roundg gg
          case measure => omega
          case rel => exact ⟨k + 1, by omega, by go_num, HF2⟩
set_option maxHeartbeats 2000000 in
theorem growText_calls (w : World) (B bk : Nat) (lab : Lab) (cs : Array Value) (s : KS) (hB : B ≤ w.heap.size) (hbk : w.heap[bk]? = some (.cells cs 53 (0, 0))) (hj : cs[3]? = some s.sv) (hlb : lab bk = (0, 1)) (hk : Kind w B lab 3 179 9 1 s) (h0 : s.d = 0) (hnum : ∀ x, x < s.N → NumOK w (s.num x)) (hfar : TabFar fun b => (lab b).1 = 3) (hN : s.N ≤ 1000000) (hlen : ∀ x, x < s.N → (s.R x).length ≤ 1000000) (fresh : ∀ k, w.heap.size ≤ k → lab k = (0, 0)) :
    Calls Tryz.prog 86 #[.pointer (some ⟨bk, 0, none⟩)] w fun e w' => e = .returned (.tuple #[]) ∧ Gro w B lab 3 179 9 1 s mkT s.N w' := by
  have hF := Gro.start mkT hk h0 fresh
  have hV : ∀ x, x < s.N → ∃ A c, s.V x = .slice A (s.R x).length c := fun x hx => (hk.todo x (by omega) hx).1.len
  obtain ⟨A, c, hsv⟩ := own_len hk.held
  rw [s.rows_length] at hsv
  rw [hsv] at hj
  have hnb : ¬ (lab bk).1 = 3 := by rw [hlb]; decide
  have HBK := Lib.hid hbk
  have HJ := Lib.hid hj
  have HNB := Lib.hid hnb
  have HNUM := Lib.hid hnum
  have HSV := Lib.hid hsv
  have HV := Lib.hid hV
  have HL := Lib.hid hlen
  have HFAR := Lib.hid hfar
  clear hbk hj hlb hnum h0 hk hsv hV hlen fresh hnb hfar
  go_enter Tryz.func86, Tryz.ntmps86
  go_wp2
  go_loopg [2] s.N (fun g s2 wr => ∃ i : Nat, i + g = s.N ∧ s2 = .int .i64 i ∧ Hid (Gro w B lab 3 179 9 1 s mkT i wr))
  case atStart => exact ⟨0, by omega, rfl, Lib.hid hF⟩
  case round =>
    clear hF
    obtain ⟨i, hg, rfl, HF⟩ := hrel
    have k1 := (cell_of_row wr bk 3 _ _ _ (turned_book HF.out.turned HNB.out HBK.out)).trans HJ.out
    cases gk with
    | zero =>
      obtain rfl : i = s.N := by omega
      go_wp2
      refine bodyPost_end (v := .tuple #[]) (by kernel_rfl) rfl ?_
      exact ⟨rfl, HF.out⟩
    | succ g =>
      obtain ⟨gs, c', l, e1, c0, c1, c2, hl⟩ := HF.out.head (x := i) (by omega)
      rw [HSV.out] at e1
      cases e1
      obtain ⟨Av, cv, hv⟩ := HV.out i (by omega)
      rw [hv] at c0
      rw [hl (Nat.le_refl _)] at c1
      have hd : decide (i < s.N) = true := decide_eq_true (by omega)
      go_upto_region 4 with fail
      have hin := HF.out.into (show i < s.N by omega) (.cells #[.slice Av (s.R i).length cv, .slice none 0 0, .int .i64 (s.num i)] 179)
      rw [hv] at hin
      obtain ⟨wb, hwb⟩ : ∃ x, x = wr.alloc (.cells #[.slice Av (s.R i).length cv, .slice none 0 0, .int .i64 (s.num i)] 179) := ⟨_, rfl⟩
      rw [← hwb] at hin
      rw [← hwb]
      obtain ⟨hb, hhb⟩ : ∃ x, x = wr.heap.size := ⟨_, rfl⟩
      rw [← hhb] at hin
      rw [← hhb]
      have hb0 := cell_of_row wb hb 0 _ _ _ hin.box
      have HN := Lib.hid (HNUM.out i (by omega))
      have HLI := Lib.hid (HL.out i (by omega))
      have HIN := Lib.hid hin
      clear hwb hhb k1 c0 c1 c2 HF hin
      go_wp2
      go_loopg [4, 5] 40 (fun g s4 s5 wi => ∃ k : Nat, k + g = 40 ∧ s5 = .int .i64 k ∧ Hid (GroIn w B lab 3 179 9 1 s mkT i k s4 hb (.cells #[.slice Av (s.R i).length cv, .slice none 0 0, .int .i64 (s.num i)] 179 (0, 0)) wi))
      case atStart => exact ⟨0, by omega, rfl, HIN⟩
      case round =>
        clear HIN hb0
        obtain ⟨k, hkg, rfl, HF⟩ := hrel
        obtain ⟨A4, c4, h4⟩ := HF.out.own.len
        rw [List.length_append, List.length_replicate] at h4
        subst h4
        cases gk with
        | zero =>
          obtain rfl : k = 40 := by omega
          have k1 := (cell_of_row wr bk 3 _ _ _ (turned_book HF.out.turned HNB.out HBK.out)).trans HJ.out
          obtain ⟨gs', c', l', e1, c1, f1⟩ := HF.out.head
          rw [HSV.out] at e1
          cases e1
          go_wp2
          go_roundg g
          case measure => omega
          case rel => exact ⟨i + 1, by omega, by go_num, Lib.hid (HF.out.out HSV.out)⟩
        | succ gg =>
          have c2 : wr.cell? ⟨hb, 2, none⟩ = some (.int .i64 (s.num i)) := cell_of_row wr hb 2 _ _ _ HF.out.box
          go_wp2_with (first
            | (go_at_call 154
               refine (markText_lit (s.num i) _ (HN.out.turned HF.out.turned HFAR.out)).mono ?_
               rintro _ w1 ⟨rfl, hb1⟩
               have HF1 := Lib.hid (HF.out.keep hb1)
               have hB1 : B ≤ w1.heap.size := Nat.le_trans hB (Nat.le_trans HF.out.turned.size hb1.size)
               have HH1 := Lib.hid hb1
               clear hb1)
            | (at_builtin
               refine wpList_append_grow rfl _ _ 33 rfl elem_rText ((s.R i).length + k) (by rw [List.length_append, List.length_replicate]) (mkT (s.num i)) rfl HF1.out.own hB1 rfl rfl (by simp [mkT, Value.oneCell']) (by have := HLI.out; unfold maxLen; omega) (by have := HLI.out; omega) ?_
               rintro _ w2 hown2 hg2 hv2 ⟨A5, c5, rfl⟩
               have HF2 := Lib.hid (HF1.out.step hown2 hg2 hv2)
               clear hown2 hg2 hv2))
          go_roundg gg
          case measure => omega
          case rel => exact ⟨k + 1, by omega, by go_num, HF2⟩
set_option maxHeartbeats 2000000 in
theorem growStep_calls (w : World) (B bk : Nat) (lab : Lab) (cs : Array Value) (s : KS) (hB : B ≤ w.heap.size) (hbk : w.heap[bk]? = some (.cells cs 53 (0, 0))) (hj : cs[12]? = some s.sv) (hlb : lab bk = (0, 1)) (hk : Kind w B lab 12 177 111 4 s) (h0 : s.d = 0) (hnum : ∀ x, x < s.N → NumOK w (s.num x)) (hfar : TabFar fun b => (lab b).1 = 12) (hN : s.N ≤ 1000000) (hlen : ∀ x, x < s.N → (s.R x).length ≤ 1000000) (fresh : ∀ k, w.heap.size ≤ k → lab k = (0, 0)) :
    Calls Tryz.prog 95 #[.pointer (some ⟨bk, 0, none⟩)] w fun e w' => e = .returned (.tuple #[]) ∧ Gro w B lab 12 177 111 4 s mkS s.N w' := by
  have hF := Gro.start mkS hk h0 fresh
  have hV : ∀ x, x < s.N → ∃ A c, s.V x = .slice A (s.R x).length c := fun x hx => (hk.todo x (by omega) hx).1.len
  obtain ⟨A, c, hsv⟩ := own_len hk.held
  rw [s.rows_length] at hsv
  rw [hsv] at hj
  have hnb : ¬ (lab bk).1 = 12 := by rw [hlb]; decide
  have HBK := Lib.hid hbk
  have HJ := Lib.hid hj
  have HNB := Lib.hid hnb
  have HNUM := Lib.hid hnum
  have HSV := Lib.hid hsv
  have HV := Lib.hid hV
  have HL := Lib.hid hlen
  have HFAR := Lib.hid hfar
  clear hbk hj hlb hnum h0 hk hsv hV hlen fresh hnb hfar
  go_enter Tryz.func95, Tryz.ntmps95
  go_wp2
  go_loopg [2] s.N (fun g s2 wr => ∃ i : Nat, i + g = s.N ∧ s2 = .int .i64 i ∧ Hid (Gro w B lab 12 177 111 4 s mkS i wr))
  case atStart => exact ⟨0, by omega, rfl, Lib.hid hF⟩
  case round =>
    clear hF
    obtain ⟨i, hg, rfl, HF⟩ := hrel
    have k1 := (cell_of_row wr bk 12 _ _ _ (turned_book HF.out.turned HNB.out HBK.out)).trans HJ.out
    cases gk with
    | zero =>
      obtain rfl : i = s.N := by omega
      go_wp2
      refine bodyPost_end (v := .tuple #[]) (by kernel_rfl) rfl ?_
      exact ⟨rfl, HF.out⟩
    | succ g =>
      obtain ⟨gs, c', l, e1, c0, c1, c2, hl⟩ := HF.out.head (x := i) (by omega)
      rw [HSV.out] at e1
      cases e1
      obtain ⟨Av, cv, hv⟩ := HV.out i (by omega)
      rw [hv] at c0
      rw [hl (Nat.le_refl _)] at c1
      have hd : decide (i < s.N) = true := decide_eq_true (by omega)
      go_upto_region 4 with fail
      have hin := HF.out.into (show i < s.N by omega) (.cells #[.slice Av (s.R i).length cv, .slice none 0 0, .int .i64 (s.num i)] 177)
      rw [hv] at hin
      obtain ⟨wb, hwb⟩ : ∃ x, x = wr.alloc (.cells #[.slice Av (s.R i).length cv, .slice none 0 0, .int .i64 (s.num i)] 177) := ⟨_, rfl⟩
      rw [← hwb] at hin
      rw [← hwb]
      obtain ⟨hb, hhb⟩ : ∃ x, x = wr.heap.size := ⟨_, rfl⟩
      rw [← hhb] at hin
      rw [← hhb]
      have hb0 := cell_of_row wb hb 0 _ _ _ hin.box
      have HN := Lib.hid (HNUM.out i (by omega))
      have HLI := Lib.hid (HL.out i (by omega))
      have HIN := Lib.hid hin
      clear hwb hhb k1 c0 c1 c2 HF hin
      go_wp2
      go_loopg [4, 5] 40 (fun g s4 s5 wi => ∃ k : Nat, k + g = 40 ∧ s5 = .int .i64 k ∧ Hid (GroIn w B lab 12 177 111 4 s mkS i k s4 hb (.cells #[.slice Av (s.R i).length cv, .slice none 0 0, .int .i64 (s.num i)] 177 (0, 0)) wi))
      case atStart => exact ⟨0, by omega, rfl, HIN⟩
      case round =>
        clear HIN hb0
        obtain ⟨k, hkg, rfl, HF⟩ := hrel
        obtain ⟨A4, c4, h4⟩ := HF.out.own.len
        rw [List.length_append, List.length_replicate] at h4
        subst h4
        cases gk with
        | zero =>
          obtain rfl : k = 40 := by omega
          have k1 := (cell_of_row wr bk 12 _ _ _ (turned_book HF.out.turned HNB.out HBK.out)).trans HJ.out
          obtain ⟨gs', c', l', e1, c1, f1⟩ := HF.out.head
          rw [HSV.out] at e1
          cases e1
          go_wp2
          go_roundg g
          case measure => omega
          case rel => exact ⟨i + 1, by omega, by go_num, Lib.hid (HF.out.out HSV.out)⟩
        | succ gg =>
          have c2 : wr.cell? ⟨hb, 2, none⟩ = some (.int .i64 (s.num i)) := cell_of_row wr hb 2 _ _ _ HF.out.box
          go_wp2_with (first
            | (go_at_call 163
               refine (markStep_lit (s.num i) _ (HN.out.turned HF.out.turned HFAR.out)).mono ?_
               rintro _ w1 ⟨rfl, hb1⟩
               have HF1 := Lib.hid (HF.out.keep hb1)
               have hB1 : B ≤ w1.heap.size := Nat.le_trans hB (Nat.le_trans HF.out.turned.size hb1.size)
               have HH1 := Lib.hid hb1
               clear hb1)
            | (at_builtin
               refine wpList_append_grow rfl _ _ 32 rfl elem_rStep ((s.R i).length + k) (by rw [List.length_append, List.length_replicate]) (mkS (s.num i)) rfl HF1.out.own hB1 rfl rfl (by simp [mkS, Value.oneCell']) (by have := HLI.out; unfold maxLen; omega) (by have := HLI.out; omega) ?_
               rintro _ w2 hown2 hg2 hv2 ⟨A5, c5, rfl⟩
               have HF2 := Lib.hid (HF1.out.step hown2 hg2 hv2)
               clear hown2 hg2 hv2))
          go_roundg gg
          case measure => omega
          case rel => exact ⟨k + 1, by omega, by go_num, HF2⟩
set_option maxHeartbeats 2000000 in
theorem growByte_calls (w : World) (B bk : Nat) (lab : Lab) (cs : Array Value) (s : KS) (hB : B ≤ w.heap.size) (hbk : w.heap[bk]? = some (.cells cs 53 (0, 0))) (hj : cs[1]? = some s.sv) (hlb : lab bk = (0, 1)) (hk : Kind w B lab 1 181 5 1 s) (h0 : s.d = 0) (hnum : ∀ x, x < s.N → NumOK w (s.num x)) (hfar : TabFar fun b => (lab b).1 = 1) (hN : s.N ≤ 1000000) (hlen : ∀ x, x < s.N → (s.R x).length ≤ 1000000) (fresh : ∀ k, w.heap.size ≤ k → lab k = (0, 0)) :
    Calls Tryz.prog 84 #[.pointer (some ⟨bk, 0, none⟩)] w fun e w' => e = .returned (.tuple #[]) ∧ Gro w B lab 1 181 5 1 s mkB s.N w' := by
  have hF := Gro.start mkB hk h0 fresh
  have hV : ∀ x, x < s.N → ∃ A c, s.V x = .slice A (s.R x).length c := fun x hx => (hk.todo x (by omega) hx).1.len
  obtain ⟨A, c, hsv⟩ := own_len hk.held
  rw [s.rows_length] at hsv
  rw [hsv] at hj
  have hnb : ¬ (lab bk).1 = 1 := by rw [hlb]; decide
  have HBK := Lib.hid hbk
  have HJ := Lib.hid hj
  have HNB := Lib.hid hnb
  have HNUM := Lib.hid hnum
  have HSV := Lib.hid hsv
  have HV := Lib.hid hV
  have HL := Lib.hid hlen
  have HFAR := Lib.hid hfar
  clear hbk hj hlb hnum h0 hk hsv hV hlen fresh hnb hfar
  go_enter Tryz.func84, Tryz.ntmps84
  go_wp2
  go_loopg [2] s.N (fun g s2 wr => ∃ i : Nat, i + g = s.N ∧ s2 = .int .i64 i ∧ Hid (Gro w B lab 1 181 5 1 s mkB i wr))
  case atStart => exact ⟨0, by omega, rfl, Lib.hid hF⟩
  case round =>
    clear hF
    obtain ⟨i, hg, rfl, HF⟩ := hrel
    have k1 := (cell_of_row wr bk 1 _ _ _ (turned_book HF.out.turned HNB.out HBK.out)).trans HJ.out
    cases gk with
    | zero =>
      obtain rfl : i = s.N := by omega
      go_wp2
      refine bodyPost_end (v := .tuple #[]) (by kernel_rfl) rfl ?_
      exact ⟨rfl, HF.out⟩
    | succ g =>
      obtain ⟨gs, c', l, e1, c0, c1, c2, hl⟩ := HF.out.head (x := i) (by omega)
      rw [HSV.out] at e1
      cases e1
      obtain ⟨Av, cv, hv⟩ := HV.out i (by omega)
      rw [hv] at c0
      rw [hl (Nat.le_refl _)] at c1
      have hd : decide (i < s.N) = true := decide_eq_true (by omega)
      go_upto_region 4 with fail
      have hin := HF.out.into (show i < s.N by omega) (.cells #[.slice Av (s.R i).length cv, .slice none 0 0, .int .i64 (s.num i)] 181)
      rw [hv] at hin
      obtain ⟨wb, hwb⟩ : ∃ x, x = wr.alloc (.cells #[.slice Av (s.R i).length cv, .slice none 0 0, .int .i64 (s.num i)] 181) := ⟨_, rfl⟩
      rw [← hwb] at hin
      rw [← hwb]
      obtain ⟨hb, hhb⟩ : ∃ x, x = wr.heap.size := ⟨_, rfl⟩
      rw [← hhb] at hin
      rw [← hhb]
      have hb0 := cell_of_row wb hb 0 _ _ _ hin.box
      have HN := Lib.hid (HNUM.out i (by omega))
      have HLI := Lib.hid (HL.out i (by omega))
      have HIN := Lib.hid hin
      clear hwb hhb k1 c0 c1 c2 HF hin
      go_wp2
      go_loopg [4, 5] 40 (fun g s4 s5 wi => ∃ k : Nat, k + g = 40 ∧ s5 = .int .i64 k ∧ Hid (GroIn w B lab 1 181 5 1 s mkB i k s4 hb (.cells #[.slice Av (s.R i).length cv, .slice none 0 0, .int .i64 (s.num i)] 181 (0, 0)) wi))
      case atStart => exact ⟨0, by omega, rfl, HIN⟩
      case round =>
        clear HIN hb0
        obtain ⟨k, hkg, rfl, HF⟩ := hrel
        obtain ⟨A4, c4, h4⟩ := HF.out.own.len
        rw [List.length_append, List.length_replicate] at h4
        subst h4
        cases gk with
        | zero =>
          obtain rfl : k = 40 := by omega
          have k1 := (cell_of_row wr bk 1 _ _ _ (turned_book HF.out.turned HNB.out HBK.out)).trans HJ.out
          obtain ⟨gs', c', l', e1, c1, f1⟩ := HF.out.head
          rw [HSV.out] at e1
          cases e1
          go_wp2
          go_roundg g
          case measure => omega
          case rel => exact ⟨i + 1, by omega, by go_num, Lib.hid (HF.out.out HSV.out)⟩
        | succ gg =>
          have c2 : wr.cell? ⟨hb, 2, none⟩ = some (.int .i64 (s.num i)) := cell_of_row wr hb 2 _ _ _ HF.out.box
          go_wp2_with (first
            | (go_at_call 152
               refine (markByte_lit (s.num i) _ (HN.out.turned HF.out.turned HFAR.out)).mono ?_
               rintro _ w1 ⟨rfl, hb1⟩
               have HF1 := Lib.hid (HF.out.keep hb1)
               have hB1 : B ≤ w1.heap.size := Nat.le_trans hB (Nat.le_trans HF.out.turned.size hb1.size)
               have HH1 := Lib.hid hb1
               clear hb1)
            | (at_builtin
               refine wpList_append_grow rfl _ _ 69 rfl elem_rByte ((s.R i).length + k) (by rw [List.length_append, List.length_replicate]) (mkB (s.num i)) rfl HF1.out.own hB1 rfl rfl (by simp [mkB, Value.oneCell']) (by have := HLI.out; unfold maxLen; omega) (by have := HLI.out; omega) ?_
               rintro _ w2 hown2 hg2 hv2 ⟨A5, c5, rfl⟩
               have HF2 := Lib.hid (HF1.out.step hown2 hg2 hv2)
               clear hown2 hg2 hv2))
          go_roundg gg
          case measure => omega
          case rel => exact ⟨k + 1, by omega, by go_num, HF2⟩
set_option maxHeartbeats 2000000 in
theorem growEntry_calls (w : World) (B bk : Nat) (lab : Lab) (cs : Array Value) (s : KS) (hB : B ≤ w.heap.size) (hbk : w.heap[bk]? = some (.cells cs 53 (0, 0))) (hj : cs[9]? = some s.sv) (hlb : lab bk = (0, 1)) (hk : Kind w B lab 9 214 162 2 s) (h0 : s.d = 0) (hnum : ∀ x, x < s.N → NumOK w (s.num x)) (hfar : TabFar fun b => (lab b).1 = 9) (hN : s.N ≤ 1000000) (hlen : ∀ x, x < s.N → (s.R x).length ≤ 1000000) (fresh : ∀ k, w.heap.size ≤ k → lab k = (0, 0)) :
    Calls Tryz.prog 92 #[.pointer (some ⟨bk, 0, none⟩)] w fun e w' => e = .returned (.tuple #[]) ∧ Gro w B lab 9 214 162 2 s mkE s.N w' := by
  have hF := Gro.start mkE hk h0 fresh
  have hV : ∀ x, x < s.N → ∃ A c, s.V x = .slice A (s.R x).length c := fun x hx => (hk.todo x (by omega) hx).1.len
  obtain ⟨A, c, hsv⟩ := own_len hk.held
  rw [s.rows_length] at hsv
  rw [hsv] at hj
  have hnb : ¬ (lab bk).1 = 9 := by rw [hlb]; decide
  have HBK := Lib.hid hbk
  have HJ := Lib.hid hj
  have HNB := Lib.hid hnb
  have HNUM := Lib.hid hnum
  have HSV := Lib.hid hsv
  have HV := Lib.hid hV
  have HL := Lib.hid hlen
  have HFAR := Lib.hid hfar
  clear hbk hj hlb hnum h0 hk hsv hV hlen fresh hnb hfar
  go_enter Tryz.func92, Tryz.ntmps92
  go_wp2
  go_loopg [2] s.N (fun g s2 wr => ∃ i : Nat, i + g = s.N ∧ s2 = .int .i64 i ∧ Hid (Gro w B lab 9 214 162 2 s mkE i wr))
  case atStart => exact ⟨0, by omega, rfl, Lib.hid hF⟩
  case round =>
    clear hF
    obtain ⟨i, hg, rfl, HF⟩ := hrel
    have k1 := (cell_of_row wr bk 9 _ _ _ (turned_book HF.out.turned HNB.out HBK.out)).trans HJ.out
    cases gk with
    | zero =>
      obtain rfl : i = s.N := by omega
      go_wp2
      refine bodyPost_end (v := .tuple #[]) (by kernel_rfl) rfl ?_
      exact ⟨rfl, HF.out⟩
    | succ g =>
      obtain ⟨gs, c', l, e1, c0, c1, c2, hl⟩ := HF.out.head (x := i) (by omega)
      rw [HSV.out] at e1
      cases e1
      obtain ⟨Av, cv, hv⟩ := HV.out i (by omega)
      rw [hv] at c0
      rw [hl (Nat.le_refl _)] at c1
      have hd : decide (i < s.N) = true := decide_eq_true (by omega)
      go_upto_region 4 with fail
      have hin := HF.out.into (show i < s.N by omega) (.cells #[.slice Av (s.R i).length cv, .slice none 0 0, .int .i64 (s.num i)] 214)
      rw [hv] at hin
      obtain ⟨wb, hwb⟩ : ∃ x, x = wr.alloc (.cells #[.slice Av (s.R i).length cv, .slice none 0 0, .int .i64 (s.num i)] 214) := ⟨_, rfl⟩
      rw [← hwb] at hin
      rw [← hwb]
      obtain ⟨hb, hhb⟩ : ∃ x, x = wr.heap.size := ⟨_, rfl⟩
      rw [← hhb] at hin
      rw [← hhb]
      have hb0 := cell_of_row wb hb 0 _ _ _ hin.box
      have HN := Lib.hid (HNUM.out i (by omega))
      have HLI := Lib.hid (HL.out i (by omega))
      have HIN := Lib.hid hin
      clear hwb hhb k1 c0 c1 c2 HF hin
      go_wp2
      go_loopg [4, 5] 40 (fun g s4 s5 wi => ∃ k : Nat, k + g = 40 ∧ s5 = .int .i64 k ∧ Hid (GroIn w B lab 9 214 162 2 s mkE i k s4 hb (.cells #[.slice Av (s.R i).length cv, .slice none 0 0, .int .i64 (s.num i)] 214 (0, 0)) wi))
      case atStart => exact ⟨0, by omega, rfl, HIN⟩
      case round =>
        clear HIN hb0
        obtain ⟨k, hkg, rfl, HF⟩ := hrel
        obtain ⟨A4, c4, h4⟩ := HF.out.own.len
        rw [List.length_append, List.length_replicate] at h4
        subst h4
        cases gk with
        | zero =>
          obtain rfl : k = 40 := by omega
          have k1 := (cell_of_row wr bk 9 _ _ _ (turned_book HF.out.turned HNB.out HBK.out)).trans HJ.out
          obtain ⟨gs', c', l', e1, c1, f1⟩ := HF.out.head
          rw [HSV.out] at e1
          cases e1
          go_wp2
          go_roundg g
          case measure => omega
          case rel => exact ⟨i + 1, by omega, by go_num, Lib.hid (HF.out.out HSV.out)⟩
        | succ gg =>
          have c2 : wr.cell? ⟨hb, 2, none⟩ = some (.int .i64 (s.num i)) := cell_of_row wr hb 2 _ _ _ HF.out.box
          go_wp2_with (first
            | (go_at_call 160
               refine (markEntry_lit (s.num i) _ (HN.out.turned HF.out.turned HFAR.out)).mono ?_
               rintro _ w1 ⟨rfl, hb1⟩
               have HF1 := Lib.hid (HF.out.keep hb1)
               have hB1 : B ≤ w1.heap.size := Nat.le_trans hB (Nat.le_trans HF.out.turned.size hb1.size)
               have HH1 := Lib.hid hb1
               clear hb1)
            | (at_builtin
               refine wpList_append_grow rfl _ _ 78 rfl elem_rEntry ((s.R i).length + k) (by rw [List.length_append, List.length_replicate]) (mkE (s.num i)) rfl HF1.out.own hB1 rfl rfl (by simp [mkE, Value.oneCell']) (by have := HLI.out; unfold maxLen; omega) (by have := HLI.out; omega) ?_
               rintro _ w2 hown2 hg2 hv2 ⟨A5, c5, rfl⟩
               have HF2 := Lib.hid (HF1.out.step hown2 hg2 hv2)
               clear hown2 hg2 hv2))
          go_roundg gg
          case measure => omega
          case rel => exact ⟨k + 1, by omega, by go_num, HF2⟩
set_option maxHeartbeats 2000000 in
theorem growNode_calls (w : World) (B bk : Nat) (lab : Lab) (cs : Array Value) (s : KS) (hB : B ≤ w.heap.size) (hbk : w.heap[bk]? = some (.cells cs 53 (0, 0))) (hj : cs[10]? = some s.sv) (hlb : lab bk = (0, 1)) (hk : Kind w B lab 10 217 80 10 s) (h0 : s.d = 0) (hnum : ∀ x, x < s.N → NumOK w (s.num x)) (hfar : TabFar fun b => (lab b).1 = 10) (hN : s.N ≤ 1000000) (hlen : ∀ x, x < s.N → (s.R x).length ≤ 1000000) (fresh : ∀ k, w.heap.size ≤ k → lab k = (0, 0)) :
    Calls Tryz.prog 93 #[.pointer (some ⟨bk, 0, none⟩)] w fun e w' => e = .returned (.tuple #[]) ∧ Gro w B lab 10 217 80 10 s mkN s.N w' := by
  have hF := Gro.start mkN hk h0 fresh
  have hV : ∀ x, x < s.N → ∃ A c, s.V x = .slice A (s.R x).length c := fun x hx => (hk.todo x (by omega) hx).1.len
  obtain ⟨A, c, hsv⟩ := own_len hk.held
  rw [s.rows_length] at hsv
  rw [hsv] at hj
  have hnb : ¬ (lab bk).1 = 10 := by rw [hlb]; decide
  have HBK := Lib.hid hbk
  have HJ := Lib.hid hj
  have HNB := Lib.hid hnb
  have HNUM := Lib.hid hnum
  have HSV := Lib.hid hsv
  have HV := Lib.hid hV
  have HL := Lib.hid hlen
  have HFAR := Lib.hid hfar
  clear hbk hj hlb hnum h0 hk hsv hV hlen fresh hnb hfar
  go_enter Tryz.func93, Tryz.ntmps93
  go_wp2
  go_loopg [2] s.N (fun g s2 wr => ∃ i : Nat, i + g = s.N ∧ s2 = .int .i64 i ∧ Hid (Gro w B lab 10 217 80 10 s mkN i wr))
  case atStart => exact ⟨0, by omega, rfl, Lib.hid hF⟩
  case round =>
    clear hF
    obtain ⟨i, hg, rfl, HF⟩ := hrel
    have k1 := (cell_of_row wr bk 10 _ _ _ (turned_book HF.out.turned HNB.out HBK.out)).trans HJ.out
    cases gk with
    | zero =>
      obtain rfl : i = s.N := by omega
      go_wp2
      refine bodyPost_end (v := .tuple #[]) (by kernel_rfl) rfl ?_
      exact ⟨rfl, HF.out⟩
    | succ g =>
      obtain ⟨gs, c', l, e1, c0, c1, c2, hl⟩ := HF.out.head (x := i) (by omega)
      rw [HSV.out] at e1
      cases e1
      obtain ⟨Av, cv, hv⟩ := HV.out i (by omega)
      rw [hv] at c0
      rw [hl (Nat.le_refl _)] at c1
      have hd : decide (i < s.N) = true := decide_eq_true (by omega)
      go_upto_region 4 with fail
      have hin := HF.out.into (show i < s.N by omega) (.cells #[.slice Av (s.R i).length cv, .slice none 0 0, .int .i64 (s.num i)] 217)
      rw [hv] at hin
      obtain ⟨wb, hwb⟩ : ∃ x, x = wr.alloc (.cells #[.slice Av (s.R i).length cv, .slice none 0 0, .int .i64 (s.num i)] 217) := ⟨_, rfl⟩
      rw [← hwb] at hin
      rw [← hwb]
      obtain ⟨hb, hhb⟩ : ∃ x, x = wr.heap.size := ⟨_, rfl⟩
      rw [← hhb] at hin
      rw [← hhb]
      have hb0 := cell_of_row wb hb 0 _ _ _ hin.box
      have HN := Lib.hid (HNUM.out i (by omega))
      have HLI := Lib.hid (HL.out i (by omega))
      have HIN := Lib.hid hin
      clear hwb hhb k1 c0 c1 c2 HF hin
      go_wp2
      go_loopg [4, 5] 40 (fun g s4 s5 wi => ∃ k : Nat, k + g = 40 ∧ s5 = .int .i64 k ∧ Hid (GroIn w B lab 10 217 80 10 s mkN i k s4 hb (.cells #[.slice Av (s.R i).length cv, .slice none 0 0, .int .i64 (s.num i)] 217 (0, 0)) wi))
      case atStart => exact ⟨0, by omega, rfl, HIN⟩
      case round =>
        clear HIN hb0
        obtain ⟨k, hkg, rfl, HF⟩ := hrel
        obtain ⟨A4, c4, h4⟩ := HF.out.own.len
        rw [List.length_append, List.length_replicate] at h4
        subst h4
        cases gk with
        | zero =>
          obtain rfl : k = 40 := by omega
          have k1 := (cell_of_row wr bk 10 _ _ _ (turned_book HF.out.turned HNB.out HBK.out)).trans HJ.out
          obtain ⟨gs', c', l', e1, c1, f1⟩ := HF.out.head
          rw [HSV.out] at e1
          cases e1
          go_wp2
          go_roundg g
          case measure => omega
          case rel => exact ⟨i + 1, by omega, by go_num, Lib.hid (HF.out.out HSV.out)⟩
        | succ gg =>
          have c2 : wr.cell? ⟨hb, 2, none⟩ = some (.int .i64 (s.num i)) := cell_of_row wr hb 2 _ _ _ HF.out.box
          go_wp2_with (first
            | (go_at_call 161
               refine (markNode_lit (s.num i) _ (HN.out.turned HF.out.turned HFAR.out)).mono ?_
               rintro _ w1 ⟨rfl, hb1⟩
               have HF1 := Lib.hid (HF.out.keep hb1)
               have hB1 : B ≤ w1.heap.size := Nat.le_trans hB (Nat.le_trans HF.out.turned.size hb1.size)
               have HH1 := Lib.hid hb1
               clear hb1)
            | (at_builtin
               refine wpList_append_grow rfl _ _ 22 rfl elem_rNode ((s.R i).length + k) (by rw [List.length_append, List.length_replicate]) (mkN (s.num i)) rfl HF1.out.own hB1 rfl rfl (by simp [mkN, Value.oneCell']) (by have := HLI.out; unfold maxLen; omega) (by have := HLI.out; omega) ?_
               rintro _ w2 hown2 hg2 hv2 ⟨A5, c5, rfl⟩
               have HF2 := Lib.hid (HF1.out.step hown2 hg2 hv2)
               clear hown2 hg2 hv2))
          go_roundg gg
          case measure => omega
          case rel => exact ⟨k + 1, by omega, by go_num, HF2⟩
end Go.Proofs.YtbfcfjgcmideeaaGreatDoor
