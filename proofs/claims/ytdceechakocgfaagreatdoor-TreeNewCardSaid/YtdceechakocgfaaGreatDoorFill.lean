/- The Book: each list of a kind is filled with marks. -/
import Derived.Test.YtdceechakocgfaaGreatDoorFilled
import Derived.Test.YtdceechakocgfaaGreatDoorMark
namespace Go.Proofs.YtdceechakocgfaaGreatDoor
open Go.RowKit
attribute [local go_sem] Later.cell_eq
def stEnt (a : Addr) (v : Value) : Sem Unit := storeVar 122 a v
theorem stEnt_eq (a : Addr) (v : Value) : storeVar 122 a v = stEnt a v := rfl
theorem stEnt_run (w : World) (b o : Nat) (n : Int) (ht : RowFree w b o 2) :
    (stEnt ⟨b, o, none⟩ (.agg (mkE n).toArray)).run Tryz.prog w = .ok () (w.setCells b o (mkE n)) :=
  run_storeVar_mid (P := Tryz.prog) w b o 122 (mkE n).toArray ht (by kernel_rfl) (by simp [mkE, Value.oneCell'])
def stNod (a : Addr) (v : Value) : Sem Unit := storeVar 74 a v
theorem stNod_eq (a : Addr) (v : Value) : storeVar 74 a v = stNod a v := rfl
theorem stNod_run (w : World) (b o : Nat) (n : Int) (ht : RowFree w b o 10) :
    (stNod ⟨b, o, none⟩ (.agg (mkN n).toArray)).run Tryz.prog w = .ok () (w.setCells b o (mkN n)) :=
  run_storeVar_mid (P := Tryz.prog) w b o 74 (mkN n).toArray ht (by kernel_rfl) (by simp [mkN, Value.oneCell'])
attribute [local go_sem ↓] stEnt_eq stNod_eq
attribute [local go_sem] stEnt_run stNod_run
set_option maxHeartbeats 2000000 in
theorem fillByte_calls (w : World) (B bk : Nat) (lab : Lab) (cs : Array Value) (s : KS) (hbk : w.heap[bk]? = some (.cells cs 35 (0, 0))) (hj : cs[1]? = some s.sv) (hlb : lab bk = (0, 1)) (hk : Kind w B lab 1 127 5 1 s) (h0 : s.d = 0) (hnum : ∀ x, x < s.N → 0 ≤ s.num x ∧ s.num x < 100) (hN : s.N ≤ 1000000) :
    Calls Tryz.prog 37 #[.pointer (some ⟨bk, 0, none⟩)] w fun e w' => e = .returned (.tuple #[]) ∧ Kind w' B lab 1 127 5 1 { s with R := fun x => List.replicate (s.R x).length (mkB (s.num x)) } ∧ Turned (fun b => (lab b).1 = 1 ∧ (lab b).2 ≠ 0) w w' := by
  have hF := Fil.start mkB hk
  have hV : ∀ x, x < s.N → (∃ A c, s.V x = .slice A (s.R x).length c) ∧ s.L x = .slice none 0 0 ∧ (∀ g o n c, s.V x = .slice (some ⟨g, o, none⟩) n c → g < w.heap.size) := fun x hx => ⟨own_len (hk.todo x (by omega) hx).1, (hk.todo x (by omega) hx).2, fun g o n c e => (hk.vlt hx g (by rw [e]; rfl)).2⟩
  have HS := Lib.hid (show ∀ x, x < s.N → (s.R x).length ≤ maxLen from fun x hx => own_short (hk.todo x (by omega) hx).1)
  obtain ⟨A, c, hsv⟩ := own_len hk.held
  rw [s.rows_length] at hsv
  rw [hsv] at hj
  have HBK := Lib.hid hbk
  have HJ := Lib.hid hj
  have HLB := Lib.hid hlb
  have HNUM := Lib.hid hnum
  have H0 := Lib.hid h0
  have HSV := Lib.hid hsv
  have HV := Lib.hid hV
  clear hbk hj hlb hnum h0 hk hsv hV
  go_enter Tryz.func37, Tryz.ntmps37
  go_wp2
  go_loopg [2] s.N (fun g s2 wr => ∃ i : Nat, i + g = s.N ∧ s2 = .int .i64 i ∧ Hid (Fil w B lab 1 127 5 1 s mkB i 0 wr))
  case atStart => exact ⟨0, by omega, rfl, Lib.hid hF⟩
  case round =>
    clear hF
    obtain ⟨i, hg, rfl, HF⟩ := hrel
    have k1 := (cell_of_row wr bk 1 _ _ _ (HF.out.book (by decide) HLB.out HBK.out)).trans HJ.out
    cases gk with
    | zero =>
      obtain rfl : i = s.N := by omega
      go_wp2
      refine bodyPost_end (v := .tuple #[]) (by kernel_rfl) rfl ?_
      exact ⟨rfl, HF.out.done, HF.out.turned⟩
    | succ g =>
      obtain ⟨gs, c', e1, c0, c1, c2⟩ := HF.out.at (x := i) (by omega)
      rw [HSV.out] at e1
      cases e1
      obtain ⟨⟨Av, cv, hv⟩, hl, hlt⟩ := HV.out i (by omega)
      rw [hv] at c0
      rw [hl] at c1
      have hd : decide (i < s.N) = true := decide_eq_true (by omega)
      have hm := HS.out i (by omega)
      simp only [maxLen] at hm
      go_upto_region 4 with fail
      obtain ⟨wb, hwb⟩ : ∃ x, x = wr.alloc (.cells #[.slice Av (s.R i).length cv, .slice none 0 0, .int .i64 (s.num i)] 127) := ⟨_, rfl⟩
      have hb0 : wb.cell? ⟨wr.heap.size, 0, none⟩ = some (.slice Av (s.R i).length cv) := by rw [hwb, cell_of_row _ _ _ _ _ _ (heap_alloc_new wr _)]; rfl
      have hb2 : wb.cell? ⟨wr.heap.size, 2, none⟩ = some (.int .i64 (s.num i)) := by rw [hwb, cell_of_row _ _ _ _ _ _ (heap_alloc_new wr _)]; rfl
      have HFb := Lib.hid (HF.out.keep (wr' := wb) (by rw [hwb]; exact below_alloc (Below.refl _ _) _))
      have hsz := HF.out.turned.size
      rw [← hwb]
      obtain ⟨hb, hhb⟩ : ∃ x, x = wr.heap.size := ⟨_, rfl⟩
      rw [← hhb] at hb0 hb2 hsz
      rw [← hhb]
      have HN := Lib.hid (HNUM.out i (by omega))
      have hi : i < s.N := by omega
      clear hwb hhb k1 c0 c1 c2 HF
      go_wp2
      go_loopg [4] (s.R i).length (fun g s4 wi => ∃ k : Nat, k + g = (s.R i).length ∧ s4 = .int .i64 k ∧ Hid (Fil w B lab 1 127 5 1 s mkB i k wi) ∧ wi.cell? ⟨hb, 0, none⟩ = some (.slice Av (s.R i).length cv) ∧ wi.cell? ⟨hb, 2, none⟩ = some (.int .i64 (s.num i)))
      case atStart => exact ⟨0, by omega, rfl, HFb, hb0, hb2⟩
      case round =>
        clear HFb hb0 hb2
        obtain ⟨k, hkg, rfl, HF, hb0, hb2⟩ := hrel
        cases gk with
        | zero =>
          obtain rfl : k = (s.R i).length := by omega
          go_wp2
          go_roundg g
          case measure => omega
          case rel => exact ⟨i + 1, by omega, by go_num, Lib.hid HF.out.next⟩
        | succ gg =>
          have hkm : k < (s.R i).length := by omega
          obtain ⟨ga, rfl⟩ := HF.out.addr H0.out hi hv hkm
          obtain ⟨hth, hBg⟩ := HF.out.there H0.out hi hv hkm
          have hgb : ga ≠ hb := by have := hlt ga 0 _ _ hv; omega
          have HTH := Lib.hid hth
          have HV2 := Lib.hid hv
          clear hth hv hlt
          go_upto_region 7 with fail
          obtain ⟨wo, rfl⟩ : ∃ wo : World, wo = wr := ⟨_, rfl⟩
          have HB := Lib.hid (show wo.cell? ⟨hb, 0, none⟩ = _ ∧ wo.cell? ⟨hb, 2, none⟩ = _ from ⟨hb0, hb2⟩)
          go_region_law (first
            | (go_simp
               go_at_call 104
               refine (markByte_calls (s.num i) (by have := HN.out; omega) _).mono ?_
               rintro _ w1 ⟨rfl, hb1⟩
               have hb0' := cell_keep hb1 (show wo.drew.cell? ⟨hb, 0, none⟩ = _ from hb0)
               have hb2' := cell_keep hb1 (show wo.drew.cell? ⟨hb, 2, none⟩ = _ from hb2)
               have HH1 := Lib.hid hb1
               obtain ⟨⟨old', hold'⟩, hfz'⟩ := there_one (there_below hb1 (show wo.drew.there _ _ _ from HTH.out))
               clear hb1))
          all_goals
            have hp := (HF.out.keep (wr' := w1) ⟨HH1.out.os, HH1.out.tape, HH1.out.output, HH1.out.size, HH1.out.block⟩).put H0.out hi HV2.out hkm rfl
            rw [Nat.mul_one] at hp
            go_wp2
            go_roundg gg
            case measure => omega
            case rel => exact ⟨k + 1, by omega, by go_num, Lib.hid hp, cell_cells hb0' (fun e => hgb e.symm) _ (mkB (s.num i)), cell_cells hb2' (fun e => hgb e.symm) _ (mkB (s.num i))⟩
set_option maxHeartbeats 2000000 in
theorem fillEntry_calls (w : World) (B bk : Nat) (lab : Lab) (cs : Array Value) (s : KS) (hbk : w.heap[bk]? = some (.cells cs 35 (0, 0))) (hj : cs[9]? = some s.sv) (hlb : lab bk = (0, 1)) (hk : Kind w B lab 9 162 122 2 s) (h0 : s.d = 0) (hnum : ∀ x, x < s.N → 0 ≤ s.num x ∧ s.num x < 100) (hN : s.N ≤ 1000000) :
    Calls Tryz.prog 45 #[.pointer (some ⟨bk, 0, none⟩)] w fun e w' => e = .returned (.tuple #[]) ∧ Kind w' B lab 9 162 122 2 { s with R := fun x => List.replicate (s.R x).length (mkE (s.num x)) } ∧ Turned (fun b => (lab b).1 = 9 ∧ (lab b).2 ≠ 0) w w' := by
  have hF := Fil.start mkE hk
  have hV : ∀ x, x < s.N → (∃ A c, s.V x = .slice A (s.R x).length c) ∧ s.L x = .slice none 0 0 ∧ (∀ g o n c, s.V x = .slice (some ⟨g, o, none⟩) n c → g < w.heap.size) := fun x hx => ⟨own_len (hk.todo x (by omega) hx).1, (hk.todo x (by omega) hx).2, fun g o n c e => (hk.vlt hx g (by rw [e]; rfl)).2⟩
  have HS := Lib.hid (show ∀ x, x < s.N → (s.R x).length ≤ maxLen from fun x hx => own_short (hk.todo x (by omega) hx).1)
  obtain ⟨A, c, hsv⟩ := own_len hk.held
  rw [s.rows_length] at hsv
  rw [hsv] at hj
  have HBK := Lib.hid hbk
  have HJ := Lib.hid hj
  have HLB := Lib.hid hlb
  have HNUM := Lib.hid hnum
  have H0 := Lib.hid h0
  have HSV := Lib.hid hsv
  have HV := Lib.hid hV
  clear hbk hj hlb hnum h0 hk hsv hV
  go_enter Tryz.func45, Tryz.ntmps45
  go_wp2
  go_loopg [2] s.N (fun g s2 wr => ∃ i : Nat, i + g = s.N ∧ s2 = .int .i64 i ∧ Hid (Fil w B lab 9 162 122 2 s mkE i 0 wr))
  case atStart => exact ⟨0, by omega, rfl, Lib.hid hF⟩
  case round =>
    clear hF
    obtain ⟨i, hg, rfl, HF⟩ := hrel
    have k1 := (cell_of_row wr bk 9 _ _ _ (HF.out.book (by decide) HLB.out HBK.out)).trans HJ.out
    cases gk with
    | zero =>
      obtain rfl : i = s.N := by omega
      go_wp2
      refine bodyPost_end (v := .tuple #[]) (by kernel_rfl) rfl ?_
      exact ⟨rfl, HF.out.done, HF.out.turned⟩
    | succ g =>
      obtain ⟨gs, c', e1, c0, c1, c2⟩ := HF.out.at (x := i) (by omega)
      rw [HSV.out] at e1
      cases e1
      obtain ⟨⟨Av, cv, hv⟩, hl, hlt⟩ := HV.out i (by omega)
      rw [hv] at c0
      rw [hl] at c1
      have hd : decide (i < s.N) = true := decide_eq_true (by omega)
      have hm := HS.out i (by omega)
      simp only [maxLen] at hm
      go_upto_region 4 with fail
      obtain ⟨wb, hwb⟩ : ∃ x, x = wr.alloc (.cells #[.slice Av (s.R i).length cv, .slice none 0 0, .int .i64 (s.num i)] 162) := ⟨_, rfl⟩
      have hb0 : wb.cell? ⟨wr.heap.size, 0, none⟩ = some (.slice Av (s.R i).length cv) := by rw [hwb, cell_of_row _ _ _ _ _ _ (heap_alloc_new wr _)]; rfl
      have hb2 : wb.cell? ⟨wr.heap.size, 2, none⟩ = some (.int .i64 (s.num i)) := by rw [hwb, cell_of_row _ _ _ _ _ _ (heap_alloc_new wr _)]; rfl
      have HFb := Lib.hid (HF.out.keep (wr' := wb) (by rw [hwb]; exact below_alloc (Below.refl _ _) _))
      have hsz := HF.out.turned.size
      rw [← hwb]
      obtain ⟨hb, hhb⟩ : ∃ x, x = wr.heap.size := ⟨_, rfl⟩
      rw [← hhb] at hb0 hb2 hsz
      rw [← hhb]
      have HN := Lib.hid (HNUM.out i (by omega))
      have hi : i < s.N := by omega
      clear hwb hhb k1 c0 c1 c2 HF
      go_wp2
      go_loopg [4] (s.R i).length (fun g s4 wi => ∃ k : Nat, k + g = (s.R i).length ∧ s4 = .int .i64 k ∧ Hid (Fil w B lab 9 162 122 2 s mkE i k wi) ∧ wi.cell? ⟨hb, 0, none⟩ = some (.slice Av (s.R i).length cv) ∧ wi.cell? ⟨hb, 2, none⟩ = some (.int .i64 (s.num i)))
      case atStart => exact ⟨0, by omega, rfl, HFb, hb0, hb2⟩
      case round =>
        clear HFb hb0 hb2
        obtain ⟨k, hkg, rfl, HF, hb0, hb2⟩ := hrel
        cases gk with
        | zero =>
          obtain rfl : k = (s.R i).length := by omega
          go_wp2
          go_roundg g
          case measure => omega
          case rel => exact ⟨i + 1, by omega, by go_num, Lib.hid HF.out.next⟩
        | succ gg =>
          have hkm : k < (s.R i).length := by omega
          obtain ⟨ga, rfl⟩ := HF.out.addr H0.out hi hv hkm
          obtain ⟨hth, hBg⟩ := HF.out.there H0.out hi hv hkm
          have hgb : ga ≠ hb := by have := hlt ga 0 _ _ hv; omega
          have HTH := Lib.hid hth
          have HV2 := Lib.hid hv
          clear hth hv hlt
          go_upto_region 7 with fail
          obtain ⟨wo, rfl⟩ : ∃ wo : World, wo = wr := ⟨_, rfl⟩
          have HB := Lib.hid (show wo.cell? ⟨hb, 0, none⟩ = _ ∧ wo.cell? ⟨hb, 2, none⟩ = _ from ⟨hb0, hb2⟩)
          go_region_law (first
            | (go_simp
               go_at_call 112
               refine (markEntry_calls (s.num i) (by have := HN.out; omega) _).mono ?_
               rintro _ w1 ⟨rfl, hb1⟩
               have hb0' := cell_keep hb1 (show wo.drew.cell? ⟨hb, 0, none⟩ = _ from hb0)
               have hb2' := cell_keep hb1 (show wo.drew.cell? ⟨hb, 2, none⟩ = _ from hb2)
               have HH1 := Lib.hid hb1
               have hfr' : RowFree w1 ga (k * 2) 2 := there_below hb1 (show wo.drew.there _ _ _ from HTH.out)
               clear hb1))
          all_goals
            have hp := (HF.out.keep (wr' := w1) ⟨HH1.out.os, HH1.out.tape, HH1.out.output, HH1.out.size, HH1.out.block⟩).put H0.out hi HV2.out hkm rfl
            skip
            go_wp2
            go_roundg gg
            case measure => omega
            case rel => exact ⟨k + 1, by omega, by go_num, Lib.hid hp, cell_cells hb0' (fun e => hgb e.symm) _ (mkE (s.num i)), cell_cells hb2' (fun e => hgb e.symm) _ (mkE (s.num i))⟩
set_option maxHeartbeats 2000000 in
theorem fillNode_calls (w : World) (B bk : Nat) (lab : Lab) (cs : Array Value) (s : KS) (hbk : w.heap[bk]? = some (.cells cs 35 (0, 0))) (hj : cs[10]? = some s.sv) (hlb : lab bk = (0, 1)) (hk : Kind w B lab 10 165 74 10 s) (h0 : s.d = 0) (hnum : ∀ x, x < s.N → 0 ≤ s.num x ∧ s.num x < 100) (hN : s.N ≤ 1000000) :
    Calls Tryz.prog 46 #[.pointer (some ⟨bk, 0, none⟩)] w fun e w' => e = .returned (.tuple #[]) ∧ Kind w' B lab 10 165 74 10 { s with R := fun x => List.replicate (s.R x).length (mkN (s.num x)) } ∧ Turned (fun b => (lab b).1 = 10 ∧ (lab b).2 ≠ 0) w w' := by
  have hF := Fil.start mkN hk
  have hV : ∀ x, x < s.N → (∃ A c, s.V x = .slice A (s.R x).length c) ∧ s.L x = .slice none 0 0 ∧ (∀ g o n c, s.V x = .slice (some ⟨g, o, none⟩) n c → g < w.heap.size) := fun x hx => ⟨own_len (hk.todo x (by omega) hx).1, (hk.todo x (by omega) hx).2, fun g o n c e => (hk.vlt hx g (by rw [e]; rfl)).2⟩
  have HS := Lib.hid (show ∀ x, x < s.N → (s.R x).length ≤ maxLen from fun x hx => own_short (hk.todo x (by omega) hx).1)
  obtain ⟨A, c, hsv⟩ := own_len hk.held
  rw [s.rows_length] at hsv
  rw [hsv] at hj
  have HBK := Lib.hid hbk
  have HJ := Lib.hid hj
  have HLB := Lib.hid hlb
  have HNUM := Lib.hid hnum
  have H0 := Lib.hid h0
  have HSV := Lib.hid hsv
  have HV := Lib.hid hV
  clear hbk hj hlb hnum h0 hk hsv hV
  go_enter Tryz.func46, Tryz.ntmps46
  go_wp2
  go_loopg [2] s.N (fun g s2 wr => ∃ i : Nat, i + g = s.N ∧ s2 = .int .i64 i ∧ Hid (Fil w B lab 10 165 74 10 s mkN i 0 wr))
  case atStart => exact ⟨0, by omega, rfl, Lib.hid hF⟩
  case round =>
    clear hF
    obtain ⟨i, hg, rfl, HF⟩ := hrel
    have k1 := (cell_of_row wr bk 10 _ _ _ (HF.out.book (by decide) HLB.out HBK.out)).trans HJ.out
    cases gk with
    | zero =>
      obtain rfl : i = s.N := by omega
      go_wp2
      refine bodyPost_end (v := .tuple #[]) (by kernel_rfl) rfl ?_
      exact ⟨rfl, HF.out.done, HF.out.turned⟩
    | succ g =>
      obtain ⟨gs, c', e1, c0, c1, c2⟩ := HF.out.at (x := i) (by omega)
      rw [HSV.out] at e1
      cases e1
      obtain ⟨⟨Av, cv, hv⟩, hl, hlt⟩ := HV.out i (by omega)
      rw [hv] at c0
      rw [hl] at c1
      have hd : decide (i < s.N) = true := decide_eq_true (by omega)
      have hm := HS.out i (by omega)
      simp only [maxLen] at hm
      go_upto_region 4 with fail
      obtain ⟨wb, hwb⟩ : ∃ x, x = wr.alloc (.cells #[.slice Av (s.R i).length cv, .slice none 0 0, .int .i64 (s.num i)] 165) := ⟨_, rfl⟩
      have hb0 : wb.cell? ⟨wr.heap.size, 0, none⟩ = some (.slice Av (s.R i).length cv) := by rw [hwb, cell_of_row _ _ _ _ _ _ (heap_alloc_new wr _)]; rfl
      have hb2 : wb.cell? ⟨wr.heap.size, 2, none⟩ = some (.int .i64 (s.num i)) := by rw [hwb, cell_of_row _ _ _ _ _ _ (heap_alloc_new wr _)]; rfl
      have HFb := Lib.hid (HF.out.keep (wr' := wb) (by rw [hwb]; exact below_alloc (Below.refl _ _) _))
      have hsz := HF.out.turned.size
      rw [← hwb]
      obtain ⟨hb, hhb⟩ : ∃ x, x = wr.heap.size := ⟨_, rfl⟩
      rw [← hhb] at hb0 hb2 hsz
      rw [← hhb]
      have HN := Lib.hid (HNUM.out i (by omega))
      have hi : i < s.N := by omega
      clear hwb hhb k1 c0 c1 c2 HF
      go_wp2
      go_loopg [4] (s.R i).length (fun g s4 wi => ∃ k : Nat, k + g = (s.R i).length ∧ s4 = .int .i64 k ∧ Hid (Fil w B lab 10 165 74 10 s mkN i k wi) ∧ wi.cell? ⟨hb, 0, none⟩ = some (.slice Av (s.R i).length cv) ∧ wi.cell? ⟨hb, 2, none⟩ = some (.int .i64 (s.num i)))
      case atStart => exact ⟨0, by omega, rfl, HFb, hb0, hb2⟩
      case round =>
        clear HFb hb0 hb2
        obtain ⟨k, hkg, rfl, HF, hb0, hb2⟩ := hrel
        cases gk with
        | zero =>
          obtain rfl : k = (s.R i).length := by omega
          go_wp2
          go_roundg g
          case measure => omega
          case rel => exact ⟨i + 1, by omega, by go_num, Lib.hid HF.out.next⟩
        | succ gg =>
          have hkm : k < (s.R i).length := by omega
          obtain ⟨ga, rfl⟩ := HF.out.addr H0.out hi hv hkm
          obtain ⟨hth, hBg⟩ := HF.out.there H0.out hi hv hkm
          have hgb : ga ≠ hb := by have := hlt ga 0 _ _ hv; omega
          have HTH := Lib.hid hth
          have HV2 := Lib.hid hv
          clear hth hv hlt
          go_upto_region 7 with fail
          obtain ⟨wo, rfl⟩ : ∃ wo : World, wo = wr := ⟨_, rfl⟩
          have HB := Lib.hid (show wo.cell? ⟨hb, 0, none⟩ = _ ∧ wo.cell? ⟨hb, 2, none⟩ = _ from ⟨hb0, hb2⟩)
          go_region_law (first
            | (go_simp
               go_at_call 113
               refine (markNode_calls (s.num i) (by have := HN.out; omega) _).mono ?_
               rintro _ w1 ⟨rfl, hb1⟩
               have hb0' := cell_keep hb1 (show wo.drew.cell? ⟨hb, 0, none⟩ = _ from hb0)
               have hb2' := cell_keep hb1 (show wo.drew.cell? ⟨hb, 2, none⟩ = _ from hb2)
               have HH1 := Lib.hid hb1
               have hfr' : RowFree w1 ga (k * 10) 10 := there_below hb1 (show wo.drew.there _ _ _ from HTH.out)
               clear hb1))
          all_goals
            have hp := (HF.out.keep (wr' := w1) ⟨HH1.out.os, HH1.out.tape, HH1.out.output, HH1.out.size, HH1.out.block⟩).put H0.out hi HV2.out hkm rfl
            skip
            go_wp2
            go_roundg gg
            case measure => omega
            case rel => exact ⟨k + 1, by omega, by go_num, Lib.hid hp, cell_cells hb0' (fun e => hgb e.symm) _ (mkN (s.num i)), cell_cells hb2' (fun e => hgb e.symm) _ (mkN (s.num i))⟩
end Go.Proofs.YtdceechakocgfaaGreatDoor
