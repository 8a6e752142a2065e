/- perms: who may do what. -/
import Derived.Test.YtbfcfjgcmideeaaGreatDoorSearch
import Derived.Test.YtbfcfjgcmideeaaGreatDoorM4
import Derived.Test.YtbfcfjgcmideeaaGreatDoorM2
import Derived.Outline
import Derived.Laws.BitsAllLaws
import Derived.Laws.BitsLemmas
namespace Go.Proofs.YtbfcfjgcmideeaaGreatDoor
open Go.RowKit
attribute [local go_sem] Later.cell_eq max2_i min2_i max_2 min_2 max_3 min_3
/-- May somebody (user u, group g) do what with a node? -/
def mayB (n : TNode) (u g what : Int) : Bool :=
  if n.kind = 0 then false
  else if u = 0 then (bits .and .i64 what 1 == 0) || (n.kind != 1) || (bits .and .i64 n.mode 73 != 0)
  else if u = n.user then bits .and .i64 (n.mode / 64) what == what
  else if g = n.group then bits .and .i64 (n.mode / 8) what == what
  else bits .and .i64 n.mode what == what
set_option maxHeartbeats 1000000 in
theorem may_calls (n : TNode) (hF : n.Fits) (D L : Option Addr) (cd cl : Nat) (u g m d what : Int) (h0 : 1 ≤ what) (h1 : what ≤ 7) (w : World) :
    Calls Tryz.prog 38 #[.agg #[.int .u8 n.kind, .int .i64 n.mode, .int .i64 n.user, .int .i64 n.group, .int .i64 n.links, .int .i64 n.time, .slice D n.data.length cd, .string n.target, .slice L n.list.length cl, .int .i64 n.parent], .agg #[.int .i64 u, .int .i64 g, .int .i64 m, .int .i64 d], .int .i64 what] w fun e w' => e = .returned (.bool (mayB n u g what)) ∧ Below w.heap.size w w' := by
  obtain ⟨_, i1, i2, i3, i4, i5, i6, b1, b2, b3, _⟩ := hF
  clear i1 i2 i3 i4 i5 i6
  have w1 : decide (what < 1) = false := decide_eq_false (by omega)
  have w2 : decide (7 < what) = false := decide_eq_false (by omega)
  by_cases hk : n.kind = 0
  · have kk : (n.kind == 0) = true := beq_iff_eq.2 hk
    have HK := Lib.hid hk
    clear hk
    go_enter Tryz.func38, Tryz.ntmps38
    go_wp2
    go_ret
    refine ⟨ret_bool ?_, (by repeat (first | exact Below.refl _ _ | assumption | refine Below.drew ?_ | refine below_drewN ?_ _ | refine below_alloc ?_ _ | refine below_set ?_ (by simp) _ | refine below_step ?_ (by assumption)))⟩
    unfold mayB
    rw [if_pos HK.out]
  · have kk : (n.kind == 0) = false := beq_eq_false_iff_ne.2 hk
    have HK := Lib.hid hk
    clear hk
    by_cases hu : u = 0
    · have uu : (u == 0) = true := beq_iff_eq.2 hu
      have HU := Lib.hid hu
      clear hu
      go_enter Tryz.func38, Tryz.ntmps38
      go_wp2
      all_goals go_ret
      all_goals refine ⟨ret_bool ?_, (by repeat (first | exact Below.refl _ _ | assumption | refine Below.drew ?_ | refine below_drewN ?_ _ | refine below_alloc ?_ _ | refine below_set ?_ (by simp) _ | refine below_step ?_ (by assumption)))⟩
      all_goals unfold mayB
      all_goals rw [if_neg HK.out, if_pos HU.out]
      · have h := ‹bits _ _ _ _ = 0›
        simp [h]
      · have h : n.kind = 1 := by assumption
        simp [h]
      · have h : ¬ n.kind = 1 := by assumption
        simp [h]
    · have uu : (u == 0) = false := beq_eq_false_iff_ne.2 hu
      have HU := Lib.hid hu
      clear hu
      by_cases hn : u = n.user
      · have nn : (u == n.user) = true := beq_iff_eq.2 hn
        have nn' : (u != n.user) = false := by simp [hn]
        have HN := Lib.hid hn
        clear hn
        go_enter Tryz.func38, Tryz.ntmps38
        go_wp2
        all_goals go_ret
        all_goals refine ⟨ret_bool ?_, (by repeat (first | exact Below.refl _ _ | assumption | refine Below.drew ?_ | refine below_drewN ?_ _ | refine below_alloc ?_ _ | refine below_set ?_ (by simp) _ | refine below_step ?_ (by assumption)))⟩
        all_goals unfold mayB
        all_goals rw [if_neg HK.out, if_neg HU.out, if_pos HN.out]
      · have nn : (u == n.user) = false := beq_eq_false_iff_ne.2 hn
        have nn' : (u != n.user) = true := by simp [hn]
        by_cases hg : g = n.group
        · have gg : (g == n.group) = true := beq_iff_eq.2 hg
          have HN := Lib.hid hn
          have HG := Lib.hid hg
          clear hn hg
          go_enter Tryz.func38, Tryz.ntmps38
          go_wp2
          all_goals go_ret
          all_goals refine ⟨ret_bool ?_, (by repeat (first | exact Below.refl _ _ | assumption | refine Below.drew ?_ | refine below_drewN ?_ _ | refine below_alloc ?_ _ | refine below_set ?_ (by simp) _ | refine below_step ?_ (by assumption)))⟩
          all_goals unfold mayB
          all_goals rw [if_neg HK.out, if_neg HU.out, if_neg HN.out, if_pos HG.out]
        · have gg : (g == n.group) = false := beq_eq_false_iff_ne.2 hg
          have HN := Lib.hid hn
          have HG := Lib.hid hg
          clear hn hg
          go_enter Tryz.func38, Tryz.ntmps38
          go_wp2
          all_goals go_ret
          all_goals refine ⟨ret_bool ?_, (by repeat (first | exact Below.refl _ _ | assumption | refine Below.drew ?_ | refine below_drewN ?_ _ | refine below_alloc ?_ _ | refine below_set ?_ (by simp) _ | refine below_step ?_ (by assumption)))⟩
          all_goals unfold mayB
          all_goals rw [if_neg HK.out, if_neg HU.out, if_neg HN.out, if_neg HG.out]
noncomputable def permB (t : TTree) (u g m d : Int) : Bool := treeOK t && (decide (0 ≤ u ∧ 0 ≤ g ∧ 0 ≤ m ∧ u ≤ 65535 ∧ g ≤ 65535 ∧ m ≤ 511) && (decide (1 ≤ d) && decide (d < t.nodes.length) && (t.at d).kind == 2))
set_option maxHeartbeats 2000000 in
set_option maxRecDepth 100000 in
theorem permCheck_calls (t : TTree) (hF : t.Fits) (u g m d : Int) (A : Option Addr) (c : Nat) (w : World) (hA : NodesAt w A t.nodes) :
    Calls Tryz.prog 121 #[.agg #[.slice A t.nodes.length c, .int .i64 t.now], .agg #[.int .i64 u, .int .i64 g, .int .i64 m, .int .i64 d]] w fun e w' => e = .returned (.bool (permB t u g m d)) ∧ Below w.heap.size w w' := by
  have hn47 := hF.nodes
  have HF := Lib.hid hF
  have HA := Lib.hid hA
  clear hF
  cases hok : treeOK t with
  | false =>
    have HR := Lib.hid (show permB t u g m d = false by unfold permB; rw [hok]; rfl)
    have HO := Lib.hid hok
    clear hok hA
    go_enter Tryz.func121, Tryz.ntmps121
    go_wp2_with (go_at_call 33; refine (check_calls t HF.out _ _ _ (HA.out.keep (below_alloc (below_alloc (Below.refl _ _) _) _))).mono ?_; rintro _ w1 ⟨rfl, hb1⟩; rw [HO.out]; have k0 := cell_keep hb1 (p := ⟨w.heap.size, 0, none⟩) (v := .slice A t.nodes.length c) (by simp [go_sem]); have e0 := cell_keep hb1 (p := ⟨w.heap.size + 1, 0, none⟩) (v := .int .i64 u) (by simp [go_sem]); have e1 := cell_keep hb1 (p := ⟨w.heap.size + 1, 1, none⟩) (v := .int .i64 g) (by simp [go_sem]); have e2 := cell_keep hb1 (p := ⟨w.heap.size + 1, 2, none⟩) (v := .int .i64 m) (by simp [go_sem]); have e3 := cell_keep hb1 (p := ⟨w.heap.size + 1, 3, none⟩) (v := .int .i64 d) (by simp [go_sem]); have hb2 := below_step (below_alloc (below_alloc (Below.refl _ _) _) _) hb1; clear hb1)
    go_ret
    exact ⟨ret_bool HR.out.symm, hb2⟩
  | true =>
    have HO := Lib.hid hok
    by_cases hp : 0 ≤ u ∧ 0 ≤ g ∧ 0 ≤ m ∧ u ≤ 65535 ∧ g ≤ 65535 ∧ m ≤ 511
    · have hP : permB t u g m d = (decide (1 ≤ d) && decide (d < t.nodes.length) && (t.at d).kind == 2) := by unfold permB; rw [hok, decide_eq_true hp]; rfl
      obtain ⟨p1, p2, p3, p4, p5, p6⟩ := hp
      have q1 : decide (min u (min g m) < 0) = false := decide_eq_false (by omega)
      have q2 : decide (65535 < max u g) = false := decide_eq_false (by omega)
      have q3 : decide (511 < m) = false := decide_eq_false (by omega)
      by_cases h1 : 1 ≤ d
      · by_cases h2 : d < (t.nodes.length : Int)
        · obtain ⟨x, hx⟩ : ∃ x, t.nodes[d.toNat]? = some x := ⟨t.nodes[d.toNat]'(by omega), by simp⟩
          have hat : t.at d = x := by simp [TTree.at, hx]
          have HR := Lib.hid (show permB t u g m d = (x.kind == 2) by rw [hP, hat, decide_eq_true h1, decide_eq_true h2]; rfl)
          obtain ⟨b, o, Dx, cdx, Lx, clx, rfl, -, -, -, -, x0, -, -, -, -, -, -, -, -, -⟩ := hA.get hx
          have h0 : 0 ≤ d := by omega
          clear hA hok hx hat hP
          go_enter Tryz.func121, Tryz.ntmps121
          go_wp2_with (go_at_call 33; refine (check_calls t HF.out _ _ _ (HA.out.keep (below_alloc (below_alloc (Below.refl _ _) _) _))).mono ?_; rintro _ w1 ⟨rfl, hb1⟩; rw [HO.out]; have k0 := cell_keep hb1 (p := ⟨w.heap.size, 0, none⟩) (v := .slice (some ⟨b, o, none⟩) t.nodes.length c) (by simp [go_sem]); have e0 := cell_keep hb1 (p := ⟨w.heap.size + 1, 0, none⟩) (v := .int .i64 u) (by simp [go_sem]); have e1 := cell_keep hb1 (p := ⟨w.heap.size + 1, 1, none⟩) (v := .int .i64 g) (by simp [go_sem]); have e2 := cell_keep hb1 (p := ⟨w.heap.size + 1, 2, none⟩) (v := .int .i64 m) (by simp [go_sem]); have e3 := cell_keep hb1 (p := ⟨w.heap.size + 1, 3, none⟩) (v := .int .i64 d) (by simp [go_sem]); have hb2 := below_step (below_alloc (below_alloc (Below.refl _ _) _) _) hb1; clear hb1; replace x0 := cell_keep hb2 x0)
          all_goals go_ret
          all_goals exact ⟨ret_bool HR.out.symm, hb2⟩
        · have HR := Lib.hid (show permB t u g m d = false by rw [hP, decide_eq_false h2]; simp)
          clear hA hok hP
          go_enter Tryz.func121, Tryz.ntmps121
          go_wp2_with (go_at_call 33; refine (check_calls t HF.out _ _ _ (HA.out.keep (below_alloc (below_alloc (Below.refl _ _) _) _))).mono ?_; rintro _ w1 ⟨rfl, hb1⟩; rw [HO.out]; have k0 := cell_keep hb1 (p := ⟨w.heap.size, 0, none⟩) (v := .slice A t.nodes.length c) (by simp [go_sem]); have e0 := cell_keep hb1 (p := ⟨w.heap.size + 1, 0, none⟩) (v := .int .i64 u) (by simp [go_sem]); have e1 := cell_keep hb1 (p := ⟨w.heap.size + 1, 1, none⟩) (v := .int .i64 g) (by simp [go_sem]); have e2 := cell_keep hb1 (p := ⟨w.heap.size + 1, 2, none⟩) (v := .int .i64 m) (by simp [go_sem]); have e3 := cell_keep hb1 (p := ⟨w.heap.size + 1, 3, none⟩) (v := .int .i64 d) (by simp [go_sem]); have hb2 := below_step (below_alloc (below_alloc (Below.refl _ _) _) _) hb1; clear hb1)
          go_ret
          exact ⟨ret_bool HR.out.symm, hb2⟩
      · have HR := Lib.hid (show permB t u g m d = false by rw [hP, decide_eq_false h1]; simp)
        clear hA hok hP
        go_enter Tryz.func121, Tryz.ntmps121
        go_wp2_with (go_at_call 33; refine (check_calls t HF.out _ _ _ (HA.out.keep (below_alloc (below_alloc (Below.refl _ _) _) _))).mono ?_; rintro _ w1 ⟨rfl, hb1⟩; rw [HO.out]; have k0 := cell_keep hb1 (p := ⟨w.heap.size, 0, none⟩) (v := .slice A t.nodes.length c) (by simp [go_sem]); have e0 := cell_keep hb1 (p := ⟨w.heap.size + 1, 0, none⟩) (v := .int .i64 u) (by simp [go_sem]); have e1 := cell_keep hb1 (p := ⟨w.heap.size + 1, 1, none⟩) (v := .int .i64 g) (by simp [go_sem]); have e2 := cell_keep hb1 (p := ⟨w.heap.size + 1, 2, none⟩) (v := .int .i64 m) (by simp [go_sem]); have e3 := cell_keep hb1 (p := ⟨w.heap.size + 1, 3, none⟩) (v := .int .i64 d) (by simp [go_sem]); have hb2 := below_step (below_alloc (below_alloc (Below.refl _ _) _) _) hb1; clear hb1)
        go_ret
        exact ⟨ret_bool HR.out.symm, hb2⟩
    · have HR := Lib.hid (show permB t u g m d = false by unfold permB; rw [decide_eq_false hp]; simp)
      have HP := Lib.hid hp
      clear hA hok hp
      go_enter Tryz.func121, Tryz.ntmps121
      go_upto_region 3 with (go_at_call 33; refine (check_calls t HF.out _ _ _ (HA.out.keep (below_alloc (below_alloc (Below.refl _ _) _) _))).mono ?_; rintro _ w1 ⟨rfl, hb1⟩; rw [HO.out]; have k0 := cell_keep hb1 (p := ⟨w.heap.size, 0, none⟩) (v := .slice A t.nodes.length c) (by simp [go_sem]); have e0 := cell_keep hb1 (p := ⟨w.heap.size + 1, 0, none⟩) (v := .int .i64 u) (by simp [go_sem]); have e1 := cell_keep hb1 (p := ⟨w.heap.size + 1, 1, none⟩) (v := .int .i64 g) (by simp [go_sem]); have e2 := cell_keep hb1 (p := ⟨w.heap.size + 1, 2, none⟩) (v := .int .i64 m) (by simp [go_sem]); have e3 := cell_keep hb1 (p := ⟨w.heap.size + 1, 3, none⟩) (v := .int .i64 d) (by simp [go_sem]); have hb2 := below_step (below_alloc (below_alloc (Below.refl _ _) _) _) hb1; clear hb1)
      all_goals first
        | (exfalso; have := HP.out; omega)
        | (go_ret; exact ⟨ret_bool HR.out.symm, hb2⟩)
end Go.Proofs.YtbfcfjgcmideeaaGreatDoor
