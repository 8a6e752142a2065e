/- tree.isDir, tree.Deep, tree.Depth. -/
import Derived.Test.YtdidhelkmnkhcaaDoorSearch
namespace Go.Proofs.YtdidhelkmnkhcaaDoor
open Go.RowKit
attribute [local go_sem] Later.cell_eq
noncomputable def isDirB (t : TTree) (n : Int) : Bool := treeOK t && (decide (1 ≤ n) && decide (n < t.nodes.length) && (t.at n).kind == 2)
theorem isDirB_iff (t : TTree) (n : Int) : isDirB t n = true ↔ TreeOK t ∧ 1 ≤ n ∧ n < t.nodes.length ∧ (t.at n).kind = 2 := by
  unfold isDirB
  simp only [Bool.and_eq_true, decide_eq_true_iff, beq_iff_eq, treeOK_iff]
  constructor
  · rintro ⟨a, ⟨b, c⟩, d⟩; exact ⟨a, b, c, d⟩
  · rintro ⟨a, b, c, d⟩; exact ⟨a, ⟨b, c⟩, d⟩
set_option maxHeartbeats 2000000 in
set_option maxRecDepth 100000 in
theorem isDir_calls (t : TTree) (hF : t.Fits) (n : Int) (A : Option Addr) (c : Nat) (w : World) (hA : NodesAt w A t.nodes) :
    Calls Tryd.prog 46 #[.agg #[.slice A t.nodes.length c, .int .i64 t.now], .int .i64 n] w fun e w' => e = .returned (.bool (isDirB t n)) ∧ Below w.heap.size w w' := by
  have hn47 := hF.nodes
  have HF := Lib.hid hF
  have HA := Lib.hid hA
  clear hF
  cases hok : treeOK t with
  | false =>
    have HR : Hid (isDirB t n = false) := by unfold isDirB; rw [hok]; rfl
    have HO := Lib.hid hok
    clear hok hA
    go_enter Tryd.func46, Tryd.ntmps46
    go_wp2_with (go_at_call 12; refine (check_calls t HF.out _ _ _ (HA.out.keep ((Below.refl _ _).alloc (Nat.le_refl _) _))).mono ?_; rintro _ w1 ⟨rfl, hb1⟩; rw [HO.out])
    go_ret
    exact ⟨ret_bool HR.out.symm, below_step (below_alloc (Below.refl _ _) _) hb1⟩
  | true =>
    have HO := Lib.hid hok
    by_cases h1 : 1 ≤ n
    · by_cases h2 : n < (t.nodes.length : Int)
      · obtain ⟨x, hx⟩ : ∃ x, t.nodes[n.toNat]? = some x := ⟨t.nodes[n.toNat]'(by omega), by simp⟩
        have hat : t.at n = x := by simp [TTree.at, hx]
        have HR : Hid (isDirB t n = (x.kind == 2)) := by unfold isDirB; rw [hok, hat, decide_eq_true h1, decide_eq_true h2]; rfl
        obtain ⟨b, o, Dx, cdx, Lx, clx, rfl, -, -, -, -, x0, -, -, -, -, -, -, -, -, -⟩ := hA.get hx
        have h0 : 0 ≤ n := by omega
        clear hA hok hx hat
        go_enter Tryd.func46, Tryd.ntmps46
        go_wp2_with (go_at_call 12; refine (check_calls t HF.out _ _ _ (HA.out.keep ((Below.refl _ _).alloc (Nat.le_refl _) _))).mono ?_; rintro _ w1 ⟨rfl, hb1⟩; rw [HO.out]; have k0 := cell_keep hb1 (p := ⟨w.heap.size, 0, none⟩) (v := .slice (some ⟨b, o, none⟩) t.nodes.length c) (by rw [World.cell?_alloc_new]; rfl); have hb2 := below_step (below_alloc (Below.refl _ _) _) hb1; clear hb1; replace x0 := cell_keep hb2 x0)
        all_goals go_ret
        all_goals exact ⟨ret_bool HR.out.symm, hb2⟩
      · have HR := Lib.hid (show isDirB t n = false by unfold isDirB; rw [decide_eq_false h2]; simp)
        clear hA hok
        go_enter Tryd.func46, Tryd.ntmps46
        go_wp2_with (go_at_call 12; refine (check_calls t HF.out _ _ _ (HA.out.keep ((Below.refl _ _).alloc (Nat.le_refl _) _))).mono ?_; rintro _ w1 ⟨rfl, hb1⟩; rw [HO.out]; have k0 := cell_keep hb1 (p := ⟨w.heap.size, 0, none⟩) (v := .slice A t.nodes.length c) (by rw [World.cell?_alloc_new]; rfl); have hb2 := below_step (below_alloc (Below.refl _ _) _) hb1; clear hb1)
        go_ret
        exact ⟨ret_bool HR.out.symm, hb2⟩
    · have HR := Lib.hid (show isDirB t n = false by unfold isDirB; rw [decide_eq_false h1]; simp)
      clear hA hok
      go_enter Tryd.func46, Tryd.ntmps46
      go_wp2_with (go_at_call 12; refine (check_calls t HF.out _ _ _ (HA.out.keep ((Below.refl _ _).alloc (Nat.le_refl _) _))).mono ?_; rintro _ w1 ⟨rfl, hb1⟩; rw [HO.out]; have k0 := cell_keep hb1 (p := ⟨w.heap.size, 0, none⟩) (v := .slice A t.nodes.length c) (by rw [World.cell?_alloc_new]; rfl); have hb2 := below_step (below_alloc (Below.refl _ _) _) hb1; clear hb1)
      go_ret
      exact ⟨ret_bool HR.out.symm, hb2⟩

/-- How many directories one is within. -/
def deepN (t : TTree) : Nat → Int → Nat
  | 0, _ => 0
  | k + 1, n => if n = 1 then 0 else 1 + deepN t k (t.at n).parent
theorem deepN_one (t : TTree) (k : Nat) : deepN t k 1 = 0 := by cases k <;> simp [deepN]
theorem deepN_le (t : TTree) (k : Nat) : ∀ n, deepN t k n ≤ k := by
  induction k with
  | zero => intro n; simp [deepN]
  | succ k ih => intro n; unfold deepN; split <;> have := ih (t.at n).parent <;> omega
theorem upB_next {t : TTree} {k : Nat} {n : Int} (h : upB t k n = true) (hn : n ≠ 1) : ∃ j, k = j + 1 ∧ 1 < n ∧ n < t.nodes.length ∧ (t.at n).kind = 2 ∧ upB t j (t.at n).parent = true := by
  have h1 : (n == 1) = false := beq_eq_false_iff_ne.2 hn
  cases k with
  | zero => simp [upB, hn] at h
  | succ j =>
    simp only [upB, h1, Bool.false_or, Bool.and_eq_true, decide_eq_true_iff, beq_iff_eq] at h
    exact ⟨j, rfl, h.1.1.1, h.1.1.2, h.1.2, h.2⟩
theorem TreeOK.up {t : TTree} (h : TreeOK t) {n : Int} (h1 : 1 ≤ n) (h2 : n < t.nodes.length) (hk : (t.at n).kind = 2) : upB t 32 n = true := by
  obtain ⟨x, hx⟩ : ∃ x, t.nodes[n.toNat]? = some x := ⟨t.nodes[n.toNat]'(by omega), by simp⟩
  have hat : t.at n = x := by simp [TTree.at, hx]
  have := ((h.link _ _ hx).1 (by rw [← hat]; exact hk)).2.2
  rwa [show ((n.toNat : Nat) : Int) = n by omega] at this
noncomputable def tDepth (t : TTree) (n : Int) : Int := if isDirB t n = true then (deepN t 32 n : Nat) else 0
end Go.Proofs.YtdidhelkmnkhcaaDoor
