/- tree.Check's 'up': does a directory lead to the root? -/
import Derived.Test.YtbfcfjgcmideeaaGreatDoorListed
namespace Go.Proofs.YtbfcfjgcmideeaaGreatDoor
open Go.RowKit
attribute [local go_sem] Later.cell_eq
theorem upB_one (t : TTree) (k : Nat) : upB t k 1 = true := by cases k <;> simp [upB]
theorem upB_low (t : TTree) (k : Nat) (n : Int) (h : n < 1) : upB t k n = false := by
  have h1 : (n == 1) = false := beq_eq_false_iff_ne.2 (by omega)
  have h2 : decide (1 < n) = false := decide_eq_false (by omega)
  cases k <;> simp [upB, h1, h2]
theorem upB_high (t : TTree) (k : Nat) (n : Int) (h : n ≠ 1) (hn : (t.nodes.length : Int) ≤ n) : upB t k n = false := by
  have h1 : (n == 1) = false := beq_eq_false_iff_ne.2 h
  have h2 : decide (n < (t.nodes.length : Int)) = false := decide_eq_false (by omega)
  cases k <;> simp [upB, h1, h2]
theorem upB_zero (t : TTree) (n : Int) (h : n ≠ 1) : upB t 0 n = false := by
  simp [upB, h]
theorem upB_kind (t : TTree) (k : Nat) (n : Int) (h : n ≠ 1) (hk : (t.at n).kind ≠ 2) : upB t k n = false := by
  have h1 : (n == 1) = false := beq_eq_false_iff_ne.2 h
  have h2 : ((t.at n).kind == 2) = false := beq_eq_false_iff_ne.2 hk
  cases k <;> simp [upB, h1, h2]
theorem upB_step (t : TTree) (k : Nat) (n : Int) (h1 : 1 < n) (h2 : n < t.nodes.length) (hk : (t.at n).kind = 2) : upB t (k + 1) n = upB t k (t.at n).parent := by
  have h3 : (n == 1) = false := beq_eq_false_iff_ne.2 (by omega)
  simp [upB, h1, h2, h3, hk]

set_option maxHeartbeats 1000000 in
set_option maxRecDepth 100000 in
theorem up_calls (t : TTree) (A : Option Addr) (c bt bu : Nat) (k : Nat) (hk : k ≤ 32) : ∀ (n l : Int) (w : World), l = k → NodesAt w A t.nodes →
    w.cell? ⟨bt, 0, none⟩ = some (.slice A t.nodes.length c) → w.cell? ⟨bu, 0, none⟩ = some (.func (.func 118) #[] #[.pointer (some ⟨bt, 0, none⟩), .pointer (some ⟨bu, 0, none⟩)]) →
    Calls Tryz.prog 118 #[.int .i64 n, .int .i64 l, .pointer (some ⟨bt, 0, none⟩), .pointer (some ⟨bu, 0, none⟩)] w fun e w' => e = .returned (.bool (upB t k n)) ∧ Below w.heap.size w w' := by
  induction k with
  | zero =>
    intro n l w hl hA hbt hbu
    have l0 : decide (0 < l) = false := decide_eq_false (by omega)
    clear hl
    by_cases h1 : n = 1
    · subst h1
      go_enter Tryz.func118, Tryz.ntmps118
      go_wp2
      refine wp_region_later (by kernel_rfl) (by kernel_rfl) ?_
      repeat (go_big_quiet_step (fail))
      refine wpQuiet_nil ?_
      intro wL hbL
      go_wp2
      go_ret
      exact ⟨ret_bool (upB_one _ _).symm, (by repeat (first | exact Below.refl _ _ | assumption | refine Below.drew ?_ | refine below_drewN ?_ _ | refine below_alloc ?_ _ | refine below_set ?_ (by simp) _ | refine below_step ?_ (by assumption)))⟩
    · have g1 : (n == 1) = false := beq_eq_false_iff_ne.2 h1
      have H1 := Lib.hid h1
      clear h1
      go_enter Tryz.func118, Tryz.ntmps118
      go_wp2
      refine wp_region_later (by kernel_rfl) (by kernel_rfl) ?_
      repeat (go_big_quiet_step (fail))
      refine wpQuiet_nil ?_
      intro wL hbL
      go_wp2
      go_ret
      exact ⟨ret_bool (upB_zero _ _ H1.out).symm, (by repeat (first | exact Below.refl _ _ | assumption | refine Below.drew ?_ | refine below_drewN ?_ _ | refine below_alloc ?_ _ | refine below_set ?_ (by simp) _ | refine below_step ?_ (by assumption)))⟩
  | succ k ih =>
    intro n l w hl hA hbt hbu
    have HL := Lib.hid hl
    have l0 : 0 < l := by omega
    have l1 : l ≤ 32 := by omega
    clear hl
    have hbtl := World.block_lt_of_cell? _ _ hbt
    have hbul := World.block_lt_of_cell? _ _ hbu
    dsimp only at hbtl hbul
    by_cases h1 : n = 1
    · subst h1
      go_enter Tryz.func118, Tryz.ntmps118
      go_wp2
      refine wp_region_later (by kernel_rfl) (by kernel_rfl) ?_
      repeat (go_big_quiet_step (fail))
      refine wpQuiet_nil ?_
      intro wL hbL
      go_wp2
      go_ret
      exact ⟨ret_bool (upB_one _ _).symm, (by repeat (first | exact Below.refl _ _ | assumption | refine Below.drew ?_ | refine below_drewN ?_ _ | refine below_alloc ?_ _ | refine below_set ?_ (by simp) _ | refine below_step ?_ (by assumption)))⟩
    · have g1 : (n == 1) = false := beq_eq_false_iff_ne.2 h1
      by_cases h2 : 1 < n
      · by_cases h3 : n < (t.nodes.length : Int)
        · obtain ⟨x, hx⟩ : ∃ x, t.nodes[n.toNat]? = some x := ⟨t.nodes[n.toNat]'(by omega), by simp⟩
          obtain ⟨b, o, Dx, cdx, Lx, clx, rfl, _, _, _, _, x0, x1, x2, x3, x4, x5, x6, x7, x8, x9⟩ := hA.get hx
          have hat : t.at n = x := by simp [TTree.at, hx]
          have HX := Lib.hid hat
          have HA := Lib.hid hA
          have hbl := World.block_lt_of_cell? _ _ x0
          dsimp only at hbl
          have hn0 : 0 ≤ n := by omega
          clear x1 x2 x3 x4 x5 x6 x7 x8 hx hat hA h1
          by_cases hk2 : x.kind = 2
          · have g2 : (x.kind == 2) = true := beq_iff_eq.2 hk2
            have K2 := Lib.hid hk2
            clear hk2
            go_enter Tryz.func118, Tryz.ntmps118
            go_wp2
            refine wp_region_later (by kernel_rfl) (by kernel_rfl) ?_
            repeat (go_big_quiet_step ((exact Calls.later (ih (by omega) _ _ _ (by have := HL.out; omega) (HA.out.keep (Later.h _)) (Later.cell _ hbt) (Later.cell _ hbu)))))
            refine wpQuiet_nil ?_
            intro wL hbL
            go_wp2
            go_ret
            exact ⟨ret_bool (by rw [upB_step t k n (by omega) (by omega) (by rw [HX.out]; exact K2.out), HX.out]), (by repeat (first | exact Below.refl _ _ | assumption | refine Below.drew ?_ | refine below_drewN ?_ _ | refine below_alloc ?_ _ | refine below_set ?_ (by simp) _ | refine below_step ?_ (by assumption)))⟩
          · have g2 : (x.kind == 2) = false := beq_eq_false_iff_ne.2 hk2
            have K2 := Lib.hid hk2
            clear hk2
            go_enter Tryz.func118, Tryz.ntmps118
            go_wp2
            refine wp_region_later (by kernel_rfl) (by kernel_rfl) ?_
            repeat (go_big_quiet_step (fail))
            refine wpQuiet_nil ?_
            intro wL hbL
            go_wp2
            go_ret
            exact ⟨ret_bool (by rw [upB_kind t _ n (by omega) (by rw [HX.out]; exact K2.out)]), (by repeat (first | exact Below.refl _ _ | assumption | refine Below.drew ?_ | refine below_drewN ?_ _ | refine below_alloc ?_ _ | refine below_set ?_ (by simp) _ | refine below_step ?_ (by assumption)))⟩
        · have g3 : decide (n < (t.nodes.length : Int)) = false := decide_eq_false h3
          have H3 : (t.nodes.length : Int) ≤ n := by omega
          have H1 := Lib.hid h1
          clear h1 h3
          go_enter Tryz.func118, Tryz.ntmps118
          go_wp2
          refine wp_region_later (by kernel_rfl) (by kernel_rfl) ?_
          repeat (go_big_quiet_step (fail))
          refine wpQuiet_nil ?_
          intro wL hbL
          go_wp2
          go_ret
          exact ⟨ret_bool (by rw [upB_high t _ n H1.out H3]), (by repeat (first | exact Below.refl _ _ | assumption | refine Below.drew ?_ | refine below_drewN ?_ _ | refine below_alloc ?_ _ | refine below_set ?_ (by simp) _ | refine below_step ?_ (by assumption)))⟩
      · have g2 : decide (1 < n) = false := decide_eq_false h2
        have hlow : n < 1 := by omega
        clear h1 h2
        go_enter Tryz.func118, Tryz.ntmps118
        go_wp2
        refine wp_region_later (by kernel_rfl) (by kernel_rfl) ?_
        repeat (go_big_quiet_step (fail))
        refine wpQuiet_nil ?_
        intro wL hbL
        go_wp2
        go_ret
        exact ⟨ret_bool (upB_low _ _ _ hlow).symm, (by repeat (first | exact Below.refl _ _ | assumption | refine Below.drew ?_ | refine below_drewN ?_ _ | refine below_alloc ?_ _ | refine below_set ?_ (by simp) _ | refine below_step ?_ (by assumption)))⟩
end Go.Proofs.YtbfcfjgcmideeaaGreatDoor
