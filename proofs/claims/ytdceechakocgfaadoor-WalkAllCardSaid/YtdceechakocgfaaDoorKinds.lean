/- tree.kinds and its four functions, tree.node: what a node must be by itself. -/
import Derived.Test.YtdceechakocgfaaDoorM1
import Derived.Test.YtdceechakocgfaaDoorBits
import Derived.Test.YtdceechakocgfaaDoorShelf
import Derived.WalkKit
import Derived.BigQuiet
import Derived.Deep.QuietTactic
import Derived.Lib.Hide
import Derived.Lib.IndexAny
import Derived.Laws.EntriesVeiled
namespace Go.Proofs.YtdceechakocgfaaDoor
open Go.RowKit
theorem toList_nil (s : ByteArray) : s.toList = [] ↔ s.size = 0 := by
  rw [ByteArray.toList_eq, ← List.length_eq_zero_iff, Array.length_toList]; rfl
theorem no0_iff (s : ByteArray) : no0 s = true ↔ Lib.indexByte s.data.toList 0 < 0 := by
  unfold no0
  rw [Lib.contains_iff_indexByte]
  simp

set_option maxHeartbeats 400000 in
theorem kind0_calls (n : TNode) (hn : n.Fits) (D L : Option Addr) (cd cl : Nat) (w : World) :
    Calls Tryd.prog 31 #[.agg #[.int .u8 n.kind, .int .i64 n.mode, .int .i64 n.user, .int .i64 n.group, .int .i64 n.links, .int .i64 n.time, .slice D n.data.length cd, .string n.target, .slice L n.list.length cl, .int .i64 n.parent]] w fun e w' => e = .returned (.bool n.k0) ∧ Below w.heap.size w w' := by
  obtain ⟨_, i1, i2, i3, i4, i5, i6, b1, b2, b3, _⟩ := hn
  have H : bits .or .i64 (bits .or .i64 (bits .or .i64 (bits .or .i64 (bits .or .i64 n.mode n.user) n.group) n.links) n.time) n.parent = 0 ↔ n.mode = 0 ∧ n.user = 0 ∧ n.group = 0 ∧ n.links = 0 ∧ n.time = 0 ∧ n.parent = 0 := by
    rw [or_zero _ _ (or_i64 _ _) i6, or_zero _ _ (or_i64 _ _) i5, or_zero _ _ (or_i64 _ _) i4, or_zero _ _ (or_i64 _ _) i3, or_zero _ _ i1 i2]
    simp only [and_assoc]
  have H' := Lib.hid H
  clear H i1 i2 i3 i4 i5 i6
  go_enter Tryd.func31, Tryd.ntmps31
  go_wp2
  all_goals go_ret
  · have h := ‹bits _ _ _ _ = 0›
    obtain ⟨e1, e2, e3, e4, e5, e6⟩ := H'.out.mp h
    refine ⟨ret_bool ?_, (by repeat (first | exact Below.refl _ _ | assumption | refine Below.drew ?_ | refine below_drewN ?_ _ | refine below_alloc ?_ _ | refine below_set ?_ (by simp) _ | refine below_step ?_ (by assumption)))⟩
    rw [Bool.eq_iff_iff, beq_iff_eq, TNode.k0, decide_eq_true_iff]; omega
  · have h := ‹¬ bits _ _ _ _ = 0›
    rw [H'.out] at h
    refine ⟨ret_bool ?_, (by repeat (first | exact Below.refl _ _ | assumption | refine Below.drew ?_ | refine below_drewN ?_ _ | refine below_alloc ?_ _ | refine below_set ?_ (by simp) _ | refine below_step ?_ (by assumption)))⟩
    symm; rw [TNode.k0, decide_eq_false_iff_not]; intro hh; exact h ⟨hh.1, hh.2.1, hh.2.2.1, hh.2.2.2.1, hh.2.2.2.2.1, hh.2.2.2.2.2.1⟩

set_option maxHeartbeats 400000 in
theorem kind1_calls (n : TNode) (hn : n.Fits) (D L : Option Addr) (cd cl : Nat) (w : World) :
    Calls Tryd.prog 32 #[.agg #[.int .u8 n.kind, .int .i64 n.mode, .int .i64 n.user, .int .i64 n.group, .int .i64 n.links, .int .i64 n.time, .slice D n.data.length cd, .string n.target, .slice L n.list.length cl, .int .i64 n.parent]] w fun e w' => e = .returned (.bool n.k1) ∧ Below w.heap.size w w' := by
  obtain ⟨_, i1, i2, i3, i4, i5, i6, b1, b2, b3, _⟩ := hn
  unfold I64 at i6
  by_cases h1 : n.data.length ≤ 65536
  · by_cases h2 : wrap64 ((n.list.length : Int) + n.target.size + n.parent) = 0
    all_goals
      go_enter Tryd.func32, Tryd.ntmps32
      go_wp2
      all_goals go_ret
      all_goals refine ⟨ret_bool ?_, (by repeat (first | exact Below.refl _ _ | assumption | refine Below.drew ?_ | refine below_drewN ?_ _ | refine below_alloc ?_ _ | refine below_set ?_ (by simp) _ | refine below_step ?_ (by assumption)))⟩
      all_goals unfold wrap64 at h2
      all_goals rw [Bool.eq_iff_iff, TNode.k1, decide_eq_true_iff]
      all_goals simp only [beq_iff_eq, Bool.false_eq_true, false_iff]
      all_goals omega
  · go_enter Tryd.func32, Tryd.ntmps32
    go_wp2
    all_goals go_ret
    all_goals refine ⟨ret_bool ?_, (by repeat (first | exact Below.refl _ _ | assumption | refine Below.drew ?_ | refine below_drewN ?_ _ | refine below_alloc ?_ _ | refine below_set ?_ (by simp) _ | refine below_step ?_ (by assumption)))⟩
    all_goals rw [Bool.eq_iff_iff, TNode.k1, decide_eq_true_iff]
    all_goals simp only [Bool.false_eq_true, false_iff]
    all_goals omega
set_option maxHeartbeats 400000 in
theorem kind2_calls (n : TNode) (hn : n.Fits) (D L : Option Addr) (cd cl : Nat) (w : World) :
    Calls Tryd.prog 33 #[.agg #[.int .u8 n.kind, .int .i64 n.mode, .int .i64 n.user, .int .i64 n.group, .int .i64 n.links, .int .i64 n.time, .slice D n.data.length cd, .string n.target, .slice L n.list.length cl, .int .i64 n.parent]] w fun e w' => e = .returned (.bool n.k2) ∧ Below w.heap.size w w' := by
  obtain ⟨_, i1, i2, i3, i4, i5, i6, b1, b2, b3, _⟩ := hn
  go_enter Tryd.func33, Tryd.ntmps33
  go_wp2
  all_goals go_ret
  all_goals refine ⟨ret_bool ?_, (by repeat (first | exact Below.refl _ _ | assumption | refine Below.drew ?_ | refine below_drewN ?_ _ | refine below_alloc ?_ _ | refine below_set ?_ (by simp) _ | refine below_step ?_ (by assumption)))⟩
  all_goals rw [Bool.eq_iff_iff, TNode.k2]
  all_goals simp only [decide_eq_true_iff, Bool.false_eq_true, false_iff]
  all_goals omega
set_option maxHeartbeats 400000 in
theorem kind3_calls (n : TNode) (hn : n.Fits) (D L : Option Addr) (cd cl : Nat) (w : World) :
    Calls Tryd.prog 34 #[.agg #[.int .u8 n.kind, .int .i64 n.mode, .int .i64 n.user, .int .i64 n.group, .int .i64 n.links, .int .i64 n.time, .slice D n.data.length cd, .string n.target, .slice L n.list.length cl, .int .i64 n.parent]] w fun e w' => e = .returned (.bool n.k3) ∧ Below w.heap.size w w' := by
  obtain ⟨_, i1, i2, i3, i4, i5, i6, b1, b2, b3, _⟩ := hn
  go_enter Tryd.func34, Tryd.ntmps34
  go_wp2_with (go_at_call 35; refine (Tryd.strings_Contains_one _ _ _).mono ?_; rintro e w' ⟨rfl, rfl⟩)
  all_goals go_ret
  all_goals refine ⟨ret_bool ?_, (by repeat (first | exact Below.refl _ _ | assumption | refine Below.drew ?_ | refine below_drewN ?_ _ | refine below_alloc ?_ _ | refine below_set ?_ (by simp) _ | refine below_step ?_ (by assumption)))⟩
  all_goals have hz := toList_nil n.target
  all_goals have hno := no0_iff n.target
  all_goals rw [Bool.eq_iff_iff, TNode.k3]
  all_goals simp only [hz, hno, decide_eq_true_iff, Bool.false_eq_true, false_iff, Bool.and_eq_true, Bool.not_eq_true', decide_eq_false_iff_not, beq_iff_eq, List.isEmpty_eq_false_iff, ne_eq] at *
  all_goals omega
theorem kinds_calls (w : World) : Calls Tryd.prog 18 #[] w fun e w' => e = .returned (.agg #[.func (.func 31) #[] #[], .func (.func 32) #[] #[], .func (.func 33) #[] #[], .func (.func 34) #[] #[]]) ∧ Below w.heap.size w w' := by
  go_enter Tryd.func18, Tryd.ntmps18
  go_wp2
  exact bodyPost_ret (v := .agg #[.func (.func 31) #[] #[], .func (.func 32) #[] #[], .func (.func 33) #[] #[], .func (.func 34) #[] #[]]) (by simp [results, Tryd.results18, go_sem]) rfl ⟨rfl, (by repeat (first | exact Below.refl _ _ | assumption | refine Below.drew ?_ | refine below_drewN ?_ _ | refine below_alloc ?_ _ | refine below_set ?_ (by simp) _ | refine below_step ?_ (by assumption)))⟩
end Go.Proofs.YtdceechakocgfaaDoor
