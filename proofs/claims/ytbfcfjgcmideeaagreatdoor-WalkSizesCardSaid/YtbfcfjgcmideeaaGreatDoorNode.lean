/- tree.node: may a node be, by itself? -/
import Derived.Test.YtbfcfjgcmideeaaGreatDoorN1
namespace Go.Proofs.YtbfcfjgcmideeaaGreatDoor
open Go.RowKit
attribute [local go_sem] max2_i min2_i max_2 min_2 max_3 min_3 Later.cell_eq
set_option maxHeartbeats 1000000 in
theorem node_calls_yes (kind mode user group links time : Int) (data : List Int) (target : ByteArray) (list : List TEnt) (parent : Int) (hn : (TNode.mk kind mode user group links time data target list parent).Fits)
    (a0 : 0 ≤ kind) (a1 : kind ≤ 3) (a2 : 0 ≤ mode) (a3 : mode ≤ 511) (a4 : 0 ≤ user) (a5 : user ≤ 65535) (a6 : 0 ≤ group) (a7 : group ≤ 65535) (a8 : 0 ≤ time) (a9 : time ≤ 1099511627775)
    (D L : Option Addr) (cd cl : Nat) (w : World) :
    Calls Tryz.prog 116 #[.agg #[.int .u8 kind, .int .i64 mode, .int .i64 user, .int .i64 group, .int .i64 links, .int .i64 time, .slice D data.length cd, .string target, .slice L list.length cl, .int .i64 parent], .agg #[.func (.func 182) #[] #[], .func (.func 183) #[] #[], .func (.func 184) #[] #[], .func (.func 185) #[] #[]]] w fun e w' => e = .returned (.bool (TNode.mk kind mode user group links time data target list parent).byKind) ∧ Below w.heap.size w w' := by
  have a10 : 0 ≤ min user (min group time) := by omega
  have a11 : max user group ≤ 65535 := by omega
  have hc : kind = 0 ∨ kind = 1 ∨ kind = 2 ∨ kind = 3 := by omega
  have HN := Lib.hid hn
  clear hn
  rcases hc with rfl | rfl | rfl | rfl
  · go_enter Tryz.func116, Tryz.ntmps116
    go_wp2
    refine wp_region_later (by kernel_rfl) (by kernel_rfl) ?_
    repeat (go_big_quiet_step ((exact Calls.later (kind0_calls ⟨0, mode, user, group, links, time, data, target, list, parent⟩ HN.out D L cd cl _))))
    refine wpQuiet_nil ?_
    intro wL hbL
    go_wp2
    go_ret
    exact ⟨ret_bool (by simp [TNode.byKind]), (by repeat (first | exact Below.refl _ _ | assumption | refine Below.drew ?_ | refine below_drewN ?_ _ | refine below_alloc ?_ _ | refine below_set ?_ (by simp) _ | refine below_step ?_ (by assumption)))⟩
  · go_enter Tryz.func116, Tryz.ntmps116
    go_wp2
    refine wp_region_later (by kernel_rfl) (by kernel_rfl) ?_
    repeat (go_big_quiet_step ((exact Calls.later (kind1_calls ⟨1, mode, user, group, links, time, data, target, list, parent⟩ HN.out D L cd cl _))))
    refine wpQuiet_nil ?_
    intro wL hbL
    go_wp2
    go_ret
    exact ⟨ret_bool (by simp [TNode.byKind]), (by repeat (first | exact Below.refl _ _ | assumption | refine Below.drew ?_ | refine below_drewN ?_ _ | refine below_alloc ?_ _ | refine below_set ?_ (by simp) _ | refine below_step ?_ (by assumption)))⟩
  · go_enter Tryz.func116, Tryz.ntmps116
    go_wp2
    refine wp_region_later (by kernel_rfl) (by kernel_rfl) ?_
    repeat (go_big_quiet_step ((exact Calls.later (kind2_calls ⟨2, mode, user, group, links, time, data, target, list, parent⟩ HN.out D L cd cl _))))
    refine wpQuiet_nil ?_
    intro wL hbL
    go_wp2
    go_ret
    exact ⟨ret_bool (by simp [TNode.byKind]), (by repeat (first | exact Below.refl _ _ | assumption | refine Below.drew ?_ | refine below_drewN ?_ _ | refine below_alloc ?_ _ | refine below_set ?_ (by simp) _ | refine below_step ?_ (by assumption)))⟩
  · go_enter Tryz.func116, Tryz.ntmps116
    go_wp2
    refine wp_region_later (by kernel_rfl) (by kernel_rfl) ?_
    repeat (go_big_quiet_step ((exact Calls.later (kind3_calls ⟨3, mode, user, group, links, time, data, target, list, parent⟩ HN.out D L cd cl _))))
    refine wpQuiet_nil ?_
    intro wL hbL
    go_wp2
    go_ret
    exact ⟨ret_bool (by simp [TNode.byKind]), (by repeat (first | exact Below.refl _ _ | assumption | refine Below.drew ?_ | refine below_drewN ?_ _ | refine below_alloc ?_ _ | refine below_set ?_ (by simp) _ | refine below_step ?_ (by assumption)))⟩
theorem node_calls (n : TNode) (hn : n.Fits) (D L : Option Addr) (cd cl : Nat) (w : World) :
    Calls Tryz.prog 116 #[.agg #[.int .u8 n.kind, .int .i64 n.mode, .int .i64 n.user, .int .i64 n.group, .int .i64 n.links, .int .i64 n.time, .slice D n.data.length cd, .string n.target, .slice L n.list.length cl, .int .i64 n.parent], .agg #[.func (.func 182) #[] #[], .func (.func 183) #[] #[], .func (.func 184) #[] #[], .func (.func 185) #[] #[]]] w fun e w' => e = .returned (.bool n.ok) ∧ Below w.heap.size w w' := by
  have hk := hn.kind
  by_cases hnums : n.nums = true
  · have hn' := hnums
    rw [TNode.nums, decide_eq_true_iff] at hn'
    obtain ⟨a1, a2, a3, a4, a5, a6, a7, a8, a9⟩ := hn'
    refine (node_calls_yes n.kind n.mode n.user n.group n.links n.time n.data n.target n.list n.parent hn hk.1 a1 a2 a3 a4 a5 a6 a7 a8 a9 D L cd cl w).mono fun e w' ⟨he, hb⟩ => ⟨?_, hb⟩
    rw [he, TNode.ok, hnums, Bool.true_and]
  · have hneg : ¬ (n.kind ≤ 3 ∧ 0 ≤ n.mode ∧ n.mode ≤ 511 ∧ 0 ≤ n.user ∧ n.user ≤ 65535 ∧ 0 ≤ n.group ∧ n.group ≤ 65535 ∧ 0 ≤ n.time ∧ n.time ≤ 1099511627775) := by
      rw [TNode.nums, decide_eq_true_iff] at hnums; exact hnums
    have hok : n.ok = false := by rw [TNode.ok, Bool.eq_false_iff.mpr hnums]; rfl
    have HN := Lib.hid hneg
    have HO := Lib.hid hok
    clear hneg hok hnums
    go_enter Tryz.func116, Tryz.ntmps116
    go_wp2
    all_goals first
      | (exfalso; have := HN.out; omega)
      | (go_ret; refine ⟨ret_bool HO.out.symm, (by repeat (first | exact Below.refl _ _ | assumption | refine Below.drew ?_ | refine below_drewN ?_ _ | refine below_alloc ?_ _ | refine below_set ?_ (by simp) _ | refine below_step ?_ (by assumption)))⟩)
end Go.Proofs.YtbfcfjgcmideeaaGreatDoor
