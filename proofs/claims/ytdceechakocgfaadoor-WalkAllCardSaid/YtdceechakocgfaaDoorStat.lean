/- tree.Of, tree.Stat, tree.Sizes. -/
import Derived.Test.YtdceechakocgfaaDoorPath
import Derived.Test.YtdceechakocgfaaDoorM4
import Derived.Test.YtdceechakocgfaaDoorM2
import Derived.Great.BuildSlice
import Derived.Laws.CopyOwn
namespace Go.Proofs.YtdceechakocgfaaDoor
open Go.RowKit
attribute [local go_sem] Later.cell_eq
def statV (n : Int) (x : TNode) : Value := .agg #[.int .i64 n, .int .u8 x.kind, .int .i64 x.mode, .int .i64 x.user, .int .i64 x.group, .int .i64 x.links, .int .i64 (((x.data.length + x.target.size : Nat) : Int) + (x.list.length : Nat)), .int .i64 x.time]
def noStat : Value := .agg #[.int .i64 0, .int .u8 0, .int .i64 0, .int .i64 0, .int .i64 0, .int .i64 0, .int .i64 0, .int .i64 0]
set_option maxHeartbeats 1000000 in
theorem of_calls (t : TTree) (hF : t.Fits) (n : Int) (h0 : 0 ≤ n) (h1 : n < t.nodes.length) (A : Option Addr) (c : Nat) (w : World) (hA : NodesAt w A t.nodes) :
    Calls Tryd.prog 22 #[.agg #[.slice A t.nodes.length c, .int .i64 t.now], .int .i64 n] w fun e w' => e = .returned (statV n (t.at n)) ∧ Below w.heap.size w w' := by
  obtain ⟨x, hx⟩ : ∃ x, t.nodes[n.toNat]? = some x := ⟨t.nodes[n.toNat]'(by omega), by simp⟩
  rw [at_eq hx]
  have hf := hF.each x (List.mem_of_getElem? hx)
  obtain ⟨b, o, D, cd, L, cl, rfl, -, -, -, -, x0, x1, x2, x3, x4, x5, x6, x7, x8, x9⟩ := hA.get hx
  have hd := hf.data
  have ht := hf.target
  have hl := hf.list
  have hbl := World.block_lt_of_cell? _ _ x0
  dsimp only at hbl
  clear hA hx hF hf
  go_enter Tryd.func22, Tryd.ntmps22
  go_wp2
  refine bodyPost_ret (by simp [results, Tryd.results22, go_sem]; rfl) rfl ?_
  exact ⟨rfl, (by repeat (first | exact Below.refl _ _ | assumption | refine Below.drew ?_ | refine below_drewN ?_ _ | refine below_alloc ?_ _ | refine below_set ?_ (by simp) _ | refine below_step ?_ (by assumption)))⟩
noncomputable def isNodeB (t : TTree) (n : Int) : Bool := treeOK t && (decide (1 ≤ n) && decide (n < t.nodes.length) && (t.at n).kind != 0)
noncomputable def tStat (t : TTree) (n : Int) : Value := if isNodeB t n = true then statV n (t.at n) else noStat
noncomputable def tStatE (t : TTree) (n : Int) : Int := if isNodeB t n = true then 0 else 1
end Go.Proofs.YtdceechakocgfaaDoor
