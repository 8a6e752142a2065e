/- When a tree may be. -/
import Derived.Test.YtdidhelkmnkhcaaDoorSpec
namespace Go.Proofs.YtdidhelkmnkhcaaDoor

structure HeadOK (t : TTree) : Prop where
  two : 2 ≤ t.nodes.length
  most : t.nodes.length ≤ 513
  zero : (t.at 0).kind = 0
  root : (t.at 1).kind = 2
  rootp : (t.at 1).parent = 1
  last : (t.at (t.nodes.length - 1 : Nat)).kind ≠ 0
  now0 : 0 ≤ t.now
  now1 : t.now ≤ 1099511627775
def TTree.bytes (t : TTree) (i : Nat) : Nat := ((t.nodes.take i).map fun n => n.data.length).sum
def TTree.names (t : TTree) (i : Nat) : Nat := ((t.nodes.take i).map fun n => n.list.length).sum
def TTree.times (t : TTree) (j : Nat) : Nat := (t.refs t.nodes.length).count j
def linkOK (t : TTree) (i : Nat) (x : TNode) : Prop :=
  (x.kind = 2 → x.links = 2 + (dirsOf t x.list : Nat) ∧ (1 < i → t.times i = 1) ∧ upB t 32 i = true) ∧
  (x.kind = 1 ∨ x.kind = 3 → 1 ≤ t.times i ∧ x.links = (t.times i : Nat))
/-- May a tree be? -/
structure TreeOK (t : TTree) : Prop where
  head : HeadOK t
  each : ∀ x ∈ t.nodes, x.ok = true
  lists : ∀ i n, t.nodes[i]? = some n → listOK t i n
  bytes : t.bytes t.nodes.length ≤ 1048576
  names : t.names t.nodes.length ≤ 2048
  link : ∀ i n, t.nodes[i]? = some n → linkOK t i n
noncomputable def treeOK (t : TTree) : Bool := @decide (TreeOK t) (Classical.propDecidable _)
theorem treeOK_iff (t : TTree) : treeOK t = true ↔ TreeOK t := by unfold treeOK; exact @decide_eq_true_iff _ (Classical.propDecidable _)
theorem treeOK_yes {t : TTree} (h : TreeOK t) : treeOK t = true := (treeOK_iff t).mpr h
theorem treeOK_no {t : TTree} (h : ¬ TreeOK t) : treeOK t = false := by
  cases e : treeOK t with
  | false => rfl
  | true => exact absurd ((treeOK_iff t).mp e) h
theorem TreeOK.of {t : TTree} (h : treeOK t = true) : TreeOK t := (treeOK_iff t).mp h
end Go.Proofs.YtdidhelkmnkhcaaDoor
