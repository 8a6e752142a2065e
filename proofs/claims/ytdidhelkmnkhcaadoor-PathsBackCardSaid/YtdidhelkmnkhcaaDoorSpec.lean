/- When a tree may be, as Lean functions to Bool. -/
import Derived.Test.YtdidhelkmnkhcaaDoorPure
import Derived.WalkKit
namespace Go.Proofs.YtdidhelkmnkhcaaDoor

def TNode.k0 (n : TNode) : Bool := decide (n.mode = 0 ∧ n.user = 0 ∧ n.group = 0 ∧ n.links = 0 ∧ n.time = 0 ∧ n.parent = 0 ∧ n.data.length = 0 ∧ n.list.length = 0 ∧ n.target.size = 0)
def TNode.k1 (n : TNode) : Bool := decide (n.data.length ≤ 65536 ∧ n.list.length = 0 ∧ n.target.size = 0 ∧ n.parent = 0)
def TNode.k2 (n : TNode) : Bool := decide (n.data.length = 0 ∧ n.target.size = 0 ∧ n.list.length ≤ 512)
def no0 (s : ByteArray) : Bool := !s.data.toList.contains 0
def TNode.k3 (n : TNode) : Bool := decide (n.mode = 511 ∧ 1 ≤ n.target.size ∧ n.target.size ≤ 1024 ∧ no0 n.target = true ∧ n.data.length = 0 ∧ n.list.length = 0 ∧ n.parent = 0)
def TNode.nums (n : TNode) : Bool := decide (n.kind ≤ 3 ∧ 0 ≤ n.mode ∧ n.mode ≤ 511 ∧ 0 ≤ n.user ∧ n.user ≤ 65535 ∧ 0 ≤ n.group ∧ n.group ≤ 65535 ∧ 0 ≤ n.time ∧ n.time ≤ 1099511627775)
def TNode.byKind (n : TNode) : Bool := if n.kind = 0 then n.k0 else if n.kind = 1 then n.k1 else if n.kind = 2 then n.k2 else n.k3
def TNode.ok (n : TNode) : Bool := n.nums && n.byKind

/-- May a name be? -/
def hasBad (s : ByteArray) : Bool := s.data.toList.any fun b => b == 0 || b == 47
def nameOK (s : ByteArray) : Bool := decide (s.toList ≠ [] ∧ s.size ≤ 64 ∧ s.toList ≠ [46] ∧ s.toList ≠ [46, 46] ∧ hasBad s = false)

/-! Lists of names. -/
abbrev strLt (a b : ByteArray) : Bool := Go.Op.bytesLess a.toList b.toList
def TTree.at (t : TTree) (i : Int) : TNode := t.nodes.getD i.toNat zNode
/-- May entry e stand in directory i's list, as its first one or behind p? -/
def entOK (t : TTree) (i : Nat) (p : Option TEnt) (e : TEnt) : Prop :=
  nameOK e.name = true ∧ (∀ q, p = some q → strLt q.name e.name = true) ∧ 2 ≤ e.node ∧ e.node < t.nodes.length ∧ (t.at e.node).kind ≠ 0 ∧ ((t.at e.node).kind = 2 → (t.at e.node).parent = i)
/-- The first k entries of node i's list may stand. -/
def listTo (t : TTree) (i : Nat) (l : List TEnt) (k : Nat) : Prop :=
  ∀ j e, j < k → l[j]? = some e → entOK t i (if j = 0 then none else l[j - 1]?) e
def listOK (t : TTree) (i : Nat) (n : TNode) : Prop := listTo t i n.list n.list.length
def refsOf (l : List TEnt) : List Nat := l.map fun e => e.node.toNat
def TTree.refs (t : TTree) (i : Nat) : List Nat := (t.nodes.take i).flatMap fun n => refsOf n.list
def dirsOf (t : TTree) (l : List TEnt) : Nat := (l.filter fun e => (t.at e.node).kind == 2).length

/-- Does a directory lead to the root by at most k steps? -/
def upB (t : TTree) : Nat → Int → Bool
  | 0, n => n == 1
  | k + 1, n => n == 1 || (decide (1 < n) && decide (n < t.nodes.length) && (t.at n).kind == 2 && upB t k (t.at n).parent)
end Go.Proofs.YtdidhelkmnkhcaaDoor
