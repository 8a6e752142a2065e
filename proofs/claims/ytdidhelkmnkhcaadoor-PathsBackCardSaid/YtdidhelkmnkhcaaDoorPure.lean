/- The plain notions of layer 12: a tree of files as Lean data, and when a tree may be. No program in sight. -/
namespace Go.Proofs.YtdidhelkmnkhcaaDoor

structure TEnt where
  name : ByteArray
  node : Int

structure TNode where
  kind : Int
  mode : Int
  user : Int
  group : Int
  links : Int
  time : Int
  data : List Int
  target : ByteArray
  list : List TEnt
  parent : Int

structure TTree where
  nodes : List TNode
  now : Int

def zNode : TNode := ⟨0, 0, 0, 0, 0, 0, [], ⟨#[]⟩, [], 0⟩
instance : Inhabited TNode := ⟨zNode⟩
instance : Inhabited TEnt := ⟨⟨⟨#[]⟩, 0⟩⟩

/-- What fits Go's types, and the reach. -/
def I64 (x : Int) : Prop := -9223372036854775808 ≤ x ∧ x ≤ 9223372036854775807
structure TEnt.Fits (e : TEnt) : Prop where
  name : e.name.size ≤ 140737488355328
  node : I64 e.node
structure TNode.Fits (n : TNode) : Prop where
  kind : 0 ≤ n.kind ∧ n.kind ≤ 255
  mode : I64 n.mode
  user : I64 n.user
  group : I64 n.group
  links : I64 n.links
  time : I64 n.time
  parent : I64 n.parent
  data : n.data.length ≤ 140737488355328
  target : n.target.size ≤ 140737488355328
  list : n.list.length ≤ 140737488355328
  ents : ∀ e ∈ n.list, e.Fits
structure TTree.Fits (t : TTree) : Prop where
  nodes : t.nodes.length ≤ 140737488355328
  each : ∀ n ∈ t.nodes, n.Fits
  now : I64 t.now

end Go.Proofs.YtdidhelkmnkhcaaDoor
