/- The plain notions of layer 12: a tree of files as Lean data, and when a tree may be. No program in sight. -/
/- How a tree lies in the machine's memory; what is kept when new memory is made. -/
/- When a tree may be, as Lean functions to Bool. -/
/- When a tree may be. -/
/- The order of names: plain lists of bytes. -/
/- A path's parts: plain. -/
/- The reference of layer 14, plain: a path's parts found one behind the other; a path without the slashes at its end. -/
/- What tree.listed counts: plain lists. -/
/- Bits of whole numbers: when an 'or' is nothing. -/
import Derived.Below
import Derived.Deep.Draws
import Derived.Deep.Quiet
import Derived.Laws.AppendOwn
import Derived.WalkKit
import Derived.Lib.Bytealg
import Derived.Lib.Strings
import Derived.Lib.IndexBytes
import Derived.Laws.BitsAllLaws
import Derived.Laws.BitsLemmas
namespace Go.Proofs.YtbfcfjgcmideeaaGreatDoor

structure TEnt where
  name : ByteArray
  node : Int

structure TNode where
  kind : Int
  mode : Int
  user : Int
  group : Int
  links : Int
  time : Int
  data : List Int
  target : ByteArray
  list : List TEnt
  parent : Int

structure TTree where
  nodes : List TNode
  now : Int

def zNode : TNode := ⟨0, 0, 0, 0, 0, 0, [], ⟨#[]⟩, [], 0⟩
instance : Inhabited TNode := ⟨zNode⟩
instance : Inhabited TEnt := ⟨⟨⟨#[]⟩, 0⟩⟩

/-- What fits Go's types, and the reach. -/
def I64 (x : Int) : Prop := -9223372036854775808 ≤ x ∧ x ≤ 9223372036854775807
structure TEnt.Fits (e : TEnt) : Prop where
  name : e.name.size ≤ 140737488355328
  node : I64 e.node
structure TNode.Fits (n : TNode) : Prop where
  kind : 0 ≤ n.kind ∧ n.kind ≤ 255
  mode : I64 n.mode
  user : I64 n.user
  group : I64 n.group
  links : I64 n.links
  time : I64 n.time
  parent : I64 n.parent
  data : n.data.length ≤ 140737488355328
  target : n.target.size ≤ 140737488355328
  list : n.list.length ≤ 140737488355328
  ents : ∀ e ∈ n.list, e.Fits
structure TTree.Fits (t : TTree) : Prop where
  nodes : t.nodes.length ≤ 140737488355328
  each : ∀ n ∈ t.nodes, n.Fits
  now : I64 t.now

end Go.Proofs.YtbfcfjgcmideeaaGreatDoor
namespace Go.Proofs.YtbfcfjgcmideeaaGreatDoor
open Go.RowKit

def EntsAt (w : World) (A : Option Addr) (l : List TEnt) : Prop :=
  ∀ k e, l[k]? = some e → ∃ b o, A = some ⟨b, o, none⟩ ∧ w.cell? ⟨b, o + k * 2, none⟩ = some (.string e.name) ∧ w.cell? ⟨b, o + k * 2 + 1, none⟩ = some (.int .i64 e.node)
def BytesAt (w : World) (A : Option Addr) (l : List Int) : Prop :=
  ∀ (k : Nat) x, l[k]? = some x → ∃ b o, A = some ⟨b, o, none⟩ ∧ w.cell? ⟨b, o + k, none⟩ = some (.int .u8 x)
def NodeVals (w : World) (n : TNode) (vs : List Value) : Prop :=
  ∃ D cd L cl, vs = [.int .u8 n.kind, .int .i64 n.mode, .int .i64 n.user, .int .i64 n.group, .int .i64 n.links, .int .i64 n.time, .slice D n.data.length cd, .string n.target, .slice L n.list.length cl, .int .i64 n.parent]
    ∧ n.data.length ≤ cd ∧ BytesAt w D n.data ∧ n.list.length ≤ cl ∧ EntsAt w L n.list
def NodesAt (w : World) (A : Option Addr) (l : List TNode) : Prop :=
  ∀ i n, l[i]? = some n → ∃ b o vs, A = some ⟨b, o, none⟩ ∧ NodeVals w n vs ∧ ∀ j v, vs[j]? = some v → w.cell? ⟨b, o + i * 10 + j, none⟩ = some v

theorem cell_keep {w w' : World} (h : Below w.heap.size w w') {p : Addr} {v : Value} (hc : w.cell? p = some v) : w'.cell? p = some v :=
  (h.cell (World.block_lt_of_cell? w p hc)).trans hc
theorem EntsAt.keep {w w' : World} (h : Below w.heap.size w w') {A l} (he : EntsAt w A l) : EntsAt w' A l := fun k e hk => by
  obtain ⟨b, o, hA, h0, h1⟩ := he k e hk
  exact ⟨b, o, hA, cell_keep h h0, cell_keep h h1⟩
theorem BytesAt.keep {w w' : World} (h : Below w.heap.size w w') {A l} (he : BytesAt w A l) : BytesAt w' A l := fun k e hk => by
  obtain ⟨b, o, hA, h0⟩ := he k e hk
  exact ⟨b, o, hA, cell_keep h h0⟩
theorem NodeVals.keep {w w' : World} (h : Below w.heap.size w w') {n vs} (he : NodeVals w n vs) : NodeVals w' n vs := by
  obtain ⟨D, cd, L, cl, hv, h0, h1, h2, h3⟩ := he
  exact ⟨D, cd, L, cl, hv, h0, h1.keep h, h2, h3.keep h⟩
theorem NodesAt.keep {w w' : World} (h : Below w.heap.size w w') {A l} (he : NodesAt w A l) : NodesAt w' A l := fun i n hi => by
  obtain ⟨b, o, vs, hA, hn, hc⟩ := he i n hi
  exact ⟨b, o, vs, hA, hn.keep h, fun j v hj => cell_keep h (hc j v hj)⟩

theorem NodesAt.get {w : World} {A : Option Addr} {l : List TNode} {i : Nat} {n : TNode} (h : NodesAt w A l) (hi : l[i]? = some n) :
    ∃ b o D cd L cl, A = some ⟨b, o, none⟩ ∧ n.data.length ≤ cd ∧ BytesAt w D n.data ∧ n.list.length ≤ cl ∧ EntsAt w L n.list ∧
      w.cell? ⟨b, o + i * 10, none⟩ = some (.int .u8 n.kind) ∧ w.cell? ⟨b, o + i * 10 + 1, none⟩ = some (.int .i64 n.mode) ∧ w.cell? ⟨b, o + i * 10 + 2, none⟩ = some (.int .i64 n.user) ∧
      w.cell? ⟨b, o + i * 10 + 3, none⟩ = some (.int .i64 n.group) ∧ w.cell? ⟨b, o + i * 10 + 4, none⟩ = some (.int .i64 n.links) ∧ w.cell? ⟨b, o + i * 10 + 5, none⟩ = some (.int .i64 n.time) ∧
      w.cell? ⟨b, o + i * 10 + 6, none⟩ = some (.slice D n.data.length cd) ∧ w.cell? ⟨b, o + i * 10 + 7, none⟩ = some (.string n.target) ∧ w.cell? ⟨b, o + i * 10 + 8, none⟩ = some (.slice L n.list.length cl) ∧
      w.cell? ⟨b, o + i * 10 + 9, none⟩ = some (.int .i64 n.parent) := by
  obtain ⟨b, o, vs, hA, ⟨D, cd, L, cl, rfl, h1, h2, h3, h4⟩, hc⟩ := h i n hi
  exact ⟨b, o, D, cd, L, cl, hA, h1, h2, h3, h4, hc 0 _ rfl, hc 1 _ rfl, hc 2 _ rfl, hc 3 _ rfl, hc 4 _ rfl, hc 5 _ rfl, hc 6 _ rfl, hc 7 _ rfl, hc 8 _ rfl, hc 9 _ rfl⟩

/-- A later world: all that there was is as it was. -/
structure Later (W : World) where
  w : World
  h : Below W.heap.size W w
instance (W : World) : Inhabited (Later W) := ⟨⟨W, Below.refl _ _⟩⟩
theorem Later.cell_eq {W : World} (x : Later W) (p : Addr) (h : p.block < W.heap.size) : x.w.cell? p = W.cell? p := x.h.cell h
theorem Later.cell {W : World} (x : Later W) {p : Addr} {v : Value} (h : W.cell? p = some v) : x.w.cell? p = some v := cell_keep x.h h
def Later.then {W : World} (x : Later W) {w' : World} (h : Below x.w.heap.size x.w w') : Later W := ⟨w', x.h.trans (h.mono x.h.size)⟩
def IsLater (W w : World) : Prop := ∃ x : Later W, w = x.w
theorem IsLater.below {W w : World} : IsLater W w → Below W.heap.size W w := fun ⟨x, h⟩ => h ▸ x.h
theorem Calls.later {P : Program} {f : FuncId} {args : Array Value} {W : World} {x : Later W} {v : Value}
    (h : Calls P f args x.w fun e w' => e = .returned v ∧ Below x.w.heap.size x.w w') : Calls P f args x.w fun e w'' => e = .returned v ∧ ∃ y : Later W, w'' = y.w :=
  h.mono fun _ _ ⟨he, hb⟩ => ⟨he, x.then hb, rfl⟩
theorem Calls.later_same {P : Program} {f : FuncId} {args : Array Value} {W : World} {x : Later W} {v : Value}
    (h : Calls P f args x.w fun e w' => e = .returned v ∧ w' = x.w) : Calls P f args x.w fun e w'' => e = .returned v ∧ ∃ y : Later W, w'' = y.w :=
  h.mono fun _ _ ⟨he, hb⟩ => ⟨he, x, hb⟩
/-- A region in any order whose operations read what there was and call what makes new memory alone. -/
theorem wp_region_later {P : Program} {id : Nat} {Q : Exit → Act → World → Prop} {a : Act} {W : World} {l : List Oper} (hm : P.follows .mixedOrders = true) (hB : Region.lexB .any l.toArray = true)
    (h : wpQuiet P l.toArray (fun w' => ∃ x : Later W, w' = x.w) (fun a' => ∀ w', Below W.heap.size W w' → Q .normal a' w') l a) : (Code.region id l.toArray true).wp P Q a W :=
  wp_region_quiet (C := fun w' => ∃ x : Later W, w' = x.w) hm hB ⟨⟨W.drew, (Below.refl _ _).drew⟩, rfl⟩ (by
    have e : (fun a' : Act => ∀ w', Below W.heap.size W w' → Q .normal a' w') = (fun a' => ∀ w', (∃ x : Later W, w' = x.w) → Q .normal a' w') :=
      funext fun a' => propext ⟨fun H w' ⟨x, hx⟩ => H w' (hx ▸ x.h), fun H w' hb => H w' ⟨⟨w', hb⟩, rfl⟩⟩
    rw [e] at h
    simpa using h)

theorem cell_set {w : World} {p q : Addr} {u v : Value} (h : w.cell? p = some v) (hne : p.block ≠ q.block) : (w.setCell q u).cell? p = some v := by
  rw [World.cell?_setCell_other]
  · exact h
  · rintro rfl; exact hne rfl
theorem cell_new {w : World} {p : Addr} {v : Value} (h : w.cell? p = some v) (o : Obj) : (w.alloc o).cell? p = some v := (World.cell?_alloc_lt _ _ _ (World.block_lt_of_cell? _ _ h)).trans h

/-! min, max -/
theorem max2_i (k k' : IntKind) (x y : Int) : Builtin.max2 (.int k x) (.int k' y) = pure (.int k (max x y)) := by
  simp only [Builtin.max2, gt_iff_lt]; congr 2; split <;> omega
theorem min2_i (k k' : IntKind) (x y : Int) : Builtin.min2 (.int k x) (.int k' y) = pure (.int k (min x y)) := by
  simp only [Builtin.min2]; congr 2; split <;> omega
theorem max_2 (ats : Array TypeId) (ty : TypeId) (a b : Value) : Builtin.max_ ats ty #[a, b] = (Builtin.max2 a b >>= fun s => pure s) := by simp only [Builtin.max_, List.foldlM_cons, List.foldlM_nil]
theorem min_2 (ats : Array TypeId) (ty : TypeId) (a b : Value) : Builtin.min_ ats ty #[a, b] = (Builtin.min2 a b >>= fun s => pure s) := by simp only [Builtin.min_, List.foldlM_cons, List.foldlM_nil]
theorem max_3 (ats : Array TypeId) (ty : TypeId) (a b c : Value) : Builtin.max_ ats ty #[a, b, c] = (Builtin.max2 a b >>= fun s => Builtin.max2 s c >>= fun s => pure s) := by simp only [Builtin.max_, List.foldlM_cons, List.foldlM_nil]
theorem min_3 (ats : Array TypeId) (ty : TypeId) (a b c : Value) : Builtin.min_ ats ty #[a, b, c] = (Builtin.min2 a b >>= fun s => Builtin.min2 s c >>= fun s => pure s) := by simp only [Builtin.min_, List.foldlM_cons, List.foldlM_nil]

/-! closers -/
theorem ret_bool {a b : Bool} (h : a = b) : Ending.returned (.bool a) = .returned (.bool b) := by rw [h]
theorem ret_int {k : IntKind} {a b : Int} (h : a = b) : Ending.returned (.int k a) = .returned (.int k b) := by rw [h]
theorem ret_string {a b : ByteArray} (h : a = b) : Ending.returned (.string a) = .returned (.string b) := by rw [h]
theorem below_drewN {B : Nat} {a w : World} (h : Below B a w) (n : Nat) : Below B a (w.drewN n) := ⟨h.os, h.tape, h.output, h.size, h.block⟩
theorem below_alloc {w W : World} (h : Below w.heap.size w W) (o : Obj) : Below w.heap.size w (W.alloc o) := h.alloc h.size o
theorem below_step {w W W' : World} (h : Below w.heap.size w W) (k : Below W.heap.size W W') : Below w.heap.size w W' := h.trans (k.mono h.size)
theorem below_set {w W : World} (h : Below w.heap.size w W) {p : Addr} (hp : w.heap.size ≤ p.block) (u : Value) : Below w.heap.size w (W.setCell p u) := h.setCell hp u
theorem below_lt {w W : World} (h : Below w.heap.size w W) {b : Nat} (hb : b < w.heap.size) : b < W.heap.size := Nat.lt_of_lt_of_le hb h.size
end Go.Proofs.YtbfcfjgcmideeaaGreatDoor
namespace Go.Proofs.YtbfcfjgcmideeaaGreatDoor

def TNode.k0 (n : TNode) : Bool := decide (n.mode = 0 ∧ n.user = 0 ∧ n.group = 0 ∧ n.links = 0 ∧ n.time = 0 ∧ n.parent = 0 ∧ n.data.length = 0 ∧ n.list.length = 0 ∧ n.target.size = 0)
def TNode.k1 (n : TNode) : Bool := decide (n.data.length ≤ 65536 ∧ n.list.length = 0 ∧ n.target.size = 0 ∧ n.parent = 0)
def TNode.k2 (n : TNode) : Bool := decide (n.data.length = 0 ∧ n.target.size = 0 ∧ n.list.length ≤ 512)
def no0 (s : ByteArray) : Bool := !s.data.toList.contains 0
def TNode.k3 (n : TNode) : Bool := decide (n.mode = 511 ∧ 1 ≤ n.target.size ∧ n.target.size ≤ 1024 ∧ no0 n.target = true ∧ n.data.length = 0 ∧ n.list.length = 0 ∧ n.parent = 0)
def TNode.nums (n : TNode) : Bool := decide (n.kind ≤ 3 ∧ 0 ≤ n.mode ∧ n.mode ≤ 511 ∧ 0 ≤ n.user ∧ n.user ≤ 65535 ∧ 0 ≤ n.group ∧ n.group ≤ 65535 ∧ 0 ≤ n.time ∧ n.time ≤ 1099511627775)
def TNode.byKind (n : TNode) : Bool := if n.kind = 0 then n.k0 else if n.kind = 1 then n.k1 else if n.kind = 2 then n.k2 else n.k3
def TNode.ok (n : TNode) : Bool := n.nums && n.byKind

/-- May a name be? -/
def hasBad (s : ByteArray) : Bool := s.data.toList.any fun b => b == 0 || b == 47
def nameOK (s : ByteArray) : Bool := decide (s.toList ≠ [] ∧ s.size ≤ 64 ∧ s.toList ≠ [46] ∧ s.toList ≠ [46, 46] ∧ hasBad s = false)

/-! Lists of names. -/
abbrev strLt (a b : ByteArray) : Bool := Go.Op.bytesLess a.toList b.toList
def TTree.at (t : TTree) (i : Int) : TNode := t.nodes.getD i.toNat zNode
/-- May entry e stand in directory i's list, as its first one or behind p? -/
def entOK (t : TTree) (i : Nat) (p : Option TEnt) (e : TEnt) : Prop :=
  nameOK e.name = true ∧ (∀ q, p = some q → strLt q.name e.name = true) ∧ 2 ≤ e.node ∧ e.node < t.nodes.length ∧ (t.at e.node).kind ≠ 0 ∧ ((t.at e.node).kind = 2 → (t.at e.node).parent = i)
/-- The first k entries of node i's list may stand. -/
def listTo (t : TTree) (i : Nat) (l : List TEnt) (k : Nat) : Prop :=
  ∀ j e, j < k → l[j]? = some e → entOK t i (if j = 0 then none else l[j - 1]?) e
def listOK (t : TTree) (i : Nat) (n : TNode) : Prop := listTo t i n.list n.list.length
def refsOf (l : List TEnt) : List Nat := l.map fun e => e.node.toNat
def TTree.refs (t : TTree) (i : Nat) : List Nat := (t.nodes.take i).flatMap fun n => refsOf n.list
def dirsOf (t : TTree) (l : List TEnt) : Nat := (l.filter fun e => (t.at e.node).kind == 2).length

/-- Does a directory lead to the root by at most k steps? -/
def upB (t : TTree) : Nat → Int → Bool
  | 0, n => n == 1
  | k + 1, n => n == 1 || (decide (1 < n) && decide (n < t.nodes.length) && (t.at n).kind == 2 && upB t k (t.at n).parent)
end Go.Proofs.YtbfcfjgcmideeaaGreatDoor
namespace Go.Proofs.YtbfcfjgcmideeaaGreatDoor

structure HeadOK (t : TTree) : Prop where
  two : 2 ≤ t.nodes.length
  most : t.nodes.length ≤ 513
  zero : (t.at 0).kind = 0
  root : (t.at 1).kind = 2
  rootp : (t.at 1).parent = 1
  last : (t.at (t.nodes.length - 1 : Nat)).kind ≠ 0
  now0 : 0 ≤ t.now
  now1 : t.now ≤ 1099511627775
def TTree.bytes (t : TTree) (i : Nat) : Nat := ((t.nodes.take i).map fun n => n.data.length).sum
def TTree.names (t : TTree) (i : Nat) : Nat := ((t.nodes.take i).map fun n => n.list.length).sum
def TTree.times (t : TTree) (j : Nat) : Nat := (t.refs t.nodes.length).count j
def linkOK (t : TTree) (i : Nat) (x : TNode) : Prop :=
  (x.kind = 2 → x.links = 2 + (dirsOf t x.list : Nat) ∧ (1 < i → t.times i = 1) ∧ upB t 32 i = true) ∧
  (x.kind = 1 ∨ x.kind = 3 → 1 ≤ t.times i ∧ x.links = (t.times i : Nat))
/-- May a tree be? -/
structure TreeOK (t : TTree) : Prop where
  head : HeadOK t
  each : ∀ x ∈ t.nodes, x.ok = true
  lists : ∀ i n, t.nodes[i]? = some n → listOK t i n
  bytes : t.bytes t.nodes.length ≤ 1048576
  names : t.names t.nodes.length ≤ 2048
  link : ∀ i n, t.nodes[i]? = some n → linkOK t i n
noncomputable def treeOK (t : TTree) : Bool := @decide (TreeOK t) (Classical.propDecidable _)
theorem treeOK_iff (t : TTree) : treeOK t = true ↔ TreeOK t := by unfold treeOK; exact @decide_eq_true_iff _ (Classical.propDecidable _)
theorem treeOK_yes {t : TTree} (h : TreeOK t) : treeOK t = true := (treeOK_iff t).mpr h
theorem treeOK_no {t : TTree} (h : ¬ TreeOK t) : treeOK t = false := by
  cases e : treeOK t with
  | false => rfl
  | true => exact absurd ((treeOK_iff t).mp e) h
theorem TreeOK.of {t : TTree} (h : treeOK t = true) : TreeOK t := (treeOK_iff t).mp h
end Go.Proofs.YtbfcfjgcmideeaaGreatDoor
namespace Go.Proofs.YtbfcfjgcmideeaaGreatDoor
theorem bl_irrefl : ∀ a : List UInt8, Go.Op.bytesLess a a = false
  | [] => rfl
  | x :: a => by simp [Go.Op.bytesLess, bl_irrefl a]
theorem bl_trans : ∀ a b c : List UInt8, Go.Op.bytesLess a b = true → Go.Op.bytesLess b c = true → Go.Op.bytesLess a c = true
  | [], [], _, h, _ => by cases h
  | [], _ :: _, [], _, h => by cases h
  | [], _ :: _, _ :: _, _, _ => rfl
  | _ :: _, [], _, h, _ => by cases h
  | _ :: _, _ :: _, [], _, h => by cases h
  | x :: a, y :: b, z :: c, h, k => by
    simp only [Go.Op.bytesLess, Bool.or_eq_true, decide_eq_true_iff, Bool.and_eq_true, beq_iff_eq] at h k ⊢
    rcases h with h | ⟨rfl, h⟩
    · rcases k with k | ⟨rfl, k⟩
      · exact Or.inl (UInt8.lt_trans h k)
      · exact Or.inl h
    · rcases k with k | ⟨rfl, k⟩
      · exact Or.inl k
      · exact Or.inr ⟨rfl, bl_trans a b c h k⟩
theorem cmp_lt : ∀ a b : List UInt8, Go.Lib.compareBytes a b < 0 ↔ Go.Op.bytesLess a b = true
  | [], [] => by decide
  | [], _ :: _ => by simp [Go.Lib.compareBytes, Go.Op.bytesLess]
  | _ :: _, [] => by simp [Go.Lib.compareBytes, Go.Op.bytesLess]
  | x :: a, y :: b => by
    have ih := cmp_lt a b
    simp only [Go.Lib.compareBytes, Go.Op.bytesLess, Bool.or_eq_true, decide_eq_true_iff, Bool.and_eq_true, beq_iff_eq]
    by_cases h : x < y
    · simp [h]
    · by_cases k : y < x
      · have : x ≠ y := fun e => by subst e; exact UInt8.lt_irrefl _ k
        simp [h, k, this]
      · have : x = y := UInt8.le_antisymm (UInt8.not_lt.mp k) (UInt8.not_lt.mp h)
        subst this
        simp [ih, UInt8.lt_irrefl]
theorem cmp_eq : ∀ a b : List UInt8, Go.Lib.compareBytes a b = 0 ↔ a = b
  | [], [] => by decide
  | [], _ :: _ => by simp [Go.Lib.compareBytes]
  | _ :: _, [] => by simp [Go.Lib.compareBytes]
  | x :: a, y :: b => by
    have ih := cmp_eq a b
    simp only [Go.Lib.compareBytes, List.cons.injEq]
    by_cases h : x < y
    · have : x ≠ y := fun e => by subst e; exact UInt8.lt_irrefl _ h
      simp [h, this]
    · by_cases k : y < x
      · have : x ≠ y := fun e => by subst e; exact UInt8.lt_irrefl _ k
        simp [h, k, this]
      · have : x = y := UInt8.le_antisymm (UInt8.not_lt.mp k) (UInt8.not_lt.mp h)
        subst this
        simp [ih, UInt8.lt_irrefl]
theorem strLt_irrefl (a : ByteArray) : strLt a a = false := bl_irrefl _
theorem strLt_trans {a b c : ByteArray} (h : strLt a b = true) (k : strLt b c = true) : strLt a c = true := bl_trans _ _ _ h k
theorem str_ext {a b : ByteArray} (h : a.data.toList = b.data.toList) : a = b := by
  cases a; cases b; congr; exact Array.ext' h
def scmp (a b : ByteArray) : Int := Go.Lib.compareBytes a.data.toList b.data.toList
theorem scmp_lt (a b : ByteArray) : scmp a b < 0 ↔ strLt a b = true := by
  unfold scmp strLt
  rw [cmp_lt, ByteArray.toList_eq, ByteArray.toList_eq]
theorem scmp_eq (a b : ByteArray) : scmp a b = 0 ↔ a = b := by
  unfold scmp
  rw [cmp_eq]
  exact ⟨str_ext, fun h => by rw [h]⟩

/-- Names rise. -/
def Rising (l : List TEnt) : Prop := ∀ (i j : Nat) (e f : TEnt), i < j → l[i]? = some e → l[j]? = some f → strLt e.name f.name = true
theorem listOK_rising {t : TTree} {i : Nat} {n : TNode} (h : listOK t i n) : Rising n.list := by
  intro a b e f hab he hf
  induction b generalizing f with
  | zero => omega
  | succ b ih =>
    have hb : b + 1 < n.list.length := (List.getElem?_eq_some_iff.1 hf).1
    obtain ⟨g, hg⟩ : ∃ g, n.list[b]? = some g := ⟨n.list[b], by simp⟩
    have h1 := (h (b + 1) f hb hf).2.1 g (by rw [if_neg (by omega)]; exact hg)
    by_cases c : a = b
    · subst c; rw [he] at hg; cases hg; exact h1
    · exact strLt_trans (ih g (by omega) hg) h1
def sameB (a b : ByteArray) : Bool := a.data.toList == b.data.toList
/-- The node of a name in a list; 0: none. -/
def inList (l : List TEnt) (s : ByteArray) : Int := match l.find? (fun e => sameB e.name s) with | some e => e.node | none => 0
theorem beq_name (a b : ByteArray) : sameB a b = true ↔ a = b := by
  unfold sameB
  rw [beq_iff_eq]
  exact ⟨str_ext, fun h => by rw [h]⟩
theorem inList_hit {l : List TEnt} (hr : Rising l) {k : Nat} {e : TEnt} (he : l[k]? = some e) : inList l e.name = e.node := by
  unfold inList
  have hk : k < l.length := (List.getElem?_eq_some_iff.1 he).1
  have hf : l.find? (fun f => sameB f.name e.name) = some e := by
    rw [List.find?_eq_some_iff_getElem]
    refine ⟨(beq_name _ _).mpr rfl, k, hk, (List.getElem?_eq_some_iff.1 he).2, fun j hj => ?_⟩
    have hlt := hr j k l[j] e hj (by simp) he
    cases hb : (sameB l[j].name e.name) with
    | false => rfl
    | true => rw [(beq_name _ _).mp hb, strLt_irrefl] at hlt; cases hlt
  rw [hf]
theorem inList_miss {l : List TEnt} {s : ByteArray} (h : ∀ e ∈ l, e.name ≠ s) : inList l s = 0 := by
  unfold inList
  have hf : l.find? (fun f => sameB f.name s) = none := by
    rw [List.find?_eq_none]
    intro e he hb
    exact h e he ((beq_name _ _).mp hb)
  rw [hf]
end Go.Proofs.YtbfcfjgcmideeaaGreatDoor
namespace Go.Proofs.YtbfcfjgcmideeaaGreatDoor
/-- What stands between slashes. -/
def pieces : List UInt8 → List (List UInt8)
  | [] => [[]]
  | c :: r => if c = 47 then [] :: pieces r else match pieces r with
    | [] => [[c]]
    | p :: ps => (c :: p) :: ps
theorem pieces_ne (l : List UInt8) : pieces l ≠ [] := by
  cases l with
  | nil => simp [pieces]
  | cons c r =>
    unfold pieces
    split
    · simp
    · split <;> simp
theorem pieces_hit : ∀ (p q : List UInt8), 47 ∉ p → pieces (p ++ 47 :: q) = p :: pieces q
  | [], q, _ => by simp [pieces]
  | c :: p, q, h => by
    have hc : c ≠ 47 := fun e => h (by simp [e])
    rw [List.cons_append, pieces, if_neg hc, pieces_hit p q fun e => h (by simp [e])]
theorem pieces_none : ∀ (p : List UInt8), 47 ∉ p → pieces p = [p]
  | [], _ => rfl
  | c :: p, h => by
    have hc : c ≠ 47 := fun e => h (by simp [e])
    unfold pieces
    rw [if_neg hc, pieces_none p fun e => h (by simp [e])]
theorem index_hit : ∀ (l : List UInt8) (n : Nat), Go.Lib.countByte l 47 = n + 1 → ∃ p q, l = p ++ 47 :: q ∧ 47 ∉ p ∧ Go.Lib.indexByte l 47 = (p.length : Nat) ∧ Go.Lib.countByte q 47 = n
  | [], n, h => by simp [Go.Lib.countByte] at h
  | c :: r, n, h => by
    by_cases hc : c = 47
    · subst hc
      refine ⟨[], r, rfl, by simp, by simp [Go.Lib.indexByte], ?_⟩
      unfold Go.Lib.countByte at h ⊢
      rw [List.count_cons_self] at h
      omega
    · have hc' : (c == 47) = false := beq_eq_false_iff_ne.2 hc
      have h' : Go.Lib.countByte r 47 = n + 1 := by
        unfold Go.Lib.countByte at h ⊢
        rw [List.count_cons_of_ne hc] at h
        exact h
      obtain ⟨p, q, h1, h2, h3, h4⟩ := index_hit r n h'
      refine ⟨c :: p, q, by rw [h1]; rfl, by simp [h2, Ne.symm hc], ?_, h4⟩
      unfold Go.Lib.indexByte
      rw [hc', h3, if_neg (by simp), if_neg (by rw [beq_iff_eq]; omega)]
      simp
theorem count_none {l : List UInt8} (h : Go.Lib.countByte l 47 = 0) : 47 ∉ l := by
  unfold Go.Lib.countByte at h
  exact List.count_eq_zero.1 h
/-- A path's parts. -/
def partsOf (l : List UInt8) : List (List UInt8) := (pieces l).filter fun p => !p.isEmpty
theorem pieces_length (l : List UInt8) : (pieces l).length = Go.Lib.countByte l 47 + 1 := by
  unfold Go.Lib.countByte
  induction l with
  | nil => rfl
  | cons c r ih =>
    unfold pieces
    by_cases hc : c = 47
    · subst hc; rw [if_pos rfl, List.count_cons_self, List.length_cons, ih]
    · rw [if_neg hc, List.count_cons_of_ne hc, ← ih]
      have := pieces_ne r
      split
      · rename_i h; exact absurd h this
      · rename_i h; rw [h]; rfl
end Go.Proofs.YtbfcfjgcmideeaaGreatDoor
namespace Go.Proofs.YtbfcfjgcmideeaaGreatDoor
theorem pieces_split (a b : List UInt8) : pieces (a ++ 47 :: b) = pieces a ++ pieces b := by
  induction a with
  | nil => simp [pieces]
  | cons c r ih =>
    rw [List.cons_append, pieces, pieces]
    by_cases hc : c = 47
    · rw [if_pos hc, if_pos hc, ih]; rfl
    · rw [if_neg hc, if_neg hc, ih]
      cases h : pieces r with
      | nil => exact absurd h (pieces_ne r)
      | cons p ps => rfl
theorem partsOf_split (a b : List UInt8) : partsOf (a ++ 47 :: b) = partsOf a ++ partsOf b := by unfold partsOf; rw [pieces_split, List.filter_append]
theorem partsOf_none (p : List UInt8) (h : 47 ∉ p) : partsOf p = if p = [] then [] else [p] := by
  unfold partsOf
  rw [pieces_none p h]
  cases p with
  | nil => rfl
  | cons c r => rfl
/-- What has been found of s's parts: those ahead of place f, where a part begins. -/
def PartsTo (s : List UInt8) (f : Nat) (l : List (List UInt8)) : Prop := ∀ x, partsOf (s.take f ++ x) = l ++ partsOf x
theorem partsTo_start (s : List UInt8) : PartsTo s 0 [] := fun _ => rfl
theorem take_mid (s : List UInt8) {f i : Nat} (h : f ≤ i) : s.take i = s.take f ++ (s.take i).drop f := by
  have h1 := (List.take_append_drop f (s.take i)).symm
  rwa [List.take_take, Nat.min_eq_left h] at h1
theorem partsTo_next {s : List UInt8} {f i : Nat} {l : List (List UInt8)} (h : f ≤ i) (hi : s[i]? = some 47) (hm : 47 ∉ (s.take i).drop f) (hP : PartsTo s f l) :
    PartsTo s (i + 1) (l ++ if (s.take i).drop f = [] then [] else [(s.take i).drop f]) := fun x => by
  have e : s.take (i + 1) ++ x = s.take f ++ ((s.take i).drop f ++ 47 :: x) := by
    rw [List.take_add_one, hi]
    conv => lhs; rw [take_mid s h]
    simp
  rw [e, hP, partsOf_split, partsOf_none _ hm, List.append_assoc]
theorem partsTo_end {s : List UInt8} {f : Nat} {l : List (List UInt8)} (h : f ≤ s.length) (hm : 47 ∉ (s.take s.length).drop f) (hP : PartsTo s f l) :
    partsOf s = l ++ if (s.take s.length).drop f = [] then [] else [(s.take s.length).drop f] := by
  have := hP ((s.take s.length).drop f)
  rw [← take_mid s h, partsOf_none _ hm, List.take_length] at this
  rw [this, List.take_length]
theorem mid_nil {s : List UInt8} {f i : Nat} (hi : i ≤ s.length) : (s.take i).drop f = [] ↔ i ≤ f := by
  rw [← List.length_eq_zero_iff, List.length_drop, List.length_take]; omega
theorem mid_step {s : List UInt8} {f i : Nat} {b : UInt8} (h : f ≤ i) (hi : s[i]? = some b) : (s.take (i + 1)).drop f = (s.take i).drop f ++ [b] := by
  rw [List.take_add_one, hi, List.drop_append_of_le_length]
  · rfl
  · rw [List.length_take]; have := (List.getElem?_eq_some_iff.1 hi).1; omega
theorem mid_self (s : List UInt8) (f : Nat) : (s.take f).drop f = [] := by simp
theorem takeWhile_all {p : UInt8 → Bool} : ∀ {l : List UInt8}, (∀ x ∈ l, p x = true) → l.takeWhile p = l
  | [], _ => rfl
  | a :: r, h => by rw [List.takeWhile_cons, if_pos (h a (by simp)), takeWhile_all fun x hx => h x (by simp [hx])]
/-- Without the slashes at its end. -/
def bareS (s : List UInt8) : List UInt8 := (s.reverse.dropWhile (· == 47)).reverse
theorem bareS_nil : bareS [] = [] := rfl
theorem bareS_hit (s : List UInt8) : bareS (s ++ [47]) = bareS s := by unfold bareS; rw [List.reverse_append]; simp
theorem bareS_stop (s : List UInt8) {b : UInt8} (h : b ≠ 47) : bareS (s ++ [b]) = s ++ [b] := by
  unfold bareS; rw [List.reverse_append]; simp [h]
/-- The place behind the last slash. -/
def lastS (s : List UInt8) : Nat := s.length - (s.reverse.takeWhile (· != 47)).length
theorem lastS_nil : lastS [] = 0 := rfl
theorem lastS_hit (s : List UInt8) : lastS (s ++ [47]) = s.length + 1 := by unfold lastS; rw [List.reverse_append]; simp
theorem lastS_go (s : List UInt8) {b : UInt8} (h : b ≠ 47) : lastS (s ++ [b]) = lastS s := by
  unfold lastS; rw [List.reverse_append]; simp [h]
theorem lastS_le (s : List UInt8) : lastS s ≤ s.length := by unfold lastS; omega
def baseS (s : List UInt8) : List UInt8 := if s = [] then [46] else if bareS s = [] then [47] else (bareS s).drop (lastS (bareS s))
def dirS (s : List UInt8) : List UInt8 :=
  if bareS ((bareS s).take (lastS (bareS s))) ≠ [] then bareS ((bareS s).take (lastS (bareS s))) else if s.head? = some 47 then [47] else [46]
/-- Every text ends without a slash, or is one slash longer than another. -/
theorem end_cases (s : List UInt8) : s = [] ∨ (∃ r, s = r ++ [47]) ∨ ∃ r b, b ≠ 47 ∧ s = r ++ [b] := by
  rcases List.eq_nil_or_concat s with h | ⟨r, b, h⟩
  · exact .inl h
  · by_cases hb : b = 47
    · exact .inr (.inl ⟨r, by rw [h, hb, List.concat_eq_append]⟩)
    · exact .inr (.inr ⟨r, b, hb, by rw [h, List.concat_eq_append]⟩)
theorem bareS_len (s : List UInt8) : (bareS s).length ≤ s.length := by
  unfold bareS; rw [List.length_reverse]; exact Nat.le_trans (List.dropWhile_sublist _).length_le (by simp)
theorem partsOf_hit (s : List UInt8) : partsOf (s ++ [47]) = partsOf s := by rw [partsOf_split]; simp [partsOf, pieces]
theorem partsOf_bare : ∀ (n : Nat) (s : List UInt8), s.length = n → partsOf (bareS s) = partsOf s := by
  intro n
  induction n with
  | zero => intro s h; rw [List.eq_nil_of_length_eq_zero h]; rfl
  | succ n ih =>
    intro s h
    rcases end_cases s with rfl | ⟨r, rfl⟩ | ⟨r, b, hb, rfl⟩
    · rfl
    · rw [bareS_hit, partsOf_hit]; exact ih r (by simpa using h)
    · rw [bareS_stop r hb]
/-- A text that does not end with a slash ends with its last part. -/
theorem parts_last (s : List UInt8) (b : UInt8) (hb : b ≠ 47) : ∃ l, partsOf (s ++ [b]) = l ++ [(s ++ [b]).drop (lastS (s ++ [b]))] ∧ 47 ∉ (s ++ [b]).drop (lastS (s ++ [b])) := by
  generalize hn : s.length = n
  have key : ∀ (t : List UInt8), 47 ∉ t → t ≠ [] → ∀ (s : List UInt8), ∃ l, partsOf (s ++ t) = l ++ [(s ++ t).drop (lastS (s ++ t))] ∧ 47 ∉ (s ++ t).drop (lastS (s ++ t)) := by
    intro t ht hne s
    induction hk : s.length generalizing s t with
    | zero =>
      have : s = [] := List.eq_nil_of_length_eq_zero hk
      subst this
      have h0 : lastS t = 0 := by
        unfold lastS
        have : t.reverse.takeWhile (· != 47) = t.reverse := takeWhile_all fun x hx => by
          have : x ≠ 47 := fun e => ht (by rw [← e]; simpa using hx)
          simpa using this
        rw [this]; simp
      exact ⟨[], by simp [h0, partsOf_none t ht, hne], by simpa [h0] using ht⟩
    | succ k ih =>
      rcases end_cases s with rfl | ⟨r, rfl⟩ | ⟨r, c, hc, rfl⟩
      · simp at hk
      · have h0 : lastS (r ++ [47] ++ t) = r.length + 1 := by
          unfold lastS
          have : (r ++ [47] ++ t).reverse.takeWhile (· != 47) = t.reverse := by
            rw [List.reverse_append, List.takeWhile_append_of_pos]
            · simp
            · intro x hx
              have : x ≠ 47 := fun e => ht (by rw [← e]; simpa using hx)
              simpa using this
          rw [this]; simp; omega
        have h1 : (r ++ [47] ++ t).drop (r.length + 1) = t := by
          rw [show r.length + 1 = (r ++ [47]).length by simp, List.drop_left]
        refine ⟨partsOf r, ?_, by rw [h0, h1]; exact ht⟩
        rw [h0, h1, show r ++ [47] ++ t = r ++ 47 :: t by simp, partsOf_split, partsOf_none t ht, if_neg hne]
      · have := ih (c :: t) (by simp [ht, Ne.symm hc]) (by simp) r (by simpa using hk)
        rwa [show r ++ [c] ++ t = r ++ c :: t by simp]
  exact key [b] (by simpa using Ne.symm hb) (by simp) s
/-- The last part is the base. -/
theorem base_parts (s : List UInt8) : baseS s = if s = [] then [46] else if partsOf s = [] then [47] else (partsOf s).getLastD [] := by
  unfold baseS
  by_cases h0 : s = []
  · rw [if_pos h0, if_pos h0]
  · rw [if_neg h0, if_neg h0, ← partsOf_bare _ s rfl]
    have hbs : bareS s = [] ∨ ∃ r b, b ≠ 47 ∧ bareS s = r ++ [b] := by
      generalize hn : s.length = n
      clear h0
      induction n generalizing s with
      | zero => rw [List.eq_nil_of_length_eq_zero hn]; exact .inl rfl
      | succ n ih =>
        rcases end_cases s with rfl | ⟨r, rfl⟩ | ⟨r, b, hb, rfl⟩
        · exact .inl rfl
        · rw [bareS_hit]; exact ih r (by simpa using hn)
        · exact .inr ⟨r, b, hb, bareS_stop r hb⟩
    rcases hbs with h | ⟨r, b, hb, h⟩
    · rw [if_pos h, if_pos (by rw [h]; rfl)]
    · obtain ⟨l, h1, -⟩ := parts_last r b hb
      rw [h, if_neg (by simp), h1, if_neg (by simp)]
      simp
end Go.Proofs.YtbfcfjgcmideeaaGreatDoor
namespace Go.Proofs.YtbfcfjgcmideeaaGreatDoor

theorem getD_set_self (l : List Int) (j : Nat) (x : Int) (h : j < l.length) : (l.set j x).getD j 0 = x := by
  simp [h]
theorem getD_set_other (l : List Int) (i j : Nat) (x : Int) (h : i ≠ j) : (l.set i x).getD j 0 = l.getD j 0 := by
  simp [h]
theorem getD_replicate0 (n j : Nat) : (List.replicate n (0 : Int)).getD j 0 = 0 := by
  simp [List.getElem?_replicate]
  split <;> rfl

structure OuterOK (t : TTree) (N i : Nat) (T D : List Int) : Prop where
  lt : T.length = N
  ld : D.length = N
  times : ∀ j, j < N → T.getD j 0 = ((t.refs i).count j : Nat)
  dirs : ∀ j n, j < i → t.nodes[j]? = some n → D.getD j 0 = (dirsOf t n.list : Nat)
  zero : ∀ j, i ≤ j → D.getD j 0 = 0
  ok : ∀ j n, j < i → t.nodes[j]? = some n → listOK t j n
structure InnerOK (t : TTree) (N i : Nat) (l : List TEnt) (k : Nat) (T D : List Int) : Prop where
  lt : T.length = N
  ld : D.length = N
  times : ∀ j, j < N → T.getD j 0 = ((t.refs i).count j + (refsOf (l.take k)).count j : Nat)
  dirs : ∀ j n, j < i → t.nodes[j]? = some n → D.getD j 0 = (dirsOf t n.list : Nat)
  dir : D.getD i 0 = (dirsOf t (l.take k) : Nat)
  zero : ∀ j, i < j → D.getD j 0 = 0
  ok : ∀ j n, j < i → t.nodes[j]? = some n → listOK t j n
  to : listTo t i l k
def preOK (N k : Nat) (l : List TEnt) (e : TEnt) : Prop := nameOK e.name = true ∧ (∀ q, k ≠ 0 → l[k - 1]? = some q → strLt q.name e.name = true) ∧ 2 ≤ e.node ∧ e.node < N
/-- The entry at k may stand there. -/
def entAt (t : TTree) (i : Nat) (l : List TEnt) (k : Nat) (e : TEnt) : Prop := entOK t i (if k = 0 then none else l[k - 1]?) e
theorem entAt_iff {t : TTree} {N i k : Nat} (hN : t.nodes.length = N) {l : List TEnt} {e : TEnt} {x : TNode} (hx : t.nodes[e.node.toNat]? = some x) :
    entAt t i l k e ↔ preOK N k l e ∧ x.kind ≠ 0 ∧ (x.kind = 2 → x.parent = i) := by
  have hat : t.at e.node = x := by simp [TTree.at, hx]
  unfold entAt entOK preOK
  rw [hat, hN]
  constructor
  · rintro ⟨a, b, c, d, f, g⟩
    exact ⟨⟨a, fun q hk hq => b q (by rw [if_neg hk]; exact hq), c, d⟩, f, g⟩
  · rintro ⟨⟨a, b, c, d⟩, f, g⟩
    refine ⟨a, fun q hq => ?_, c, d, f, g⟩
    by_cases hk : k = 0
    · rw [if_pos hk] at hq; cases hq
    · rw [if_neg hk] at hq; exact b q hk hq
theorem entAt_pre {t : TTree} {N i k : Nat} (hN : t.nodes.length = N) {l : List TEnt} {e : TEnt} (h : entAt t i l k e) : preOK N k l e := by
  obtain ⟨a, b, c, d, f, g⟩ := h
  exact ⟨a, fun q hk hq => b q (by rw [if_neg hk]; exact hq), c, hN ▸ d⟩
theorem OuterOK.start (t : TTree) (N : Nat) : OuterOK t N 0 (List.replicate N 0) (List.replicate N 0) :=
  ⟨by simp, by simp, fun j _ => by rw [getD_replicate0]; simp [TTree.refs], fun j n h => absurd h (by omega), fun j _ => getD_replicate0 _ _, fun j n h => absurd h (by omega)⟩
theorem OuterOK.inner {t : TTree} {N i : Nat} {T D : List Int} (h : OuterOK t N i T D) (l : List TEnt) : InnerOK t N i l 0 T D :=
  ⟨h.lt, h.ld, fun j hj => by rw [h.times j hj]; simp [refsOf], h.dirs, by rw [h.zero i (Nat.le_refl _)]; simp [dirsOf], fun j hj => h.zero j (by omega), h.ok, fun j e hj => absurd hj (by omega)⟩
theorem refs_succ {t : TTree} {i : Nat} {n : TNode} (hn : t.nodes[i]? = some n) : t.refs (i + 1) = t.refs i ++ refsOf n.list := by
  unfold TTree.refs
  rw [List.take_add_one, hn, List.flatMap_append]
  simp
theorem InnerOK.outer {t : TTree} {N i : Nat} {n : TNode} {T D : List Int} (hn : t.nodes[i]? = some n) (h : InnerOK t N i n.list n.list.length T D) : OuterOK t N (i + 1) T D := by
  refine ⟨h.lt, h.ld, fun j hj => ?_, fun j m hj hm => ?_, fun j hj => h.zero j (by omega), fun j m hj hm => ?_⟩
  · rw [h.times j hj, refs_succ hn, List.count_append, List.take_length]
  · by_cases e : j = i
    · subst e; rw [hn] at hm; cases hm; rw [h.dir, List.take_length]
    · exact h.dirs j m (by omega) hm
  · by_cases e : j = i
    · subst e; rw [hn] at hm; cases hm; exact h.to
    · exact h.ok j m (by omega) hm
theorem refsOf_succ {l : List TEnt} {k : Nat} {e : TEnt} (he : l[k]? = some e) : refsOf (l.take (k + 1)) = refsOf (l.take k) ++ [e.node.toNat] := by
  unfold refsOf
  rw [List.take_add_one, he]
  simp
theorem listTo_succ {t : TTree} {i k : Nat} {l : List TEnt} {e : TEnt} (h : listTo t i l k) (he : l[k]? = some e) (ha : entAt t i l k e) : listTo t i l (k + 1) := by
  intro j f hj hf
  by_cases c : j = k
  · subst c; rw [he] at hf; cases hf; exact ha
  · exact h j f (by omega) hf
theorem InnerOK.times_succ {t : TTree} {N i k : Nat} {l : List TEnt} {T D : List Int} {e : TEnt} (h : InnerOK t N i l k T D) (he : l[k]? = some e) (hm : e.node.toNat < N) :
    (T.set e.node.toNat (T.getD e.node.toNat 0 + 1)).length = N ∧ ∀ j, j < N → (T.set e.node.toNat (T.getD e.node.toNat 0 + 1)).getD j 0 = ((t.refs i).count j + (refsOf (l.take (k + 1))).count j : Nat) := by
  refine ⟨by simp [h.lt], fun j hj => ?_⟩
  rw [refsOf_succ he, List.count_append]
  by_cases c : e.node.toNat = j
  · subst c
    rw [getD_set_self _ _ _ (by rw [h.lt]; exact hm), h.times _ hj]
    simp; omega
  · rw [getD_set_other _ _ _ _ c, h.times _ hj]
    have : List.count j [e.node.toNat] = 0 := by simp [c]
    rw [this]; simp
theorem InnerOK.dirStep {t : TTree} {N i k : Nat} {l : List TEnt} {T D : List Int} {e : TEnt} {x : TNode} (h : InnerOK t N i l k T D) (hi : i < N) (he : l[k]? = some e) (ha : entAt t i l k e) (hx : t.nodes[e.node.toNat]? = some x) (hk : x.kind = 2) (hm : e.node.toNat < N) :
    InnerOK t N i l (k + 1) (T.set e.node.toNat (T.getD e.node.toNat 0 + 1)) (D.set i (D.getD i 0 + 1)) := by
  have hat : t.at e.node = x := by simp [TTree.at, hx]
  obtain ⟨h1, h2⟩ := h.times_succ he hm
  refine ⟨h1, by simp [h.ld], h2, fun j n hj hn => ?_, ?_, fun j hj => ?_, h.ok, listTo_succ h.to he ha⟩
  · rw [getD_set_other _ _ _ _ (by omega)]; exact h.dirs j n hj hn
  · rw [getD_set_self _ _ _ (by rw [h.ld]; exact hi), h.dir]
    unfold dirsOf
    rw [List.take_add_one, he]
    simp [hat, hk]
  · rw [getD_set_other _ _ _ _ (by omega)]; exact h.zero j hj
theorem InnerOK.otherStep {t : TTree} {N i k : Nat} {l : List TEnt} {T D : List Int} {e : TEnt} {x : TNode} (h : InnerOK t N i l k T D) (he : l[k]? = some e) (ha : entAt t i l k e) (hx : t.nodes[e.node.toNat]? = some x) (hk : x.kind ≠ 2) (hm : e.node.toNat < N) :
    InnerOK t N i l (k + 1) (T.set e.node.toNat (T.getD e.node.toNat 0 + 1)) D := by
  have hat : t.at e.node = x := by simp [TTree.at, hx]
  obtain ⟨h1, h2⟩ := h.times_succ he hm
  refine ⟨h1, h.ld, h2, h.dirs, ?_, h.zero, h.ok, listTo_succ h.to he ha⟩
  rw [h.dir]
  unfold dirsOf
  rw [List.take_add_one, he]
  simp [hat, hk]
theorem InnerOK.bad {t : TTree} {i k : Nat} {n : TNode} {e : TEnt} (hn : t.nodes[i]? = some n) (he : n.list[k]? = some e) (ha : ¬ entAt t i n.list k e) : ¬ ∀ i n, t.nodes[i]? = some n → listOK t i n := by
  intro h
  exact ha (h i n hn k e (List.getElem?_eq_some_iff.1 he).1 he)
theorem refs_length_le (t : TTree) (hl : ∀ n ∈ t.nodes, n.list.length ≤ 512) (i : Nat) : (t.refs i).length ≤ i * 512 := by
  unfold TTree.refs
  induction i with
  | zero => simp
  | succ i ih =>
    rw [List.take_add_one, List.flatMap_append, List.length_append]
    have hx : (t.nodes[i]?.toList.flatMap fun n => refsOf n.list).length ≤ 512 := by
      cases hn : t.nodes[i]? with
      | none => simp
      | some n =>
        have := hl n (List.mem_of_getElem? hn)
        simpa [refsOf] using this
    omega
theorem InnerOK.bounds {t : TTree} {N i k : Nat} {l : List TEnt} {T D : List Int} (h : InnerOK t N i l k T D) (hl : ∀ n ∈ t.nodes, n.list.length ≤ 512) (hl5 : l.length ≤ 512) (hi : i ≤ 513) (j : Nat) (hj : j < N) :
    (0 ≤ T.getD j 0 ∧ T.getD j 0 ≤ 1000000) ∧ 0 ≤ D.getD i 0 ∧ D.getD i 0 ≤ 1000000 := by
  rw [h.times j hj, h.dir]
  have a := List.count_le_length (a := j) (l := t.refs i)
  have b := refs_length_le t hl i
  have c := List.count_le_length (a := j) (l := refsOf (l.take k))
  have d : (refsOf (l.take k)).length ≤ 512 := by simp [refsOf]; omega
  have f : dirsOf t (l.take k) ≤ 512 := by
    have := List.length_filter_le (fun e => (t.at e.node).kind == 2) (l.take k)
    unfold dirsOf
    simp at this ⊢
    omega
  omega
end Go.Proofs.YtbfcfjgcmideeaaGreatDoor
namespace Go.Proofs.YtbfcfjgcmideeaaGreatDoor
open Go.RowKit
theorem wrap_range (x : Int) : I64 (IntKind.i64.wrap x) := by
  rw [IntKind.wrap_i64]; unfold I64; omega
theorem or_i64 (a b : Int) : I64 (bits .or .i64 a b) := wrap_range _
theorem ofInt_zero (a : Int) (ha : I64 a) : BitVec.ofInt 64 a = 0#64 ↔ a = 0 := by
  unfold I64 at ha
  constructor
  · intro h
    have := congrArg BitVec.toInt h
    rw [BitVec.toInt_ofInt] at this
    simp only [BitVec.toInt_zero] at this
    rw [Int.bmod_def] at this
    omega
  · rintro rfl; rfl
theorem or_zero (a b : Int) (ha : I64 a) (hb : I64 b) : bits .or .i64 a b = 0 ↔ a = 0 ∧ b = 0 := by
  show IntKind.i64.wrap ((BitVec.ofInt 64 a ||| BitVec.ofInt 64 b).toNat : Int) = 0 ↔ _
  rw [← ofInt_zero a ha, ← ofInt_zero b hb, ← BitVec.or_eq_zero_iff]
  generalize BitVec.ofInt 64 a ||| BitVec.ofInt 64 b = x
  rw [IntKind.wrap_i64]
  have hx := x.isLt
  constructor
  · intro h
    apply BitVec.eq_of_toNat_eq
    rw [BitVec.toNat_zero]
    omega
  · rintro rfl; rw [BitVec.toNat_zero]; omega
end Go.Proofs.YtbfcfjgcmideeaaGreatDoor
