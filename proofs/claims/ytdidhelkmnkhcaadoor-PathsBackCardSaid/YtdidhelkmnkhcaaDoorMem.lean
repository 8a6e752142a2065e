/- How a tree lies in the machine's memory; what is kept when new memory is made. -/
import Derived.Test.YtdidhelkmnkhcaaDoorPure
import Derived.Below
import Derived.Deep.Draws
import Derived.Deep.Quiet
import Derived.Laws.AppendOwn
import Derived.WalkKit
namespace Go.Proofs.YtdidhelkmnkhcaaDoor
open Go.RowKit

def EntsAt (w : World) (A : Option Addr) (l : List TEnt) : Prop :=
  ∀ k e, l[k]? = some e → ∃ b o, A = some ⟨b, o, none⟩ ∧ w.cell? ⟨b, o + k * 2, none⟩ = some (.string e.name) ∧ w.cell? ⟨b, o + k * 2 + 1, none⟩ = some (.int .i64 e.node)
def BytesAt (w : World) (A : Option Addr) (l : List Int) : Prop :=
  ∀ (k : Nat) x, l[k]? = some x → ∃ b o, A = some ⟨b, o, none⟩ ∧ w.cell? ⟨b, o + k, none⟩ = some (.int .u8 x)
def NodeVals (w : World) (n : TNode) (vs : List Value) : Prop :=
  ∃ D cd L cl, vs = [.int .u8 n.kind, .int .i64 n.mode, .int .i64 n.user, .int .i64 n.group, .int .i64 n.links, .int .i64 n.time, .slice D n.data.length cd, .string n.target, .slice L n.list.length cl, .int .i64 n.parent]
    ∧ n.data.length ≤ cd ∧ BytesAt w D n.data ∧ n.list.length ≤ cl ∧ EntsAt w L n.list
def NodesAt (w : World) (A : Option Addr) (l : List TNode) : Prop :=
  ∀ i n, l[i]? = some n → ∃ b o vs, A = some ⟨b, o, none⟩ ∧ NodeVals w n vs ∧ ∀ j v, vs[j]? = some v → w.cell? ⟨b, o + i * 10 + j, none⟩ = some v

theorem cell_keep {w w' : World} (h : Below w.heap.size w w') {p : Addr} {v : Value} (hc : w.cell? p = some v) : w'.cell? p = some v :=
  (h.cell (World.block_lt_of_cell? w p hc)).trans hc
theorem EntsAt.keep {w w' : World} (h : Below w.heap.size w w') {A l} (he : EntsAt w A l) : EntsAt w' A l := fun k e hk => by
  obtain ⟨b, o, hA, h0, h1⟩ := he k e hk
  exact ⟨b, o, hA, cell_keep h h0, cell_keep h h1⟩
theorem BytesAt.keep {w w' : World} (h : Below w.heap.size w w') {A l} (he : BytesAt w A l) : BytesAt w' A l := fun k e hk => by
  obtain ⟨b, o, hA, h0⟩ := he k e hk
  exact ⟨b, o, hA, cell_keep h h0⟩
theorem NodeVals.keep {w w' : World} (h : Below w.heap.size w w') {n vs} (he : NodeVals w n vs) : NodeVals w' n vs := by
  obtain ⟨D, cd, L, cl, hv, h0, h1, h2, h3⟩ := he
  exact ⟨D, cd, L, cl, hv, h0, h1.keep h, h2, h3.keep h⟩
theorem NodesAt.keep {w w' : World} (h : Below w.heap.size w w') {A l} (he : NodesAt w A l) : NodesAt w' A l := fun i n hi => by
  obtain ⟨b, o, vs, hA, hn, hc⟩ := he i n hi
  exact ⟨b, o, vs, hA, hn.keep h, fun j v hj => cell_keep h (hc j v hj)⟩

theorem NodesAt.get {w : World} {A : Option Addr} {l : List TNode} {i : Nat} {n : TNode} (h : NodesAt w A l) (hi : l[i]? = some n) :
    ∃ b o D cd L cl, A = some ⟨b, o, none⟩ ∧ n.data.length ≤ cd ∧ BytesAt w D n.data ∧ n.list.length ≤ cl ∧ EntsAt w L n.list ∧
      w.cell? ⟨b, o + i * 10, none⟩ = some (.int .u8 n.kind) ∧ w.cell? ⟨b, o + i * 10 + 1, none⟩ = some (.int .i64 n.mode) ∧ w.cell? ⟨b, o + i * 10 + 2, none⟩ = some (.int .i64 n.user) ∧
      w.cell? ⟨b, o + i * 10 + 3, none⟩ = some (.int .i64 n.group) ∧ w.cell? ⟨b, o + i * 10 + 4, none⟩ = some (.int .i64 n.links) ∧ w.cell? ⟨b, o + i * 10 + 5, none⟩ = some (.int .i64 n.time) ∧
      w.cell? ⟨b, o + i * 10 + 6, none⟩ = some (.slice D n.data.length cd) ∧ w.cell? ⟨b, o + i * 10 + 7, none⟩ = some (.string n.target) ∧ w.cell? ⟨b, o + i * 10 + 8, none⟩ = some (.slice L n.list.length cl) ∧
      w.cell? ⟨b, o + i * 10 + 9, none⟩ = some (.int .i64 n.parent) := by
  obtain ⟨b, o, vs, hA, ⟨D, cd, L, cl, rfl, h1, h2, h3, h4⟩, hc⟩ := h i n hi
  exact ⟨b, o, D, cd, L, cl, hA, h1, h2, h3, h4, hc 0 _ rfl, hc 1 _ rfl, hc 2 _ rfl, hc 3 _ rfl, hc 4 _ rfl, hc 5 _ rfl, hc 6 _ rfl, hc 7 _ rfl, hc 8 _ rfl, hc 9 _ rfl⟩

/-- A later world: all that there was is as it was. -/
structure Later (W : World) where
  w : World
  h : Below W.heap.size W w
instance (W : World) : Inhabited (Later W) := ⟨⟨W, Below.refl _ _⟩⟩
theorem Later.cell_eq {W : World} (x : Later W) (p : Addr) (h : p.block < W.heap.size) : x.w.cell? p = W.cell? p := x.h.cell h
theorem Later.cell {W : World} (x : Later W) {p : Addr} {v : Value} (h : W.cell? p = some v) : x.w.cell? p = some v := cell_keep x.h h
def Later.then {W : World} (x : Later W) {w' : World} (h : Below x.w.heap.size x.w w') : Later W := ⟨w', x.h.trans (h.mono x.h.size)⟩
def IsLater (W w : World) : Prop := ∃ x : Later W, w = x.w
theorem IsLater.below {W w : World} : IsLater W w → Below W.heap.size W w := fun ⟨x, h⟩ => h ▸ x.h
theorem Calls.later {P : Program} {f : FuncId} {args : Array Value} {W : World} {x : Later W} {v : Value}
    (h : Calls P f args x.w fun e w' => e = .returned v ∧ Below x.w.heap.size x.w w') : Calls P f args x.w fun e w'' => e = .returned v ∧ ∃ y : Later W, w'' = y.w :=
  h.mono fun _ _ ⟨he, hb⟩ => ⟨he, x.then hb, rfl⟩
theorem Calls.later_same {P : Program} {f : FuncId} {args : Array Value} {W : World} {x : Later W} {v : Value}
    (h : Calls P f args x.w fun e w' => e = .returned v ∧ w' = x.w) : Calls P f args x.w fun e w'' => e = .returned v ∧ ∃ y : Later W, w'' = y.w :=
  h.mono fun _ _ ⟨he, hb⟩ => ⟨he, x, hb⟩
/-- A region in any order whose operations read what there was and call what makes new memory alone. -/
theorem wp_region_later {P : Program} {id : Nat} {Q : Exit → Act → World → Prop} {a : Act} {W : World} {l : List Oper} (hm : P.follows .mixedOrders = true) (hB : Region.lexB .any l.toArray = true)
    (h : wpQuiet P l.toArray (fun w' => ∃ x : Later W, w' = x.w) (fun a' => ∀ w', Below W.heap.size W w' → Q .normal a' w') l a) : (Code.region id l.toArray true).wp P Q a W :=
  wp_region_quiet (C := fun w' => ∃ x : Later W, w' = x.w) hm hB ⟨⟨W.drew, (Below.refl _ _).drew⟩, rfl⟩ (by
    have e : (fun a' : Act => ∀ w', Below W.heap.size W w' → Q .normal a' w') = (fun a' => ∀ w', (∃ x : Later W, w' = x.w) → Q .normal a' w') :=
      funext fun a' => propext ⟨fun H w' ⟨x, hx⟩ => H w' (hx ▸ x.h), fun H w' hb => H w' ⟨⟨w', hb⟩, rfl⟩⟩
    rw [e] at h
    simpa using h)

theorem cell_set {w : World} {p q : Addr} {u v : Value} (h : w.cell? p = some v) (hne : p.block ≠ q.block) : (w.setCell q u).cell? p = some v := by
  rw [World.cell?_setCell_other]
  · exact h
  · rintro rfl; exact hne rfl
theorem cell_new {w : World} {p : Addr} {v : Value} (h : w.cell? p = some v) (o : Obj) : (w.alloc o).cell? p = some v := (World.cell?_alloc_lt _ _ _ (World.block_lt_of_cell? _ _ h)).trans h

/-! min, max -/
theorem max2_i (k k' : IntKind) (x y : Int) : Builtin.max2 (.int k x) (.int k' y) = pure (.int k (max x y)) := by
  simp only [Builtin.max2, gt_iff_lt]; congr 2; split <;> omega
theorem min2_i (k k' : IntKind) (x y : Int) : Builtin.min2 (.int k x) (.int k' y) = pure (.int k (min x y)) := by
  simp only [Builtin.min2]; congr 2; split <;> omega
theorem max_2 (ats : Array TypeId) (ty : TypeId) (a b : Value) : Builtin.max_ ats ty #[a, b] = (Builtin.max2 a b >>= fun s => pure s) := by simp only [Builtin.max_, List.foldlM_cons, List.foldlM_nil]
theorem min_2 (ats : Array TypeId) (ty : TypeId) (a b : Value) : Builtin.min_ ats ty #[a, b] = (Builtin.min2 a b >>= fun s => pure s) := by simp only [Builtin.min_, List.foldlM_cons, List.foldlM_nil]
theorem max_3 (ats : Array TypeId) (ty : TypeId) (a b c : Value) : Builtin.max_ ats ty #[a, b, c] = (Builtin.max2 a b >>= fun s => Builtin.max2 s c >>= fun s => pure s) := by simp only [Builtin.max_, List.foldlM_cons, List.foldlM_nil]
theorem min_3 (ats : Array TypeId) (ty : TypeId) (a b c : Value) : Builtin.min_ ats ty #[a, b, c] = (Builtin.min2 a b >>= fun s => Builtin.min2 s c >>= fun s => pure s) := by simp only [Builtin.min_, List.foldlM_cons, List.foldlM_nil]

/-! closers -/
theorem ret_bool {a b : Bool} (h : a = b) : Ending.returned (.bool a) = .returned (.bool b) := by rw [h]
theorem ret_int {k : IntKind} {a b : Int} (h : a = b) : Ending.returned (.int k a) = .returned (.int k b) := by rw [h]
theorem ret_string {a b : ByteArray} (h : a = b) : Ending.returned (.string a) = .returned (.string b) := by rw [h]
theorem below_drewN {B : Nat} {a w : World} (h : Below B a w) (n : Nat) : Below B a (w.drewN n) := ⟨h.os, h.tape, h.output, h.size, h.block⟩
theorem below_alloc {w W : World} (h : Below w.heap.size w W) (o : Obj) : Below w.heap.size w (W.alloc o) := h.alloc h.size o
theorem below_step {w W W' : World} (h : Below w.heap.size w W) (k : Below W.heap.size W W') : Below w.heap.size w W' := h.trans (k.mono h.size)
theorem below_set {w W : World} (h : Below w.heap.size w W) {p : Addr} (hp : w.heap.size ≤ p.block) (u : Value) : Below w.heap.size w (W.setCell p u) := h.setCell hp u
theorem below_lt {w W : World} (h : Below w.heap.size w W) {b : Nat} (hb : b < w.heap.size) : b < W.heap.size := Nat.lt_of_lt_of_le hb h.size
end Go.Proofs.YtdidhelkmnkhcaaDoor
