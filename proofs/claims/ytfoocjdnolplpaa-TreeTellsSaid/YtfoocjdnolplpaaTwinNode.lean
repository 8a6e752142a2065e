/- Copies of nodes. -/
import Derived.Test.YtfoocjdnolplpaaTwin
import Derived.Test.YtfoocjdnolplpaaRowed
import Derived.Deep.RegionHeld3
import Derived.Deep.MidRow
import Derived.Outline
namespace Go.Proofs.Ytfoocjdnolplpaa
open Go.RowKit
attribute [local go_sem] Later.cell_eq
def nodeZ : Array Value := #[.int .u8 0, .int .i64 0, .int .i64 0, .int .i64 0, .int .i64 0, .int .i64 0, .slice none 0 0, .string ⟨#[]⟩, .slice none 0 0, .int .i64 0]
def NodeTw (w : World) (B : Nat) (g : Option Nat) (n : TNode) (vs : List Value) : Prop :=
  ∃ D cd L cl, vs = [.int .u8 n.kind, .int .i64 n.mode, .int .i64 n.user, .int .i64 n.group, .int .i64 n.links, .int .i64 n.time, .slice (some ⟨D, 0, none⟩) n.data.length cd, .string n.target, .slice (some ⟨L, 0, none⟩) n.list.length cl, .int .i64 n.parent]
    ∧ n.data.length + 1 ≤ cd ∧ BytesAt w (some ⟨D, 0, none⟩) (n.data ++ [77]) ∧ n.list.length + 1 ≤ cl ∧ EntsAt w (some ⟨L, 0, none⟩) (n.list ++ [⟨⟨#[115, 112, 97, 114, 101]⟩, 0⟩]) ∧ B ≤ D ∧ B ≤ L ∧ g ≠ some D ∧ g ≠ some L ∧ D < w.heap.size ∧ L < w.heap.size
/-- A node's ten cells lie at the head of block b, and may be written. -/
def Free10 (w : World) (b : Nat) : Prop := w.there b 0 10
theorem free10_drew {w : World} {b : Nat} : Free10 w.drew b ↔ Free10 w b := by unfold Free10; simp
/-- The store of a whole node, kept whole. -/
def stNode (a : Addr) (v : Value) : Sem Unit := storeVar 45 a v
theorem stNode_eq (a : Addr) (v : Value) : storeVar 45 a v = stNode a v := rfl
theorem stNode_run (w : World) (b : Nat) (v0 v1 v2 v3 v4 v5 v6 v7 v8 v9 : Value) (ht : Free10 w b) (h1 : #[v0, v1, v2, v3, v4, v5, v6, v7, v8, v9].all (·.oneCell') = true) :
    (stNode ⟨b, 0, none⟩ (.agg #[v0, v1, v2, v3, v4, v5, v6, v7, v8, v9])).run Try.prog w = .ok () (w.setCells b 0 [v0, v1, v2, v3, v4, v5, v6, v7, v8, v9]) :=
  run_storeVar_mid (P := Try.prog) w b 0 45 _ ht (by kernel_rfl) h1
attribute [local go_sem ↓] stNode_eq
attribute [local go_sem] stNode_run
attribute [local go_sem] Value.oneCell' free10_drew
theorem s10_keep {w w1 w2 : World} {b : Nat} {n : TNode} {D L : Option Addr} {cd cl : Nat} (hb : Below w1.heap.size w1 w2) (hB : Below w.heap.size w w1 ∧ w1.cell? ⟨b, 0, none⟩ = some (.int .u8 n.kind) ∧ w1.cell? ⟨b, 1, none⟩ = some (.int .i64 n.mode) ∧ w1.cell? ⟨b, 2, none⟩ = some (.int .i64 n.user) ∧ w1.cell? ⟨b, 3, none⟩ = some (.int .i64 n.group) ∧ w1.cell? ⟨b, 4, none⟩ = some (.int .i64 n.links) ∧ w1.cell? ⟨b, 5, none⟩ = some (.int .i64 n.time) ∧ w1.cell? ⟨b, 6, none⟩ = some (.slice D n.data.length cd) ∧ w1.cell? ⟨b, 7, none⟩ = some (.string n.target) ∧ w1.cell? ⟨b, 8, none⟩ = some (.slice L n.list.length cl) ∧ w1.cell? ⟨b, 9, none⟩ = some (.int .i64 n.parent) ∧ Free10 w1 (b + 1)) : Below w.heap.size w w2 ∧ w2.cell? ⟨b, 0, none⟩ = some (.int .u8 n.kind) ∧ w2.cell? ⟨b, 1, none⟩ = some (.int .i64 n.mode) ∧ w2.cell? ⟨b, 2, none⟩ = some (.int .i64 n.user) ∧ w2.cell? ⟨b, 3, none⟩ = some (.int .i64 n.group) ∧ w2.cell? ⟨b, 4, none⟩ = some (.int .i64 n.links) ∧ w2.cell? ⟨b, 5, none⟩ = some (.int .i64 n.time) ∧ w2.cell? ⟨b, 6, none⟩ = some (.slice D n.data.length cd) ∧ w2.cell? ⟨b, 7, none⟩ = some (.string n.target) ∧ w2.cell? ⟨b, 8, none⟩ = some (.slice L n.list.length cl) ∧ w2.cell? ⟨b, 9, none⟩ = some (.int .i64 n.parent) ∧ Free10 w2 (b + 1) := by
  obtain ⟨h, c0, c1, c2, c3, c4, c5, c6, c7, c8, c9, ht⟩ := hB
  refine ⟨below_step h hb, cell_keep hb c0, cell_keep hb c1, cell_keep hb c2, cell_keep hb c3, cell_keep hb c4, cell_keep hb c5, cell_keep hb c6, cell_keep hb c7, cell_keep hb c8, cell_keep hb c9, fun j hj => ?_⟩
  obtain ⟨h1, h2⟩ := (show w1.there (b + 1) 0 10 from ht) j hj
  obtain ⟨v, hv⟩ := Option.isSome_iff_exists.1 h1
  have hlt := World.block_lt_of_cell? _ _ hv
  exact ⟨by rw [cell_keep hb hv]; rfl, (hb.frozen hlt).trans h2⟩
theorem s10_drew {w w1 : World} {b : Nat} {n : TNode} {D L : Option Addr} {cd cl : Nat} (hB : Below w.heap.size w w1 ∧ w1.cell? ⟨b, 0, none⟩ = some (.int .u8 n.kind) ∧ w1.cell? ⟨b, 1, none⟩ = some (.int .i64 n.mode) ∧ w1.cell? ⟨b, 2, none⟩ = some (.int .i64 n.user) ∧ w1.cell? ⟨b, 3, none⟩ = some (.int .i64 n.group) ∧ w1.cell? ⟨b, 4, none⟩ = some (.int .i64 n.links) ∧ w1.cell? ⟨b, 5, none⟩ = some (.int .i64 n.time) ∧ w1.cell? ⟨b, 6, none⟩ = some (.slice D n.data.length cd) ∧ w1.cell? ⟨b, 7, none⟩ = some (.string n.target) ∧ w1.cell? ⟨b, 8, none⟩ = some (.slice L n.list.length cl) ∧ w1.cell? ⟨b, 9, none⟩ = some (.int .i64 n.parent) ∧ Free10 w1 (b + 1)) : Below w.heap.size w w1.drew ∧ w1.drew.cell? ⟨b, 0, none⟩ = some (.int .u8 n.kind) ∧ w1.drew.cell? ⟨b, 1, none⟩ = some (.int .i64 n.mode) ∧ w1.drew.cell? ⟨b, 2, none⟩ = some (.int .i64 n.user) ∧ w1.drew.cell? ⟨b, 3, none⟩ = some (.int .i64 n.group) ∧ w1.drew.cell? ⟨b, 4, none⟩ = some (.int .i64 n.links) ∧ w1.drew.cell? ⟨b, 5, none⟩ = some (.int .i64 n.time) ∧ w1.drew.cell? ⟨b, 6, none⟩ = some (.slice D n.data.length cd) ∧ w1.drew.cell? ⟨b, 7, none⟩ = some (.string n.target) ∧ w1.drew.cell? ⟨b, 8, none⟩ = some (.slice L n.list.length cl) ∧ w1.drew.cell? ⟨b, 9, none⟩ = some (.int .i64 n.parent) ∧ Free10 w1.drew (b + 1) := by
  obtain ⟨h, c0, c1, c2, c3, c4, c5, c6, c7, c8, c9, ht⟩ := hB
  exact ⟨h.drew, c0, c1, c2, c3, c4, c5, c6, c7, c8, c9, free10_drew.2 ht⟩
theorem below_cells {B : Nat} {a : World} {b : Nat} (hb : B ≤ b) : ∀ (vs : List Value) (o : Nat) {w : World}, Below B a w → Below B a (w.setCells b o vs)
  | [], _, _, h => h
  | _ :: r, o, _, h => below_cells hb r (o + 1) (h.setCell hb _)
theorem size_cells (b : Nat) : ∀ (vs : List Value) (o : Nat) (w : World), (w.setCells b o vs).heap.size = w.heap.size
  | [], _, _ => rfl
  | v :: r, o, w => (size_cells b r (o + 1) (w.setCell ⟨b, o, none⟩ v)).trans (by simp [World.setCell])
theorem cell_cells {w : World} {p : Addr} {b : Nat} {v : Value} (h : w.cell? p = some v) (hp : p.block ≠ b) (o : Nat) (vs : List Value) : (w.setCells b o vs).cell? p = some v :=
  (World.cell?_setCells_out b vs o w p (fun e => absurd e hp)).trans h
theorem s10_set {w w1 : World} {n : TNode} {D L : Option Addr} {cd cl : Nat} (vs : List Value) (hB : Below w.heap.size w w1 ∧ w1.cell? ⟨w.heap.size, 0, none⟩ = some (.int .u8 n.kind) ∧ w1.cell? ⟨w.heap.size, 1, none⟩ = some (.int .i64 n.mode) ∧ w1.cell? ⟨w.heap.size, 2, none⟩ = some (.int .i64 n.user) ∧ w1.cell? ⟨w.heap.size, 3, none⟩ = some (.int .i64 n.group) ∧ w1.cell? ⟨w.heap.size, 4, none⟩ = some (.int .i64 n.links) ∧ w1.cell? ⟨w.heap.size, 5, none⟩ = some (.int .i64 n.time) ∧ w1.cell? ⟨w.heap.size, 6, none⟩ = some (.slice D n.data.length cd) ∧ w1.cell? ⟨w.heap.size, 7, none⟩ = some (.string n.target) ∧ w1.cell? ⟨w.heap.size, 8, none⟩ = some (.slice L n.list.length cl) ∧ w1.cell? ⟨w.heap.size, 9, none⟩ = some (.int .i64 n.parent) ∧ Free10 w1 (w.heap.size + 1)) : Below w.heap.size w (w1.setCells (w.heap.size + 1) 0 vs) ∧ (w1.setCells (w.heap.size + 1) 0 vs).cell? ⟨w.heap.size, 0, none⟩ = some (.int .u8 n.kind) ∧ (w1.setCells (w.heap.size + 1) 0 vs).cell? ⟨w.heap.size, 1, none⟩ = some (.int .i64 n.mode) ∧ (w1.setCells (w.heap.size + 1) 0 vs).cell? ⟨w.heap.size, 2, none⟩ = some (.int .i64 n.user) ∧ (w1.setCells (w.heap.size + 1) 0 vs).cell? ⟨w.heap.size, 3, none⟩ = some (.int .i64 n.group) ∧ (w1.setCells (w.heap.size + 1) 0 vs).cell? ⟨w.heap.size, 4, none⟩ = some (.int .i64 n.links) ∧ (w1.setCells (w.heap.size + 1) 0 vs).cell? ⟨w.heap.size, 5, none⟩ = some (.int .i64 n.time) ∧ (w1.setCells (w.heap.size + 1) 0 vs).cell? ⟨w.heap.size, 6, none⟩ = some (.slice D n.data.length cd) ∧ (w1.setCells (w.heap.size + 1) 0 vs).cell? ⟨w.heap.size, 7, none⟩ = some (.string n.target) ∧ (w1.setCells (w.heap.size + 1) 0 vs).cell? ⟨w.heap.size, 8, none⟩ = some (.slice L n.list.length cl) ∧ (w1.setCells (w.heap.size + 1) 0 vs).cell? ⟨w.heap.size, 9, none⟩ = some (.int .i64 n.parent) ∧ Free10 (w1.setCells (w.heap.size + 1) 0 vs) (w.heap.size + 1) := by
  obtain ⟨h, c0, c1, c2, c3, c4, c5, c6, c7, c8, c9, ht⟩ := hB
  have hne : w.heap.size ≠ w.heap.size + 1 := by omega
  exact ⟨below_cells (by omega) _ _ h, cell_cells c0 hne _ _, cell_cells c1 hne _ _, cell_cells c2 hne _ _, cell_cells c3 hne _ _, cell_cells c4 hne _ _, cell_cells c5 hne _ _, cell_cells c6 hne _ _, cell_cells c7 hne _ _, cell_cells c8 hne _ _, cell_cells c9 hne _ _, World.there_setCells ht _ _ _⟩
theorem BytesAt.cells {w : World} {g b : Nat} {l : List Int} (h : BytesAt w (some ⟨g, 0, none⟩) l) (hne : g ≠ b) (o : Nat) (vs : List Value) : BytesAt (w.setCells b o vs) (some ⟨g, 0, none⟩) l := fun k x hk => by
  obtain ⟨b', o', hA, h0⟩ := h k x hk
  cases hA
  exact ⟨g, 0, rfl, cell_cells h0 hne _ _⟩
theorem EntsAt.cells {w : World} {g b : Nat} {l : List TEnt} (h : EntsAt w (some ⟨g, 0, none⟩) l) (hne : g ≠ b) (o : Nat) (vs : List Value) : EntsAt (w.setCells b o vs) (some ⟨g, 0, none⟩) l := fun k x hk => by
  obtain ⟨b', o', hA, h0, h1⟩ := h k x hk
  cases hA
  exact ⟨g, 0, rfl, cell_cells h0 hne _ _, cell_cells h1 hne _ _⟩
theorem BytesAt.lt {w : World} {g : Nat} {l : List Int} (h : BytesAt w (some ⟨g, 0, none⟩) (l ++ [77])) : g < w.heap.size := by
  obtain ⟨b', o', hA, h0⟩ := h l.length 77 (by simp)
  cases hA
  exact World.block_lt_of_cell? _ _ h0
theorem EntsAt.lt {w : World} {g : Nat} {l : List TEnt} {x : TEnt} (h : EntsAt w (some ⟨g, 0, none⟩) (l ++ [x])) : g < w.heap.size := by
  obtain ⟨b', o', hA, h0, -⟩ := h l.length x (by simp)
  cases hA
  exact World.block_lt_of_cell? _ _ h0
theorem there_row {w : World} {b : Nat} {C : Array Value} {t : TypeId} (h : w.heap[b]? = some (.cells C t (0, 0))) : w.there b 0 C.size := fun j hj => by
  rw [Nat.zero_add, cell_of_row w b j _ _ _ h]
  exact ⟨by simp [hj], frozen_of_row w b j _ _ h⟩
set_option maxHeartbeats 2000000 in
set_option maxRecDepth 100000 in
theorem twinNode_calls (n : TNode) (hd : n.data.length ≤ 1000000) (hl : n.list.length ≤ 1000000) (D L : Option Addr) (cd cl : Nat) (w : World) (hD : BytesAt w D n.data) (hL : EntsAt w L n.list) :
    Calls Try.prog 44 #[.agg #[.int .u8 n.kind, .int .i64 n.mode, .int .i64 n.user, .int .i64 n.group, .int .i64 n.links, .int .i64 n.time, .slice D n.data.length cd, .string n.target, .slice L n.list.length cl, .int .i64 n.parent]] w fun e w' => ∃ vs, (e = .returned (.agg vs.toArray) ∧ NodeTw w' w.heap.size none n vs) ∧ Below w.heap.size w w' := by
  have HD := Lib.hid hD
  have HL := Lib.hid hL
  clear hD hL
  have hu := Try.underlying45
  have hi : (Try.prog.info? 45).map (·.size) = some 10 := by kernel_rfl
  go_enter Try.func44, Try.ntmps44
  go_wp2
  have hS0 : Below w.heap.size w ((w.alloc (.cells #[.int .u8 n.kind, .int .i64 n.mode, .int .i64 n.user, .int .i64 n.group, .int .i64 n.links, .int .i64 n.time, .slice D n.data.length cd, .string n.target, .slice L n.list.length cl, .int .i64 n.parent] 45)).alloc (.cells nodeZ 45)) ∧ ((w.alloc (.cells #[.int .u8 n.kind, .int .i64 n.mode, .int .i64 n.user, .int .i64 n.group, .int .i64 n.links, .int .i64 n.time, .slice D n.data.length cd, .string n.target, .slice L n.list.length cl, .int .i64 n.parent] 45)).alloc (.cells nodeZ 45)).cell? ⟨w.heap.size, 0, none⟩ = some (.int .u8 n.kind) ∧ ((w.alloc (.cells #[.int .u8 n.kind, .int .i64 n.mode, .int .i64 n.user, .int .i64 n.group, .int .i64 n.links, .int .i64 n.time, .slice D n.data.length cd, .string n.target, .slice L n.list.length cl, .int .i64 n.parent] 45)).alloc (.cells nodeZ 45)).cell? ⟨w.heap.size, 1, none⟩ = some (.int .i64 n.mode) ∧ ((w.alloc (.cells #[.int .u8 n.kind, .int .i64 n.mode, .int .i64 n.user, .int .i64 n.group, .int .i64 n.links, .int .i64 n.time, .slice D n.data.length cd, .string n.target, .slice L n.list.length cl, .int .i64 n.parent] 45)).alloc (.cells nodeZ 45)).cell? ⟨w.heap.size, 2, none⟩ = some (.int .i64 n.user) ∧ ((w.alloc (.cells #[.int .u8 n.kind, .int .i64 n.mode, .int .i64 n.user, .int .i64 n.group, .int .i64 n.links, .int .i64 n.time, .slice D n.data.length cd, .string n.target, .slice L n.list.length cl, .int .i64 n.parent] 45)).alloc (.cells nodeZ 45)).cell? ⟨w.heap.size, 3, none⟩ = some (.int .i64 n.group) ∧ ((w.alloc (.cells #[.int .u8 n.kind, .int .i64 n.mode, .int .i64 n.user, .int .i64 n.group, .int .i64 n.links, .int .i64 n.time, .slice D n.data.length cd, .string n.target, .slice L n.list.length cl, .int .i64 n.parent] 45)).alloc (.cells nodeZ 45)).cell? ⟨w.heap.size, 4, none⟩ = some (.int .i64 n.links) ∧ ((w.alloc (.cells #[.int .u8 n.kind, .int .i64 n.mode, .int .i64 n.user, .int .i64 n.group, .int .i64 n.links, .int .i64 n.time, .slice D n.data.length cd, .string n.target, .slice L n.list.length cl, .int .i64 n.parent] 45)).alloc (.cells nodeZ 45)).cell? ⟨w.heap.size, 5, none⟩ = some (.int .i64 n.time) ∧ ((w.alloc (.cells #[.int .u8 n.kind, .int .i64 n.mode, .int .i64 n.user, .int .i64 n.group, .int .i64 n.links, .int .i64 n.time, .slice D n.data.length cd, .string n.target, .slice L n.list.length cl, .int .i64 n.parent] 45)).alloc (.cells nodeZ 45)).cell? ⟨w.heap.size, 6, none⟩ = some (.slice D n.data.length cd) ∧ ((w.alloc (.cells #[.int .u8 n.kind, .int .i64 n.mode, .int .i64 n.user, .int .i64 n.group, .int .i64 n.links, .int .i64 n.time, .slice D n.data.length cd, .string n.target, .slice L n.list.length cl, .int .i64 n.parent] 45)).alloc (.cells nodeZ 45)).cell? ⟨w.heap.size, 7, none⟩ = some (.string n.target) ∧ ((w.alloc (.cells #[.int .u8 n.kind, .int .i64 n.mode, .int .i64 n.user, .int .i64 n.group, .int .i64 n.links, .int .i64 n.time, .slice D n.data.length cd, .string n.target, .slice L n.list.length cl, .int .i64 n.parent] 45)).alloc (.cells nodeZ 45)).cell? ⟨w.heap.size, 8, none⟩ = some (.slice L n.list.length cl) ∧ ((w.alloc (.cells #[.int .u8 n.kind, .int .i64 n.mode, .int .i64 n.user, .int .i64 n.group, .int .i64 n.links, .int .i64 n.time, .slice D n.data.length cd, .string n.target, .slice L n.list.length cl, .int .i64 n.parent] 45)).alloc (.cells nodeZ 45)).cell? ⟨w.heap.size, 9, none⟩ = some (.int .i64 n.parent) ∧ Free10 ((w.alloc (.cells #[.int .u8 n.kind, .int .i64 n.mode, .int .i64 n.user, .int .i64 n.group, .int .i64 n.links, .int .i64 n.time, .slice D n.data.length cd, .string n.target, .slice L n.list.length cl, .int .i64 n.parent] 45)).alloc (.cells nodeZ 45)) (w.heap.size + 1) := by
    have hr : ((w.alloc (.cells #[.int .u8 n.kind, .int .i64 n.mode, .int .i64 n.user, .int .i64 n.group, .int .i64 n.links, .int .i64 n.time, .slice D n.data.length cd, .string n.target, .slice L n.list.length cl, .int .i64 n.parent] 45)).alloc (.cells nodeZ 45)).heap[w.heap.size]? = some (.cells #[.int .u8 n.kind, .int .i64 n.mode, .int .i64 n.user, .int .i64 n.group, .int .i64 n.links, .int .i64 n.time, .slice D n.data.length cd, .string n.target, .slice L n.list.length cl, .int .i64 n.parent] 45 (0, 0)) := (Below.heap_alloc _ _ _ (by simp)).trans (heap_alloc_new _ _)
    have hr2 : ((w.alloc (.cells #[.int .u8 n.kind, .int .i64 n.mode, .int .i64 n.user, .int .i64 n.group, .int .i64 n.links, .int .i64 n.time, .slice D n.data.length cd, .string n.target, .slice L n.list.length cl, .int .i64 n.parent] 45)).alloc (.cells nodeZ 45)).heap[w.heap.size + 1]? = some (.cells nodeZ 45 (0, 0)) := heap_alloc2_new _ _ _
    obtain ⟨⟨a0, a1, a2, a3, a4, a5, a6, a7, a8, a9⟩, -⟩ := row10 hr
    exact ⟨(by repeat (first | exact Below.refl _ _ | assumption | refine Below.drew ?_ | refine below_drewN ?_ _ | refine below_alloc ?_ _ | refine below_set ?_ (by simp) _ | refine below_step ?_ (by assumption))), a0, a1, a2, a3, a4, a5, a6, a7, a8, a9, there_row hr2⟩
  obtain ⟨w0, hw0⟩ : ∃ w0, w0 = (w.alloc (.cells #[.int .u8 n.kind, .int .i64 n.mode, .int .i64 n.user, .int .i64 n.group, .int .i64 n.links, .int .i64 n.time, .slice D n.data.length cd, .string n.target, .slice L n.list.length cl, .int .i64 n.parent] 45)).alloc (.cells nodeZ 45) := ⟨_, rfl⟩
  have hz0 : w.heap.size + 1 < w0.heap.size := by rw [hw0]; simp
  unfold nodeZ at hw0 hS0
  rw [← hw0] at hS0 ⊢
  clear hw0
  go_region_held3 (fun w' => Below w.heap.size w w' ∧ w'.cell? ⟨w.heap.size, 0, none⟩ = some (.int .u8 n.kind) ∧ w'.cell? ⟨w.heap.size, 1, none⟩ = some (.int .i64 n.mode) ∧ w'.cell? ⟨w.heap.size, 2, none⟩ = some (.int .i64 n.user) ∧ w'.cell? ⟨w.heap.size, 3, none⟩ = some (.int .i64 n.group) ∧ w'.cell? ⟨w.heap.size, 4, none⟩ = some (.int .i64 n.links) ∧ w'.cell? ⟨w.heap.size, 5, none⟩ = some (.int .i64 n.time) ∧ w'.cell? ⟨w.heap.size, 6, none⟩ = some (.slice D n.data.length cd) ∧ w'.cell? ⟨w.heap.size, 7, none⟩ = some (.string n.target) ∧ w'.cell? ⟨w.heap.size, 8, none⟩ = some (.slice L n.list.length cl) ∧ w'.cell? ⟨w.heap.size, 9, none⟩ = some (.int .i64 n.parent) ∧ Free10 w' (w.heap.size + 1)) ((first | with_reducible assumption | with_reducible exact s10_drew (by with_reducible assumption) | with_reducible exact s10_set _ (by with_reducible assumption)))
    (first
      | (go_at_call 62; have hH := ‹Below w.heap.size w _ ∧ _›; refine (twinBytes_calls n.data hd D cd _ (HD.out.keep hH.1)).mono ?_; rintro _ w1 ⟨g1, c1, ⟨rfl, hc1, hg1, hB1⟩, hb1⟩; have hS1 := s10_keep hb1 hH; clear hH)
      | (go_at_call 63; have hH := ‹Below w.heap.size w _ ∧ _›; refine (twinEntries_calls n.list hl L cl _ (HL.out.keep hH.1)).mono ?_; rintro _ w2 ⟨g2, c2, ⟨rfl, hc2, hg2, hB2⟩, hb2⟩; have hS2 := s10_keep hb2 hH; clear hH))
  clear hS1
  obtain ⟨hbb, -, -, -, -, -, -, -, -, -, -, hfr⟩ := hS2
  have hs1 := hb1.size
  have hs2 := hb2.size
  have hg0 : w0.heap.size ≤ g1 := hg1
  have hs0 : w0.heap.size ≤ w1.heap.size := hs1
  go_wp2
  refine bodyPost_ret (results_cell rfl rfl (run_loadVar_mid (P := Try.prog) _ (w.heap.size + 1) 0 45 _ _ (World.rangeAt_setCells_same _ _ _ _ hfr) hu rfl hi)) rfl ?_
  refine ⟨_, ⟨rfl, g1, c1, g2, c2, rfl, hc1, (hB1.keep hb2).cells (by omega) _ _, hc2, hB2.cells (by omega) _ _, by omega, by omega, by simp, by simp, ?_, ?_⟩, below_cells (by omega) _ _ hbb⟩
  · rw [size_cells]; have := hB1.lt; omega
  · rw [size_cells]; exact hB2.lt
end Go.Proofs.Ytfoocjdnolplpaa
