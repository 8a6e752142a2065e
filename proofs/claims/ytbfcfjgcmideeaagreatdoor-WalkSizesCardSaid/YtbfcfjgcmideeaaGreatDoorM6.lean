/- The laws' copies of a tree. -/
/- Copies of nodes. -/
/- Copies of nodes and trees. -/
import Derived.Test.YtbfcfjgcmideeaaGreatDoorM2
import Derived.Test.YtbfcfjgcmideeaaGreatDoorListed
import Derived.Deep.RegionHeld3
import Derived.Deep.MidRow
import Derived.Outline
import Derived.Test.YtbfcfjgcmideeaaGreatDoorB1
import Derived.Test.YtbfcfjgcmideeaaGreatDoorM4
namespace Go.Proofs.YtbfcfjgcmideeaaGreatDoor
open Go.RowKit
attribute [local go_sem] Later.cell_eq
theorem elem_u8 : Elem Tryz.prog 69 5 1 1 := Elem.mk' (z := .int .u8 0) Tryz.underlying69 (by kernel_rfl) rfl (by decide)
theorem elem_ent : Elem Tryz.prog 78 162 2 24 := Elem.mk' (z := .agg #[.string ⟨#[]⟩, .int .i64 0]) Tryz.underlying78 (by kernel_rfl) rfl (by decide)
theorem elem_node : Elem Tryz.prog 22 80 10 120 := Elem.mk' (z := .agg #[.int .u8 0, .int .i64 0, .int .i64 0, .int .i64 0, .int .i64 0, .int .i64 0, .slice none 0 0, .string ⟨#[]⟩, .slice none 0 0, .int .i64 0]) Tryz.underlying22 (by kernel_rfl) rfl (by decide)
def byteRow (x : Int) : List Value := [.int .u8 x]
def entRow (e : TEnt) : List Value := [.string e.name, .int .i64 e.node]
theorem bytesAt_own {w : World} {B : Nat} {e : TypeId} {g n c : Nat} {l : List Int} (h : Own w B e 1 (.slice (some ⟨g, 0, none⟩) n c) (l.map byteRow)) : BytesAt w (some ⟨g, 0, none⟩) l := fun k x hk =>
  ⟨g, 0, rfl, by have := h.cell (i := k) (r := byteRow x) (by simp [hk]) (j := 0) rfl; simpa using this⟩
theorem entsAt_own {w : World} {B : Nat} {e : TypeId} {g n c : Nat} {l : List TEnt} (h : Own w B e 2 (.slice (some ⟨g, 0, none⟩) n c) (l.map entRow)) : EntsAt w (some ⟨g, 0, none⟩) l := fun k x hk =>
  ⟨g, 0, rfl, h.cell (i := k) (r := entRow x) (by simp [hk]) (j := 0) rfl, h.cell (i := k) (r := entRow x) (by simp [hk]) (j := 1) rfl⟩
theorem map_take_succ {α β : Type} (f : α → β) {l : List α} {k : Nat} {x : α} (h : l[k]? = some x) : (l.take (k + 1)).map f = (l.take k).map f ++ [f x] := by
  rw [List.take_add_one, h]; simp
set_option maxHeartbeats 1000000 in
set_option maxRecDepth 100000 in
theorem twinBytes_calls (l : List Int) (hl : l.length ≤ 1000000) (A : Option Addr) (c : Nat) (w : World) (hA : BytesAt w A l) :
    Calls Tryz.prog 133 #[.slice A l.length c] w fun e w' => ∃ g cap, (e = .returned (.slice (some ⟨g, 0, none⟩) l.length cap) ∧ l.length + 1 ≤ cap ∧ w.heap.size ≤ g ∧ Own w' w.heap.size 5 1 (.slice (some ⟨g, 0, none⟩) (l.length + 1) cap) ((l ++ [77]).map byteRow)) ∧ Below w.heap.size w w' := by
  have HA := Lib.hid hA
  clear hA
  go_enter Tryz.func133, Tryz.ntmps133
  go_wp2_with (at_make; refine wpList_make_zero rfl _ _ 69 rfl elem_u8 .i64 .i64 ((l.length : Int) + 1) (l.length + 1) rfl rfl ?d1 ?d2 ?d3 (Below.refl _ _) ?_; (case d1 => omega); (case d2 => omega); (case d3 => unfold maxLen; omega); intro w1 hown1 hb1 _)
  go_loopg [3, 4] l.length (fun g s3 s4 wr => ∃ (k : Nat) (rows : List (List Value)), k + g = l.length ∧ s4 = .int .i64 k ∧ Own wr w.heap.size 5 1 s3 rows ∧ Below w.heap.size w wr ∧ Hid (rows = (l.take k).map byteRow))
  case atStart => exact ⟨0, [], by omega, rfl, hown1, hb1, Lib.hid rfl⟩
  case round =>
    clear hown1 hb1
    obtain ⟨k, rows, hg, rfl, hown, hb, HR⟩ := hrel
    have hn : Hid (rows.length = k) := Lib.hid (by rw [HR.out]; simp; omega)
    cases gk with
    | zero =>
      obtain rfl : k = l.length := by omega
      go_wp2_with (at_builtin; refine wpList_append_one rfl _ _ 69 rfl elem_u8 l.length hn.out [.int .u8 77] rfl hown hb rfl rfl (by simp [Value.oneCell']) (by unfold maxLen; omega) (by omega) ?_; rintro _ w2 hown2 hb2 - - ⟨g', c', rfl, hc', hg'⟩; have hc2 : l.length ≤ c' := by omega)
      go_ret
      rw [HR.out, List.take_length] at hown2
      exact ⟨g', c', ⟨rfl, hc', hg', by rw [List.map_append]; exact hown2⟩, hb2⟩
    | succ gg =>
      obtain ⟨x, hx⟩ : ∃ x, l[k]? = some x := ⟨l[k]'(by omega), by simp⟩
      obtain ⟨b, o, rfl, e0⟩ := HA.out k x hx
      replace e0 := cell_keep hb e0
      have HX := Lib.hid hx
      clear hx
      go_wp2_with (at_builtin; refine wpList_append_one rfl _ _ 69 rfl elem_u8 k hn.out [.int .u8 x] rfl hown hb rfl rfl (by simp [Value.oneCell']) (by unfold maxLen; omega) (by omega) ?_; rintro _ w2 hown2 hb2 - - ⟨g', c', rfl, hc', hg'⟩)
      go_roundg gg
      case measure => omega
      case rel => exact ⟨k + 1, _, by omega, by go_num, hown2, hb2, Lib.hid (by rw [map_take_succ _ HX.out, HR.out]; rfl)⟩
set_option maxHeartbeats 1000000 in
set_option maxRecDepth 100000 in
theorem twinEntries_calls (l : List TEnt) (hl : l.length ≤ 1000000) (A : Option Addr) (c : Nat) (w : World) (hA : EntsAt w A l) :
    Calls Tryz.prog 214 #[.slice A l.length c] w fun e w' => ∃ g cap, (e = .returned (.slice (some ⟨g, 0, none⟩) l.length cap) ∧ l.length + 1 ≤ cap ∧ w.heap.size ≤ g ∧ Own w' w.heap.size 162 2 (.slice (some ⟨g, 0, none⟩) (l.length + 1) cap) ((l ++ [(⟨⟨#[115, 112, 97, 114, 101]⟩, 0⟩ : TEnt)]).map entRow)) ∧ Below w.heap.size w w' := by
  have HA := Lib.hid hA
  clear hA
  go_enter Tryz.func214, Tryz.ntmps214
  go_wp2_with (at_make; refine wpList_make_zero rfl _ _ 78 rfl elem_ent .i64 .i64 ((l.length : Int) + 1) (l.length + 1) rfl rfl ?d1 ?d2 ?d3 (Below.refl _ _) ?_; (case d1 => omega); (case d2 => omega); (case d3 => unfold maxLen; omega); intro w1 hown1 hb1 _)
  go_loopg [3, 4] l.length (fun g s3 s4 wr => ∃ (k : Nat) (rows : List (List Value)), k + g = l.length ∧ s4 = .int .i64 k ∧ Own wr w.heap.size 162 2 s3 rows ∧ Below w.heap.size w wr ∧ Hid (rows = (l.take k).map entRow))
  case atStart => exact ⟨0, [], by omega, rfl, hown1, hb1, Lib.hid rfl⟩
  case round =>
    clear hown1 hb1
    obtain ⟨k, rows, hg, rfl, hown, hb, HR⟩ := hrel
    have hn : Hid (rows.length = k) := Lib.hid (by rw [HR.out]; simp; omega)
    cases gk with
    | zero =>
      obtain rfl : k = l.length := by omega
      go_wp2_with (at_builtin; refine wpList_append_one rfl _ _ 78 rfl elem_ent l.length hn.out [.string ⟨#[115, 112, 97, 114, 101]⟩, .int .i64 0] rfl hown hb rfl rfl (by simp [Value.oneCell']) (by unfold maxLen; omega) (by omega) ?_; rintro _ w2 hown2 hb2 - - ⟨g', c', rfl, hc', hg'⟩; have hc2 : l.length ≤ c' := by omega)
      go_ret
      rw [HR.out, List.take_length] at hown2
      exact ⟨g', c', ⟨rfl, hc', hg', by rw [List.map_append]; exact hown2⟩, hb2⟩
    | succ gg =>
      obtain ⟨x, hx⟩ : ∃ x, l[k]? = some x := ⟨l[k]'(by omega), by simp⟩
      obtain ⟨b, o, rfl, e0, e1⟩ := HA.out k x hx
      replace e0 := cell_keep hb e0
      replace e1 := cell_keep hb e1
      have HX := Lib.hid hx
      clear hx
      go_wp2_with (at_builtin; refine wpList_append_one rfl _ _ 78 rfl elem_ent k hn.out [.string x.name, .int .i64 x.node] rfl hown hb rfl rfl (by simp [Value.oneCell']) (by unfold maxLen; omega) (by omega) ?_; rintro _ w2 hown2 hb2 - - ⟨g', c', rfl, hc', hg'⟩)
      go_roundg gg
      case measure => omega
      case rel => exact ⟨k + 1, _, by omega, by go_num, hown2, hb2, Lib.hid (by rw [map_take_succ _ HX.out, HR.out]; rfl)⟩
end Go.Proofs.YtbfcfjgcmideeaaGreatDoor
namespace Go.Proofs.YtbfcfjgcmideeaaGreatDoor
open Go.RowKit
attribute [local go_sem] Later.cell_eq
def nodeZ : Array Value := #[.int .u8 0, .int .i64 0, .int .i64 0, .int .i64 0, .int .i64 0, .int .i64 0, .slice none 0 0, .string ⟨#[]⟩, .slice none 0 0, .int .i64 0]
def NodeTw (w : World) (B : Nat) (g : Option Nat) (n : TNode) (vs : List Value) : Prop :=
  ∃ D cd L cl, vs = [.int .u8 n.kind, .int .i64 n.mode, .int .i64 n.user, .int .i64 n.group, .int .i64 n.links, .int .i64 n.time, .slice (some ⟨D, 0, none⟩) n.data.length cd, .string n.target, .slice (some ⟨L, 0, none⟩) n.list.length cl, .int .i64 n.parent]
    ∧ n.data.length + 1 ≤ cd ∧ Own w B 5 1 (.slice (some ⟨D, 0, none⟩) (n.data.length + 1) cd) ((n.data ++ [77]).map byteRow) ∧ n.list.length + 1 ≤ cl ∧ Own w B 162 2 (.slice (some ⟨L, 0, none⟩) (n.list.length + 1) cl) ((n.list ++ [(⟨⟨#[115, 112, 97, 114, 101]⟩, 0⟩ : TEnt)]).map entRow) ∧ B ≤ D ∧ B ≤ L ∧ g ≠ some D ∧ g ≠ some L ∧ D < w.heap.size ∧ L < w.heap.size ∧ D ≠ L
/-- A node's ten cells lie at the head of block b, and may be written. -/
def Free10 (w : World) (b : Nat) : Prop := w.there b 0 10
theorem free10_drew {w : World} {b : Nat} : Free10 w.drew b ↔ Free10 w b := by unfold Free10; simp
/-- The store of a whole node, kept whole. -/
def stNode (a : Addr) (v : Value) : Sem Unit := storeVar 80 a v
theorem stNode_eq (a : Addr) (v : Value) : storeVar 80 a v = stNode a v := rfl
theorem stNode_run (w : World) (b : Nat) (v0 v1 v2 v3 v4 v5 v6 v7 v8 v9 : Value) (ht : Free10 w b) (h1 : #[v0, v1, v2, v3, v4, v5, v6, v7, v8, v9].all (·.oneCell') = true) :
    (stNode ⟨b, 0, none⟩ (.agg #[v0, v1, v2, v3, v4, v5, v6, v7, v8, v9])).run Tryz.prog w = .ok () (w.setCells b 0 [v0, v1, v2, v3, v4, v5, v6, v7, v8, v9]) :=
  run_storeVar_mid (P := Tryz.prog) w b 0 80 _ ht (by kernel_rfl) h1
attribute [local go_sem ↓] stNode_eq
attribute [local go_sem] stNode_run
attribute [local go_sem] Value.oneCell' free10_drew
theorem s10_keep {w w1 w2 : World} {b : Nat} {n : TNode} {D L : Option Addr} {cd cl : Nat} (hb : Below w1.heap.size w1 w2) (hB : Below w.heap.size w w1 ∧ w1.cell? ⟨b, 0, none⟩ = some (.int .u8 n.kind) ∧ w1.cell? ⟨b, 1, none⟩ = some (.int .i64 n.mode) ∧ w1.cell? ⟨b, 2, none⟩ = some (.int .i64 n.user) ∧ w1.cell? ⟨b, 3, none⟩ = some (.int .i64 n.group) ∧ w1.cell? ⟨b, 4, none⟩ = some (.int .i64 n.links) ∧ w1.cell? ⟨b, 5, none⟩ = some (.int .i64 n.time) ∧ w1.cell? ⟨b, 6, none⟩ = some (.slice D n.data.length cd) ∧ w1.cell? ⟨b, 7, none⟩ = some (.string n.target) ∧ w1.cell? ⟨b, 8, none⟩ = some (.slice L n.list.length cl) ∧ w1.cell? ⟨b, 9, none⟩ = some (.int .i64 n.parent) ∧ Free10 w1 (b + 1)) : Below w.heap.size w w2 ∧ w2.cell? ⟨b, 0, none⟩ = some (.int .u8 n.kind) ∧ w2.cell? ⟨b, 1, none⟩ = some (.int .i64 n.mode) ∧ w2.cell? ⟨b, 2, none⟩ = some (.int .i64 n.user) ∧ w2.cell? ⟨b, 3, none⟩ = some (.int .i64 n.group) ∧ w2.cell? ⟨b, 4, none⟩ = some (.int .i64 n.links) ∧ w2.cell? ⟨b, 5, none⟩ = some (.int .i64 n.time) ∧ w2.cell? ⟨b, 6, none⟩ = some (.slice D n.data.length cd) ∧ w2.cell? ⟨b, 7, none⟩ = some (.string n.target) ∧ w2.cell? ⟨b, 8, none⟩ = some (.slice L n.list.length cl) ∧ w2.cell? ⟨b, 9, none⟩ = some (.int .i64 n.parent) ∧ Free10 w2 (b + 1) := by
  obtain ⟨h, c0, c1, c2, c3, c4, c5, c6, c7, c8, c9, ht⟩ := hB
  refine ⟨below_step h hb, cell_keep hb c0, cell_keep hb c1, cell_keep hb c2, cell_keep hb c3, cell_keep hb c4, cell_keep hb c5, cell_keep hb c6, cell_keep hb c7, cell_keep hb c8, cell_keep hb c9, fun j hj => ?_⟩
  obtain ⟨h1, h2⟩ := (show w1.there (b + 1) 0 10 from ht) j hj
  obtain ⟨v, hv⟩ := Option.isSome_iff_exists.1 h1
  have hlt := World.block_lt_of_cell? _ _ hv
  exact ⟨by rw [cell_keep hb hv]; rfl, (hb.frozen hlt).trans h2⟩
theorem s10_drew {w w1 : World} {b : Nat} {n : TNode} {D L : Option Addr} {cd cl : Nat} (hB : Below w.heap.size w w1 ∧ w1.cell? ⟨b, 0, none⟩ = some (.int .u8 n.kind) ∧ w1.cell? ⟨b, 1, none⟩ = some (.int .i64 n.mode) ∧ w1.cell? ⟨b, 2, none⟩ = some (.int .i64 n.user) ∧ w1.cell? ⟨b, 3, none⟩ = some (.int .i64 n.group) ∧ w1.cell? ⟨b, 4, none⟩ = some (.int .i64 n.links) ∧ w1.cell? ⟨b, 5, none⟩ = some (.int .i64 n.time) ∧ w1.cell? ⟨b, 6, none⟩ = some (.slice D n.data.length cd) ∧ w1.cell? ⟨b, 7, none⟩ = some (.string n.target) ∧ w1.cell? ⟨b, 8, none⟩ = some (.slice L n.list.length cl) ∧ w1.cell? ⟨b, 9, none⟩ = some (.int .i64 n.parent) ∧ Free10 w1 (b + 1)) : Below w.heap.size w w1.drew ∧ w1.drew.cell? ⟨b, 0, none⟩ = some (.int .u8 n.kind) ∧ w1.drew.cell? ⟨b, 1, none⟩ = some (.int .i64 n.mode) ∧ w1.drew.cell? ⟨b, 2, none⟩ = some (.int .i64 n.user) ∧ w1.drew.cell? ⟨b, 3, none⟩ = some (.int .i64 n.group) ∧ w1.drew.cell? ⟨b, 4, none⟩ = some (.int .i64 n.links) ∧ w1.drew.cell? ⟨b, 5, none⟩ = some (.int .i64 n.time) ∧ w1.drew.cell? ⟨b, 6, none⟩ = some (.slice D n.data.length cd) ∧ w1.drew.cell? ⟨b, 7, none⟩ = some (.string n.target) ∧ w1.drew.cell? ⟨b, 8, none⟩ = some (.slice L n.list.length cl) ∧ w1.drew.cell? ⟨b, 9, none⟩ = some (.int .i64 n.parent) ∧ Free10 w1.drew (b + 1) := by
  obtain ⟨h, c0, c1, c2, c3, c4, c5, c6, c7, c8, c9, ht⟩ := hB
  exact ⟨h.drew, c0, c1, c2, c3, c4, c5, c6, c7, c8, c9, free10_drew.2 ht⟩
theorem s10_set {w w1 : World} {n : TNode} {D L : Option Addr} {cd cl : Nat} (vs : List Value) (hB : Below w.heap.size w w1 ∧ w1.cell? ⟨w.heap.size, 0, none⟩ = some (.int .u8 n.kind) ∧ w1.cell? ⟨w.heap.size, 1, none⟩ = some (.int .i64 n.mode) ∧ w1.cell? ⟨w.heap.size, 2, none⟩ = some (.int .i64 n.user) ∧ w1.cell? ⟨w.heap.size, 3, none⟩ = some (.int .i64 n.group) ∧ w1.cell? ⟨w.heap.size, 4, none⟩ = some (.int .i64 n.links) ∧ w1.cell? ⟨w.heap.size, 5, none⟩ = some (.int .i64 n.time) ∧ w1.cell? ⟨w.heap.size, 6, none⟩ = some (.slice D n.data.length cd) ∧ w1.cell? ⟨w.heap.size, 7, none⟩ = some (.string n.target) ∧ w1.cell? ⟨w.heap.size, 8, none⟩ = some (.slice L n.list.length cl) ∧ w1.cell? ⟨w.heap.size, 9, none⟩ = some (.int .i64 n.parent) ∧ Free10 w1 (w.heap.size + 1)) : Below w.heap.size w (w1.setCells (w.heap.size + 1) 0 vs) ∧ (w1.setCells (w.heap.size + 1) 0 vs).cell? ⟨w.heap.size, 0, none⟩ = some (.int .u8 n.kind) ∧ (w1.setCells (w.heap.size + 1) 0 vs).cell? ⟨w.heap.size, 1, none⟩ = some (.int .i64 n.mode) ∧ (w1.setCells (w.heap.size + 1) 0 vs).cell? ⟨w.heap.size, 2, none⟩ = some (.int .i64 n.user) ∧ (w1.setCells (w.heap.size + 1) 0 vs).cell? ⟨w.heap.size, 3, none⟩ = some (.int .i64 n.group) ∧ (w1.setCells (w.heap.size + 1) 0 vs).cell? ⟨w.heap.size, 4, none⟩ = some (.int .i64 n.links) ∧ (w1.setCells (w.heap.size + 1) 0 vs).cell? ⟨w.heap.size, 5, none⟩ = some (.int .i64 n.time) ∧ (w1.setCells (w.heap.size + 1) 0 vs).cell? ⟨w.heap.size, 6, none⟩ = some (.slice D n.data.length cd) ∧ (w1.setCells (w.heap.size + 1) 0 vs).cell? ⟨w.heap.size, 7, none⟩ = some (.string n.target) ∧ (w1.setCells (w.heap.size + 1) 0 vs).cell? ⟨w.heap.size, 8, none⟩ = some (.slice L n.list.length cl) ∧ (w1.setCells (w.heap.size + 1) 0 vs).cell? ⟨w.heap.size, 9, none⟩ = some (.int .i64 n.parent) ∧ Free10 (w1.setCells (w.heap.size + 1) 0 vs) (w.heap.size + 1) := by
  obtain ⟨h, c0, c1, c2, c3, c4, c5, c6, c7, c8, c9, ht⟩ := hB
  have hne : w.heap.size ≠ w.heap.size + 1 := by omega
  exact ⟨below_cells (by omega) _ _ h, cell_cells c0 hne _ _, cell_cells c1 hne _ _, cell_cells c2 hne _ _, cell_cells c3 hne _ _, cell_cells c4 hne _ _, cell_cells c5 hne _ _, cell_cells c6 hne _ _, cell_cells c7 hne _ _, cell_cells c8 hne _ _, cell_cells c9 hne _ _, World.there_setCells ht _ _ _⟩
theorem Own.cells {w : World} {B : Nat} {e : TypeId} {z g n c b : Nat} {rows : List (List Value)} (h : Own w B e z (.slice (some ⟨g, 0, none⟩) n c) rows) (hne : g ≠ b) (o : Nat) (vs : List Value) : Own (w.setCells b o vs) B e z (.slice (some ⟨g, 0, none⟩) n c) rows :=
  h.turned (turned_cells (S := fun k => k = b) rfl vs o w) fun k hk e => by simp [Value.ownBlock] at hk; omega
theorem Own.base {w : World} {B B' : Nat} {e : TypeId} {z : Nat} {v : Value} {rows : List (List Value)} (h : Own w B e z v rows) (hB : B' ≤ B) : Own w B' e z v rows := by
  refine ⟨⟨h.own.1, ?_⟩, h.each⟩
  rcases h.own.2 with h5 | ⟨g', c', cur, h5, h6, h7⟩
  · exact .inl h5
  · exact .inr ⟨g', c', cur, h5, by omega, h7⟩
theorem Own.gt {w : World} {B : Nat} {e : TypeId} {z g n c : Nat} {rows : List (List Value)} (h : Own w B e z (.slice (some ⟨g, 0, none⟩) n c) rows) : B ≤ g ∧ g < w.heap.size := h.lt g rfl
theorem there_row {w : World} {b : Nat} {C : Array Value} {t : TypeId} (h : w.heap[b]? = some (.cells C t (0, 0))) : w.there b 0 C.size := fun j hj => by
  rw [Nat.zero_add, cell_of_row w b j _ _ _ h]
  exact ⟨by simp [hj], frozen_of_row w b j _ _ h⟩
set_option maxHeartbeats 2000000 in
set_option maxRecDepth 100000 in
theorem twinNode_calls (n : TNode) (hd : n.data.length ≤ 1000000) (hl : n.list.length ≤ 1000000) (D L : Option Addr) (cd cl : Nat) (w : World) (hD : BytesAt w D n.data) (hL : EntsAt w L n.list) :
    Calls Tryz.prog 143 #[.agg #[.int .u8 n.kind, .int .i64 n.mode, .int .i64 n.user, .int .i64 n.group, .int .i64 n.links, .int .i64 n.time, .slice D n.data.length cd, .string n.target, .slice L n.list.length cl, .int .i64 n.parent]] w fun e w' => ∃ vs, (e = .returned (.agg vs.toArray) ∧ NodeTw w' w.heap.size none n vs) ∧ Below w.heap.size w w' := by
  have HD := Lib.hid hD
  have HL := Lib.hid hL
  clear hD hL
  have hu := Tryz.underlying80
  have hi : (Tryz.prog.info? 80).map (·.size) = some 10 := by kernel_rfl
  go_enter Tryz.func143, Tryz.ntmps143
  go_wp2
  have hS0 : Below w.heap.size w ((w.alloc (.cells #[.int .u8 n.kind, .int .i64 n.mode, .int .i64 n.user, .int .i64 n.group, .int .i64 n.links, .int .i64 n.time, .slice D n.data.length cd, .string n.target, .slice L n.list.length cl, .int .i64 n.parent] 80)).alloc (.cells nodeZ 80)) ∧ ((w.alloc (.cells #[.int .u8 n.kind, .int .i64 n.mode, .int .i64 n.user, .int .i64 n.group, .int .i64 n.links, .int .i64 n.time, .slice D n.data.length cd, .string n.target, .slice L n.list.length cl, .int .i64 n.parent] 80)).alloc (.cells nodeZ 80)).cell? ⟨w.heap.size, 0, none⟩ = some (.int .u8 n.kind) ∧ ((w.alloc (.cells #[.int .u8 n.kind, .int .i64 n.mode, .int .i64 n.user, .int .i64 n.group, .int .i64 n.links, .int .i64 n.time, .slice D n.data.length cd, .string n.target, .slice L n.list.length cl, .int .i64 n.parent] 80)).alloc (.cells nodeZ 80)).cell? ⟨w.heap.size, 1, none⟩ = some (.int .i64 n.mode) ∧ ((w.alloc (.cells #[.int .u8 n.kind, .int .i64 n.mode, .int .i64 n.user, .int .i64 n.group, .int .i64 n.links, .int .i64 n.time, .slice D n.data.length cd, .string n.target, .slice L n.list.length cl, .int .i64 n.parent] 80)).alloc (.cells nodeZ 80)).cell? ⟨w.heap.size, 2, none⟩ = some (.int .i64 n.user) ∧ ((w.alloc (.cells #[.int .u8 n.kind, .int .i64 n.mode, .int .i64 n.user, .int .i64 n.group, .int .i64 n.links, .int .i64 n.time, .slice D n.data.length cd, .string n.target, .slice L n.list.length cl, .int .i64 n.parent] 80)).alloc (.cells nodeZ 80)).cell? ⟨w.heap.size, 3, none⟩ = some (.int .i64 n.group) ∧ ((w.alloc (.cells #[.int .u8 n.kind, .int .i64 n.mode, .int .i64 n.user, .int .i64 n.group, .int .i64 n.links, .int .i64 n.time, .slice D n.data.length cd, .string n.target, .slice L n.list.length cl, .int .i64 n.parent] 80)).alloc (.cells nodeZ 80)).cell? ⟨w.heap.size, 4, none⟩ = some (.int .i64 n.links) ∧ ((w.alloc (.cells #[.int .u8 n.kind, .int .i64 n.mode, .int .i64 n.user, .int .i64 n.group, .int .i64 n.links, .int .i64 n.time, .slice D n.data.length cd, .string n.target, .slice L n.list.length cl, .int .i64 n.parent] 80)).alloc (.cells nodeZ 80)).cell? ⟨w.heap.size, 5, none⟩ = some (.int .i64 n.time) ∧ ((w.alloc (.cells #[.int .u8 n.kind, .int .i64 n.mode, .int .i64 n.user, .int .i64 n.group, .int .i64 n.links, .int .i64 n.time, .slice D n.data.length cd, .string n.target, .slice L n.list.length cl, .int .i64 n.parent] 80)).alloc (.cells nodeZ 80)).cell? ⟨w.heap.size, 6, none⟩ = some (.slice D n.data.length cd) ∧ ((w.alloc (.cells #[.int .u8 n.kind, .int .i64 n.mode, .int .i64 n.user, .int .i64 n.group, .int .i64 n.links, .int .i64 n.time, .slice D n.data.length cd, .string n.target, .slice L n.list.length cl, .int .i64 n.parent] 80)).alloc (.cells nodeZ 80)).cell? ⟨w.heap.size, 7, none⟩ = some (.string n.target) ∧ ((w.alloc (.cells #[.int .u8 n.kind, .int .i64 n.mode, .int .i64 n.user, .int .i64 n.group, .int .i64 n.links, .int .i64 n.time, .slice D n.data.length cd, .string n.target, .slice L n.list.length cl, .int .i64 n.parent] 80)).alloc (.cells nodeZ 80)).cell? ⟨w.heap.size, 8, none⟩ = some (.slice L n.list.length cl) ∧ ((w.alloc (.cells #[.int .u8 n.kind, .int .i64 n.mode, .int .i64 n.user, .int .i64 n.group, .int .i64 n.links, .int .i64 n.time, .slice D n.data.length cd, .string n.target, .slice L n.list.length cl, .int .i64 n.parent] 80)).alloc (.cells nodeZ 80)).cell? ⟨w.heap.size, 9, none⟩ = some (.int .i64 n.parent) ∧ Free10 ((w.alloc (.cells #[.int .u8 n.kind, .int .i64 n.mode, .int .i64 n.user, .int .i64 n.group, .int .i64 n.links, .int .i64 n.time, .slice D n.data.length cd, .string n.target, .slice L n.list.length cl, .int .i64 n.parent] 80)).alloc (.cells nodeZ 80)) (w.heap.size + 1) := by
    have hr : ((w.alloc (.cells #[.int .u8 n.kind, .int .i64 n.mode, .int .i64 n.user, .int .i64 n.group, .int .i64 n.links, .int .i64 n.time, .slice D n.data.length cd, .string n.target, .slice L n.list.length cl, .int .i64 n.parent] 80)).alloc (.cells nodeZ 80)).heap[w.heap.size]? = some (.cells #[.int .u8 n.kind, .int .i64 n.mode, .int .i64 n.user, .int .i64 n.group, .int .i64 n.links, .int .i64 n.time, .slice D n.data.length cd, .string n.target, .slice L n.list.length cl, .int .i64 n.parent] 80 (0, 0)) := (Below.heap_alloc _ _ _ (by simp)).trans (heap_alloc_new _ _)
    have hr2 : ((w.alloc (.cells #[.int .u8 n.kind, .int .i64 n.mode, .int .i64 n.user, .int .i64 n.group, .int .i64 n.links, .int .i64 n.time, .slice D n.data.length cd, .string n.target, .slice L n.list.length cl, .int .i64 n.parent] 80)).alloc (.cells nodeZ 80)).heap[w.heap.size + 1]? = some (.cells nodeZ 80 (0, 0)) := heap_alloc2_new _ _ _
    obtain ⟨⟨a0, a1, a2, a3, a4, a5, a6, a7, a8, a9⟩, -⟩ := row10 hr
    exact ⟨(by repeat (first | exact Below.refl _ _ | assumption | refine Below.drew ?_ | refine below_drewN ?_ _ | refine below_alloc ?_ _ | refine below_set ?_ (by simp) _ | refine below_step ?_ (by assumption))), a0, a1, a2, a3, a4, a5, a6, a7, a8, a9, there_row hr2⟩
  obtain ⟨w0, hw0⟩ : ∃ w0, w0 = (w.alloc (.cells #[.int .u8 n.kind, .int .i64 n.mode, .int .i64 n.user, .int .i64 n.group, .int .i64 n.links, .int .i64 n.time, .slice D n.data.length cd, .string n.target, .slice L n.list.length cl, .int .i64 n.parent] 80)).alloc (.cells nodeZ 80) := ⟨_, rfl⟩
  have hz0 : w.heap.size + 1 < w0.heap.size := by rw [hw0]; simp
  unfold nodeZ at hw0 hS0
  rw [← hw0] at hS0 ⊢
  clear hw0
  go_region_held3 (fun w' => Below w.heap.size w w' ∧ w'.cell? ⟨w.heap.size, 0, none⟩ = some (.int .u8 n.kind) ∧ w'.cell? ⟨w.heap.size, 1, none⟩ = some (.int .i64 n.mode) ∧ w'.cell? ⟨w.heap.size, 2, none⟩ = some (.int .i64 n.user) ∧ w'.cell? ⟨w.heap.size, 3, none⟩ = some (.int .i64 n.group) ∧ w'.cell? ⟨w.heap.size, 4, none⟩ = some (.int .i64 n.links) ∧ w'.cell? ⟨w.heap.size, 5, none⟩ = some (.int .i64 n.time) ∧ w'.cell? ⟨w.heap.size, 6, none⟩ = some (.slice D n.data.length cd) ∧ w'.cell? ⟨w.heap.size, 7, none⟩ = some (.string n.target) ∧ w'.cell? ⟨w.heap.size, 8, none⟩ = some (.slice L n.list.length cl) ∧ w'.cell? ⟨w.heap.size, 9, none⟩ = some (.int .i64 n.parent) ∧ Free10 w' (w.heap.size + 1)) ((first | with_reducible assumption | with_reducible exact s10_drew (by with_reducible assumption) | with_reducible exact s10_set _ (by with_reducible assumption)))
    (first
      | (go_at_call 133; have hH := ‹Below w.heap.size w _ ∧ _›; refine (twinBytes_calls n.data hd D cd _ (HD.out.keep hH.1)).mono ?_; rintro _ w1 ⟨g1, c1, ⟨rfl, hc1, hg1, hB1⟩, hb1⟩; have hS1 := s10_keep hb1 hH; clear hH)
      | (go_at_call 214; have hH := ‹Below w.heap.size w _ ∧ _›; refine (twinEntries_calls n.list hl L cl _ (HL.out.keep hH.1)).mono ?_; rintro _ w2 ⟨g2, c2, ⟨rfl, hc2, hg2, hB2⟩, hb2⟩; have hS2 := s10_keep hb2 hH; clear hH))
  clear hS1
  obtain ⟨hbb, -, -, -, -, -, -, -, -, -, -, hfr⟩ := hS2
  have hs1 := hb1.size
  have hs2 := hb2.size
  have hg0 : w0.heap.size ≤ g1 := hg1
  have hs0 : w0.heap.size ≤ w1.heap.size := hs1
  have hg1l := hB1.gt.2
  have hg2' : w1.heap.size ≤ g2 := hg2
  go_wp2
  refine bodyPost_ret (results_cell rfl rfl (run_loadVar_mid (P := Tryz.prog) _ (w.heap.size + 1) 0 80 _ _ (World.rangeAt_setCells_same _ _ _ _ hfr) hu rfl hi)) rfl ?_
  refine ⟨_, ⟨rfl, g1, c1, g2, c2, rfl, hc1, ((hB1.keep hb2).cells (by omega) _ _).base (by show _ ≤ w0.heap.size; omega), hc2, (hB2.cells (by omega) _ _).base (by show _ ≤ w1.heap.size; omega), by omega, by omega, by simp, by simp, ?_, ?_, by omega⟩, below_cells (by omega) _ _ hbb⟩
  · rw [size_cells]; have := hB1.gt; omega
  · rw [size_cells]; exact hB2.gt.2
end Go.Proofs.YtbfcfjgcmideeaaGreatDoor
namespace Go.Proofs.YtbfcfjgcmideeaaGreatDoor
open Go.RowKit
attribute [local go_sem] Later.cell_eq
theorem NodeTw.keep {w w' : World} (h : Below w.heap.size w w') {B : Nat} {g : Option Nat} {n : TNode} {vs : List Value} (ht : NodeTw w B g n vs) : NodeTw w' B g n vs := by
  obtain ⟨D, cd, L, cl, h0, h1, h2, h3, h4, h5, h6, h7, h8, h9, h10, h11⟩ := ht
  exact ⟨D, cd, L, cl, h0, h1, h2.keep h, h3, h4.keep h, h5, h6, h7, h8, Nat.lt_of_lt_of_le h9 h.size, Nat.lt_of_lt_of_le h10 h.size, h11⟩
theorem Own.grown {w w' : World} {r : Option Nat} (h : w.grownBy w' r) {B : Nat} {e : TypeId} {z g n c : Nat} {rows : List (List Value)} (ho : Own w B e z (.slice (some ⟨g, 0, none⟩) n c) rows) (hr : r ≠ some g) : Own w' B e z (.slice (some ⟨g, 0, none⟩) n c) rows :=
  ho.turned (turned_grown (S := fun k => r = some k) h fun k hk => hk) fun k hk e => by simp [Value.ownBlock] at hk; subst hk; exact hr e
theorem NodeTw.step {w w' : World} {B : Nat} {r r' : Option Nat} {n : TNode} {vs : List Value} (h : w.grownBy w' r) (hr : r' = r ∨ r' = some (w.heap.size + 1)) (ht : NodeTw w B r n vs) : NodeTw w' B r' n vs := by
  obtain ⟨D, cd, L, cl, h0, h1, h2, h3, h4, h5, h6, h7, h8, h9, h10, h11⟩ := ht
  refine ⟨D, cd, L, cl, h0, h1, h2.grown h h7, h3, h4.grown h h8, h5, h6, ?_, ?_, Nat.lt_of_lt_of_le h9 h.size, Nat.lt_of_lt_of_le h10 h.size, h11⟩
  · rcases hr with rfl | rfl
    · exact h7
    · intro e; injection e; omega
  · rcases hr with rfl | rfl
    · exact h8
    · intro e; injection e; omega
theorem NodeTw.fresh {w w' : World} {B C : Nat} {r r' : Option Nat} {n : TNode} {vs : List Value} (h : w.grownBy w' r) (hr : r' = r ∨ r' = some (w.heap.size + 1)) (hC : ∀ k, r = some k → k < C) (hB : B ≤ C) (ht : NodeTw w C none n vs) : NodeTw w' B r' n vs := by
  obtain ⟨D, cd, L, cl, h0, h1, h2, h3, h4, h5, h6, h7, h8, h9, h10, h11⟩ := ht
  have k1 : r ≠ some D := fun e => by have := hC D e; omega
  have k2 : r ≠ some L := fun e => by have := hC L e; omega
  exact NodeTw.step h hr ⟨D, cd, L, cl, h0, h1, h2.base hB, h3, h4.base hB, Nat.le_trans hB h5, Nat.le_trans hB h6, k1, k2, h9, h10, h11⟩
/-- The blocks of a node's lists are told by labels. -/
def LabTw (tl : Nat → Nat × Nat) (i : Nat) (vs : List Value) : Prop := (∀ b, (vs.getD 6 (.int .i64 0)).ownBlock = some b → tl b = (1, i + 1)) ∧ ∀ b, (vs.getD 8 (.int .i64 0)).ownBlock = some b → tl b = (9, i + 1)
def RowsTw (w : World) (B : Nat) (g : Option Nat) (tl : Nat → Nat × Nat) (l : List TNode) (k : Nat) (rows : List (List Value)) : Prop :=
  rows.length = k ∧ ∀ i n, i < k → l[i]? = some n → ∃ vs, rows[i]? = some vs ∧ NodeTw w B g n vs ∧ LabTw tl i vs
theorem RowsTw.keep {w w' : World} (h : Below w.heap.size w w') {B : Nat} {g : Option Nat} {tl : Nat → Nat × Nat} {l : List TNode} {k : Nat} {rows : List (List Value)} (ht : RowsTw w B g tl l k rows) : RowsTw w' B g tl l k rows :=
  ⟨ht.1, fun i n hi hn => by obtain ⟨vs, h1, h2, h3⟩ := ht.2 i n hi hn; exact ⟨vs, h1, h2.keep h, h3⟩⟩
theorem RowsTw.step {w w' : World} {B : Nat} {r r' : Option Nat} (h : w.grownBy w' r) (hr : r' = r ∨ r' = some (w.heap.size + 1)) {tl : Nat → Nat × Nat} {l : List TNode} {k : Nat} {rows : List (List Value)} (ht : RowsTw w B r tl l k rows) : RowsTw w' B r' tl l k rows :=
  ⟨ht.1, fun i n hi hn => by obtain ⟨vs, h1, h2, h3⟩ := ht.2 i n hi hn; exact ⟨vs, h1, h2.step h hr, h3⟩⟩
/-- One more row: its lists, new ones, get labels. -/
theorem RowsTw.snoc {w : World} {B C : Nat} {g : Option Nat} {tl : Nat → Nat × Nat} {l : List TNode} {k : Nat} {rows : List (List Value)} {n : TNode} {vs : List Value} (ht : RowsTw w B g tl l k rows) (hn : l[k]? = some n) (hv : NodeTw w B g n vs)
    (hnew : ∀ b, (vs.getD 6 (.int .i64 0)).ownBlock = some b ∨ (vs.getD 8 (.int .i64 0)).ownBlock = some b → C ≤ b) (hold : ∀ (i : Nat) (us : List Value), rows[i]? = some us → ∀ b, (us.getD 6 (.int .i64 0)).ownBlock = some b ∨ (us.getD 8 (.int .i64 0)).ownBlock = some b → b < C) :
    ∃ tl', RowsTw w B g tl' l (k + 1) (rows ++ [vs]) := by
  have hdl : ∀ b, (vs.getD 6 (.int .i64 0)).ownBlock = some b → (vs.getD 8 (.int .i64 0)).ownBlock = some b → False := by
    obtain ⟨D, cd, L, cl, rfl, -, -, -, -, -, -, -, -, -, -, h11⟩ := hv
    intro b h1 h2
    have e1 : some D = some b := h1
    have e2 : some L = some b := h2
    cases e1; cases e2; exact h11 rfl
  refine ⟨fun b => if C ≤ b then (if (vs.getD 6 (.int .i64 0)).ownBlock = some b then (1, k + 1) else (9, k + 1)) else tl b, by simp [ht.1], fun i m hi hm => ?_⟩
  by_cases e : i = k
  · subst e
    rw [hn] at hm; cases hm
    refine ⟨vs, by rw [List.getElem?_append_right (by rw [ht.1]; exact Nat.le_refl _), ht.1]; simp, hv, fun b hb => ?_, fun b hb => ?_⟩
    · simp only [hnew b (.inl hb), if_true, hb]
    · have : ¬ (vs.getD 6 (.int .i64 0)).ownBlock = some b := fun h => hdl b h hb
      simp only [hnew b (.inr hb), if_true, this, if_false]
  · obtain ⟨us, h1, h2, h3, h4⟩ := ht.2 i m (by omega) hm
    refine ⟨us, by rw [List.getElem?_append_left (by rw [ht.1]; omega)]; exact h1, h2, fun b hb => ?_, fun b hb => ?_⟩
    · have := hold i us h1 b (.inl hb)
      simp only [show ¬ C ≤ b by omega, if_false]; exact h3 b hb
    · have := hold i us h1 b (.inr hb)
      simp only [show ¬ C ≤ b by omega, if_false]; exact h4 b hb
theorem NodeTw.blocks {w : World} {B : Nat} {g : Option Nat} {n : TNode} {vs : List Value} (h : NodeTw w B g n vs) : ∀ b, (vs.getD 6 (.int .i64 0)).ownBlock = some b ∨ (vs.getD 8 (.int .i64 0)).ownBlock = some b → B ≤ b ∧ b < w.heap.size := by
  obtain ⟨D, cd, L, cl, rfl, -, -, -, -, h5, h6, -, -, h9, h10, -⟩ := h
  rintro b (h | h)
  · have e : some D = some b := h
    cases e; exact ⟨h5, h9⟩
  · have e : some L = some b := h
    cases e; exact ⟨h6, h10⟩
theorem RowsTw.blocks {w : World} {B : Nat} {g : Option Nat} {tl : Nat → Nat × Nat} {l : List TNode} {k : Nat} {rows : List (List Value)} (ht : RowsTw w B g tl l k rows) (hk : k ≤ l.length) : ∀ (i : Nat) (us : List Value), rows[i]? = some us → ∀ b, (us.getD 6 (.int .i64 0)).ownBlock = some b ∨ (us.getD 8 (.int .i64 0)).ownBlock = some b → b < w.heap.size := by
  intro i us hi b hb
  have hik : i < k := by rw [← ht.1]; exact (List.getElem?_eq_some_iff.1 hi).1
  obtain ⟨vs, h1, h2, -⟩ := ht.2 i _ hik (List.getElem?_eq_getElem (by omega))
  rw [hi] at h1; cases h1
  exact (h2.blocks b hb).2
def spareRow : List Value := [.int .u8 0, .int .i64 77, .int .i64 0, .int .i64 0, .int .i64 0, .int .i64 0, .slice none 0 0, .string ⟨#[]⟩, .slice none 0 0, .int .i64 0]
/-- A copy's nodes, in a block of their own, a mark behind. -/
structure TwinAt (w : World) (B g cap : Nat) (l : List TNode) : Prop where
  ex : ∃ rows tl, Own w B 80 10 (.slice (some ⟨g, 0, none⟩) (l.length + 1) cap) (rows ++ [spareRow]) ∧ RowsTw w B (some g) tl l l.length rows
  cap : l.length + 1 ≤ cap
  base : B ≤ g
set_option maxHeartbeats 2000000 in
set_option maxRecDepth 100000 in
theorem twinNodes_calls (l : List TNode) (hl : l.length ≤ 1000000) (hF : ∀ n ∈ l, n.data.length ≤ 1000000 ∧ n.list.length ≤ 1000000) (A : Option Addr) (c : Nat) (w : World) (hA : NodesAt w A l) :
    Calls Tryz.prog 60 #[.slice A l.length c] w fun e w' => ∃ g cap, (e = .returned (.slice (some ⟨g, 0, none⟩) l.length cap) ∧ TwinAt w' w.heap.size g cap l) ∧ Below w.heap.size w w' := by
  have HA := Lib.hid hA
  have HF := Lib.hid hF
  clear hA hF
  go_enter Tryz.func60, Tryz.ntmps60
  go_wp2_with (at_make; refine wpList_make_zero rfl _ _ 22 rfl elem_node .i64 .i64 ((l.length : Int) + 1) (l.length + 1) rfl rfl ?d1 ?d2 ?d3 (Below.refl _ _) ?_; (case d1 => omega); (case d2 => omega); (case d3 => unfold maxLen; omega); intro w1 hown1 hb1 _)
  go_loopg [3, 4] l.length (fun g s3 s4 wr => ∃ (k : Nat) (rows : List (List Value)), k + g = l.length ∧ s4 = .int .i64 k ∧ Own wr w.heap.size 80 10 s3 rows ∧ Below w.heap.size w wr ∧ Hid (∃ tl, RowsTw wr w.heap.size s3.ownBlock tl l k rows))
  case atStart => exact ⟨0, [], by omega, rfl, hown1, hb1, Lib.hid ⟨fun _ => (0, 0), rfl, fun i n hi => absurd hi (by omega)⟩⟩
  case round =>
    clear hown1 hb1
    obtain ⟨k, rows, hg, rfl, hown, hb, HR0⟩ := hrel
    obtain ⟨tl, hR⟩ := HR0.out
    have HR := Lib.hid hR
    have hn : Hid (rows.length = k) := Lib.hid hR.1
    clear hR HR0
    cases gk with
    | zero =>
      obtain rfl : k = l.length := by omega
      go_wp2_with (at_builtin; refine wpList_append_one rfl _ _ 22 rfl elem_node l.length hn.out [.int .u8 0, .int .i64 77, .int .i64 0, .int .i64 0, .int .i64 0, .int .i64 0, .slice none 0 0, .string ⟨#[]⟩, .slice none 0 0, .int .i64 0] rfl hown hb rfl rfl (by simp [Value.oneCell']) (by unfold maxLen; omega) (by omega) ?_; rintro _ w2 hown2 hb2 hgr hat ⟨g', c', rfl, hc', hg'⟩; have hc2 : l.length ≤ c' := (by omega); have HAT := Lib.hid hat; clear hat)
      go_ret
      exact ⟨g', c', ⟨rfl, ⟨rows, tl, hown2, HR.out.step hgr HAT.out⟩, hc', hg'⟩, hb2⟩
    | succ gg =>
      obtain ⟨x, hx⟩ : ∃ x, l[k]? = some x := ⟨l[k]'(by omega), by simp⟩
      obtain ⟨b, o, D, cd, L, cl, rfl, -, hD, -, hL, c0, c1, c2, c3, c4, c5, c6, c7, c8, c9⟩ := HA.out.get hx
      replace c0 := cell_keep hb c0
      replace c1 := cell_keep hb c1
      replace c2 := cell_keep hb c2
      replace c3 := cell_keep hb c3
      replace c4 := cell_keep hb c4
      replace c5 := cell_keep hb c5
      replace c6 := cell_keep hb c6
      replace c7 := cell_keep hb c7
      replace c8 := cell_keep hb c8
      replace c9 := cell_keep hb c9
      have HX := Lib.hid hx
      have HD := Lib.hid (hD.keep hb)
      have HL := Lib.hid (hL.keep hb)
      have HS := Lib.hid (HF.out x (List.mem_of_getElem? hx))
      clear hx hD hL
      go_wp2_with (first
        | (go_at_call 143; refine (twinNode_calls x HS.out.1 HS.out.2 D L cd cl _ HD.out HL.out).mono ?_; rintro _ w1 ⟨vs, ⟨rfl, htw⟩, hb1⟩; have HT := Lib.hid htw; obtain ⟨D', cd', L', cl', rfl, -⟩ := htw; have hown1 := hown.keep hb1; have hb01 := below_step hb hb1)
        | (at_builtin; refine wpList_append_one rfl _ _ 22 rfl elem_node k hn.out [.int .u8 x.kind, .int .i64 x.mode, .int .i64 x.user, .int .i64 x.group, .int .i64 x.links, .int .i64 x.time, .slice (some ⟨D', 0, none⟩) x.data.length cd', .string x.target, .slice (some ⟨L', 0, none⟩) x.list.length cl', .int .i64 x.parent] rfl hown1 hb01 rfl rfl (by simp [Value.oneCell']) (by unfold maxLen; omega) (by omega) ?_; rintro _ w2 hown2 hb2 hgr hat ⟨g', c', rfl, hc', hg'⟩; have HAT := Lib.hid hat; clear hat))
      go_roundg gg
      case measure => omega
      case rel => exact ⟨k + 1, _, by omega, by go_num, hown2, hb2, Lib.hid (((HR.out.keep hb1).step hgr HAT.out).snoc (C := wr.heap.size) HX.out (HT.out.fresh hgr HAT.out (fun j hj => (hown.lt j hj).2) hb.size) (fun b h => (HT.out.blocks b h).1) (HR.out.blocks (by omega)))⟩
theorem TwinAt.keep {w w' : World} (h : Below w.heap.size w w') {B g cap : Nat} {l : List TNode} (ht : TwinAt w B g cap l) : TwinAt w' B g cap l := by
  obtain ⟨⟨rows, tl, h1, h2⟩, h3, h4⟩ := ht
  exact ⟨⟨rows, tl, h1.keep h, h2.keep h⟩, h3, h4⟩
theorem bytesAt_front {w : World} {A : Option Addr} {l m : List Int} (h : BytesAt w A (l ++ m)) : BytesAt w A l := fun k x hk => h k x (by rw [List.getElem?_append_left (List.getElem?_eq_some_iff.1 hk).1]; exact hk)
theorem entsAt_front {w : World} {A : Option Addr} {l m : List TEnt} (h : EntsAt w A (l ++ m)) : EntsAt w A l := fun k x hk => h k x (by rw [List.getElem?_append_left (List.getElem?_eq_some_iff.1 hk).1]; exact hk)
theorem TwinAt.nodes {w : World} {B g cap : Nat} {l : List TNode} (ht : TwinAt w B g cap l) : NodesAt w (some ⟨g, 0, none⟩) l := fun i n hi => by
  obtain ⟨⟨rows, tl, h1, h2⟩, h3, h4⟩ := ht
  obtain ⟨vs, h5, h6, -⟩ := h2.2 i n (List.getElem?_eq_some_iff.1 hi).1 hi
  obtain ⟨D, cd, L, cl, e0, e1, e2, e3, e4, -⟩ := h6
  refine ⟨g, 0, vs, rfl, ⟨_, cd, _, cl, e0, by omega, bytesAt_front (bytesAt_own e2), by omega, entsAt_front (entsAt_own e4)⟩, fun j v hj => h1.cell (i := i) ?_ hj⟩
  rw [List.getElem?_append_left (List.getElem?_eq_some_iff.1 h5).1]; exact h5
/-- The store of a whole tree, kept whole. -/
def stTree (a : Addr) (v : Value) : Sem Unit := storeVar 24 a v
theorem stTree_eq (a : Addr) (v : Value) : storeVar 24 a v = stTree a v := rfl
def Free2 (w : World) (b : Nat) : Prop := w.there b 0 2
theorem free2_drew {w : World} {b : Nat} : Free2 w.drew b ↔ Free2 w b := by unfold Free2; simp
theorem stTree_run (w : World) (b : Nat) (v0 v1 : Value) (ht : Free2 w b) (h1 : #[v0, v1].all (·.oneCell') = true) :
    (stTree ⟨b, 0, none⟩ (.agg #[v0, v1])).run Tryz.prog w = .ok () (w.setCells b 0 [v0, v1]) :=
  run_storeVar_mid (P := Tryz.prog) w b 0 24 _ ht (by kernel_rfl) h1
theorem there_keep {w w' : World} (h : Below w.heap.size w w') {b o n : Nat} (ht : w.there b o n) : w'.there b o n := fun j hj => by
  obtain ⟨h1, h2⟩ := ht j hj
  obtain ⟨v, hv⟩ := Option.isSome_iff_exists.1 h1
  exact ⟨by rw [cell_keep h hv]; rfl, (h.frozen (World.block_lt_of_cell? _ _ hv)).trans h2⟩
theorem s2_keep {w w1 w2 : World} {b c : Nat} {u v : Value} (hb : Below w1.heap.size w1 w2) (hB : Below w.heap.size w w1 ∧ w1.cell? ⟨b, 0, none⟩ = some u ∧ w1.cell? ⟨b, 1, none⟩ = some v ∧ Free2 w1 c) : Below w.heap.size w w2 ∧ w2.cell? ⟨b, 0, none⟩ = some u ∧ w2.cell? ⟨b, 1, none⟩ = some v ∧ Free2 w2 c :=
  ⟨below_step hB.1 hb, cell_keep hb hB.2.1, cell_keep hb hB.2.2.1, there_keep hb hB.2.2.2⟩
theorem s2_drew {w w1 : World} {b c : Nat} {u v : Value} (hB : Below w.heap.size w w1 ∧ w1.cell? ⟨b, 0, none⟩ = some u ∧ w1.cell? ⟨b, 1, none⟩ = some v ∧ Free2 w1 c) : Below w.heap.size w w1.drew ∧ w1.drew.cell? ⟨b, 0, none⟩ = some u ∧ w1.drew.cell? ⟨b, 1, none⟩ = some v ∧ Free2 w1.drew c :=
  ⟨hB.1.drew, hB.2.1, hB.2.2.1, free2_drew.2 hB.2.2.2⟩
theorem s2_set {w w1 : World} {u v : Value} (vs : List Value) (hB : Below w.heap.size w w1 ∧ w1.cell? ⟨w.heap.size, 0, none⟩ = some u ∧ w1.cell? ⟨w.heap.size, 1, none⟩ = some v ∧ Free2 w1 (w.heap.size + 1)) : Below w.heap.size w (w1.setCells (w.heap.size + 1) 0 vs) ∧ (w1.setCells (w.heap.size + 1) 0 vs).cell? ⟨w.heap.size, 0, none⟩ = some u ∧ (w1.setCells (w.heap.size + 1) 0 vs).cell? ⟨w.heap.size, 1, none⟩ = some v ∧ Free2 (w1.setCells (w.heap.size + 1) 0 vs) (w.heap.size + 1) := by
  have hne : w.heap.size ≠ w.heap.size + 1 := by omega
  exact ⟨below_cells (by omega) _ _ hB.1, cell_cells hB.2.1 hne _ _, cell_cells hB.2.2.1 hne _ _, World.there_setCells hB.2.2.2 _ _ _⟩
theorem NodeTw.cells {w : World} {b B : Nat} (hb : b < B) (o : Nat) (us : List Value) {g : Option Nat} {n : TNode} {vs : List Value} (ht : NodeTw w B g n vs) : NodeTw (w.setCells b o us) B g n vs := by
  obtain ⟨D, cd, L, cl, h0, h1, h2, h3, h4, h5, h6, h7, h8, h9, h10, h11⟩ := ht
  exact ⟨D, cd, L, cl, h0, h1, h2.cells (by omega) _ _, h3, h4.cells (by omega) _ _, h5, h6, h7, h8, by rw [size_cells]; exact h9, by rw [size_cells]; exact h10, h11⟩
theorem heap_cells (b : Nat) : ∀ (vs : List Value) (o : Nat) (w : World) (k : Nat), k ≠ b → (w.setCells b o vs).heap[k]? = w.heap[k]?
  | [], _, _, _, _ => rfl
  | v :: r, o, w, k, hk => (heap_cells b r (o + 1) (w.setCell ⟨b, o, none⟩ v) k hk).trans (Below.heap_setCell w ⟨b, o, none⟩ v k hk)
theorem NodeTw.base {w : World} {B B' : Nat} (hB : B' ≤ B) {g : Option Nat} {n : TNode} {vs : List Value} (ht : NodeTw w B g n vs) : NodeTw w B' g n vs := by
  obtain ⟨D, cd, L, cl, h0, h1, h2, h3, h4, h5, h6, h7⟩ := ht
  exact ⟨D, cd, L, cl, h0, h1, h2.base hB, h3, h4.base hB, by omega, by omega, h7⟩
theorem TwinAt.base_down {w : World} {B B' g cap : Nat} {l : List TNode} (hB : B' ≤ B) (ht : TwinAt w B g cap l) : TwinAt w B' g cap l := by
  obtain ⟨⟨rows, tl, h1, h2⟩, h3, h4⟩ := ht
  refine ⟨⟨rows, tl, h1.base hB, h2.1, fun i n hi hn => ?_⟩, h3, by omega⟩
  obtain ⟨vs, h5, h6, h7⟩ := h2.2 i n hi hn
  exact ⟨vs, h5, h6.base hB, h7⟩
theorem TwinAt.cells {w : World} {b B : Nat} (hb : b < B) (o : Nat) (us : List Value) {g cap : Nat} {l : List TNode} (ht : TwinAt w B g cap l) : TwinAt (w.setCells b o us) B g cap l := by
  obtain ⟨⟨rows, tl, h1, h2⟩, h3, h4⟩ := ht
  refine ⟨⟨rows, tl, h1.cells (by omega) _ _, h2.1, fun i n hi hn => ?_⟩, h3, h4⟩
  obtain ⟨vs, h5, h6, h7⟩ := h2.2 i n hi hn
  exact ⟨vs, h5, h6.cells hb _ _, h7⟩
attribute [local go_sem ↓] stTree_eq
attribute [local go_sem] stTree_run Value.oneCell' free2_drew
set_option maxHeartbeats 2000000 in
set_option maxRecDepth 100000 in
theorem twinTree_calls (t : TTree) (hl : t.nodes.length ≤ 1000000) (hF : ∀ n ∈ t.nodes, n.data.length ≤ 1000000 ∧ n.list.length ≤ 1000000) (A : Option Addr) (c : Nat) (w : World) (hA : NodesAt w A t.nodes) :
    Calls Tryz.prog 14 #[.agg #[.slice A t.nodes.length c, .int .i64 t.now]] w fun e w' => ∃ g cap, (e = .returned (.agg #[.slice (some ⟨g, 0, none⟩) t.nodes.length cap, .int .i64 t.now]) ∧ TwinAt w' w.heap.size g cap t.nodes) ∧ Below w.heap.size w w' := by
  have HA := Lib.hid hA
  have HF := Lib.hid hF
  clear hA hF
  go_enter Tryz.func14, Tryz.ntmps14
  go_wp2
  have hS0 : Below w.heap.size w ((w.alloc (.cells #[.slice A t.nodes.length c, .int .i64 t.now] 24)).alloc (.cells #[.slice none 0 0, .int .i64 0] 24)) ∧ ((w.alloc (.cells #[.slice A t.nodes.length c, .int .i64 t.now] 24)).alloc (.cells #[.slice none 0 0, .int .i64 0] 24)).cell? ⟨w.heap.size, 0, none⟩ = some (.slice A t.nodes.length c) ∧ ((w.alloc (.cells #[.slice A t.nodes.length c, .int .i64 t.now] 24)).alloc (.cells #[.slice none 0 0, .int .i64 0] 24)).cell? ⟨w.heap.size, 1, none⟩ = some (.int .i64 t.now) ∧ Free2 ((w.alloc (.cells #[.slice A t.nodes.length c, .int .i64 t.now] 24)).alloc (.cells #[.slice none 0 0, .int .i64 0] 24)) (w.heap.size + 1) := by
    obtain ⟨⟨a0, a1⟩, -⟩ := row2 ((Below.heap_alloc (w.alloc (.cells #[.slice A t.nodes.length c, .int .i64 t.now] 24)) (.cells #[.slice none 0 0, .int .i64 0] 24) _ (by simp)).trans (heap_alloc_new _ _))
    exact ⟨(by repeat (first | exact Below.refl _ _ | assumption | refine Below.drew ?_ | refine below_drewN ?_ _ | refine below_alloc ?_ _ | refine below_set ?_ (by simp) _ | refine below_step ?_ (by assumption))), a0, a1, there_row (heap_alloc2_new _ _ _)⟩
  obtain ⟨w0, hw0⟩ : ∃ w0, w0 = (w.alloc (.cells #[.slice A t.nodes.length c, .int .i64 t.now] 24)).alloc (.cells #[.slice none 0 0, .int .i64 0] 24) := ⟨_, rfl⟩
  have hz0 : w.heap.size + 1 < w0.heap.size := by rw [hw0]; simp
  rw [← hw0] at hS0 ⊢
  clear hw0
  go_region_held3 (fun w' => Below w.heap.size w w' ∧ w'.cell? ⟨w.heap.size, 0, none⟩ = some (.slice A t.nodes.length c) ∧ w'.cell? ⟨w.heap.size, 1, none⟩ = some (.int .i64 t.now) ∧ Free2 w' (w.heap.size + 1)) ((first | with_reducible assumption | with_reducible exact s2_drew (by with_reducible assumption) | with_reducible exact s2_set _ (by with_reducible assumption)))
    (first
      | (go_at_call 60; have hH := ‹Below w.heap.size w _ ∧ _›; refine (twinNodes_calls t.nodes hl HF.out A c _ (HA.out.keep hH.1)).mono ?_; rintro _ w1 ⟨g1, c1, ⟨rfl, ht1⟩, hb1⟩; have hS1 := s2_keep hb1 hH; clear hH))
  obtain ⟨hbb, -, -, hfr⟩ := hS1
  go_wp2
  refine bodyPost_ret (results_cell rfl rfl (run_loadVar_mid (P := Tryz.prog) _ (w.heap.size + 1) 0 24 _ _ (World.rangeAt_setCells_same _ _ _ _ hfr) Tryz.underlying24 rfl (by kernel_rfl))) rfl ?_
  exact ⟨g1, c1, ⟨rfl, (ht1.cells (by show _ < w0.heap.size; omega) _ _).base_down (by show _ ≤ w0.heap.size; omega)⟩, below_cells (by omega) _ _ hbb⟩
end Go.Proofs.YtbfcfjgcmideeaaGreatDoor
