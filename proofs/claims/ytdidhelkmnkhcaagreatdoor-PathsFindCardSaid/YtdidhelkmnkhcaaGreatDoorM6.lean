/- The laws' copies of a tree. -/
/- Copies of nodes. -/
import Derived.Test.YtdidhelkmnkhcaaGreatDoorM2
import Derived.Test.YtdidhelkmnkhcaaGreatDoorListed
import Derived.Deep.RegionHeld3
import Derived.Deep.MidRow
import Derived.Outline
import Derived.Test.YtdidhelkmnkhcaaGreatDoorM4
namespace Go.Proofs.YtdidhelkmnkhcaaGreatDoor
open Go.RowKit
attribute [local go_sem] Later.cell_eq
theorem elem_u8 : Elem Tryz.prog 82 5 1 1 := Elem.mk' (z := .int .u8 0) Tryz.underlying82 (by kernel_rfl) rfl (by decide)
theorem elem_ent : Elem Tryz.prog 83 105 2 24 := Elem.mk' (z := .agg #[.string ⟨#[]⟩, .int .i64 0]) Tryz.underlying83 (by kernel_rfl) rfl (by decide)
theorem elem_node : Elem Tryz.prog 36 85 10 120 := Elem.mk' (z := .agg #[.int .u8 0, .int .i64 0, .int .i64 0, .int .i64 0, .int .i64 0, .int .i64 0, .slice none 0 0, .string ⟨#[]⟩, .slice none 0 0, .int .i64 0]) Tryz.underlying36 (by kernel_rfl) rfl (by decide)
def byteRow (x : Int) : List Value := [.int .u8 x]
def entRow (e : TEnt) : List Value := [.string e.name, .int .i64 e.node]
theorem bytesAt_own {w : World} {B : Nat} {e : TypeId} {g n c : Nat} {l : List Int} (h : Own w B e 1 (.slice (some ⟨g, 0, none⟩) n c) (l.map byteRow)) : BytesAt w (some ⟨g, 0, none⟩) l := fun k x hk =>
  ⟨g, 0, rfl, by have := h.cell (i := k) (r := byteRow x) (by simp [hk]) (j := 0) rfl; simpa using this⟩
theorem entsAt_own {w : World} {B : Nat} {e : TypeId} {g n c : Nat} {l : List TEnt} (h : Own w B e 2 (.slice (some ⟨g, 0, none⟩) n c) (l.map entRow)) : EntsAt w (some ⟨g, 0, none⟩) l := fun k x hk =>
  ⟨g, 0, rfl, h.cell (i := k) (r := entRow x) (by simp [hk]) (j := 0) rfl, h.cell (i := k) (r := entRow x) (by simp [hk]) (j := 1) rfl⟩
theorem map_take_succ {α β : Type} (f : α → β) {l : List α} {k : Nat} {x : α} (h : l[k]? = some x) : (l.take (k + 1)).map f = (l.take k).map f ++ [f x] := by
  rw [List.take_add_one, h]; simp
set_option maxHeartbeats 1000000 in
set_option maxRecDepth 100000 in
theorem twinBytes_calls (l : List Int) (hl : l.length ≤ 1000000) (A : Option Addr) (c : Nat) (w : World) (hA : BytesAt w A l) :
    Calls Tryz.prog 191 #[.slice A l.length c] w fun e w' => ∃ g cap, (e = .returned (.slice (some ⟨g, 0, none⟩) l.length cap) ∧ l.length + 1 ≤ cap ∧ w.heap.size ≤ g ∧ BytesAt w' (some ⟨g, 0, none⟩) (l ++ [77])) ∧ Below w.heap.size w w' := by
  have HA := Lib.hid hA
  clear hA
  go_enter Tryz.func191, Tryz.ntmps191
  go_wp2_with (at_make; refine wpList_make_zero rfl _ _ 82 rfl elem_u8 .i64 .i64 ((l.length : Int) + 1) (l.length + 1) rfl rfl ?d1 ?d2 ?d3 (Below.refl _ _) ?_; (case d1 => omega); (case d2 => omega); (case d3 => unfold maxLen; omega); intro w1 hown1 hb1 _)
  go_loopg [3, 4] l.length (fun g s3 s4 wr => ∃ (k : Nat) (rows : List (List Value)), k + g = l.length ∧ s4 = .int .i64 k ∧ Own wr w.heap.size 5 1 s3 rows ∧ Below w.heap.size w wr ∧ Hid (rows = (l.take k).map byteRow))
  case atStart => exact ⟨0, [], by omega, rfl, hown1, hb1, Lib.hid rfl⟩
  case round =>
    clear hown1 hb1
    obtain ⟨k, rows, hg, rfl, hown, hb, HR⟩ := hrel
    have hn : Hid (rows.length = k) := Lib.hid (by rw [HR.out]; simp; omega)
    cases gk with
    | zero =>
      obtain rfl : k = l.length := by omega
      go_wp2_with (at_builtin; refine wpList_append_one rfl _ _ 82 rfl elem_u8 l.length hn.out [.int .u8 77] rfl hown hb rfl rfl (by simp [Value.oneCell']) (by unfold maxLen; omega) (by omega) ?_; rintro _ w2 hown2 hb2 - - ⟨g', c', rfl, hc', hg'⟩; have hc2 : l.length ≤ c' := by omega)
      go_ret
      rw [HR.out, List.take_length] at hown2
      exact ⟨g', c', ⟨rfl, hc', hg', bytesAt_own (l := l ++ [77]) (by rw [List.map_append]; exact hown2)⟩, hb2⟩
    | succ gg =>
      obtain ⟨x, hx⟩ : ∃ x, l[k]? = some x := ⟨l[k]'(by omega), by simp⟩
      obtain ⟨b, o, rfl, e0⟩ := HA.out k x hx
      replace e0 := cell_keep hb e0
      have HX := Lib.hid hx
      clear hx
      go_wp2_with (at_builtin; refine wpList_append_one rfl _ _ 82 rfl elem_u8 k hn.out [.int .u8 x] rfl hown hb rfl rfl (by simp [Value.oneCell']) (by unfold maxLen; omega) (by omega) ?_; rintro _ w2 hown2 hb2 - - ⟨g', c', rfl, hc', hg'⟩)
      go_roundg gg
      case measure => omega
      case rel => exact ⟨k + 1, _, by omega, by go_num, hown2, hb2, Lib.hid (by rw [map_take_succ _ HX.out, HR.out]; rfl)⟩
set_option maxHeartbeats 1000000 in
set_option maxRecDepth 100000 in
theorem twinEntries_calls (l : List TEnt) (hl : l.length ≤ 1000000) (A : Option Addr) (c : Nat) (w : World) (hA : EntsAt w A l) :
    Calls Tryz.prog 192 #[.slice A l.length c] w fun e w' => ∃ g cap, (e = .returned (.slice (some ⟨g, 0, none⟩) l.length cap) ∧ l.length + 1 ≤ cap ∧ w.heap.size ≤ g ∧ EntsAt w' (some ⟨g, 0, none⟩) (l ++ [⟨⟨#[115, 112, 97, 114, 101]⟩, 0⟩])) ∧ Below w.heap.size w w' := by
  have HA := Lib.hid hA
  clear hA
  go_enter Tryz.func192, Tryz.ntmps192
  go_wp2_with (at_make; refine wpList_make_zero rfl _ _ 83 rfl elem_ent .i64 .i64 ((l.length : Int) + 1) (l.length + 1) rfl rfl ?d1 ?d2 ?d3 (Below.refl _ _) ?_; (case d1 => omega); (case d2 => omega); (case d3 => unfold maxLen; omega); intro w1 hown1 hb1 _)
  go_loopg [3, 4] l.length (fun g s3 s4 wr => ∃ (k : Nat) (rows : List (List Value)), k + g = l.length ∧ s4 = .int .i64 k ∧ Own wr w.heap.size 105 2 s3 rows ∧ Below w.heap.size w wr ∧ Hid (rows = (l.take k).map entRow))
  case atStart => exact ⟨0, [], by omega, rfl, hown1, hb1, Lib.hid rfl⟩
  case round =>
    clear hown1 hb1
    obtain ⟨k, rows, hg, rfl, hown, hb, HR⟩ := hrel
    have hn : Hid (rows.length = k) := Lib.hid (by rw [HR.out]; simp; omega)
    cases gk with
    | zero =>
      obtain rfl : k = l.length := by omega
      go_wp2_with (at_builtin; refine wpList_append_one rfl _ _ 83 rfl elem_ent l.length hn.out [.string ⟨#[115, 112, 97, 114, 101]⟩, .int .i64 0] rfl hown hb rfl rfl (by simp [Value.oneCell']) (by unfold maxLen; omega) (by omega) ?_; rintro _ w2 hown2 hb2 - - ⟨g', c', rfl, hc', hg'⟩; have hc2 : l.length ≤ c' := by omega)
      go_ret
      rw [HR.out, List.take_length] at hown2
      exact ⟨g', c', ⟨rfl, hc', hg', entsAt_own (l := l ++ [⟨⟨#[115, 112, 97, 114, 101]⟩, 0⟩]) (by rw [List.map_append]; exact hown2)⟩, hb2⟩
    | succ gg =>
      obtain ⟨x, hx⟩ : ∃ x, l[k]? = some x := ⟨l[k]'(by omega), by simp⟩
      obtain ⟨b, o, rfl, e0, e1⟩ := HA.out k x hx
      replace e0 := cell_keep hb e0
      replace e1 := cell_keep hb e1
      have HX := Lib.hid hx
      clear hx
      go_wp2_with (at_builtin; refine wpList_append_one rfl _ _ 83 rfl elem_ent k hn.out [.string x.name, .int .i64 x.node] rfl hown hb rfl rfl (by simp [Value.oneCell']) (by unfold maxLen; omega) (by omega) ?_; rintro _ w2 hown2 hb2 - - ⟨g', c', rfl, hc', hg'⟩)
      go_roundg gg
      case measure => omega
      case rel => exact ⟨k + 1, _, by omega, by go_num, hown2, hb2, Lib.hid (by rw [map_take_succ _ HX.out, HR.out]; rfl)⟩
end Go.Proofs.YtdidhelkmnkhcaaGreatDoor
namespace Go.Proofs.YtdidhelkmnkhcaaGreatDoor
open Go.RowKit
attribute [local go_sem] Later.cell_eq
def nodeZ : Array Value := #[.int .u8 0, .int .i64 0, .int .i64 0, .int .i64 0, .int .i64 0, .int .i64 0, .slice none 0 0, .string ⟨#[]⟩, .slice none 0 0, .int .i64 0]
def NodeTw (w : World) (B : Nat) (g : Option Nat) (n : TNode) (vs : List Value) : Prop :=
  ∃ D cd L cl, vs = [.int .u8 n.kind, .int .i64 n.mode, .int .i64 n.user, .int .i64 n.group, .int .i64 n.links, .int .i64 n.time, .slice (some ⟨D, 0, none⟩) n.data.length cd, .string n.target, .slice (some ⟨L, 0, none⟩) n.list.length cl, .int .i64 n.parent]
    ∧ n.data.length + 1 ≤ cd ∧ BytesAt w (some ⟨D, 0, none⟩) (n.data ++ [77]) ∧ n.list.length + 1 ≤ cl ∧ EntsAt w (some ⟨L, 0, none⟩) (n.list ++ [⟨⟨#[115, 112, 97, 114, 101]⟩, 0⟩]) ∧ B ≤ D ∧ B ≤ L ∧ g ≠ some D ∧ g ≠ some L ∧ D < w.heap.size ∧ L < w.heap.size
/-- A node's ten cells lie at the head of block b, and may be written. -/
def Free10 (w : World) (b : Nat) : Prop := w.there b 0 10
theorem free10_drew {w : World} {b : Nat} : Free10 w.drew b ↔ Free10 w b := by unfold Free10; simp
/-- The store of a whole node, kept whole. -/
def stNode (a : Addr) (v : Value) : Sem Unit := storeVar 85 a v
theorem stNode_eq (a : Addr) (v : Value) : storeVar 85 a v = stNode a v := rfl
theorem stNode_run (w : World) (b : Nat) (v0 v1 v2 v3 v4 v5 v6 v7 v8 v9 : Value) (ht : Free10 w b) (h1 : #[v0, v1, v2, v3, v4, v5, v6, v7, v8, v9].all (·.oneCell') = true) :
    (stNode ⟨b, 0, none⟩ (.agg #[v0, v1, v2, v3, v4, v5, v6, v7, v8, v9])).run Tryz.prog w = .ok () (w.setCells b 0 [v0, v1, v2, v3, v4, v5, v6, v7, v8, v9]) :=
  run_storeVar_mid (P := Tryz.prog) w b 0 85 _ ht (by kernel_rfl) h1
attribute [local go_sem ↓] stNode_eq
attribute [local go_sem] stNode_run
attribute [local go_sem] Value.oneCell' free10_drew
theorem s10_keep {w w1 w2 : World} {b : Nat} {n : TNode} {D L : Option Addr} {cd cl : Nat} (hb : Below w1.heap.size w1 w2) (hB : Below w.heap.size w w1 ∧ w1.cell? ⟨b, 0, none⟩ = some (.int .u8 n.kind) ∧ w1.cell? ⟨b, 1, none⟩ = some (.int .i64 n.mode) ∧ w1.cell? ⟨b, 2, none⟩ = some (.int .i64 n.user) ∧ w1.cell? ⟨b, 3, none⟩ = some (.int .i64 n.group) ∧ w1.cell? ⟨b, 4, none⟩ = some (.int .i64 n.links) ∧ w1.cell? ⟨b, 5, none⟩ = some (.int .i64 n.time) ∧ w1.cell? ⟨b, 6, none⟩ = some (.slice D n.data.length cd) ∧ w1.cell? ⟨b, 7, none⟩ = some (.string n.target) ∧ w1.cell? ⟨b, 8, none⟩ = some (.slice L n.list.length cl) ∧ w1.cell? ⟨b, 9, none⟩ = some (.int .i64 n.parent) ∧ Free10 w1 (b + 1)) : Below w.heap.size w w2 ∧ w2.cell? ⟨b, 0, none⟩ = some (.int .u8 n.kind) ∧ w2.cell? ⟨b, 1, none⟩ = some (.int .i64 n.mode) ∧ w2.cell? ⟨b, 2, none⟩ = some (.int .i64 n.user) ∧ w2.cell? ⟨b, 3, none⟩ = some (.int .i64 n.group) ∧ w2.cell? ⟨b, 4, none⟩ = some (.int .i64 n.links) ∧ w2.cell? ⟨b, 5, none⟩ = some (.int .i64 n.time) ∧ w2.cell? ⟨b, 6, none⟩ = some (.slice D n.data.length cd) ∧ w2.cell? ⟨b, 7, none⟩ = some (.string n.target) ∧ w2.cell? ⟨b, 8, none⟩ = some (.slice L n.list.length cl) ∧ w2.cell? ⟨b, 9, none⟩ = some (.int .i64 n.parent) ∧ Free10 w2 (b + 1) := by
  obtain ⟨h, c0, c1, c2, c3, c4, c5, c6, c7, c8, c9, ht⟩ := hB
  refine ⟨below_step h hb, cell_keep hb c0, cell_keep hb c1, cell_keep hb c2, cell_keep hb c3, cell_keep hb c4, cell_keep hb c5, cell_keep hb c6, cell_keep hb c7, cell_keep hb c8, cell_keep hb c9, fun j hj => ?_⟩
  obtain ⟨h1, h2⟩ := (show w1.there (b + 1) 0 10 from ht) j hj
  obtain ⟨v, hv⟩ := Option.isSome_iff_exists.1 h1
  have hlt := World.block_lt_of_cell? _ _ hv
  exact ⟨by rw [cell_keep hb hv]; rfl, (hb.frozen hlt).trans h2⟩
theorem s10_drew {w w1 : World} {b : Nat} {n : TNode} {D L : Option Addr} {cd cl : Nat} (hB : Below w.heap.size w w1 ∧ w1.cell? ⟨b, 0, none⟩ = some (.int .u8 n.kind) ∧ w1.cell? ⟨b, 1, none⟩ = some (.int .i64 n.mode) ∧ w1.cell? ⟨b, 2, none⟩ = some (.int .i64 n.user) ∧ w1.cell? ⟨b, 3, none⟩ = some (.int .i64 n.group) ∧ w1.cell? ⟨b, 4, none⟩ = some (.int .i64 n.links) ∧ w1.cell? ⟨b, 5, none⟩ = some (.int .i64 n.time) ∧ w1.cell? ⟨b, 6, none⟩ = some (.slice D n.data.length cd) ∧ w1.cell? ⟨b, 7, none⟩ = some (.string n.target) ∧ w1.cell? ⟨b, 8, none⟩ = some (.slice L n.list.length cl) ∧ w1.cell? ⟨b, 9, none⟩ = some (.int .i64 n.parent) ∧ Free10 w1 (b + 1)) : Below w.heap.size w w1.drew ∧ w1.drew.cell? ⟨b, 0, none⟩ = some (.int .u8 n.kind) ∧ w1.drew.cell? ⟨b, 1, none⟩ = some (.int .i64 n.mode) ∧ w1.drew.cell? ⟨b, 2, none⟩ = some (.int .i64 n.user) ∧ w1.drew.cell? ⟨b, 3, none⟩ = some (.int .i64 n.group) ∧ w1.drew.cell? ⟨b, 4, none⟩ = some (.int .i64 n.links) ∧ w1.drew.cell? ⟨b, 5, none⟩ = some (.int .i64 n.time) ∧ w1.drew.cell? ⟨b, 6, none⟩ = some (.slice D n.data.length cd) ∧ w1.drew.cell? ⟨b, 7, none⟩ = some (.string n.target) ∧ w1.drew.cell? ⟨b, 8, none⟩ = some (.slice L n.list.length cl) ∧ w1.drew.cell? ⟨b, 9, none⟩ = some (.int .i64 n.parent) ∧ Free10 w1.drew (b + 1) := by
  obtain ⟨h, c0, c1, c2, c3, c4, c5, c6, c7, c8, c9, ht⟩ := hB
  exact ⟨h.drew, c0, c1, c2, c3, c4, c5, c6, c7, c8, c9, free10_drew.2 ht⟩
theorem s10_set {w w1 : World} {n : TNode} {D L : Option Addr} {cd cl : Nat} (vs : List Value) (hB : Below w.heap.size w w1 ∧ w1.cell? ⟨w.heap.size, 0, none⟩ = some (.int .u8 n.kind) ∧ w1.cell? ⟨w.heap.size, 1, none⟩ = some (.int .i64 n.mode) ∧ w1.cell? ⟨w.heap.size, 2, none⟩ = some (.int .i64 n.user) ∧ w1.cell? ⟨w.heap.size, 3, none⟩ = some (.int .i64 n.group) ∧ w1.cell? ⟨w.heap.size, 4, none⟩ = some (.int .i64 n.links) ∧ w1.cell? ⟨w.heap.size, 5, none⟩ = some (.int .i64 n.time) ∧ w1.cell? ⟨w.heap.size, 6, none⟩ = some (.slice D n.data.length cd) ∧ w1.cell? ⟨w.heap.size, 7, none⟩ = some (.string n.target) ∧ w1.cell? ⟨w.heap.size, 8, none⟩ = some (.slice L n.list.length cl) ∧ w1.cell? ⟨w.heap.size, 9, none⟩ = some (.int .i64 n.parent) ∧ Free10 w1 (w.heap.size + 1)) : Below w.heap.size w (w1.setCells (w.heap.size + 1) 0 vs) ∧ (w1.setCells (w.heap.size + 1) 0 vs).cell? ⟨w.heap.size, 0, none⟩ = some (.int .u8 n.kind) ∧ (w1.setCells (w.heap.size + 1) 0 vs).cell? ⟨w.heap.size, 1, none⟩ = some (.int .i64 n.mode) ∧ (w1.setCells (w.heap.size + 1) 0 vs).cell? ⟨w.heap.size, 2, none⟩ = some (.int .i64 n.user) ∧ (w1.setCells (w.heap.size + 1) 0 vs).cell? ⟨w.heap.size, 3, none⟩ = some (.int .i64 n.group) ∧ (w1.setCells (w.heap.size + 1) 0 vs).cell? ⟨w.heap.size, 4, none⟩ = some (.int .i64 n.links) ∧ (w1.setCells (w.heap.size + 1) 0 vs).cell? ⟨w.heap.size, 5, none⟩ = some (.int .i64 n.time) ∧ (w1.setCells (w.heap.size + 1) 0 vs).cell? ⟨w.heap.size, 6, none⟩ = some (.slice D n.data.length cd) ∧ (w1.setCells (w.heap.size + 1) 0 vs).cell? ⟨w.heap.size, 7, none⟩ = some (.string n.target) ∧ (w1.setCells (w.heap.size + 1) 0 vs).cell? ⟨w.heap.size, 8, none⟩ = some (.slice L n.list.length cl) ∧ (w1.setCells (w.heap.size + 1) 0 vs).cell? ⟨w.heap.size, 9, none⟩ = some (.int .i64 n.parent) ∧ Free10 (w1.setCells (w.heap.size + 1) 0 vs) (w.heap.size + 1) := by
  obtain ⟨h, c0, c1, c2, c3, c4, c5, c6, c7, c8, c9, ht⟩ := hB
  have hne : w.heap.size ≠ w.heap.size + 1 := by omega
  exact ⟨below_cells (by omega) _ _ h, cell_cells c0 hne _ _, cell_cells c1 hne _ _, cell_cells c2 hne _ _, cell_cells c3 hne _ _, cell_cells c4 hne _ _, cell_cells c5 hne _ _, cell_cells c6 hne _ _, cell_cells c7 hne _ _, cell_cells c8 hne _ _, cell_cells c9 hne _ _, World.there_setCells ht _ _ _⟩
theorem BytesAt.cells {w : World} {g b : Nat} {l : List Int} (h : BytesAt w (some ⟨g, 0, none⟩) l) (hne : g ≠ b) (o : Nat) (vs : List Value) : BytesAt (w.setCells b o vs) (some ⟨g, 0, none⟩) l := fun k x hk => by
  obtain ⟨b', o', hA, h0⟩ := h k x hk
  cases hA
  exact ⟨g, 0, rfl, cell_cells h0 hne _ _⟩
theorem EntsAt.cells {w : World} {g b : Nat} {l : List TEnt} (h : EntsAt w (some ⟨g, 0, none⟩) l) (hne : g ≠ b) (o : Nat) (vs : List Value) : EntsAt (w.setCells b o vs) (some ⟨g, 0, none⟩) l := fun k x hk => by
  obtain ⟨b', o', hA, h0, h1⟩ := h k x hk
  cases hA
  exact ⟨g, 0, rfl, cell_cells h0 hne _ _, cell_cells h1 hne _ _⟩
theorem BytesAt.lt {w : World} {g : Nat} {l : List Int} (h : BytesAt w (some ⟨g, 0, none⟩) (l ++ [77])) : g < w.heap.size := by
  obtain ⟨b', o', hA, h0⟩ := h l.length 77 (by simp)
  cases hA
  exact World.block_lt_of_cell? _ _ h0
theorem EntsAt.lt {w : World} {g : Nat} {l : List TEnt} {x : TEnt} (h : EntsAt w (some ⟨g, 0, none⟩) (l ++ [x])) : g < w.heap.size := by
  obtain ⟨b', o', hA, h0, -⟩ := h l.length x (by simp)
  cases hA
  exact World.block_lt_of_cell? _ _ h0
theorem there_row {w : World} {b : Nat} {C : Array Value} {t : TypeId} (h : w.heap[b]? = some (.cells C t (0, 0))) : w.there b 0 C.size := fun j hj => by
  rw [Nat.zero_add, cell_of_row w b j _ _ _ h]
  exact ⟨by simp [hj], frozen_of_row w b j _ _ h⟩
set_option maxHeartbeats 2000000 in
set_option maxRecDepth 100000 in
theorem twinNode_calls (n : TNode) (hd : n.data.length ≤ 1000000) (hl : n.list.length ≤ 1000000) (D L : Option Addr) (cd cl : Nat) (w : World) (hD : BytesAt w D n.data) (hL : EntsAt w L n.list) :
    Calls Tryz.prog 150 #[.agg #[.int .u8 n.kind, .int .i64 n.mode, .int .i64 n.user, .int .i64 n.group, .int .i64 n.links, .int .i64 n.time, .slice D n.data.length cd, .string n.target, .slice L n.list.length cl, .int .i64 n.parent]] w fun e w' => ∃ vs, (e = .returned (.agg vs.toArray) ∧ NodeTw w' w.heap.size none n vs) ∧ Below w.heap.size w w' := by
  have HD := Lib.hid hD
  have HL := Lib.hid hL
  clear hD hL
  have hu := Tryz.underlying85
  have hi : (Tryz.prog.info? 85).map (·.size) = some 10 := by kernel_rfl
  go_enter Tryz.func150, Tryz.ntmps150
  go_wp2
  have hS0 : Below w.heap.size w ((w.alloc (.cells #[.int .u8 n.kind, .int .i64 n.mode, .int .i64 n.user, .int .i64 n.group, .int .i64 n.links, .int .i64 n.time, .slice D n.data.length cd, .string n.target, .slice L n.list.length cl, .int .i64 n.parent] 85)).alloc (.cells nodeZ 85)) ∧ ((w.alloc (.cells #[.int .u8 n.kind, .int .i64 n.mode, .int .i64 n.user, .int .i64 n.group, .int .i64 n.links, .int .i64 n.time, .slice D n.data.length cd, .string n.target, .slice L n.list.length cl, .int .i64 n.parent] 85)).alloc (.cells nodeZ 85)).cell? ⟨w.heap.size, 0, none⟩ = some (.int .u8 n.kind) ∧ ((w.alloc (.cells #[.int .u8 n.kind, .int .i64 n.mode, .int .i64 n.user, .int .i64 n.group, .int .i64 n.links, .int .i64 n.time, .slice D n.data.length cd, .string n.target, .slice L n.list.length cl, .int .i64 n.parent] 85)).alloc (.cells nodeZ 85)).cell? ⟨w.heap.size, 1, none⟩ = some (.int .i64 n.mode) ∧ ((w.alloc (.cells #[.int .u8 n.kind, .int .i64 n.mode, .int .i64 n.user, .int .i64 n.group, .int .i64 n.links, .int .i64 n.time, .slice D n.data.length cd, .string n.target, .slice L n.list.length cl, .int .i64 n.parent] 85)).alloc (.cells nodeZ 85)).cell? ⟨w.heap.size, 2, none⟩ = some (.int .i64 n.user) ∧ ((w.alloc (.cells #[.int .u8 n.kind, .int .i64 n.mode, .int .i64 n.user, .int .i64 n.group, .int .i64 n.links, .int .i64 n.time, .slice D n.data.length cd, .string n.target, .slice L n.list.length cl, .int .i64 n.parent] 85)).alloc (.cells nodeZ 85)).cell? ⟨w.heap.size, 3, none⟩ = some (.int .i64 n.group) ∧ ((w.alloc (.cells #[.int .u8 n.kind, .int .i64 n.mode, .int .i64 n.user, .int .i64 n.group, .int .i64 n.links, .int .i64 n.time, .slice D n.data.length cd, .string n.target, .slice L n.list.length cl, .int .i64 n.parent] 85)).alloc (.cells nodeZ 85)).cell? ⟨w.heap.size, 4, none⟩ = some (.int .i64 n.links) ∧ ((w.alloc (.cells #[.int .u8 n.kind, .int .i64 n.mode, .int .i64 n.user, .int .i64 n.group, .int .i64 n.links, .int .i64 n.time, .slice D n.data.length cd, .string n.target, .slice L n.list.length cl, .int .i64 n.parent] 85)).alloc (.cells nodeZ 85)).cell? ⟨w.heap.size, 5, none⟩ = some (.int .i64 n.time) ∧ ((w.alloc (.cells #[.int .u8 n.kind, .int .i64 n.mode, .int .i64 n.user, .int .i64 n.group, .int .i64 n.links, .int .i64 n.time, .slice D n.data.length cd, .string n.target, .slice L n.list.length cl, .int .i64 n.parent] 85)).alloc (.cells nodeZ 85)).cell? ⟨w.heap.size, 6, none⟩ = some (.slice D n.data.length cd) ∧ ((w.alloc (.cells #[.int .u8 n.kind, .int .i64 n.mode, .int .i64 n.user, .int .i64 n.group, .int .i64 n.links, .int .i64 n.time, .slice D n.data.length cd, .string n.target, .slice L n.list.length cl, .int .i64 n.parent] 85)).alloc (.cells nodeZ 85)).cell? ⟨w.heap.size, 7, none⟩ = some (.string n.target) ∧ ((w.alloc (.cells #[.int .u8 n.kind, .int .i64 n.mode, .int .i64 n.user, .int .i64 n.group, .int .i64 n.links, .int .i64 n.time, .slice D n.data.length cd, .string n.target, .slice L n.list.length cl, .int .i64 n.parent] 85)).alloc (.cells nodeZ 85)).cell? ⟨w.heap.size, 8, none⟩ = some (.slice L n.list.length cl) ∧ ((w.alloc (.cells #[.int .u8 n.kind, .int .i64 n.mode, .int .i64 n.user, .int .i64 n.group, .int .i64 n.links, .int .i64 n.time, .slice D n.data.length cd, .string n.target, .slice L n.list.length cl, .int .i64 n.parent] 85)).alloc (.cells nodeZ 85)).cell? ⟨w.heap.size, 9, none⟩ = some (.int .i64 n.parent) ∧ Free10 ((w.alloc (.cells #[.int .u8 n.kind, .int .i64 n.mode, .int .i64 n.user, .int .i64 n.group, .int .i64 n.links, .int .i64 n.time, .slice D n.data.length cd, .string n.target, .slice L n.list.length cl, .int .i64 n.parent] 85)).alloc (.cells nodeZ 85)) (w.heap.size + 1) := by
    have hr : ((w.alloc (.cells #[.int .u8 n.kind, .int .i64 n.mode, .int .i64 n.user, .int .i64 n.group, .int .i64 n.links, .int .i64 n.time, .slice D n.data.length cd, .string n.target, .slice L n.list.length cl, .int .i64 n.parent] 85)).alloc (.cells nodeZ 85)).heap[w.heap.size]? = some (.cells #[.int .u8 n.kind, .int .i64 n.mode, .int .i64 n.user, .int .i64 n.group, .int .i64 n.links, .int .i64 n.time, .slice D n.data.length cd, .string n.target, .slice L n.list.length cl, .int .i64 n.parent] 85 (0, 0)) := (Below.heap_alloc _ _ _ (by simp)).trans (heap_alloc_new _ _)
    have hr2 : ((w.alloc (.cells #[.int .u8 n.kind, .int .i64 n.mode, .int .i64 n.user, .int .i64 n.group, .int .i64 n.links, .int .i64 n.time, .slice D n.data.length cd, .string n.target, .slice L n.list.length cl, .int .i64 n.parent] 85)).alloc (.cells nodeZ 85)).heap[w.heap.size + 1]? = some (.cells nodeZ 85 (0, 0)) := heap_alloc2_new _ _ _
    obtain ⟨⟨a0, a1, a2, a3, a4, a5, a6, a7, a8, a9⟩, -⟩ := row10 hr
    exact ⟨(by repeat (first | exact Below.refl _ _ | assumption | refine Below.drew ?_ | refine below_drewN ?_ _ | refine below_alloc ?_ _ | refine below_set ?_ (by simp) _ | refine below_step ?_ (by assumption))), a0, a1, a2, a3, a4, a5, a6, a7, a8, a9, there_row hr2⟩
  obtain ⟨w0, hw0⟩ : ∃ w0, w0 = (w.alloc (.cells #[.int .u8 n.kind, .int .i64 n.mode, .int .i64 n.user, .int .i64 n.group, .int .i64 n.links, .int .i64 n.time, .slice D n.data.length cd, .string n.target, .slice L n.list.length cl, .int .i64 n.parent] 85)).alloc (.cells nodeZ 85) := ⟨_, rfl⟩
  have hz0 : w.heap.size + 1 < w0.heap.size := by rw [hw0]; simp
  unfold nodeZ at hw0 hS0
  rw [← hw0] at hS0 ⊢
  clear hw0
  go_region_held3 (fun w' => Below w.heap.size w w' ∧ w'.cell? ⟨w.heap.size, 0, none⟩ = some (.int .u8 n.kind) ∧ w'.cell? ⟨w.heap.size, 1, none⟩ = some (.int .i64 n.mode) ∧ w'.cell? ⟨w.heap.size, 2, none⟩ = some (.int .i64 n.user) ∧ w'.cell? ⟨w.heap.size, 3, none⟩ = some (.int .i64 n.group) ∧ w'.cell? ⟨w.heap.size, 4, none⟩ = some (.int .i64 n.links) ∧ w'.cell? ⟨w.heap.size, 5, none⟩ = some (.int .i64 n.time) ∧ w'.cell? ⟨w.heap.size, 6, none⟩ = some (.slice D n.data.length cd) ∧ w'.cell? ⟨w.heap.size, 7, none⟩ = some (.string n.target) ∧ w'.cell? ⟨w.heap.size, 8, none⟩ = some (.slice L n.list.length cl) ∧ w'.cell? ⟨w.heap.size, 9, none⟩ = some (.int .i64 n.parent) ∧ Free10 w' (w.heap.size + 1)) ((first | with_reducible assumption | with_reducible exact s10_drew (by with_reducible assumption) | with_reducible exact s10_set _ (by with_reducible assumption)))
    (first
      | (go_at_call 191; have hH := ‹Below w.heap.size w _ ∧ _›; refine (twinBytes_calls n.data hd D cd _ (HD.out.keep hH.1)).mono ?_; rintro _ w1 ⟨g1, c1, ⟨rfl, hc1, hg1, hB1⟩, hb1⟩; have hS1 := s10_keep hb1 hH; clear hH)
      | (go_at_call 192; have hH := ‹Below w.heap.size w _ ∧ _›; refine (twinEntries_calls n.list hl L cl _ (HL.out.keep hH.1)).mono ?_; rintro _ w2 ⟨g2, c2, ⟨rfl, hc2, hg2, hB2⟩, hb2⟩; have hS2 := s10_keep hb2 hH; clear hH))
  clear hS1
  obtain ⟨hbb, -, -, -, -, -, -, -, -, -, -, hfr⟩ := hS2
  have hs1 := hb1.size
  have hs2 := hb2.size
  have hg0 : w0.heap.size ≤ g1 := hg1
  have hs0 : w0.heap.size ≤ w1.heap.size := hs1
  go_wp2
  refine bodyPost_ret (results_cell rfl rfl (run_loadVar_mid (P := Tryz.prog) _ (w.heap.size + 1) 0 85 _ _ (World.rangeAt_setCells_same _ _ _ _ hfr) hu rfl hi)) rfl ?_
  refine ⟨_, ⟨rfl, g1, c1, g2, c2, rfl, hc1, (hB1.keep hb2).cells (by omega) _ _, hc2, hB2.cells (by omega) _ _, by omega, by omega, by simp, by simp, ?_, ?_⟩, below_cells (by omega) _ _ hbb⟩
  · rw [size_cells]; have := hB1.lt; omega
  · rw [size_cells]; exact hB2.lt
end Go.Proofs.YtdidhelkmnkhcaaGreatDoor
