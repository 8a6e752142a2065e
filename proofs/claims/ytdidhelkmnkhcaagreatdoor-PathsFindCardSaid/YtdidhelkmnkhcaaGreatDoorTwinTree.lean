/- Copies of nodes and trees. -/
import Derived.Test.YtdidhelkmnkhcaaGreatDoorM6
namespace Go.Proofs.YtdidhelkmnkhcaaGreatDoor
open Go.RowKit
attribute [local go_sem] Later.cell_eq
theorem NodeTw.keep {w w' : World} (h : Below w.heap.size w w') {B : Nat} {g : Option Nat} {n : TNode} {vs : List Value} (ht : NodeTw w B g n vs) : NodeTw w' B g n vs := by
  obtain ⟨D, cd, L, cl, h0, h1, h2, h3, h4, h5, h6, h7, h8, h9, h10⟩ := ht
  exact ⟨D, cd, L, cl, h0, h1, h2.keep h, h3, h4.keep h, h5, h6, h7, h8, Nat.lt_of_lt_of_le h9 h.size, Nat.lt_of_lt_of_le h10 h.size⟩
theorem BytesAt.grown {w w' : World} {r : Option Nat} (h : w.grownBy w' r) {g : Nat} {l : List Int} (hl : BytesAt w (some ⟨g, 0, none⟩) l) (hr : r ≠ some g) : BytesAt w' (some ⟨g, 0, none⟩) l := fun k x hk => by
  obtain ⟨b', o', hA, h0⟩ := hl k x hk
  cases hA
  exact ⟨g, 0, rfl, h.cell h0 (Ne.symm hr)⟩
theorem EntsAt.grown {w w' : World} {r : Option Nat} (h : w.grownBy w' r) {g : Nat} {l : List TEnt} (hl : EntsAt w (some ⟨g, 0, none⟩) l) (hr : r ≠ some g) : EntsAt w' (some ⟨g, 0, none⟩) l := fun k x hk => by
  obtain ⟨b', o', hA, h0, h1⟩ := hl k x hk
  cases hA
  exact ⟨g, 0, rfl, h.cell h0 (Ne.symm hr), h.cell h1 (Ne.symm hr)⟩
theorem NodeTw.step {w w' : World} {B : Nat} {r r' : Option Nat} {n : TNode} {vs : List Value} (h : w.grownBy w' r) (hr : r' = r ∨ r' = some (w.heap.size + 1)) (ht : NodeTw w B r n vs) : NodeTw w' B r' n vs := by
  obtain ⟨D, cd, L, cl, h0, h1, h2, h3, h4, h5, h6, h7, h8, h9, h10⟩ := ht
  refine ⟨D, cd, L, cl, h0, h1, h2.grown h h7, h3, h4.grown h h8, h5, h6, ?_, ?_, Nat.lt_of_lt_of_le h9 h.size, Nat.lt_of_lt_of_le h10 h.size⟩
  · rcases hr with rfl | rfl
    · exact h7
    · intro e; injection e; omega
  · rcases hr with rfl | rfl
    · exact h8
    · intro e; injection e; omega
theorem NodeTw.fresh {w w' : World} {B C : Nat} {r r' : Option Nat} {n : TNode} {vs : List Value} (h : w.grownBy w' r) (hr : r' = r ∨ r' = some (w.heap.size + 1)) (hC : ∀ k, r = some k → k < C) (hB : B ≤ C) (ht : NodeTw w C none n vs) : NodeTw w' B r' n vs := by
  obtain ⟨D, cd, L, cl, h0, h1, h2, h3, h4, h5, h6, h7, h8, h9, h10⟩ := ht
  have k1 : r ≠ some D := fun e => by have := hC D e; omega
  have k2 : r ≠ some L := fun e => by have := hC L e; omega
  exact NodeTw.step h hr ⟨D, cd, L, cl, h0, h1, h2, h3, h4, Nat.le_trans hB h5, Nat.le_trans hB h6, k1, k2, h9, h10⟩
def RowsTw (w : World) (B : Nat) (g : Option Nat) (l : List TNode) (k : Nat) (rows : List (List Value)) : Prop :=
  rows.length = k ∧ ∀ i n, i < k → l[i]? = some n → ∃ vs, rows[i]? = some vs ∧ NodeTw w B g n vs
theorem RowsTw.keep {w w' : World} (h : Below w.heap.size w w') {B : Nat} {g : Option Nat} {l : List TNode} {k : Nat} {rows : List (List Value)} (ht : RowsTw w B g l k rows) : RowsTw w' B g l k rows :=
  ⟨ht.1, fun i n hi hn => by obtain ⟨vs, h1, h2⟩ := ht.2 i n hi hn; exact ⟨vs, h1, h2.keep h⟩⟩
theorem RowsTw.step {w w' : World} {B : Nat} {r r' : Option Nat} (h : w.grownBy w' r) (hr : r' = r ∨ r' = some (w.heap.size + 1)) {l : List TNode} {k : Nat} {rows : List (List Value)} (ht : RowsTw w B r l k rows) : RowsTw w' B r' l k rows :=
  ⟨ht.1, fun i n hi hn => by obtain ⟨vs, h1, h2⟩ := ht.2 i n hi hn; exact ⟨vs, h1, h2.step h hr⟩⟩
theorem RowsTw.snoc {w : World} {B : Nat} {g : Option Nat} {l : List TNode} {k : Nat} {rows : List (List Value)} {n : TNode} {vs : List Value} (ht : RowsTw w B g l k rows) (hn : l[k]? = some n) (hv : NodeTw w B g n vs) : RowsTw w B g l (k + 1) (rows ++ [vs]) := by
  refine ⟨by simp [ht.1], fun i m hi hm => ?_⟩
  by_cases e : i = k
  · subst e
    rw [hn] at hm; cases hm
    exact ⟨vs, by rw [List.getElem?_append_right (by rw [ht.1]; exact Nat.le_refl _), ht.1]; simp, hv⟩
  · obtain ⟨us, h1, h2⟩ := ht.2 i m (by omega) hm
    exact ⟨us, by rw [List.getElem?_append_left (by rw [ht.1]; omega)]; exact h1, h2⟩
def spareRow : List Value := [.int .u8 0, .int .i64 77, .int .i64 0, .int .i64 0, .int .i64 0, .int .i64 0, .slice none 0 0, .string ⟨#[]⟩, .slice none 0 0, .int .i64 0]
/-- A copy's nodes, in a block of their own, a mark behind. -/
structure TwinAt (w : World) (B g cap : Nat) (l : List TNode) : Prop where
  ex : ∃ rows, Own w B 85 10 (.slice (some ⟨g, 0, none⟩) (l.length + 1) cap) (rows ++ [spareRow]) ∧ RowsTw w B (some g) l l.length rows
  cap : l.length + 1 ≤ cap
  base : B ≤ g
set_option maxHeartbeats 2000000 in
set_option maxRecDepth 100000 in
theorem twinNodes_calls (l : List TNode) (hl : l.length ≤ 1000000) (hF : ∀ n ∈ l, n.data.length ≤ 1000000 ∧ n.list.length ≤ 1000000) (A : Option Addr) (c : Nat) (w : World) (hA : NodesAt w A l) :
    Calls Tryz.prog 86 #[.slice A l.length c] w fun e w' => ∃ g cap, (e = .returned (.slice (some ⟨g, 0, none⟩) l.length cap) ∧ TwinAt w' w.heap.size g cap l) ∧ Below w.heap.size w w' := by
  have HA := Lib.hid hA
  have HF := Lib.hid hF
  clear hA hF
  go_enter Tryz.func86, Tryz.ntmps86
  go_wp2_with (at_make; refine wpList_make_zero rfl _ _ 36 rfl elem_node .i64 .i64 ((l.length : Int) + 1) (l.length + 1) rfl rfl ?d1 ?d2 ?d3 (Below.refl _ _) ?_; (case d1 => omega); (case d2 => omega); (case d3 => unfold maxLen; omega); intro w1 hown1 hb1 _)
  go_loopg [3, 4] l.length (fun g s3 s4 wr => ∃ (k : Nat) (rows : List (List Value)), k + g = l.length ∧ s4 = .int .i64 k ∧ Own wr w.heap.size 85 10 s3 rows ∧ Below w.heap.size w wr ∧ Hid (RowsTw wr w.heap.size s3.ownBlock l k rows))
  case atStart => exact ⟨0, [], by omega, rfl, hown1, hb1, Lib.hid ⟨rfl, fun i n hi => absurd hi (by omega)⟩⟩
  case round =>
    clear hown1 hb1
    obtain ⟨k, rows, hg, rfl, hown, hb, HR⟩ := hrel
    have hn : Hid (rows.length = k) := Lib.hid HR.out.1
    cases gk with
    | zero =>
      obtain rfl : k = l.length := by omega
      go_wp2_with (at_builtin; refine wpList_append_one rfl _ _ 36 rfl elem_node l.length hn.out [.int .u8 0, .int .i64 77, .int .i64 0, .int .i64 0, .int .i64 0, .int .i64 0, .slice none 0 0, .string ⟨#[]⟩, .slice none 0 0, .int .i64 0] rfl hown hb rfl rfl (by simp [Value.oneCell']) (by unfold maxLen; omega) (by omega) ?_; rintro _ w2 hown2 hb2 hgr hat ⟨g', c', rfl, hc', hg'⟩; have hc2 : l.length ≤ c' := (by omega); have HAT := Lib.hid hat; clear hat)
      go_ret
      exact ⟨g', c', ⟨rfl, ⟨rows, hown2, HR.out.step hgr HAT.out⟩, hc', hg'⟩, hb2⟩
    | succ gg =>
      obtain ⟨x, hx⟩ : ∃ x, l[k]? = some x := ⟨l[k]'(by omega), by simp⟩
      obtain ⟨b, o, D, cd, L, cl, rfl, -, hD, -, hL, c0, c1, c2, c3, c4, c5, c6, c7, c8, c9⟩ := HA.out.get hx
      replace c0 := cell_keep hb c0
      replace c1 := cell_keep hb c1
      replace c2 := cell_keep hb c2
      replace c3 := cell_keep hb c3
      replace c4 := cell_keep hb c4
      replace c5 := cell_keep hb c5
      replace c6 := cell_keep hb c6
      replace c7 := cell_keep hb c7
      replace c8 := cell_keep hb c8
      replace c9 := cell_keep hb c9
      have HX := Lib.hid hx
      have HD := Lib.hid (hD.keep hb)
      have HL := Lib.hid (hL.keep hb)
      have HS := Lib.hid (HF.out x (List.mem_of_getElem? hx))
      clear hx hD hL
      go_wp2_with (first
        | (go_at_call 150; refine (twinNode_calls x HS.out.1 HS.out.2 D L cd cl _ HD.out HL.out).mono ?_; rintro _ w1 ⟨vs, ⟨rfl, htw⟩, hb1⟩; have HT := Lib.hid htw; obtain ⟨D', cd', L', cl', rfl, -⟩ := htw; have hown1 := hown.keep hb1; have hb01 := below_step hb hb1)
        | (at_builtin; refine wpList_append_one rfl _ _ 36 rfl elem_node k hn.out [.int .u8 x.kind, .int .i64 x.mode, .int .i64 x.user, .int .i64 x.group, .int .i64 x.links, .int .i64 x.time, .slice (some ⟨D', 0, none⟩) x.data.length cd', .string x.target, .slice (some ⟨L', 0, none⟩) x.list.length cl', .int .i64 x.parent] rfl hown1 hb01 rfl rfl (by simp [Value.oneCell']) (by unfold maxLen; omega) (by omega) ?_; rintro _ w2 hown2 hb2 hgr hat ⟨g', c', rfl, hc', hg'⟩; have HAT := Lib.hid hat; clear hat))
      go_roundg gg
      case measure => omega
      case rel => exact ⟨k + 1, _, by omega, by go_num, hown2, hb2, Lib.hid (((HR.out.keep hb1).step hgr HAT.out).snoc HX.out (HT.out.fresh hgr HAT.out (fun j hj => (hown.lt j hj).2) hb.size))⟩
theorem TwinAt.keep {w w' : World} (h : Below w.heap.size w w') {B g cap : Nat} {l : List TNode} (ht : TwinAt w B g cap l) : TwinAt w' B g cap l := by
  obtain ⟨⟨rows, h1, h2⟩, h3, h4⟩ := ht
  exact ⟨⟨rows, h1.keep h, h2.keep h⟩, h3, h4⟩
theorem bytesAt_front {w : World} {A : Option Addr} {l m : List Int} (h : BytesAt w A (l ++ m)) : BytesAt w A l := fun k x hk => h k x (by rw [List.getElem?_append_left (List.getElem?_eq_some_iff.1 hk).1]; exact hk)
theorem entsAt_front {w : World} {A : Option Addr} {l m : List TEnt} (h : EntsAt w A (l ++ m)) : EntsAt w A l := fun k x hk => h k x (by rw [List.getElem?_append_left (List.getElem?_eq_some_iff.1 hk).1]; exact hk)
theorem TwinAt.nodes {w : World} {B g cap : Nat} {l : List TNode} (ht : TwinAt w B g cap l) : NodesAt w (some ⟨g, 0, none⟩) l := fun i n hi => by
  obtain ⟨⟨rows, h1, h2⟩, h3, h4⟩ := ht
  obtain ⟨vs, h5, h6⟩ := h2.2 i n (List.getElem?_eq_some_iff.1 hi).1 hi
  obtain ⟨D, cd, L, cl, e0, e1, e2, e3, e4, -⟩ := h6
  refine ⟨g, 0, vs, rfl, ⟨_, cd, _, cl, e0, by omega, bytesAt_front e2, by omega, entsAt_front e4⟩, fun j v hj => h1.cell (i := i) ?_ hj⟩
  rw [List.getElem?_append_left (List.getElem?_eq_some_iff.1 h5).1]; exact h5
/-- The store of a whole tree, kept whole. -/
def stTree (a : Addr) (v : Value) : Sem Unit := storeVar 38 a v
theorem stTree_eq (a : Addr) (v : Value) : storeVar 38 a v = stTree a v := rfl
def Free2 (w : World) (b : Nat) : Prop := w.there b 0 2
theorem free2_drew {w : World} {b : Nat} : Free2 w.drew b ↔ Free2 w b := by unfold Free2; simp
theorem stTree_run (w : World) (b : Nat) (v0 v1 : Value) (ht : Free2 w b) (h1 : #[v0, v1].all (·.oneCell') = true) :
    (stTree ⟨b, 0, none⟩ (.agg #[v0, v1])).run Tryz.prog w = .ok () (w.setCells b 0 [v0, v1]) :=
  run_storeVar_mid (P := Tryz.prog) w b 0 38 _ ht (by kernel_rfl) h1
theorem there_keep {w w' : World} (h : Below w.heap.size w w') {b o n : Nat} (ht : w.there b o n) : w'.there b o n := fun j hj => by
  obtain ⟨h1, h2⟩ := ht j hj
  obtain ⟨v, hv⟩ := Option.isSome_iff_exists.1 h1
  exact ⟨by rw [cell_keep h hv]; rfl, (h.frozen (World.block_lt_of_cell? _ _ hv)).trans h2⟩
theorem s2_keep {w w1 w2 : World} {b c : Nat} {u v : Value} (hb : Below w1.heap.size w1 w2) (hB : Below w.heap.size w w1 ∧ w1.cell? ⟨b, 0, none⟩ = some u ∧ w1.cell? ⟨b, 1, none⟩ = some v ∧ Free2 w1 c) : Below w.heap.size w w2 ∧ w2.cell? ⟨b, 0, none⟩ = some u ∧ w2.cell? ⟨b, 1, none⟩ = some v ∧ Free2 w2 c :=
  ⟨below_step hB.1 hb, cell_keep hb hB.2.1, cell_keep hb hB.2.2.1, there_keep hb hB.2.2.2⟩
theorem s2_drew {w w1 : World} {b c : Nat} {u v : Value} (hB : Below w.heap.size w w1 ∧ w1.cell? ⟨b, 0, none⟩ = some u ∧ w1.cell? ⟨b, 1, none⟩ = some v ∧ Free2 w1 c) : Below w.heap.size w w1.drew ∧ w1.drew.cell? ⟨b, 0, none⟩ = some u ∧ w1.drew.cell? ⟨b, 1, none⟩ = some v ∧ Free2 w1.drew c :=
  ⟨hB.1.drew, hB.2.1, hB.2.2.1, free2_drew.2 hB.2.2.2⟩
theorem s2_set {w w1 : World} {u v : Value} (vs : List Value) (hB : Below w.heap.size w w1 ∧ w1.cell? ⟨w.heap.size, 0, none⟩ = some u ∧ w1.cell? ⟨w.heap.size, 1, none⟩ = some v ∧ Free2 w1 (w.heap.size + 1)) : Below w.heap.size w (w1.setCells (w.heap.size + 1) 0 vs) ∧ (w1.setCells (w.heap.size + 1) 0 vs).cell? ⟨w.heap.size, 0, none⟩ = some u ∧ (w1.setCells (w.heap.size + 1) 0 vs).cell? ⟨w.heap.size, 1, none⟩ = some v ∧ Free2 (w1.setCells (w.heap.size + 1) 0 vs) (w.heap.size + 1) := by
  have hne : w.heap.size ≠ w.heap.size + 1 := by omega
  exact ⟨below_cells (by omega) _ _ hB.1, cell_cells hB.2.1 hne _ _, cell_cells hB.2.2.1 hne _ _, World.there_setCells hB.2.2.2 _ _ _⟩
theorem NodeTw.cells {w : World} {b B : Nat} (hb : b < B) (o : Nat) (us : List Value) {g : Option Nat} {n : TNode} {vs : List Value} (ht : NodeTw w B g n vs) : NodeTw (w.setCells b o us) B g n vs := by
  obtain ⟨D, cd, L, cl, h0, h1, h2, h3, h4, h5, h6, h7, h8, h9, h10⟩ := ht
  exact ⟨D, cd, L, cl, h0, h1, h2.cells (by omega) _ _, h3, h4.cells (by omega) _ _, h5, h6, h7, h8, by rw [size_cells]; exact h9, by rw [size_cells]; exact h10⟩
theorem heap_cells (b : Nat) : ∀ (vs : List Value) (o : Nat) (w : World) (k : Nat), k ≠ b → (w.setCells b o vs).heap[k]? = w.heap[k]?
  | [], _, _, _, _ => rfl
  | v :: r, o, w, k, hk => (heap_cells b r (o + 1) (w.setCell ⟨b, o, none⟩ v) k hk).trans (Below.heap_setCell w ⟨b, o, none⟩ v k hk)
theorem TwinAt.base_down {w : World} {B B' g cap : Nat} {l : List TNode} (hB : B' ≤ B) (ht : TwinAt w B g cap l) : TwinAt w B' g cap l := by
  obtain ⟨⟨rows, h1, h2⟩, h3, h4⟩ := ht
  refine ⟨⟨rows, ⟨⟨h1.own.1, ?_⟩, h1.each⟩, h2.1, fun i n hi hn => ?_⟩, h3, by omega⟩
  · rcases h1.own.2 with h5 | ⟨g', c', cur, h5, h6, h7⟩
    · exact .inl h5
    · exact .inr ⟨g', c', cur, h5, by omega, h7⟩
  · obtain ⟨vs, h5, D, cd, L, cl, e0, e1, e2, e3, e4, e5, e6, e7⟩ := h2.2 i n hi hn
    exact ⟨vs, h5, D, cd, L, cl, e0, e1, e2, e3, e4, by omega, by omega, e7⟩
theorem TwinAt.cells {w : World} {b B : Nat} (hb : b < B) (o : Nat) (us : List Value) {g cap : Nat} {l : List TNode} (ht : TwinAt w B g cap l) : TwinAt (w.setCells b o us) B g cap l := by
  obtain ⟨⟨rows, h1, h2⟩, h3, h4⟩ := ht
  refine ⟨⟨rows, ⟨⟨h1.own.1, ?_⟩, h1.each⟩, h2.1, fun i n hi hn => ?_⟩, h3, h4⟩
  · rcases h1.own.2 with h5 | ⟨g', c', cur, h5, h6, h7, h8⟩
    · exact .inl h5
    · exact .inr ⟨g', c', cur, h5, h6, by rw [heap_cells b us o w g' (by omega)]; exact h7, h8⟩
  · obtain ⟨vs, h5, h6⟩ := h2.2 i n hi hn
    exact ⟨vs, h5, h6.cells hb _ _⟩
attribute [local go_sem ↓] stTree_eq
attribute [local go_sem] stTree_run Value.oneCell' free2_drew
set_option maxHeartbeats 2000000 in
set_option maxRecDepth 100000 in
theorem twinTree_calls (t : TTree) (hl : t.nodes.length ≤ 1000000) (hF : ∀ n ∈ t.nodes, n.data.length ≤ 1000000 ∧ n.list.length ≤ 1000000) (A : Option Addr) (c : Nat) (w : World) (hA : NodesAt w A t.nodes) :
    Calls Tryz.prog 16 #[.agg #[.slice A t.nodes.length c, .int .i64 t.now]] w fun e w' => ∃ g cap, (e = .returned (.agg #[.slice (some ⟨g, 0, none⟩) t.nodes.length cap, .int .i64 t.now]) ∧ TwinAt w' w.heap.size g cap t.nodes) ∧ Below w.heap.size w w' := by
  have HA := Lib.hid hA
  have HF := Lib.hid hF
  clear hA hF
  go_enter Tryz.func16, Tryz.ntmps16
  go_wp2
  have hS0 : Below w.heap.size w ((w.alloc (.cells #[.slice A t.nodes.length c, .int .i64 t.now] 38)).alloc (.cells #[.slice none 0 0, .int .i64 0] 38)) ∧ ((w.alloc (.cells #[.slice A t.nodes.length c, .int .i64 t.now] 38)).alloc (.cells #[.slice none 0 0, .int .i64 0] 38)).cell? ⟨w.heap.size, 0, none⟩ = some (.slice A t.nodes.length c) ∧ ((w.alloc (.cells #[.slice A t.nodes.length c, .int .i64 t.now] 38)).alloc (.cells #[.slice none 0 0, .int .i64 0] 38)).cell? ⟨w.heap.size, 1, none⟩ = some (.int .i64 t.now) ∧ Free2 ((w.alloc (.cells #[.slice A t.nodes.length c, .int .i64 t.now] 38)).alloc (.cells #[.slice none 0 0, .int .i64 0] 38)) (w.heap.size + 1) := by
    obtain ⟨⟨a0, a1⟩, -⟩ := row2 ((Below.heap_alloc (w.alloc (.cells #[.slice A t.nodes.length c, .int .i64 t.now] 38)) (.cells #[.slice none 0 0, .int .i64 0] 38) _ (by simp)).trans (heap_alloc_new _ _))
    exact ⟨(by repeat (first | exact Below.refl _ _ | assumption | refine Below.drew ?_ | refine below_drewN ?_ _ | refine below_alloc ?_ _ | refine below_set ?_ (by simp) _ | refine below_step ?_ (by assumption))), a0, a1, there_row (heap_alloc2_new _ _ _)⟩
  obtain ⟨w0, hw0⟩ : ∃ w0, w0 = (w.alloc (.cells #[.slice A t.nodes.length c, .int .i64 t.now] 38)).alloc (.cells #[.slice none 0 0, .int .i64 0] 38) := ⟨_, rfl⟩
  have hz0 : w.heap.size + 1 < w0.heap.size := by rw [hw0]; simp
  rw [← hw0] at hS0 ⊢
  clear hw0
  go_region_held3 (fun w' => Below w.heap.size w w' ∧ w'.cell? ⟨w.heap.size, 0, none⟩ = some (.slice A t.nodes.length c) ∧ w'.cell? ⟨w.heap.size, 1, none⟩ = some (.int .i64 t.now) ∧ Free2 w' (w.heap.size + 1)) ((first | with_reducible assumption | with_reducible exact s2_drew (by with_reducible assumption) | with_reducible exact s2_set _ (by with_reducible assumption)))
    (first
      | (go_at_call 86; have hH := ‹Below w.heap.size w _ ∧ _›; refine (twinNodes_calls t.nodes hl HF.out A c _ (HA.out.keep hH.1)).mono ?_; rintro _ w1 ⟨g1, c1, ⟨rfl, ht1⟩, hb1⟩; have hS1 := s2_keep hb1 hH; clear hH))
  obtain ⟨hbb, -, -, hfr⟩ := hS1
  go_wp2
  refine bodyPost_ret (results_cell rfl rfl (run_loadVar_mid (P := Tryz.prog) _ (w.heap.size + 1) 0 38 _ _ (World.rangeAt_setCells_same _ _ _ _ hfr) Tryz.underlying38 rfl (by kernel_rfl))) rfl ?_
  exact ⟨g1, c1, ⟨rfl, (ht1.cells (by show _ < w0.heap.size; omega) _ _).base_down (by show _ ≤ w0.heap.size; omega)⟩, below_cells (by omega) _ _ hbb⟩
end Go.Proofs.YtdidhelkmnkhcaaGreatDoor
