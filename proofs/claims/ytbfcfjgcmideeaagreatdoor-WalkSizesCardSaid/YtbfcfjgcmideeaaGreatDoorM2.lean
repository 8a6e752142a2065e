/- Slices that the call itself makes, row by row: make, append of one element; any program. -/
/- append of many elements onto a slice of the call's own, as a step of a region in any order; any program. -/
/- Small blocks, cell by cell. -/
import Derived.Test.YtbfcfjgcmideeaaGreatDoorM1
import Derived.OwnWalk
import Derived.Maps.AppendAt
import Derived.Laws.IdiomCopy
import Derived.Laws.OwnMore
import Derived.Deep.RegionLaw
import Derived.Laws.Rows
namespace Go.Proofs.YtbfcfjgcmideeaaGreatDoor
open Go.RowKit
/-- The element's type as the program's table has it. -/
structure Elem (P : Program) (t e : TypeId) (size bytes : Nat) : Prop where
  ex : ∃ i z, P.underlying t = some (.slice e) ∧ P.info? e = some i ∧ i.zero = some z ∧ i.size = size ∧ i.bytes = bytes ∧ z.cells.size = size ∧ 0 < size
theorem Elem.mk' {P : Program} {t e : TypeId} {size bytes : Nat} {z : Value} (h : P.underlying t = some (.slice e)) (hi : (P.info? e).map (fun i => (i.zero, i.size, i.bytes)) = some (some z, size, bytes)) (hc : z.cells.size = size) (h0 : 0 < size) : Elem P t e size bytes := by
  obtain ⟨i, h1, h2, h3, h4⟩ := info_parts hi
  exact ⟨i, z, h, h1, h2, h3, h4, hc, h0⟩
structure Own (w : World) (B : Nat) (e : TypeId) (size : Nat) (v : Value) (rows : List (List Value)) : Prop where
  own : w.ownsRow B e size v rows.length rows.flatten
  each : ∀ r ∈ rows, r.length = size
theorem Own.nil (w : World) (B : Nat) (e : TypeId) (size : Nat) : Own w B e size (.slice none 0 0) [] := ⟨World.ownsRow_nil _ _ _ _, by simp⟩
theorem Own.alloc {w : World} {B : Nat} {e : TypeId} {size : Nat} {v : Value} {rows : List (List Value)} (h : Own w B e size v rows) (o : Obj) : Own (w.alloc o) B e size v rows := ⟨h.own.alloc o, h.each⟩
theorem Own.keep {w w' : World} {B : Nat} {e : TypeId} {size : Nat} {v : Value} {rows : List (List Value)} (h : Own w B e size v rows) (hb : Below w.heap.size w w') : Own w' B e size v rows :=
  ⟨h.own.kept (row := none) ⟨hb.os, hb.tape, hb.output, hb.size, fun k hk _ => hb.block k hk⟩ (by cases v.ownBlock <;> simp), h.each⟩
theorem Own.lt {w : World} {B : Nat} {e : TypeId} {size : Nat} {v : Value} {rows : List (List Value)} (h : Own w B e size v rows) : ∀ k, v.ownBlock = some k → B ≤ k ∧ k < w.heap.size := h.own.lt
theorem flatten_get : ∀ {rows : List (List Value)} {size : Nat}, (∀ r ∈ rows, r.length = size) → ∀ {i : Nat} {r : List Value}, rows[i]? = some r → ∀ {j : Nat} {u : Value}, r[j]? = some u → rows.flatten[i * size + j]? = some u := by
  intro rows size h i
  induction rows generalizing i with
  | nil => intro r hi; simp at hi
  | cons a l ih =>
    intro r hi j u hj
    rw [List.flatten_cons]
    cases i with
    | zero =>
      simp at hi; subst hi
      rw [Nat.zero_mul, Nat.zero_add, List.getElem?_append_left (List.getElem?_eq_some_iff.1 hj).1]; exact hj
    | succ i =>
      have ha : a.length = size := h a (by simp)
      rw [List.getElem?_append_right (by rw [ha, Nat.succ_mul]; omega), ha, show (i + 1) * size + j - size = i * size + j by rw [Nat.succ_mul]; omega]
      exact ih (fun r hr => h r (by simp [hr])) (by simpa using hi) hj
theorem Own.cell {w : World} {B : Nat} {e : TypeId} {size g n c : Nat} {rows : List (List Value)} (h : Own w B e size (.slice (some ⟨g, 0, none⟩) n c) rows) {i : Nat} {r : List Value} (hi : rows[i]? = some r) {j : Nat} {u : Value} (hj : r[j]? = some u) :
    w.cell? ⟨g, 0 + i * size + j, none⟩ = some u := by
  have := h.own.cells (g := g) rfl _ u (flatten_get h.each hi hj)
  rwa [show (⟨g, 0, none⟩ : Addr).add (i * size + j) = ⟨g, 0 + i * size + j, none⟩ by unfold Addr.add; split <;> simp_all] at this
theorem Own.shape {w : World} {B : Nat} {e : TypeId} {size : Nat} {v : Value} {rows : List (List Value)} (h : Own w B e size v rows) : (v = .slice none 0 0 ∧ rows = []) ∨ ∃ g cap, v = .slice (some ⟨g, 0, none⟩) rows.length cap ∧ rows.length ≤ cap ∧ cap ≤ maxLen ∧ B ≤ g ∧ g < w.heap.size := by
  rcases h.own.2 with ⟨h1, h2⟩ | ⟨g, cap, cur, h1, h2, h3, h4, h5, h6⟩
  · exact .inl ⟨h1, List.eq_nil_of_length_eq_zero h2⟩
  · exact .inr ⟨g, cap, h1, h4, h5, h2, (Array.getElem?_eq_some_iff.1 h3).1⟩
/-- 'append(s, x)', x one element, just laid in a block of its own. -/
theorem wpList_append_one {P : Program} {ops : Array Oper} {rest : List Oper} {o : Oper} {a : Act} {Q : Exit → Act → World → Prop} (hgd : o.guard = none) (s x : Operand) (t : TypeId)
    (ho : o.op = .call { callee := .builtin .append, args := #[s, x], argTypes := #[t, t] }) {W w : World} {e e' : TypeId} {size bytes : Nat} (he : Elem P t e size bytes)
    {v : Value} {rows : List (List Value)} (n : Nat) (hn : rows.length = n) (row : List Value) (hs : a.eval s = v) (hown : Own w W.heap.size e size v rows) (hb : Below W.heap.size W w)
    (hx : a.eval x = .slice (some ⟨w.heap.size, 0, none⟩) 1 1) (hl : row.length = size) (h1 : ∀ u ∈ row, u.oneCell' = true) (hm : n + 1 ≤ maxLen) (hbytes : (n + 1) * bytes ≤ 140737488355328)
    (h : ∀ v' w', Own w' W.heap.size e size v' (rows ++ [row]) → Below W.heap.size W w' → w.grownBy w' v.ownBlock → (v'.ownBlock = v.ownBlock ∨ v'.ownBlock = some (w.heap.size + 1)) → (∃ g c, v' = .slice (some ⟨g, 0, none⟩) (n + 1) c ∧ n + 1 ≤ c ∧ W.heap.size ≤ g) → wpList P ops Q rest (a.put o.dst v') w') :
    wpList P ops Q (o :: rest) a (w.alloc (.cells row.toArray e')) := by
  subst hn
  obtain ⟨i, z, ht, hi, hz, hsize, hby, hzs, hsz⟩ := he.ex
  refine wpList_plain hgd fun K hK => ?_
  have hb' := below_alloc hb (.cells row.toArray e')
  have hnews : ∀ j u, row[j]? = some u → (w.alloc (.cells row.toArray e')).cell? ((⟨w.heap.size, 0, none⟩ : Addr).add j) = some u := by
    intro j u hj
    rw [show (⟨w.heap.size, 0, none⟩ : Addr).add j = ⟨w.heap.size, j, none⟩ by unfold Addr.add; split <;> simp_all, cell_of_row _ w.heap.size j _ _ _ (heap_alloc_new _ _)]
    simpa using hj
  obtain ⟨v', w', hr, h2, h3, h4, h5⟩ := run_append_own_at (P := P) (w.alloc (.cells row.toArray e')) W.heap.size t o.type e i z size bytes ht hi hz hsize hby hzs hsz v rows.length rows.flatten (hown.own.alloc _) ⟨w.heap.size, 0, none⟩ 1 1 row (by rw [hl, Nat.one_mul]) hnews h1 hm hbytes hb'.size
  unfold Oper.wp execOp
  simp only [ho, resolve, invoke, builtin, Sem.run_bind, Sem.run_pure, Result.andThen_ok, List.map_toArray, List.map_cons, List.map_nil, hs, hx, hr]
  have hO : Own w' W.heap.size e size v' (rows ++ [row]) := ⟨by simpa using h2, fun r hr => by
    rcases List.mem_append.1 hr with h | h
    · exact hown.each r h
    · rw [List.mem_singleton.1 h]; exact hl⟩
  refine hK _ _ (h v' w' hO (hb'.grown h3 hb'.size fun k hk => (hown.lt k hk).1) (World.grownBy.trans (World.grownBy_alloc _ _ _) h3) (by simpa using h5) ?_)
  rcases hO.shape with ⟨h6, h7⟩ | ⟨g, c, h6, h7, -, h8, -⟩
  · simp at h7
  · exact ⟨g, c, by simpa using h6, by simpa using h7, h8⟩
/-- 'make([]T, 0, n)'. -/
theorem wpList_make_zero {P : Program} {w : World} {ops : Array Oper} {rest : List Oper} {o : Oper} {a : Act} {Q : Exit → Act → World → Prop}
    (hg : o.guard = none) (l c : Operand) (t : TypeId) (hop : o.op = Op.makeSlice t l c) {W : World} {e : TypeId} {size bytes : Nat} (he : Elem P t e size bytes)
    (kl kc : IntKind) (C : Int) (n : Nat) (hl : a.eval l = .int kl 0) (hc : a.eval c = .int kc C) (hC : C = (n : Int)) (b2 : bytes * n ≤ 281474976710656) (b3 : n ≤ maxLen) (hb : Below W.heap.size W w)
    (hK : ∀ w', Own w' W.heap.size e size (.slice (some ⟨w.heap.size, 0, none⟩) 0 n) [] → Below W.heap.size W w' → w.grownBy w' none → wpList P ops Q rest (a.put o.dst (.slice (some ⟨w.heap.size, 0, none⟩) 0 n)) w') :
    wpList P ops Q (o :: rest) a w := by
  obtain ⟨i, z, ht, hi, hz, hsize, hby, hzs, hsz⟩ := he.ex
  refine wpList_make_own w hg l c t hop W.heap.size e i z size ht hi hz hsize kl kc C n hl hc hC (by rw [hby]; exact b2) b3 hb.size fun w' h1 h2 => hK w' ⟨by simpa using h1, by simp⟩ (hb.grown h2 hb.size (by simp)) h2
theorem below_cells {B : Nat} {a : World} {b : Nat} (hb : B ≤ b) : ∀ (vs : List Value) (o : Nat) {w : World}, Below B a w → Below B a (w.setCells b o vs)
  | [], _, _, h => h
  | _ :: r, o, _, h => below_cells hb r (o + 1) (h.setCell hb _)
theorem size_cells (b : Nat) : ∀ (vs : List Value) (o : Nat) (w : World), (w.setCells b o vs).heap.size = w.heap.size
  | [], _, _ => rfl
  | v :: r, o, w => (size_cells b r (o + 1) (w.setCell ⟨b, o, none⟩ v)).trans (by simp [World.setCell])
theorem cell_cells {w : World} {p : Addr} {b : Nat} {v : Value} (h : w.cell? p = some v) (hp : p.block ≠ b) (o : Nat) (vs : List Value) : (w.setCells b o vs).cell? p = some v :=
  (World.cell?_setCells_out b vs o w p (fun e => absurd e hp)).trans h
end Go.Proofs.YtbfcfjgcmideeaaGreatDoor
namespace Go.Proofs.YtbfcfjgcmideeaaGreatDoor
open Go.RowKit
/-- Rows of cells, somewhere. -/
def SrcAt (w : World) (A : Option Addr) (news : List (List Value)) : Prop := news = [] ∧ A = none ∨ ∃ b o, A = some ⟨b, o, none⟩ ∧ ∀ (j : Nat) u, news.flatten[j]? = some u → w.cell? ⟨b, o + j, none⟩ = some u
theorem step_append_many {P : Program} {ops : Array Oper} {o : Oper} {a : Act} {w : World} {K : Act → World → Prop} {Q : Exit → Act → World → Prop} {E : Prop}
    (hg : o.guard = none) (s x : Operand) (t : TypeId) (ho : o.op = Op.call { callee := Callee.builtin Builtin.append, args := #[s, x], argTypes := #[t, t] })
    {W : World} {e : TypeId} {size bytes : Nat} (he : Elem P t e size bytes) {v : Value} {rows : List (List Value)} (n : Nat) (hn : rows.length = n) (hs : a.eval s = v) (hown : Own w W.heap.size e size v rows) (hb : Below W.heap.size W w)
    {A : Option Addr} {m c : Nat} (news : List (List Value)) (hx : a.eval x = .slice A m c) (hnil : A = none → c = 0) (hm : news.length = m) (heach : ∀ r ∈ news, r.length = size) (hsrc : SrcAt w A news) (h1 : ∀ u ∈ news.flatten, u.oneCell' = true)
    (hmax : n + m ≤ maxLen) (hbytes : (n + m) * bytes ≤ 140737488355328)
    (hK : ∀ v' w', Own w' W.heap.size e size v' (rows ++ news) → Below W.heap.size W w' → w.grownBy w' v.ownBlock → (v'.ownBlock = v.ownBlock ∨ v'.ownBlock = some w.heap.size) → K (a.put o.dst v') w') :
    if Region.wanted o (yielded ops a.tmps) = true then Oper.wp P o a w K Q else E := by
  subst hn hm
  have hw : Region.wanted o (yielded ops a.tmps) = true := by simp [Region.wanted, hg]
  rw [if_pos hw]
  obtain ⟨i, z, ht, hi, hz, hsize, hby, hzs, hsz⟩ := he.ex
  have hfl : ∀ (l : List (List Value)), (∀ r ∈ l, r.length = size) → l.flatten.length = l.length * size := by
    intro l hl
    induction l with
    | nil => simp
    | cons a r ih => rw [List.flatten_cons, List.length_append, hl a (by simp), ih fun x hx => hl x (by simp [hx]), List.length_cons, Nat.succ_mul]; omega
  rcases hsrc with ⟨rfl, rfl⟩ | ⟨b, off, rfl, hcell⟩
  · have hc0 := hnil rfl
    subst hc0
    have hrun := run_append_owned_none (P := P) (w := w) W.heap.size t o.type e i size ht hi v _ _ hown.own
    unfold Oper.wp
    simp [execOp, ho, resolve, invoke, builtin, hs, hx, hrun, Result.andThen]
    exact hK v w (by simpa using hown) hb ⟨rfl, rfl, rfl, Nat.le_refl _, fun _ _ _ => rfl⟩ (.inl rfl)
  · obtain ⟨v', w', hr, h2, h3, h4, h5⟩ := run_append_own_at (P := P) w W.heap.size t o.type e i z size bytes ht hi hz hsize hby hzs hsz v rows.length rows.flatten hown.own ⟨b, off, none⟩ news.length c news.flatten (hfl news heach) (fun j u hj => by
      rw [show (⟨b, off, none⟩ : Addr).add j = ⟨b, off + j, none⟩ by unfold Addr.add; split <;> simp_all]; exact hcell j u hj) h1 hmax hbytes hb.size
    unfold Oper.wp
    simp [execOp, ho, resolve, invoke, builtin, hs, hx, hr, Result.andThen]
    refine hK v' w' ⟨by simpa using h2, fun r hr => ?_⟩ (hb.grown h3 hb.size fun k hk => (hown.lt k hk).1) h3 h5
    rcases List.mem_append.1 hr with h | h
    · exact hown.each r h
    · exact heach r h
/-- 'append(s, x...)' in a plain region. -/
theorem wpList_append_many {P : Program} {ops : Array Oper} {rest : List Oper} {o : Oper} {a : Act} {w : World} {Q : Exit → Act → World → Prop}
    (hg : o.guard = none) (s x : Operand) (t : TypeId) (ho : o.op = Op.call { callee := Callee.builtin Builtin.append, args := #[s, x], argTypes := #[t, t] })
    {W : World} {e : TypeId} {size bytes : Nat} (he : Elem P t e size bytes) {v : Value} {rows : List (List Value)} (n : Nat) (hn : rows.length = n) (hs : a.eval s = v) (hown : Own w W.heap.size e size v rows) (hb : Below W.heap.size W w)
    {A : Option Addr} {m c : Nat} (news : List (List Value)) (hx : a.eval x = .slice A m c) (hnil : A = none → c = 0) (hm : news.length = m) (heach : ∀ r ∈ news, r.length = size) (hsrc : SrcAt w A news) (h1 : ∀ u ∈ news.flatten, u.oneCell' = true)
    (hmax : n + m ≤ maxLen) (hbytes : (n + m) * bytes ≤ 140737488355328)
    (hK : ∀ v' w', Own w' W.heap.size e size v' (rows ++ news) → Below W.heap.size W w' → w.grownBy w' v.ownBlock → (v'.ownBlock = v.ownBlock ∨ v'.ownBlock = some w.heap.size) → wpList P ops Q rest (a.put o.dst v') w') :
    wpList P ops Q (o :: rest) a w := by
  refine wpList_plain hg fun K hK2 => ?_
  have hw : Region.wanted o (yielded ops a.tmps) = true := by simp [Region.wanted, hg]
  have h := step_append_many (ops := ops) (a := a) (w := w) (K := K) (Q := Q) (E := True) hg s x t ho he n hn hs hown hb news hx hnil hm heach hsrc h1 hmax hbytes (fun v' w' a1 a2 a3 a4 => hK2 _ _ (hK v' w' a1 a2 a3 a4))
  rwa [if_pos hw] at h
end Go.Proofs.YtbfcfjgcmideeaaGreatDoor
namespace Go.Proofs.YtbfcfjgcmideeaaGreatDoor
open Go.RowKit
theorem row2 {w : World} {b : Nat} {ty : TypeId} {v0 v1 : Value} (h : w.heap[b]? = some (.cells #[v0, v1] ty (0, 0))) :
    (w.cell? ⟨b, 0, none⟩ = some v0 ∧ w.cell? ⟨b, 1, none⟩ = some v1) ∧ w.frozen? ⟨b, 0, none⟩ = false ∧ w.frozen? ⟨b, 1, none⟩ = false ∧ b < w.heap.size := ⟨⟨(cell_of_row w b 0 _ ty (0, 0) h).trans rfl, (cell_of_row w b 1 _ ty (0, 0) h).trans rfl⟩, frozen_of_row w b 0 _ ty h, frozen_of_row w b 1 _ ty h, (Array.getElem?_eq_some_iff.1 h).1⟩
theorem row8 {w : World} {b : Nat} {ty : TypeId} {v0 v1 v2 v3 v4 v5 v6 v7 : Value} (h : w.heap[b]? = some (.cells #[v0, v1, v2, v3, v4, v5, v6, v7] ty (0, 0))) :
    (w.cell? ⟨b, 0, none⟩ = some v0 ∧ w.cell? ⟨b, 1, none⟩ = some v1 ∧ w.cell? ⟨b, 2, none⟩ = some v2 ∧ w.cell? ⟨b, 3, none⟩ = some v3 ∧ w.cell? ⟨b, 4, none⟩ = some v4 ∧ w.cell? ⟨b, 5, none⟩ = some v5 ∧ w.cell? ⟨b, 6, none⟩ = some v6 ∧ w.cell? ⟨b, 7, none⟩ = some v7) ∧ w.frozen? ⟨b, 0, none⟩ = false ∧ w.frozen? ⟨b, 1, none⟩ = false ∧ w.frozen? ⟨b, 2, none⟩ = false ∧ w.frozen? ⟨b, 3, none⟩ = false ∧ w.frozen? ⟨b, 4, none⟩ = false ∧ w.frozen? ⟨b, 5, none⟩ = false ∧ w.frozen? ⟨b, 6, none⟩ = false ∧ w.frozen? ⟨b, 7, none⟩ = false ∧ b < w.heap.size := ⟨⟨(cell_of_row w b 0 _ ty (0, 0) h).trans rfl, (cell_of_row w b 1 _ ty (0, 0) h).trans rfl, (cell_of_row w b 2 _ ty (0, 0) h).trans rfl, (cell_of_row w b 3 _ ty (0, 0) h).trans rfl, (cell_of_row w b 4 _ ty (0, 0) h).trans rfl, (cell_of_row w b 5 _ ty (0, 0) h).trans rfl, (cell_of_row w b 6 _ ty (0, 0) h).trans rfl, (cell_of_row w b 7 _ ty (0, 0) h).trans rfl⟩, frozen_of_row w b 0 _ ty h, frozen_of_row w b 1 _ ty h, frozen_of_row w b 2 _ ty h, frozen_of_row w b 3 _ ty h, frozen_of_row w b 4 _ ty h, frozen_of_row w b 5 _ ty h, frozen_of_row w b 6 _ ty h, frozen_of_row w b 7 _ ty h, (Array.getElem?_eq_some_iff.1 h).1⟩
theorem row10 {w : World} {b : Nat} {ty : TypeId} {v0 v1 v2 v3 v4 v5 v6 v7 v8 v9 : Value} (h : w.heap[b]? = some (.cells #[v0, v1, v2, v3, v4, v5, v6, v7, v8, v9] ty (0, 0))) :
    (w.cell? ⟨b, 0, none⟩ = some v0 ∧ w.cell? ⟨b, 1, none⟩ = some v1 ∧ w.cell? ⟨b, 2, none⟩ = some v2 ∧ w.cell? ⟨b, 3, none⟩ = some v3 ∧ w.cell? ⟨b, 4, none⟩ = some v4 ∧ w.cell? ⟨b, 5, none⟩ = some v5 ∧ w.cell? ⟨b, 6, none⟩ = some v6 ∧ w.cell? ⟨b, 7, none⟩ = some v7 ∧ w.cell? ⟨b, 8, none⟩ = some v8 ∧ w.cell? ⟨b, 9, none⟩ = some v9) ∧ w.frozen? ⟨b, 0, none⟩ = false ∧ w.frozen? ⟨b, 1, none⟩ = false ∧ w.frozen? ⟨b, 2, none⟩ = false ∧ w.frozen? ⟨b, 3, none⟩ = false ∧ w.frozen? ⟨b, 4, none⟩ = false ∧ w.frozen? ⟨b, 5, none⟩ = false ∧ w.frozen? ⟨b, 6, none⟩ = false ∧ w.frozen? ⟨b, 7, none⟩ = false ∧ w.frozen? ⟨b, 8, none⟩ = false ∧ w.frozen? ⟨b, 9, none⟩ = false ∧ b < w.heap.size := ⟨⟨(cell_of_row w b 0 _ ty (0, 0) h).trans rfl, (cell_of_row w b 1 _ ty (0, 0) h).trans rfl, (cell_of_row w b 2 _ ty (0, 0) h).trans rfl, (cell_of_row w b 3 _ ty (0, 0) h).trans rfl, (cell_of_row w b 4 _ ty (0, 0) h).trans rfl, (cell_of_row w b 5 _ ty (0, 0) h).trans rfl, (cell_of_row w b 6 _ ty (0, 0) h).trans rfl, (cell_of_row w b 7 _ ty (0, 0) h).trans rfl, (cell_of_row w b 8 _ ty (0, 0) h).trans rfl, (cell_of_row w b 9 _ ty (0, 0) h).trans rfl⟩, frozen_of_row w b 0 _ ty h, frozen_of_row w b 1 _ ty h, frozen_of_row w b 2 _ ty h, frozen_of_row w b 3 _ ty h, frozen_of_row w b 4 _ ty h, frozen_of_row w b 5 _ ty h, frozen_of_row w b 6 _ ty h, frozen_of_row w b 7 _ ty h, frozen_of_row w b 8 _ ty h, frozen_of_row w b 9 _ ty h, (Array.getElem?_eq_some_iff.1 h).1⟩
theorem results_cell {P : Program} {fn : Func} {tmps : Array Value} {w : World} {a : Tmp} {t : TypeId} {p : Addr} {v : Value} (hr : fn.results = #[.cell a t]) (ha : tmps.getD a undef = .pointer (some p)) (hl : (loadVar t p).run P w = .ok v w) :
    (results fn tmps).run P w = .ok v w := by
  rw [Array.getD_eq_getD_getElem?] at ha
  unfold results
  rw [hr]
  simp only [Array.mapM_eq_mapM_toList]
  simp [ha, asAddr, hl]
theorem results_cell_tmp {P : Program} {fn : Func} {tmps : Array Value} {w : World} {a b : Tmp} {t : TypeId} {p : Addr} {v u : Value} (hr : fn.results = #[.cell a t, .tmp b]) (ha : tmps.getD a undef = .pointer (some p)) (hb : tmps.getD b undef = u) (hl : (loadVar t p).run P w = .ok v w) :
    (results fn tmps).run P w = .ok (.tuple #[v, u]) w := by
  rw [Array.getD_eq_getD_getElem?] at ha hb
  unfold results
  rw [hr]
  simp only [Array.mapM_eq_mapM_toList]
  simp [ha, asAddr, hl, hb]
end Go.Proofs.YtbfcfjgcmideeaaGreatDoor
