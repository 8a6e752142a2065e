/- The Book: a kind's lists are filled with marks, so far; any program. -/
import Derived.Test.YtdceechakocgfaaDoorPut
namespace Go.Proofs.YtdceechakocgfaaDoor
open Go.RowKit
theorem own_len {w : World} {B : Nat} {e : TypeId} {z : Nat} {v : Value} {rows : List (List Value)} (h : Own w B e z v rows) : ∃ A c, v = .slice A rows.length c := by
  rcases h.shape with ⟨h, h'⟩ | ⟨g, c, h, -⟩
  · exact ⟨none, 0, by rw [h, h']; rfl⟩
  · exact ⟨_, _, h⟩
theorem own_short {w : World} {B : Nat} {e : TypeId} {z : Nat} {v : Value} {rows : List (List Value)} (h : Own w B e z v rows) : rows.length ≤ maxLen := by
  rcases h.shape with ⟨-, h'⟩ | ⟨g, c, -, h, h', -⟩
  · rw [h']; exact Nat.zero_le _
  · exact Nat.le_trans h h'
/-- A list of what is held, cell by cell. -/
theorem Kind.head {w : World} {B : Nat} {lab : Lab} {j : Nat} {H e : TypeId} {z : Nat} {s : KS} (h : Kind w B lab j H e z s) {x : Nat} (hx : x < s.N) : ∃ g c, s.sv = .slice (some ⟨g, 0, none⟩) s.N c ∧ w.cell? ⟨g, x * 3, none⟩ = some (s.V x) ∧ w.cell? ⟨g, x * 3 + 1, none⟩ = some (s.L x) ∧ w.cell? ⟨g, x * 3 + 2, none⟩ = some (.int .i64 (s.num x)) := by
  rcases h.held.shape with ⟨h1, h2⟩ | ⟨g, c, h1, -⟩
  · have := s.rows_length; rw [h2] at this; simp at this; omega
  · rw [s.rows_length] at h1
    have ho := h.held
    rw [h1] at ho
    refine ⟨g, c, h1, ?_, ?_, ?_⟩
    · have := ho.cell (s.rows_get hx) (j := 0) rfl
      rwa [Nat.zero_add] at this
    · have := ho.cell (s.rows_get hx) (j := 1) rfl
      rwa [Nat.zero_add] at this
    · have := ho.cell (s.rows_get hx) (j := 2) rfl
      rwa [Nat.zero_add] at this
def FilR (s : KS) (mk : Int → List Value) (i k : Nat) (x : Nat) : List (List Value) := if x < i then List.replicate (s.R x).length (mk (s.num x)) else if x = i then List.replicate k (mk (s.num x)) ++ (s.R x).drop k else s.R x
structure Fil (w : World) (B : Nat) (lab : Lab) (j : Nat) (H e : TypeId) (z : Nat) (s : KS) (mk : Int → List Value) (i k : Nat) (wr : World) : Prop where
  turned : Turned (fun b => (lab b).1 = j ∧ (lab b).2 ≠ 0) w wr
  kind : ∃ R', Kind wr B lab j H e z { s with R := R' } ∧ ∀ x, x < s.N → R' x = FilR s mk i k x
theorem Fil.start {w : World} {B : Nat} {lab : Lab} {j : Nat} {H e : TypeId} {z : Nat} {s : KS} (mk : Int → List Value) (h : Kind w B lab j H e z s) : Fil w B lab j H e z s mk 0 0 w :=
  ⟨Turned.refl _ _, s.R, h, fun x _ => by unfold FilR; by_cases hx : x = 0 <;> simp [hx]⟩
theorem Fil.keep {w wr wr' : World} {B : Nat} {lab : Lab} {j : Nat} {H e : TypeId} {z : Nat} {s : KS} {mk : Int → List Value} {i k : Nat} (h : Fil w B lab j H e z s mk i k wr) (hb : Below wr.heap.size wr wr') : Fil w B lab j H e z s mk i k wr' := by
  obtain ⟨R', h1, h2⟩ := h.kind
  exact ⟨h.turned.trans (turned_below (S := fun _ => False) hb) (fun _ _ h => h.elim), R', h1.turned (turned_below (S := fun _ => False) hb) (fun _ _ h => h.elim) (LabUp.refl _ _), h2⟩
theorem Fil.book {w wr : World} {B : Nat} {lab : Lab} {j : Nat} {H e : TypeId} {z : Nat} {s : KS} {mk : Int → List Value} {i k : Nat} (h : Fil w B lab j H e z s mk i k wr) (hj : j ≠ 0) {bk : Nat} (hl : lab bk = (0, 1)) {o : Obj} (hb : w.heap[bk]? = some o) : wr.heap[bk]? = some o :=
  (h.turned.block bk (Array.getElem?_eq_some_iff.1 hb).1 (by rw [hl]; intro h; exact hj h.1.symm)).trans hb
theorem Fil.next {w wr : World} {B : Nat} {lab : Lab} {j : Nat} {H e : TypeId} {z : Nat} {s : KS} {mk : Int → List Value} {i : Nat} (h : Fil w B lab j H e z s mk i (s.R i).length wr) : Fil w B lab j H e z s mk (i + 1) 0 wr := by
  obtain ⟨R', h1, h2⟩ := h.kind
  refine ⟨h.turned, R', h1, fun x hx => (h2 x hx).trans ?_⟩
  unfold FilR
  by_cases h3 : x < i
  · rw [if_pos h3, if_pos (by omega)]
  · by_cases h4 : x = i
    · subst h4
      rw [if_neg h3, if_pos rfl, if_pos (by omega)]; simp
    · rw [if_neg h3, if_neg h4, if_neg (by omega)]
      by_cases h5 : x = i + 1
      · rw [if_pos h5]; simp
      · rw [if_neg h5]
theorem Fil.put {w wr : World} {B : Nat} {lab : Lab} {j : Nat} {H e : TypeId} {z : Nat} {s : KS} {mk : Int → List Value} {i k : Nat} (h : Fil w B lab j H e z s mk i k wr) (h0 : s.d = 0) (hi : i < s.N) {g n c : Nat} (hv : s.V i = .slice (some ⟨g, 0, none⟩) n c) (hk : k < n) (hz : (mk (s.num i)).length = z) :
    Fil w B lab j H e z s mk i (k + 1) (wr.setCells g (k * z) (mk (s.num i))) := by
  obtain ⟨R', h1, h2⟩ := h.kind
  have hR := h2 i hi
  obtain ⟨h3, h4⟩ := h1.put (i := i) h0 hi hv hk hz
  have hn : n = (R' i).length := by
    obtain ⟨A, c', h5⟩ := own_len (h1.todo i (by rw [show ({ s with R := R' } : KS).d = 0 from h0]; omega) hi).1
    rw [show ({ s with R := R' } : KS).V i = s.V i from rfl, hv] at h5
    cases h5; rfl
  refine ⟨h.turned.trans h4 fun b _ hb => by rw [hb]; simp, _, h3, fun x hx => ?_⟩
  change upd R' i ((R' i).set k (mk (s.num i))) x = _
  by_cases h5 : x = i
  · subst h5
    rw [upd_same]
    rw [hR] at hn ⊢
    unfold FilR at hn ⊢
    rw [if_neg (by omega), if_pos rfl] at hn
    rw [if_neg (by omega), if_pos rfl, if_neg (by omega), if_pos rfl]
    simp at hn
    rw [List.set_append_right _ _ (by simp), List.length_replicate, Nat.sub_self, List.replicate_succ', List.append_assoc]
    congr 1
    have e := List.drop_eq_getElem_cons (l := s.R x) (i := k) (by omega)
    rw [e, List.set_cons_zero]
    rfl
  · rw [upd_ne _ _ h5, h2 x hx]
    unfold FilR
    rw [if_neg h5, if_neg h5]
theorem Fil.done {w wr : World} {B : Nat} {lab : Lab} {j : Nat} {H e : TypeId} {z : Nat} {s : KS} {mk : Int → List Value} (h : Fil w B lab j H e z s mk s.N 0 wr) : Kind wr B lab j H e z { s with R := fun x => List.replicate (s.R x).length (mk (s.num x)) } := by
  obtain ⟨R', h1, h2⟩ := h.kind
  refine Kind.congr (s := { s with R := fun x => List.replicate (s.R x).length (mk (s.num x)) }) (R' := R') h1 fun x hx => (h2 x hx).trans ?_
  unfold FilR
  rw [if_pos hx]
/-- What the walk reads of the list that it is at. -/
theorem Fil.at {w wr : World} {B : Nat} {lab : Lab} {j : Nat} {H e : TypeId} {z : Nat} {s : KS} {mk : Int → List Value} {i k : Nat} (h : Fil w B lab j H e z s mk i k wr) {x : Nat} (hx : x < s.N) : ∃ g c, s.sv = .slice (some ⟨g, 0, none⟩) s.N c ∧ wr.cell? ⟨g, x * 3, none⟩ = some (s.V x) ∧ wr.cell? ⟨g, x * 3 + 1, none⟩ = some (s.L x) ∧ wr.cell? ⟨g, x * 3 + 2, none⟩ = some (.int .i64 (s.num x)) := by
  obtain ⟨R', h1, -⟩ := h.kind
  exact h1.head hx
theorem Fil.there {w wr : World} {B : Nat} {lab : Lab} {j : Nat} {H e : TypeId} {z : Nat} {s : KS} {mk : Int → List Value} {i k : Nat} (h : Fil w B lab j H e z s mk i k wr) (h0 : s.d = 0) (hi : i < s.N) {g n c : Nat} (hv : s.V i = .slice (some ⟨g, 0, none⟩) n c) (hk : k < n) : wr.there g (k * z) z ∧ B ≤ g := by
  obtain ⟨R', h1, -⟩ := h.kind
  have ho := (h1.todo i (by rw [show ({ s with R := R' } : KS).d = 0 from h0]; omega) hi).1
  rw [show ({ s with R := R' } : KS).V i = s.V i from rfl, hv] at ho
  refine ⟨fun j' hj' => ?_, (ho.lt g rfl).1⟩
  have hn : n = (R' i).length := by
    obtain ⟨A, c', h5⟩ := own_len ho
    cases h5; rfl
  subst hn
  have hlt : k * z + j' < (R' i).length * z := by
    have : (k + 1) * z ≤ (R' i).length * z := Nat.mul_le_mul_right z hk
    rw [Nat.succ_mul] at this; omega
  have hc := ho.own.cellAt (k * z + j') hlt
  have hlen : ((R' i).flatten).length = (R' i).length * z := ho.own.1
  refine ⟨?_, ho.own.frozenAt _⟩
  rw [hc]
  change ((R' i).flatten[k * z + j']?).isSome = true
  rw [List.getElem?_eq_getElem (by rw [hlen]; exact hlt)]
  rfl
theorem Fil.addr {w wr : World} {B : Nat} {lab : Lab} {j : Nat} {H e : TypeId} {z : Nat} {s : KS} {mk : Int → List Value} {i k : Nat} (h : Fil w B lab j H e z s mk i k wr) (h0 : s.d = 0) (hi : i < s.N) {A : Option Addr} {n c : Nat} (hv : s.V i = .slice A n c) (hk : k < n) : ∃ g, A = some ⟨g, 0, none⟩ := by
  obtain ⟨R', h1, -⟩ := h.kind
  have ho := (h1.todo i (by rw [show ({ s with R := R' } : KS).d = 0 from h0]; omega) hi).1
  rw [show ({ s with R := R' } : KS).V i = s.V i from rfl, hv] at ho
  rcases ho.shape with ⟨h2, -⟩ | ⟨g, c', h2, -⟩
  · cases h2; omega
  · cases h2; exact ⟨g, rfl⟩
theorem there_below {w w' : World} (h : Below w.heap.size w w') {b o n : Nat} (ht : w.there b o n) : w'.there b o n := fun j hj => by
  obtain ⟨h1, h2⟩ := ht j hj
  obtain ⟨v, hv⟩ := Option.isSome_iff_exists.1 h1
  exact ⟨by rw [cell_keep h hv]; rfl, (h.frozen (World.block_lt_of_cell? _ _ hv)).trans h2⟩
theorem there_one {w : World} {b o : Nat} (ht : w.there b (o * 1) 1) : (∃ old, w.cell? ⟨b, o, none⟩ = some old) ∧ w.frozen? ⟨b, o, none⟩ = false := by
  obtain ⟨h1, h2⟩ := ht 0 (by decide)
  rw [Nat.mul_one, Nat.add_zero] at h1 h2
  exact ⟨Option.isSome_iff_exists.1 h1, h2⟩
/-- A row that may be written, with what stands in the way kept from the walk's sight. -/
def RowFree (w : World) (g o n : Nat) : Prop := w.there g o n
end Go.Proofs.YtdceechakocgfaaDoor
