/- The Book: a kind's lists are grown: what the walk keeps; any program. -/
import Derived.Test.YtdceechakocgfaaGreatDoorGrown
namespace Go.Proofs.YtdceechakocgfaaGreatDoor
open Go.RowKit
/-- The lists below d are grown. -/
structure Gro (w : World) (B : Nat) (lab : Lab) (j : Nat) (H e : TypeId) (z : Nat) (s : KS) (mk : Int → List Value) (d : Nat) (wr : World) : Prop where
  turned : Turned (fun b => (lab b).1 = j) w wr
  ex : ∃ (lab' : Lab) (L' : Nat → Value) (M' : Nat → List (List Value)), LabUp w lab lab' ∧ (∀ k, wr.heap.size ≤ k → lab' k = (0, 0)) ∧ Kind wr B lab' j H e z { s with L := L', M := M', d := d } ∧ ∀ x, x < d → M' x = List.replicate 40 (mk (s.num x))
/-- The list at d is being grown, k more so far; a block hb aside stands. -/
structure GroIn (w : World) (B : Nat) (lab : Lab) (j : Nat) (H e : TypeId) (z : Nat) (s : KS) (mk : Int → List Value) (d k : Nat) (v : Value) (hb : Nat) (o : Obj) (wr : World) : Prop where
  turned : Turned (fun b => (lab b).1 = j) w wr
  ex : ∃ (lab' : Lab) (L' : Nat → Value) (M' : Nat → List (List Value)), LabUp w lab lab' ∧ (∀ k, wr.heap.size ≤ k → lab' k = (0, 0)) ∧ KMid wr B lab' j H e z { s with L := L', M := M', d := d } v (List.replicate k (mk (s.num d))) ∧ (∀ x, x < d → M' x = List.replicate 40 (mk (s.num x))) ∧ lab' hb = (0, 0) ∧ wr.heap[hb]? = some o
section
variable {w wr wr' : World} {B : Nat} {lab : Lab} {j : Nat} {H e : TypeId} {z : Nat} {s : KS} {mk : Int → List Value} {d k : Nat} {v : Value} {hb : Nat} {o : Obj}
theorem Gro.start (mk : Int → List Value) (h : Kind w B lab j H e z s) (h0 : s.d = 0) (fresh : ∀ k, w.heap.size ≤ k → lab k = (0, 0)) : Gro w B lab j H e z s mk 0 w := by
  refine ⟨Turned.refl _ _, lab, s.L, s.M, LabUp.refl _ _, fresh, ?_, fun x hx => absurd hx (by omega)⟩
  cases s
  simp only at h0
  subst h0
  exact h
theorem Gro.keep (h : Gro w B lab j H e z s mk d wr) (hb : Below wr.heap.size wr wr') : Gro w B lab j H e z s mk d wr' := by
  obtain ⟨lab', L', M', h1, h2, h3, h4⟩ := h.ex
  exact ⟨h.turned.trans (turned_below (S := fun _ => False) hb) (fun _ _ h => h.elim), lab', L', M', h1, fun k hk => h2 k (Nat.le_trans hb.size hk), h3.turned (turned_below (S := fun _ => False) hb) (fun _ _ h => h.elim) (LabUp.refl _ _), h4⟩
theorem GroIn.keep (h : GroIn w B lab j H e z s mk d k v hb o wr) (hbl : Below wr.heap.size wr wr') : GroIn w B lab j H e z s mk d k v hb o wr' := by
  obtain ⟨lab', L', M', h1, h2, h3, h4, h5, h6⟩ := h.ex
  exact ⟨h.turned.trans (turned_below (S := fun _ => False) hbl) (fun _ _ h => h.elim), lab', L', M', h1, fun k hk => h2 k (Nat.le_trans hbl.size hk), h3.turned (turned_below (S := fun _ => False) hbl) (fun _ _ h => h.elim) (LabUp.refl _ _), h4, h5, (hbl.block hb (Array.getElem?_eq_some_iff.1 h6).1).trans h6⟩
theorem turned_book {S : Nat → Prop} (h : Turned S w wr) {bk : Nat} (hn : ¬ S bk) {o : Obj} (hb : w.heap[bk]? = some o) : wr.heap[bk]? = some o :=
  (h.block bk (Array.getElem?_eq_some_iff.1 hb).1 hn).trans hb
theorem Gro.head (h : Gro w B lab j H e z s mk d wr) {x : Nat} (hx : x < s.N) : ∃ g c l, s.sv = .slice (some ⟨g, 0, none⟩) s.N c ∧ wr.cell? ⟨g, x * 3, none⟩ = some (s.V x) ∧ wr.cell? ⟨g, x * 3 + 1, none⟩ = some l ∧ wr.cell? ⟨g, x * 3 + 2, none⟩ = some (.int .i64 (s.num x)) ∧ (d ≤ x → l = .slice none 0 0) := by
  obtain ⟨lab', L', M', h1, h2, h3, h4⟩ := h.ex
  obtain ⟨g, c, e1, e2, e3, e4⟩ := h3.head hx
  exact ⟨g, c, _, e1, e2, e3, e4, fun hd => (h3.todo x hd hx).2⟩
theorem Gro.into (h : Gro w B lab j H e z s mk d wr) (hd : d < s.N) (o : Obj) : GroIn w B lab j H e z s mk d 0 (s.V d) wr.heap.size o (wr.alloc o) := by
  obtain ⟨lab', L', M', h1, h2, h3, h4⟩ := h.ex
  have hB := below_alloc (Below.refl wr.heap.size wr) o
  exact ⟨h.turned.trans (turned_below (S := fun _ => False) hB) (fun _ _ h => h.elim), lab', L', M', h1, fun k hk => h2 k (Nat.le_trans hB.size hk), (h3.mid hd).turned (turned_below (S := fun _ => False) hB) (fun _ _ h => h.elim) (LabUp.refl _ _), h4, h2 _ (Nat.le_refl _), heap_alloc_new wr o⟩
theorem GroIn.own (h : GroIn w B lab j H e z s mk d k v hb o wr) : Own wr B e z v (s.R d ++ List.replicate k (mk (s.num d))) := by
  obtain ⟨lab', L', M', h1, h2, h3, h4⟩ := h.ex
  exact h3.now
theorem GroIn.box (h : GroIn w B lab j H e z s mk d k v hb o wr) : wr.heap[hb]? = some o := by
  obtain ⟨lab', L', M', h1, h2, h3, h4, h5, h6⟩ := h.ex
  exact h6
theorem GroIn.step {v' : Value} (h : GroIn w B lab j H e z s mk d k v hb o wr) (hO : Own wr' B e z v' (s.R d ++ List.replicate k (mk (s.num d)) ++ [mk (s.num d)])) (hg : wr.grownBy wr' v.ownBlock)
    (hv : v'.ownBlock = v.ownBlock ∨ ∃ k, v'.ownBlock = some k ∧ wr.heap.size ≤ k ∧ wr.grownBy wr' none) : GroIn w B lab j H e z s mk d (k + 1) v' hb o wr' := by
  obtain ⟨lab', L', M', h1, h2, h3, h4, h5, h6⟩ := h.ex
  obtain ⟨lab2, e1, e2, e3, e4⟩ := h3.step hO hg hv h2
  have hlt := (Array.getElem?_eq_some_iff.1 h6).1
  refine ⟨h.turned.trans e4 fun b hb hx => ?_, lab2, L', M', h1.trans e1 h.turned.size, e2, by rw [List.replicate_succ']; exact e3, h4, (e1 hb hlt).trans h5, turned_book e4 (by rw [h5]; simp) h6⟩
  rw [h1 b hb] at hx
  rw [hx]
theorem GroIn.head (h : GroIn w B lab j H e z s mk d k v hb o wr) : ∃ g c l, s.sv = .slice (some ⟨g, 0, none⟩) s.N c ∧ wr.cell? ⟨g, d * 3 + 1, none⟩ = some l ∧ wr.frozen? ⟨g, d * 3 + 1, none⟩ = false := by
  obtain ⟨lab', L', M', h1, h2, h3, h4⟩ := h.ex
  have hd : d < s.N := h3.lt
  rcases h3.held.shape with ⟨e1, e2⟩ | ⟨g, c, e1, -⟩
  · have := KS.rows_length { s with L := L', M := M', d := d }
    rw [e2] at this; simp at this; omega
  · have ho := h3.held
    rw [e1] at ho
    have h7 := ho.own.frozenAt (d * 3 + 1)
    have h8 := ho.cell (KS.rows_get { s with L := L', M := M', d := d } hd) (j := 1) rfl
    rw [Nat.zero_add] at h8
    rw [KS.rows_length] at e1
    exact ⟨g, c, _, e1, h8, h7⟩
theorem GroIn.out (h : GroIn w B lab j H e z s mk d 40 v hb o wr) {gs n c : Nat} (hsv : s.sv = .slice (some ⟨gs, 0, none⟩) n c) : Gro w B lab j H e z s mk (d + 1) (wr.setCell ⟨gs, d * 3 + 1, none⟩ v) := by
  obtain ⟨lab', L', M', h1, h2, h3, h4, h5, h6⟩ := h.ex
  obtain ⟨e1, e2⟩ := h3.put hsv
  refine ⟨h.turned.trans e2 fun b hb hx => ?_, lab', upd L' d v, upd M' d (List.replicate 40 (mk (s.num d))), h1, fun k hk => h2 k (by simpa [World.setCell] using hk), e1, fun x hx => ?_⟩
  · rw [h1 b hb] at hx
    rw [hx]
  · by_cases hxd : x = d
    · subst hxd; rw [upd_same]
    · rw [upd_ne _ _ hxd]; exact h4 x (by omega)
end
end Go.Proofs.YtdceechakocgfaaGreatDoor
