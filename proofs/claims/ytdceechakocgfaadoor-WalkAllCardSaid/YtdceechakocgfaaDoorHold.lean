/- The Book: the lists of a kind, each with the room it is grown to; who a block belongs to is told by labels; any program. -/
import Derived.Test.YtdceechakocgfaaDoorBook
namespace Go.Proofs.YtdceechakocgfaaDoor
open Go.RowKit
/-- What is read of a list's rows, wherever else they lie. -/
def Rd (w : World) (B z : Nat) (v : Value) (rows : List (List Value)) : Prop :=
  (v = .slice none 0 0 ∧ rows = []) ∨ ∃ g c, v = .slice (some ⟨g, 0, none⟩) rows.length c ∧ rows.length ≤ maxLen ∧ B ≤ g ∧ g < w.heap.size ∧ ∀ i r, rows[i]? = some r → ∀ j u, r[j]? = some u → w.cell? ⟨g, 0 + i * z + j, none⟩ = some u
theorem Rd.lt {w : World} {B z : Nat} {v : Value} {rows : List (List Value)} (h : Rd w B z v rows) : ∀ k, v.ownBlock = some k → B ≤ k ∧ k < w.heap.size := by
  intro k hk
  rcases h with ⟨rfl, -⟩ | ⟨g, c, rfl, -, h1, h2, -⟩
  · simp [Value.ownBlock] at hk
  · simp [Value.ownBlock] at hk; subst hk; exact ⟨h1, h2⟩
theorem Own.rd {w : World} {B z : Nat} {e : TypeId} {v : Value} {rows : List (List Value)} (h : Own w B e z v rows) : Rd w B z v rows := by
  rcases h.shape with h1 | ⟨g, c, rfl, h1, h2, h3, h4⟩
  · exact .inl h1
  · exact .inr ⟨g, c, rfl, Nat.le_trans h1 h2, h3, h4, fun i r hi j u hj => h.cell hi hj⟩
theorem Rd.turned {S : Nat → Prop} {w w' : World} {B z : Nat} {v : Value} {rows : List (List Value)} (h : Rd w B z v rows) (ht : Turned S w w') (hn : ∀ k, v.ownBlock = some k → ¬ S k) : Rd w' B z v rows := by
  rcases h with h1 | ⟨g, c, rfl, h0, h1, h2, h3⟩
  · exact .inl h1
  · exact .inr ⟨g, c, rfl, h0, h1, Nat.lt_of_lt_of_le h2 ht.size, fun i r hi j u hj => (World.cell?_of_block (ht.block g h2 (hn g rfl))).trans (h3 i r hi j u hj)⟩
/-- Who a block belongs to: (0, 0) nobody, (0, 1) the box, (j, 0) the list of kind j's lists, (j, i + 1) the list i of kind j. -/
abbrev Lab := Nat → Nat × Nat
def LabUp (w : World) (l l' : Lab) : Prop := ∀ k, k < w.heap.size → l' k = l k
theorem LabUp.refl (w : World) (l : Lab) : LabUp w l l := fun _ _ => rfl
theorem LabUp.trans {w w' : World} {a b c : Lab} (h : LabUp w a b) (h' : LabUp w' b c) (hs : w.heap.size ≤ w'.heap.size) : LabUp w a c := fun k hk => (h' k (Nat.lt_of_lt_of_le hk hs)).trans (h k hk)
def upd {α : Type} (f : Nat → α) (n : Nat) (a : α) : Nat → α := fun x => if x = n then a else f x
theorem upd_same {α : Type} (f : Nat → α) (n : Nat) (a : α) : upd f n a n = a := by simp [upd]
theorem upd_ne {α : Type} (f : Nat → α) {n x : Nat} (a : α) (h : x ≠ n) : upd f n a x = f x := by simp [upd, h]
/-- A kind's lists: the slice of them, how many, each one, what it is grown to, its number, its rows, the rows it is grown by, how many are grown. -/
structure KS where
  sv : Value
  N : Nat
  V : Nat → Value
  L : Nat → Value
  num : Nat → Int
  R : Nat → List (List Value)
  M : Nat → List (List Value)
  d : Nat
def KS.rows (s : KS) : List (List Value) := (List.range s.N).map fun x => [s.V x, s.L x, .int .i64 (s.num x)]
theorem KS.rows_length (s : KS) : s.rows.length = s.N := by simp [KS.rows]
theorem KS.rows_get (s : KS) {x : Nat} (h : x < s.N) : s.rows[x]? = some [s.V x, s.L x, .int .i64 (s.num x)] := by simp [KS.rows, h]
structure Kind (w : World) (B : Nat) (lab : Lab) (j : Nat) (H e : TypeId) (z : Nat) (s : KS) : Prop where
  held : Own w B H 3 s.sv s.rows
  heldL : ∀ k, s.sv.ownBlock = some k → lab k = (j, 0)
  vL : ∀ x, x < s.N → ∀ k, (s.V x).ownBlock = some k → lab k = (j, x + 1)
  todo : ∀ x, s.d ≤ x → x < s.N → Own w B e z (s.V x) (s.R x) ∧ s.L x = .slice none 0 0
  done : ∀ x, x < s.d → x < s.N → Rd w B z (s.V x) (s.R x) ∧ Own w B e z (s.L x) (s.R x ++ s.M x) ∧ ∀ k, (s.L x).ownBlock = some k → lab k = (j, x + 1)
def KS.empty : KS := ⟨.slice none 0 0, 0, fun _ => .slice none 0 0, fun _ => .slice none 0 0, fun _ => 0, fun _ => [], fun _ => [], 0⟩
theorem Kind.empty (w : World) (B : Nat) (lab : Lab) (j : Nat) (H e : TypeId) (z : Nat) : Kind w B lab j H e z KS.empty :=
  ⟨Own.nil _ _ _ _, by simp [KS.empty, Value.ownBlock], by simp [KS.empty], by simp [KS.empty], by simp [KS.empty]⟩
theorem Kind.vlt {w : World} {B : Nat} {lab : Lab} {j : Nat} {H e : TypeId} {z : Nat} {s : KS} (h : Kind w B lab j H e z s) {x : Nat} (hx : x < s.N) : ∀ k, (s.V x).ownBlock = some k → B ≤ k ∧ k < w.heap.size := by
  by_cases hd : s.d ≤ x
  · exact (h.todo x hd hx).1.lt
  · exact (h.done x (by omega) hx).1.lt
theorem Kind.turned {S : Nat → Prop} {w w' : World} {B : Nat} {lab lab' : Lab} {j : Nat} {H e : TypeId} {z : Nat} {s : KS} (h : Kind w B lab j H e z s) (ht : Turned S w w') (hS : ∀ k, k < w.heap.size → S k → (lab k).1 ≠ j) (hl : LabUp w lab lab') : Kind w' B lab' j H e z s := by
  refine ⟨h.held.turned ht fun k hk hs => hS k (h.held.lt k hk).2 hs (by rw [h.heldL k hk]), fun k hk => (hl k (h.held.lt k hk).2).trans (h.heldL k hk), fun x hx k hk => (hl k (h.vlt hx k hk).2).trans (h.vL x hx k hk), fun x hd hx => ?_, fun x hd hx => ?_⟩
  · obtain ⟨h1, h2⟩ := h.todo x hd hx
    exact ⟨h1.turned ht fun k hk hs => hS k (h1.lt k hk).2 hs (by rw [h.vL x hx k hk]), h2⟩
  · obtain ⟨h1, h2, h3⟩ := h.done x hd hx
    exact ⟨h1.turned ht fun k hk hs => hS k (h1.lt k hk).2 hs (by rw [h.vL x hx k hk]), h2.turned ht fun k hk hs => hS k (h2.lt k hk).2 hs (by rw [h3 k hk]), fun k hk => (hl k (h2.lt k hk).2).trans (h3 k hk)⟩
/-- One more list is kept. -/
def KS.add (s : KS) (sv l : Value) (n : Int) (rows : List (List Value)) : KS := { s with sv := sv, N := s.N + 1, V := upd s.V s.N l, L := upd s.L s.N (.slice none 0 0), num := upd s.num s.N n, R := upd s.R s.N rows }
theorem KS.add_rows (s : KS) (sv l : Value) (n : Int) (rows : List (List Value)) : (s.add sv l n rows).rows = s.rows ++ [[l, .slice none 0 0, .int .i64 n]] := by
  simp only [KS.rows, KS.add, List.range_succ, List.map_append, List.map_cons, List.map_nil, upd_same]
  congr 1
  apply List.map_congr_left
  intro x hx
  have hx := List.mem_range.1 hx
  rw [upd_ne _ _ (by omega), upd_ne _ _ (by omega), upd_ne _ _ (by omega)]
theorem Kind.add {S : Nat → Prop} {w w' : World} {B : Nat} {lab : Lab} {j : Nat} {H e : TypeId} {z : Nat} {s : KS} (h : Kind w B lab j H e z s) (h0 : s.d = 0) (ht : Turned S w w') (hS : ∀ k, k < w.heap.size → S k → lab k = (0, 1) ∨ lab k = (j, 0)) (hj : j ≠ 0)
    {sv' l : Value} {n : Int} {rows : List (List Value)} (ho : Own w' B H 3 sv' (s.rows ++ [[l, .slice none 0 0, .int .i64 n]])) (hv : sv'.ownBlock = s.sv.ownBlock ∨ ∃ k, sv'.ownBlock = some k ∧ w.heap.size ≤ k)
    (hl : Own w B e z l rows) (hll : ∀ k, l.ownBlock = some k → lab k = (j, s.N + 1)) (fresh : ∀ k, w.heap.size ≤ k → lab k = (0, 0)) :
    ∃ lab', LabUp w lab lab' ∧ (∀ k, w'.heap.size ≤ k → lab' k = (0, 0)) ∧ Kind w' B lab' j H e z (s.add sv' l n rows) := by
  have hne : ∀ k x, k < w.heap.size → lab k = (j, x + 1) → ¬ S k := by
    intro k x hk hx hs
    rcases hS k hk hs with h1 | h1 <;> rw [hx] at h1 <;> simp at h1
    exact hj h1.1
  refine ⟨fun k => if w.heap.size ≤ k ∧ sv'.ownBlock = some k then (j, 0) else lab k, ?_, ?_, ?_⟩
  · intro k hk
    have : ¬ w.heap.size ≤ k := by omega
    simp [this]
  · intro k hk
    have h1 : sv'.ownBlock ≠ some k := fun e => by have := (ho.lt k e).2; omega
    simp [h1, fresh k (Nat.le_trans ht.size hk)]
  · have hup : ∀ k, k < w.heap.size → (if w.heap.size ≤ k ∧ sv'.ownBlock = some k then (j, 0) else lab k) = lab k := by
      intro k hk
      have : ¬ w.heap.size ≤ k := by omega
      simp [this]
    refine ⟨by rw [KS.add_rows]; exact ho, ?_, ?_, ?_, ?_⟩
    · intro k hk
      change sv'.ownBlock = some k at hk
      by_cases hk' : w.heap.size ≤ k
      · simp [hk, hk']
      · rcases hv with hv | ⟨k', hv, h1⟩
        · simp only [hk', false_and, if_false]
          exact h.heldL k (hv ▸ hk)
        · rw [hv] at hk; cases hk; omega
    · intro x hx k hk
      change (upd s.V s.N l x).ownBlock = some k at hk
      change x < s.N + 1 at hx
      by_cases hn : x = s.N
      · subst hn
        rw [upd_same] at hk
        exact (hup k (hl.lt k hk).2).trans (hll k hk)
      · rw [upd_ne _ _ hn] at hk
        exact (hup k (h.vlt (by omega) k hk).2).trans (h.vL x (by omega) k hk)
    · intro x _ hx
      change x < s.N + 1 at hx
      change Own w' B e z (upd s.V s.N l x) (upd s.R s.N rows x) ∧ upd s.L s.N (.slice none 0 0) x = _
      by_cases hn : x = s.N
      · subst hn
        rw [upd_same, upd_same, upd_same]
        exact ⟨hl.turned ht fun k hk => hne k s.N (hl.lt k hk).2 (hll k hk), rfl⟩
      · rw [upd_ne _ _ hn, upd_ne _ _ hn, upd_ne _ _ hn]
        obtain ⟨h1, h2⟩ := h.todo x (by omega) (by omega)
        exact ⟨h1.turned ht fun k hk => hne k x (h1.lt k hk).2 (h.vL x (by omega) k hk), h2⟩
    · intro x hd _
      change x < s.d at hd
      omega
end Go.Proofs.YtdceechakocgfaaDoor
