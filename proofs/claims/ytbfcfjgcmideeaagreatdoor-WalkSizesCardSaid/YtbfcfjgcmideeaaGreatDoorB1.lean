/- A Book of held lists: what it holds, apart from one another; any program. -/
/- The Book: the lists of a kind, each with the room it is grown to; who a block belongs to is told by labels; any program. -/
/- A row of a slice that is owned is laid anew; any program. -/
/- The Book: a kind's lists are filled with marks, so far; any program. -/
/- The Book: a kind's lists are grown, so far; any program. -/
/- The Book: a kind's lists are grown: what the walk keeps; any program. -/
import Derived.Test.YtbfcfjgcmideeaaGreatDoorM2
import Derived.Deep.MidRow
namespace Go.Proofs.YtbfcfjgcmideeaaGreatDoor
open Go.RowKit
/-- Beyond the blocks S, what lay there stands. -/
structure Turned (S : Nat → Prop) (w w' : World) : Prop where
  os : w'.os = w.os
  tape : w'.tape = w.tape
  output : w'.output = w.output
  size : w.heap.size ≤ w'.heap.size
  block : ∀ k, k < w.heap.size → ¬ S k → w'.heap[k]? = w.heap[k]?
theorem Turned.refl (S : Nat → Prop) (w : World) : Turned S w w := ⟨rfl, rfl, rfl, Nat.le_refl _, fun _ _ _ => rfl⟩
theorem Turned.mono {S T : Nat → Prop} {w w' : World} (h : Turned S w w') (hs : ∀ k, S k → T k) : Turned T w w' :=
  ⟨h.os, h.tape, h.output, h.size, fun k hk hn => h.block k hk (fun a => hn (hs k a))⟩
theorem Turned.trans {S T : Nat → Prop} {w w1 w2 : World} (h : Turned S w w1) (h' : Turned T w1 w2) (ht : ∀ k, k < w.heap.size → T k → S k) : Turned S w w2 :=
  ⟨h'.os.trans h.os, h'.tape.trans h.tape, h'.output.trans h.output, Nat.le_trans h.size h'.size, fun k hk hn => (h'.block k (Nat.lt_of_lt_of_le hk h.size) (fun a => hn (ht k hk a))).trans (h.block k hk hn)⟩
theorem turned_grown {S : Nat → Prop} {w w' : World} {g : Option Nat} (h : w.grownBy w' g) (hs : ∀ k, g = some k → S k) : Turned S w w' :=
  ⟨h.os, h.tape, h.output, h.size, fun k hk hn => h.block k hk (fun e => hn (hs k e.symm))⟩
theorem turned_set {S : Nat → Prop} (w : World) (g o : Nat) (u : Value) (hs : S g) : Turned S w (w.setCell ⟨g, o, none⟩ u) :=
  ⟨rfl, rfl, rfl, Nat.le_of_eq (by simp [World.setCell]), fun k _ hn => Below.heap_setCell w _ u k (fun e => hn (by rw [e]; exact hs))⟩
theorem turned_below {S : Nat → Prop} {w w' : World} (h : Below w.heap.size w w') : Turned S w w' :=
  ⟨h.os, h.tape, h.output, h.size, fun k hk _ => h.block k hk⟩
theorem Own.turned {S : Nat → Prop} {w w' : World} {B : Nat} {e : TypeId} {size : Nat} {v : Value} {rows : List (List Value)} (h : Own w B e size v rows) (ht : Turned S w w') (hn : ∀ k, v.ownBlock = some k → ¬ S k) : Own w' B e size v rows := by
  refine ⟨?_, h.each⟩
  have hl := h.own.lt
  refine ⟨h.own.1, ?_⟩
  rcases h.own.2 with h' | ⟨g, cap, cur, h1, h2, h3, h4⟩
  · exact .inl h'
  · subst h1
    exact .inr ⟨g, cap, cur, rfl, h2, (ht.block g (hl g rfl).2 (hn g rfl)).trans h3, h4⟩
theorem own_slice_ {w : World} {B : Nat} {e : TypeId} {size : Nat} {v : Value} {rows : List (List Value)} (h : Own w B e size v rows) : ∃ A n c, v = .slice A n c := by
  rcases h.shape with ⟨h, -⟩ | ⟨g, c, h, -⟩
  · exact ⟨_, _, _, h⟩
  · exact ⟨_, _, _, h⟩
end Go.Proofs.YtbfcfjgcmideeaaGreatDoor
namespace Go.Proofs.YtbfcfjgcmideeaaGreatDoor
open Go.RowKit
/-- What is read of a list's rows, wherever else they lie. -/
def Rd (w : World) (B z : Nat) (v : Value) (rows : List (List Value)) : Prop :=
  (v = .slice none 0 0 ∧ rows = []) ∨ ∃ g c, v = .slice (some ⟨g, 0, none⟩) rows.length c ∧ rows.length ≤ maxLen ∧ B ≤ g ∧ g < w.heap.size ∧ ∀ i r, rows[i]? = some r → ∀ j u, r[j]? = some u → w.cell? ⟨g, 0 + i * z + j, none⟩ = some u
theorem Rd.lt {w : World} {B z : Nat} {v : Value} {rows : List (List Value)} (h : Rd w B z v rows) : ∀ k, v.ownBlock = some k → B ≤ k ∧ k < w.heap.size := by
  intro k hk
  rcases h with ⟨rfl, -⟩ | ⟨g, c, rfl, -, h1, h2, -⟩
  · simp [Value.ownBlock] at hk
  · simp [Value.ownBlock] at hk; subst hk; exact ⟨h1, h2⟩
theorem Own.rd {w : World} {B z : Nat} {e : TypeId} {v : Value} {rows : List (List Value)} (h : Own w B e z v rows) : Rd w B z v rows := by
  rcases h.shape with h1 | ⟨g, c, rfl, h1, h2, h3, h4⟩
  · exact .inl h1
  · exact .inr ⟨g, c, rfl, Nat.le_trans h1 h2, h3, h4, fun i r hi j u hj => h.cell hi hj⟩
theorem Rd.turned {S : Nat → Prop} {w w' : World} {B z : Nat} {v : Value} {rows : List (List Value)} (h : Rd w B z v rows) (ht : Turned S w w') (hn : ∀ k, v.ownBlock = some k → ¬ S k) : Rd w' B z v rows := by
  rcases h with h1 | ⟨g, c, rfl, h0, h1, h2, h3⟩
  · exact .inl h1
  · exact .inr ⟨g, c, rfl, h0, h1, Nat.lt_of_lt_of_le h2 ht.size, fun i r hi j u hj => (World.cell?_of_block (ht.block g h2 (hn g rfl))).trans (h3 i r hi j u hj)⟩
/-- A list, or what is left of one whose room was cut off. -/
def OwnX (w : World) (B : Nat) (e : TypeId) (z : Nat) (v : Value) (rows : List (List Value)) : Prop := Own w B e z v rows ∨ ∃ A C, v = .slice A rows.length rows.length ∧ Own w B e z (.slice A rows.length C) rows
theorem Own.x {w : World} {B : Nat} {e : TypeId} {z : Nat} {v : Value} {rows : List (List Value)} (h : Own w B e z v rows) : OwnX w B e z v rows := .inl h
theorem OwnX.base {w : World} {B : Nat} {e : TypeId} {z : Nat} {v : Value} {rows : List (List Value)} (h : OwnX w B e z v rows) : ∃ A c C, v = .slice A rows.length c ∧ Own w B e z (.slice A rows.length C) rows ∧ (c = C ∨ c = rows.length) ∧ rows.length ≤ c := by
  rcases h with h | ⟨A, C, rfl, h⟩
  · rcases h.shape with ⟨rfl, rfl⟩ | ⟨g, c, rfl, h1, -⟩
    · exact ⟨none, 0, 0, rfl, h, .inl rfl, Nat.le_refl _⟩
    · exact ⟨_, c, c, rfl, h, .inl rfl, h1⟩
  · exact ⟨A, _, C, rfl, h, .inr rfl, Nat.le_refl _⟩
theorem own_cap (A : Option Addr) (n c n' c' : Nat) : (Value.slice A n c).ownBlock = (Value.slice A n' c').ownBlock := by
  cases A <;> rfl
theorem OwnX.lt {w : World} {B : Nat} {e : TypeId} {z : Nat} {v : Value} {rows : List (List Value)} (h : OwnX w B e z v rows) : ∀ k, v.ownBlock = some k → B ≤ k ∧ k < w.heap.size := by
  obtain ⟨A, c, C, rfl, h, -⟩ := h.base
  exact fun k hk => h.lt k (by rw [own_cap A _ _ rows.length c]; exact hk)
theorem OwnX.turned {S : Nat → Prop} {w w' : World} {B : Nat} {e : TypeId} {z : Nat} {v : Value} {rows : List (List Value)} (h : OwnX w B e z v rows) (ht : Turned S w w') (hn : ∀ k, v.ownBlock = some k → ¬ S k) : OwnX w' B e z v rows := by
  rcases h with h | ⟨A, C, rfl, h⟩
  · exact .inl (h.turned ht hn)
  · exact .inr ⟨A, C, rfl, h.turned ht fun k hk => hn k (by rw [own_cap A _ _ rows.length C]; exact hk)⟩
theorem OwnX.keep {w w' : World} {B : Nat} {e : TypeId} {z : Nat} {v : Value} {rows : List (List Value)} (h : OwnX w B e z v rows) (hb : Below w.heap.size w w') : OwnX w' B e z v rows :=
  h.turned (turned_below (S := fun _ => False) hb) fun _ _ h => h
theorem OwnX.rd {w : World} {B : Nat} {e : TypeId} {z : Nat} {v : Value} {rows : List (List Value)} (h : OwnX w B e z v rows) : Rd w B z v rows := by
  rcases h with h | ⟨A, C, rfl, h⟩
  · exact h.rd
  · rcases h.rd with ⟨h1, h2⟩ | ⟨g, c, h1, h2⟩
    · simp only [Value.slice.injEq] at h1
      exact .inl ⟨by rw [h1.1, h1.2.1], h2⟩
    · simp only [Value.slice.injEq] at h1
      exact .inr ⟨g, rows.length, by rw [h1.1], h2⟩
theorem OwnX.len {w : World} {B : Nat} {e : TypeId} {z : Nat} {v : Value} {rows : List (List Value)} (h : OwnX w B e z v rows) : ∃ A c, v = .slice A rows.length c := by
  obtain ⟨A, c, C, rfl, -⟩ := h.base
  exact ⟨A, c, rfl⟩
/-- Who a block belongs to: (0, 0) nobody, (0, 1) the box, (j, 0) the list of kind j's lists, (j, i + 1) the list i of kind j. -/
abbrev Lab := Nat → Nat × Nat
def LabUp (w : World) (l l' : Lab) : Prop := ∀ k, k < w.heap.size → l' k = l k
theorem LabUp.refl (w : World) (l : Lab) : LabUp w l l := fun _ _ => rfl
theorem LabUp.trans {w w' : World} {a b c : Lab} (h : LabUp w a b) (h' : LabUp w' b c) (hs : w.heap.size ≤ w'.heap.size) : LabUp w a c := fun k hk => (h' k (Nat.lt_of_lt_of_le hk hs)).trans (h k hk)
def upd {α : Type} (f : Nat → α) (n : Nat) (a : α) : Nat → α := fun x => if x = n then a else f x
theorem upd_same {α : Type} (f : Nat → α) (n : Nat) (a : α) : upd f n a n = a := by simp [upd]
theorem upd_ne {α : Type} (f : Nat → α) {n x : Nat} (a : α) (h : x ≠ n) : upd f n a x = f x := by simp [upd, h]
/-- A kind's lists: the slice of them, how many, each one, what it is grown to, its number, its rows, the rows it is grown by, how many are grown. -/
structure KS where
  sv : Value
  N : Nat
  V : Nat → Value
  L : Nat → Value
  num : Nat → Int
  R : Nat → List (List Value)
  M : Nat → List (List Value)
  d : Nat
def KS.rows (s : KS) : List (List Value) := (List.range s.N).map fun x => [s.V x, s.L x, .int .i64 (s.num x)]
theorem KS.rows_length (s : KS) : s.rows.length = s.N := by simp [KS.rows]
theorem KS.rows_get (s : KS) {x : Nat} (h : x < s.N) : s.rows[x]? = some [s.V x, s.L x, .int .i64 (s.num x)] := by simp [KS.rows, h]
structure Kind (w : World) (B : Nat) (lab : Lab) (j : Nat) (H e : TypeId) (z : Nat) (s : KS) : Prop where
  held : Own w B H 3 s.sv s.rows
  heldL : ∀ k, s.sv.ownBlock = some k → lab k = (j, 0)
  vL : ∀ x, x < s.N → ∀ k, (s.V x).ownBlock = some k → lab k = (j, x + 1)
  todo : ∀ x, s.d ≤ x → x < s.N → OwnX w B e z (s.V x) (s.R x) ∧ s.L x = .slice none 0 0
  done : ∀ x, x < s.d → x < s.N → Rd w B z (s.V x) (s.R x) ∧ OwnX w B e z (s.L x) (s.R x ++ s.M x) ∧ ∀ k, (s.L x).ownBlock = some k → lab k = (j, x + 1)
def KS.empty : KS := ⟨.slice none 0 0, 0, fun _ => .slice none 0 0, fun _ => .slice none 0 0, fun _ => 0, fun _ => [], fun _ => [], 0⟩
theorem Kind.empty (w : World) (B : Nat) (lab : Lab) (j : Nat) (H e : TypeId) (z : Nat) : Kind w B lab j H e z KS.empty :=
  ⟨Own.nil _ _ _ _, by simp [KS.empty, Value.ownBlock], by simp [KS.empty], by simp [KS.empty], by simp [KS.empty]⟩
theorem Kind.vlt {w : World} {B : Nat} {lab : Lab} {j : Nat} {H e : TypeId} {z : Nat} {s : KS} (h : Kind w B lab j H e z s) {x : Nat} (hx : x < s.N) : ∀ k, (s.V x).ownBlock = some k → B ≤ k ∧ k < w.heap.size := by
  by_cases hd : s.d ≤ x
  · exact (h.todo x hd hx).1.lt
  · exact (h.done x (by omega) hx).1.lt
theorem Kind.turned {S : Nat → Prop} {w w' : World} {B : Nat} {lab lab' : Lab} {j : Nat} {H e : TypeId} {z : Nat} {s : KS} (h : Kind w B lab j H e z s) (ht : Turned S w w') (hS : ∀ k, k < w.heap.size → S k → (lab k).1 ≠ j) (hl : LabUp w lab lab') : Kind w' B lab' j H e z s := by
  refine ⟨h.held.turned ht fun k hk hs => hS k (h.held.lt k hk).2 hs (by rw [h.heldL k hk]), fun k hk => (hl k (h.held.lt k hk).2).trans (h.heldL k hk), fun x hx k hk => (hl k (h.vlt hx k hk).2).trans (h.vL x hx k hk), fun x hd hx => ?_, fun x hd hx => ?_⟩
  · obtain ⟨h1, h2⟩ := h.todo x hd hx
    exact ⟨h1.turned ht fun k hk hs => hS k (h1.lt k hk).2 hs (by rw [h.vL x hx k hk]), h2⟩
  · obtain ⟨h1, h2, h3⟩ := h.done x hd hx
    exact ⟨h1.turned ht fun k hk hs => hS k (h1.lt k hk).2 hs (by rw [h.vL x hx k hk]), h2.turned ht fun k hk hs => hS k (h2.lt k hk).2 hs (by rw [h3 k hk]), fun k hk => (hl k (h2.lt k hk).2).trans (h3 k hk)⟩
/-- One more list is kept. -/
def KS.add (s : KS) (sv l : Value) (n : Int) (rows : List (List Value)) : KS := { s with sv := sv, N := s.N + 1, V := upd s.V s.N l, L := upd s.L s.N (.slice none 0 0), num := upd s.num s.N n, R := upd s.R s.N rows }
theorem KS.add_rows (s : KS) (sv l : Value) (n : Int) (rows : List (List Value)) : (s.add sv l n rows).rows = s.rows ++ [[l, .slice none 0 0, .int .i64 n]] := by
  simp only [KS.rows, KS.add, List.range_succ, List.map_append, List.map_cons, List.map_nil, upd_same]
  congr 1
  apply List.map_congr_left
  intro x hx
  have hx := List.mem_range.1 hx
  rw [upd_ne _ _ (by omega), upd_ne _ _ (by omega), upd_ne _ _ (by omega)]
theorem Kind.add {S : Nat → Prop} {w w' : World} {B : Nat} {lab : Lab} {j : Nat} {H e : TypeId} {z : Nat} {s : KS} (h : Kind w B lab j H e z s) (h0 : s.d = 0) (ht : Turned S w w') (hS : ∀ k, k < w.heap.size → S k → lab k = (0, 1) ∨ lab k = (j, 0)) (hj : j ≠ 0)
    {sv' l : Value} {n : Int} {rows : List (List Value)} (ho : Own w' B H 3 sv' (s.rows ++ [[l, .slice none 0 0, .int .i64 n]])) (hv : sv'.ownBlock = s.sv.ownBlock ∨ ∃ k, sv'.ownBlock = some k ∧ w.heap.size ≤ k)
    (hl : OwnX w B e z l rows) (hll : ∀ k, l.ownBlock = some k → lab k = (j, s.N + 1)) (fresh : ∀ k, w.heap.size ≤ k → lab k = (0, 0)) :
    ∃ lab', LabUp w lab lab' ∧ (∀ k, w'.heap.size ≤ k → lab' k = (0, 0)) ∧ Kind w' B lab' j H e z (s.add sv' l n rows) := by
  have hne : ∀ k x, k < w.heap.size → lab k = (j, x + 1) → ¬ S k := by
    intro k x hk hx hs
    rcases hS k hk hs with h1 | h1 <;> rw [hx] at h1 <;> simp at h1
    exact hj h1.1
  refine ⟨fun k => if w.heap.size ≤ k ∧ sv'.ownBlock = some k then (j, 0) else lab k, ?_, ?_, ?_⟩
  · intro k hk
    have : ¬ w.heap.size ≤ k := by omega
    simp [this]
  · intro k hk
    have h1 : sv'.ownBlock ≠ some k := fun e => by have := (ho.lt k e).2; omega
    simp [h1, fresh k (Nat.le_trans ht.size hk)]
  · have hup : ∀ k, k < w.heap.size → (if w.heap.size ≤ k ∧ sv'.ownBlock = some k then (j, 0) else lab k) = lab k := by
      intro k hk
      have : ¬ w.heap.size ≤ k := by omega
      simp [this]
    refine ⟨by rw [KS.add_rows]; exact ho, ?_, ?_, ?_, ?_⟩
    · intro k hk
      change sv'.ownBlock = some k at hk
      by_cases hk' : w.heap.size ≤ k
      · simp [hk, hk']
      · rcases hv with hv | ⟨k', hv, h1⟩
        · simp only [hk', false_and, if_false]
          exact h.heldL k (hv ▸ hk)
        · rw [hv] at hk; cases hk; omega
    · intro x hx k hk
      change (upd s.V s.N l x).ownBlock = some k at hk
      change x < s.N + 1 at hx
      by_cases hn : x = s.N
      · subst hn
        rw [upd_same] at hk
        exact (hup k (hl.lt k hk).2).trans (hll k hk)
      · rw [upd_ne _ _ hn] at hk
        exact (hup k (h.vlt (by omega) k hk).2).trans (h.vL x (by omega) k hk)
    · intro x _ hx
      change x < s.N + 1 at hx
      change OwnX w' B e z (upd s.V s.N l x) (upd s.R s.N rows x) ∧ upd s.L s.N (.slice none 0 0) x = _
      by_cases hn : x = s.N
      · subst hn
        rw [upd_same, upd_same, upd_same]
        exact ⟨hl.turned ht fun k hk => hne k s.N (hl.lt k hk).2 (hll k hk), rfl⟩
      · rw [upd_ne _ _ hn, upd_ne _ _ hn, upd_ne _ _ hn]
        obtain ⟨h1, h2⟩ := h.todo x (by omega) (by omega)
        exact ⟨h1.turned ht fun k hk => hne k x (h1.lt k hk).2 (h.vL x (by omega) k hk), h2⟩
    · intro x hd _
      change x < s.d at hd
      omega
end Go.Proofs.YtbfcfjgcmideeaaGreatDoor
namespace Go.Proofs.YtbfcfjgcmideeaaGreatDoor
open Go.RowKit
def setsFrom : List Value → Nat → List Value → List Value
  | xs, _, [] => xs
  | xs, o, v :: r => setsFrom (xs.set o v) (o + 1) r
theorem setsFrom_eq : ∀ (vs xs : List Value) (o : Nat), o + vs.length ≤ xs.length → setsFrom xs o vs = xs.take o ++ vs ++ xs.drop (o + vs.length)
  | [], xs, o, _ => by simp [setsFrom]
  | v :: r, xs, o, h => by
    simp only [List.length_cons] at h
    have ho : o < xs.length := by omega
    have hm : min o xs.length = o := by omega
    rw [setsFrom, setsFrom_eq r (xs.set o v) (o + 1) (by simp; omega), List.set_eq_take_append_cons_drop, if_pos ho]
    have h1 : o + 1 - o = 1 := by omega
    have h2 : o + 1 + r.length - o = r.length + 1 := by omega
    simp [List.take_append, List.drop_append, List.drop_drop, hm, h1, h2]
    rw [List.drop_eq_nil_of_le (by simp; omega)]
    simp
    rw [List.take_of_length_le (by simp; omega), show o + (r.length + 1) = o + 1 + r.length by omega]
theorem sets_flatten : ∀ {rows : List (List Value)} {z k : Nat} {row : List Value}, (∀ r ∈ rows, r.length = z) → k < rows.length → row.length = z → setsFrom rows.flatten (k * z) row = (rows.set k row).flatten := by
  intro rows
  induction rows with
  | nil => intro z k row _ hk; simp at hk
  | cons a l ih =>
    intro z k row h hk hr
    have ha : a.length = z := h a (by simp)
    have hl : l.flatten.length = l.length * z := by
      have : ∀ {l : List (List Value)}, (∀ r ∈ l, r.length = z) → l.flatten.length = l.length * z := by
        intro l
        induction l with
        | nil => intro _; simp
        | cons b m ih => intro h; rw [List.flatten_cons, List.length_append, ih (fun r hr => h r (by simp [hr])), h b (by simp), List.length_cons, Nat.succ_mul]; omega
      exact this fun r hr => h r (by simp [hr])
    cases k with
    | zero =>
      rw [setsFrom_eq _ _ _ (by rw [List.flatten_cons, List.length_append]; omega)]
      simp [ha, hr]
    | succ k =>
      have hk' : k < l.length := by simpa using hk
      have h3 : (k + 1) * z ≤ l.length * z := Nat.mul_le_mul_right z hk'
      have h4 : (k + 1) * z = k * z + z := Nat.succ_mul k z
      have h2 := ih (z := z) (k := k) (row := row) (fun r hr => h r (by simp [hr])) hk' hr
      rw [setsFrom_eq _ _ _ (by rw [hl]; omega)] at h2
      rw [setsFrom_eq _ _ _ (by rw [List.flatten_cons, List.length_append, hl]; omega), List.set_cons_succ, List.flatten_cons, List.flatten_cons, ← h2]
      have h5 : (k + 1) * z - z = k * z := by omega
      have h6 : (k + 1) * z + z - z = k * z + z := by omega
      simp only [List.take_append, List.drop_append, ha, hr, h5, h6, List.append_assoc]
      rw [List.take_of_length_le (by omega), List.drop_eq_nil_of_le (by omega)]
      simp
theorem owns_sets {base : Nat} {e : TypeId} {size g n cap : Nat} : ∀ (vs : List Value) (o : Nat) {w : World} {xs : List Value}, w.ownsRow base e size (.slice (some ⟨g, 0, none⟩) n cap) n xs → (w.setCells g o vs).ownsRow base e size (.slice (some ⟨g, 0, none⟩) n cap) n (setsFrom xs o vs)
  | [], _, _, _, h => h
  | v :: r, o, _, _, h => owns_sets r (o + 1) (h.stored o v).1
theorem turned_cells {S : Nat → Prop} {g : Nat} (hs : S g) : ∀ (vs : List Value) (o : Nat) (w : World), Turned S w (w.setCells g o vs)
  | [], _, w => Turned.refl S w
  | v :: r, o, w => (turned_set w g o v hs).trans (turned_cells hs r (o + 1) _) fun _ _ h => h
theorem Own.put {w : World} {B : Nat} {e : TypeId} {z g c : Nat} {rows : List (List Value)} (h : Own w B e z (.slice (some ⟨g, 0, none⟩) rows.length c) rows) {k : Nat} (hk : k < rows.length) {row : List Value} (hr : row.length = z) :
    Own (w.setCells g (k * z) row) B e z (.slice (some ⟨g, 0, none⟩) rows.length c) (rows.set k row) := by
  refine ⟨?_, fun r hr' => ?_⟩
  · have := owns_sets row (k * z) h.own
    rw [sets_flatten h.each hk hr] at this
    rw [List.length_set]; exact this
  · rcases List.mem_or_eq_of_mem_set hr' with h1 | h1
    · exact h.each r h1
    · rw [h1]; exact hr
theorem OwnX.put {w : World} {B : Nat} {e : TypeId} {z g n c : Nat} {rows : List (List Value)} (h : OwnX w B e z (.slice (some ⟨g, 0, none⟩) n c) rows) (hn : n = rows.length) {k : Nat} (hk : k < rows.length) {row : List Value} (hr : row.length = z) :
    OwnX (w.setCells g (k * z) row) B e z (.slice (some ⟨g, 0, none⟩) n c) (rows.set k row) := by
  subst hn
  rcases h with h | ⟨A, C, h1, h⟩
  · exact .inl (h.put hk hr)
  · simp only [Value.slice.injEq] at h1
    obtain ⟨rfl, -, rfl⟩ := h1
    exact .inr ⟨_, C, by rw [List.length_set], by rw [List.length_set]; exact h.put hk hr⟩
/-- A row of one of a kind's lists. -/
theorem Kind.put {w : World} {B : Nat} {lab : Lab} {j : Nat} {H e : TypeId} {z : Nat} {s : KS} (h : Kind w B lab j H e z s) (h0 : s.d = 0) {i : Nat} (hi : i < s.N) {g n c : Nat} (hv : s.V i = .slice (some ⟨g, 0, none⟩) n c) {k : Nat} (hk : k < n) {row : List Value} (hr : row.length = z) :
    Kind (w.setCells g (k * z) row) B lab j H e z { s with R := upd s.R i ((s.R i).set k row) } ∧ Turned (fun b => lab b = (j, i + 1)) w (w.setCells g (k * z) row) := by
  obtain ⟨ho, hL⟩ := h.todo i (by omega) hi
  have hg : lab g = (j, i + 1) := h.vL i hi g (by rw [hv]; rfl)
  have hT : Turned (fun b => b = g) w (w.setCells g (k * z) row) := turned_cells (S := fun b => b = g) rfl row _ w
  have hn : n = (s.R i).length := by
    obtain ⟨A, c', h1⟩ := ho.len
    rw [hv] at h1; cases h1; rfl
  rw [hv] at ho
  refine ⟨⟨h.held.turned hT fun b hb e => ?_, h.heldL, h.vL, fun x hx hN => ?_, fun x hx => ?_⟩, hT.mono fun b hb => by rw [hb]; exact hg⟩
  · rw [e, ] at hb
    have := h.heldL g hb
    rw [hg] at this; simp at this
  · change OwnX _ B e z (s.V x) (upd s.R i _ x) ∧ _
    by_cases hxi : x = i
    · subst hxi
      rw [upd_same, hv]
      exact ⟨ho.put hn (by omega) hr, hL⟩
    · rw [upd_ne _ _ hxi]
      obtain ⟨h1, h2⟩ := h.todo x (by omega) hN
      refine ⟨h1.turned hT fun b hb e => ?_, h2⟩
      rw [e] at hb
      have := h.vL x hN g hb
      rw [hg] at this; simp at this; omega
  · change x < s.d at hx
    omega
theorem Kind.congr {w : World} {B : Nat} {lab : Lab} {j : Nat} {H e : TypeId} {z : Nat} {s : KS} {R' : Nat → List (List Value)} (h : Kind w B lab j H e z { s with R := R' }) (hR : ∀ x, x < s.N → R' x = s.R x) : Kind w B lab j H e z s := by
  refine ⟨h.held, h.heldL, h.vL, fun x hx hN => ?_, fun x hx hN => ?_⟩
  · have := h.todo x hx hN
    rwa [show ({ s with R := R' } : KS).R x = s.R x from hR x hN] at this
  · have := h.done x hx hN
    rwa [show ({ s with R := R' } : KS).R x = s.R x from hR x hN] at this
end Go.Proofs.YtbfcfjgcmideeaaGreatDoor
namespace Go.Proofs.YtbfcfjgcmideeaaGreatDoor
open Go.RowKit
theorem own_len {w : World} {B : Nat} {e : TypeId} {z : Nat} {v : Value} {rows : List (List Value)} (h : Own w B e z v rows) : ∃ A c, v = .slice A rows.length c := by
  rcases h.shape with ⟨h, h'⟩ | ⟨g, c, h, -⟩
  · exact ⟨none, 0, by rw [h, h']; rfl⟩
  · exact ⟨_, _, h⟩
theorem own_short {w : World} {B : Nat} {e : TypeId} {z : Nat} {v : Value} {rows : List (List Value)} (h : Own w B e z v rows) : rows.length ≤ maxLen := by
  rcases h.shape with ⟨-, h'⟩ | ⟨g, c, -, h, h', -⟩
  · rw [h']; exact Nat.zero_le _
  · exact Nat.le_trans h h'
theorem OwnX.short {w : World} {B : Nat} {e : TypeId} {z : Nat} {v : Value} {rows : List (List Value)} (h : OwnX w B e z v rows) : rows.length ≤ maxLen := by
  obtain ⟨A, c, C, -, ho, -⟩ := h.base
  exact own_short ho
/-- A list of what is held, cell by cell. -/
theorem Kind.head {w : World} {B : Nat} {lab : Lab} {j : Nat} {H e : TypeId} {z : Nat} {s : KS} (h : Kind w B lab j H e z s) {x : Nat} (hx : x < s.N) : ∃ g c, s.sv = .slice (some ⟨g, 0, none⟩) s.N c ∧ w.cell? ⟨g, x * 3, none⟩ = some (s.V x) ∧ w.cell? ⟨g, x * 3 + 1, none⟩ = some (s.L x) ∧ w.cell? ⟨g, x * 3 + 2, none⟩ = some (.int .i64 (s.num x)) := by
  rcases h.held.shape with ⟨h1, h2⟩ | ⟨g, c, h1, -⟩
  · have := s.rows_length; rw [h2] at this; simp at this; omega
  · rw [s.rows_length] at h1
    have ho := h.held
    rw [h1] at ho
    refine ⟨g, c, h1, ?_, ?_, ?_⟩
    · have := ho.cell (s.rows_get hx) (j := 0) rfl
      rwa [Nat.zero_add] at this
    · have := ho.cell (s.rows_get hx) (j := 1) rfl
      rwa [Nat.zero_add] at this
    · have := ho.cell (s.rows_get hx) (j := 2) rfl
      rwa [Nat.zero_add] at this
def FilR (s : KS) (mk : Int → List Value) (i k : Nat) (x : Nat) : List (List Value) := if x < i then List.replicate (s.R x).length (mk (s.num x)) else if x = i then List.replicate k (mk (s.num x)) ++ (s.R x).drop k else s.R x
structure Fil (w : World) (B : Nat) (lab : Lab) (j : Nat) (H e : TypeId) (z : Nat) (s : KS) (mk : Int → List Value) (i k : Nat) (wr : World) : Prop where
  turned : Turned (fun b => (lab b).1 = j ∧ (lab b).2 ≠ 0) w wr
  kind : ∃ R', Kind wr B lab j H e z { s with R := R' } ∧ ∀ x, x < s.N → R' x = FilR s mk i k x
theorem Fil.start {w : World} {B : Nat} {lab : Lab} {j : Nat} {H e : TypeId} {z : Nat} {s : KS} (mk : Int → List Value) (h : Kind w B lab j H e z s) : Fil w B lab j H e z s mk 0 0 w :=
  ⟨Turned.refl _ _, s.R, h, fun x _ => by unfold FilR; by_cases hx : x = 0 <;> simp [hx]⟩
theorem Fil.keep {w wr wr' : World} {B : Nat} {lab : Lab} {j : Nat} {H e : TypeId} {z : Nat} {s : KS} {mk : Int → List Value} {i k : Nat} (h : Fil w B lab j H e z s mk i k wr) (hb : Below wr.heap.size wr wr') : Fil w B lab j H e z s mk i k wr' := by
  obtain ⟨R', h1, h2⟩ := h.kind
  exact ⟨h.turned.trans (turned_below (S := fun _ => False) hb) (fun _ _ h => h.elim), R', h1.turned (turned_below (S := fun _ => False) hb) (fun _ _ h => h.elim) (LabUp.refl _ _), h2⟩
theorem Fil.book {w wr : World} {B : Nat} {lab : Lab} {j : Nat} {H e : TypeId} {z : Nat} {s : KS} {mk : Int → List Value} {i k : Nat} (h : Fil w B lab j H e z s mk i k wr) (hj : j ≠ 0) {bk : Nat} (hl : lab bk = (0, 1)) {o : Obj} (hb : w.heap[bk]? = some o) : wr.heap[bk]? = some o :=
  (h.turned.block bk (Array.getElem?_eq_some_iff.1 hb).1 (by rw [hl]; intro h; exact hj h.1.symm)).trans hb
theorem Fil.next {w wr : World} {B : Nat} {lab : Lab} {j : Nat} {H e : TypeId} {z : Nat} {s : KS} {mk : Int → List Value} {i : Nat} (h : Fil w B lab j H e z s mk i (s.R i).length wr) : Fil w B lab j H e z s mk (i + 1) 0 wr := by
  obtain ⟨R', h1, h2⟩ := h.kind
  refine ⟨h.turned, R', h1, fun x hx => (h2 x hx).trans ?_⟩
  unfold FilR
  by_cases h3 : x < i
  · rw [if_pos h3, if_pos (by omega)]
  · by_cases h4 : x = i
    · subst h4
      rw [if_neg h3, if_pos rfl, if_pos (by omega)]; simp
    · rw [if_neg h3, if_neg h4, if_neg (by omega)]
      by_cases h5 : x = i + 1
      · rw [if_pos h5]; simp
      · rw [if_neg h5]
theorem Fil.put {w wr : World} {B : Nat} {lab : Lab} {j : Nat} {H e : TypeId} {z : Nat} {s : KS} {mk : Int → List Value} {i k : Nat} (h : Fil w B lab j H e z s mk i k wr) (h0 : s.d = 0) (hi : i < s.N) {g n c : Nat} (hv : s.V i = .slice (some ⟨g, 0, none⟩) n c) (hk : k < n) (hz : (mk (s.num i)).length = z) :
    Fil w B lab j H e z s mk i (k + 1) (wr.setCells g (k * z) (mk (s.num i))) := by
  obtain ⟨R', h1, h2⟩ := h.kind
  have hR := h2 i hi
  obtain ⟨h3, h4⟩ := h1.put (i := i) h0 hi hv hk hz
  have hn : n = (R' i).length := by
    obtain ⟨A, c', h5⟩ := (h1.todo i (by rw [show ({ s with R := R' } : KS).d = 0 from h0]; omega) hi).1.len
    rw [show ({ s with R := R' } : KS).V i = s.V i from rfl, hv] at h5
    cases h5; rfl
  refine ⟨h.turned.trans h4 fun b _ hb => by rw [hb]; simp, _, h3, fun x hx => ?_⟩
  change upd R' i ((R' i).set k (mk (s.num i))) x = _
  by_cases h5 : x = i
  · subst h5
    rw [upd_same]
    rw [hR] at hn ⊢
    unfold FilR at hn ⊢
    rw [if_neg (by omega), if_pos rfl] at hn
    rw [if_neg (by omega), if_pos rfl, if_neg (by omega), if_pos rfl]
    simp at hn
    rw [List.set_append_right _ _ (by simp), List.length_replicate, Nat.sub_self, List.replicate_succ', List.append_assoc]
    congr 1
    have e := List.drop_eq_getElem_cons (l := s.R x) (i := k) (by omega)
    rw [e, List.set_cons_zero]
    rfl
  · rw [upd_ne _ _ h5, h2 x hx]
    unfold FilR
    rw [if_neg h5, if_neg h5]
theorem Fil.done {w wr : World} {B : Nat} {lab : Lab} {j : Nat} {H e : TypeId} {z : Nat} {s : KS} {mk : Int → List Value} (h : Fil w B lab j H e z s mk s.N 0 wr) : Kind wr B lab j H e z { s with R := fun x => List.replicate (s.R x).length (mk (s.num x)) } := by
  obtain ⟨R', h1, h2⟩ := h.kind
  refine Kind.congr (s := { s with R := fun x => List.replicate (s.R x).length (mk (s.num x)) }) (R' := R') h1 fun x hx => (h2 x hx).trans ?_
  unfold FilR
  rw [if_pos hx]
/-- What the walk reads of the list that it is at. -/
theorem Fil.at {w wr : World} {B : Nat} {lab : Lab} {j : Nat} {H e : TypeId} {z : Nat} {s : KS} {mk : Int → List Value} {i k : Nat} (h : Fil w B lab j H e z s mk i k wr) {x : Nat} (hx : x < s.N) : ∃ g c, s.sv = .slice (some ⟨g, 0, none⟩) s.N c ∧ wr.cell? ⟨g, x * 3, none⟩ = some (s.V x) ∧ wr.cell? ⟨g, x * 3 + 1, none⟩ = some (s.L x) ∧ wr.cell? ⟨g, x * 3 + 2, none⟩ = some (.int .i64 (s.num x)) := by
  obtain ⟨R', h1, -⟩ := h.kind
  exact h1.head hx
theorem Fil.there {w wr : World} {B : Nat} {lab : Lab} {j : Nat} {H e : TypeId} {z : Nat} {s : KS} {mk : Int → List Value} {i k : Nat} (h : Fil w B lab j H e z s mk i k wr) (h0 : s.d = 0) (hi : i < s.N) {g n c : Nat} (hv : s.V i = .slice (some ⟨g, 0, none⟩) n c) (hk : k < n) : wr.there g (k * z) z ∧ B ≤ g := by
  obtain ⟨R', h1, -⟩ := h.kind
  have ho0 := (h1.todo i (by rw [show ({ s with R := R' } : KS).d = 0 from h0]; omega) hi).1
  rw [show ({ s with R := R' } : KS).V i = s.V i from rfl, hv] at ho0
  obtain ⟨A, c', C, e1, ho, -⟩ := ho0.base
  simp only [Value.slice.injEq] at e1
  obtain ⟨rfl, hn, rfl⟩ := e1
  change n = (R' i).length at hn
  change Own wr B e z (.slice (some ⟨g, 0, none⟩) (R' i).length C) (R' i) at ho
  refine ⟨fun j' hj' => ?_, (ho.lt g rfl).1⟩
  subst hn
  have hlt : k * z + j' < (R' i).length * z := by
    have : (k + 1) * z ≤ (R' i).length * z := Nat.mul_le_mul_right z hk
    rw [Nat.succ_mul] at this; omega
  have hc := ho.own.cellAt (k * z + j') hlt
  have hlen : ((R' i).flatten).length = (R' i).length * z := ho.own.1
  refine ⟨?_, ho.own.frozenAt _⟩
  rw [hc]
  change ((R' i).flatten[k * z + j']?).isSome = true
  rw [List.getElem?_eq_getElem (by rw [hlen]; exact hlt)]
  rfl
theorem Fil.addr {w wr : World} {B : Nat} {lab : Lab} {j : Nat} {H e : TypeId} {z : Nat} {s : KS} {mk : Int → List Value} {i k : Nat} (h : Fil w B lab j H e z s mk i k wr) (h0 : s.d = 0) (hi : i < s.N) {A : Option Addr} {n c : Nat} (hv : s.V i = .slice A n c) (hk : k < n) : ∃ g, A = some ⟨g, 0, none⟩ := by
  obtain ⟨R', h1, -⟩ := h.kind
  have ho := (h1.todo i (by rw [show ({ s with R := R' } : KS).d = 0 from h0]; omega) hi).1
  rw [show ({ s with R := R' } : KS).V i = s.V i from rfl, hv] at ho
  rcases ho.rd with ⟨h2, -⟩ | ⟨g, c', h2, -⟩
  · cases h2; omega
  · cases h2; exact ⟨g, rfl⟩
theorem there_below {w w' : World} (h : Below w.heap.size w w') {b o n : Nat} (ht : w.there b o n) : w'.there b o n := fun j hj => by
  obtain ⟨h1, h2⟩ := ht j hj
  obtain ⟨v, hv⟩ := Option.isSome_iff_exists.1 h1
  exact ⟨by rw [cell_keep h hv]; rfl, (h.frozen (World.block_lt_of_cell? _ _ hv)).trans h2⟩
theorem there_one {w : World} {b o : Nat} (ht : w.there b (o * 1) 1) : (∃ old, w.cell? ⟨b, o, none⟩ = some old) ∧ w.frozen? ⟨b, o, none⟩ = false := by
  obtain ⟨h1, h2⟩ := ht 0 (by decide)
  rw [Nat.mul_one, Nat.add_zero] at h1 h2
  exact ⟨Option.isSome_iff_exists.1 h1, h2⟩
/-- A row that may be written, with what stands in the way kept from the walk's sight. -/
def RowFree (w : World) (g o n : Nat) : Prop := w.there g o n
end Go.Proofs.YtbfcfjgcmideeaaGreatDoor
namespace Go.Proofs.YtbfcfjgcmideeaaGreatDoor
open Go.RowKit
/-- 'append' lays the new ones behind the old ones, where there is room, or all of them anew, and nothing else. -/
theorem append_strong {P : Program} {w : World} {base : Nat} {t ty e : TypeId} {i : TypeInfo} {z : Value} {size bytes : Nat} (ht : P.underlying t = some (.slice e)) (hi : P.info? e = some i) (hz : i.zero = some z)
    (hsize : i.size = size) (hby : i.bytes = bytes) {v : Value} {n : Nat} {xs : List Value} (hown : w.ownsRow base e size v n xs)
    {a : Addr} {m c : Nat} {news : List Value} (hl : news.length = m * size) (hnews : ∀ j u, news[j]? = some u → w.cell? (a.add j) = some u) (h1 : ∀ u ∈ news, u.oneCell' = true)
    (h63 : n + m ≤ maxLen) (hbytes : (n + m) * bytes ≤ 140737488355328) (hm : 0 < m) {v' : Value} {w' : World} (hr : (Builtin.append_ #[t, t] ty #[v, .slice (some a) m c]).run P w = .ok v' w') :
    v'.ownBlock = v.ownBlock ∨ (v'.ownBlock = some w.heap.size ∧ w.grownBy w' none) := by
  subst hsize
  subst hby
  have hsmall : n + m ≤ 9223372036854775807 := by simp only [maxLen] at h63; omega
  rcases hown.2 with ⟨rfl, rfl⟩ | ⟨g, cap, cur, rfl, hbg, hg, hnc, hcm, hcs, htake⟩
  · have hr2 := run_append_nil (P := P) w t ty e i z ht hi hz a m c news hl hnews hm (by omega) (by have hb := hbytes; simp only [Nat.zero_add] at hb; omega)
    rw [hr2] at hr
    cases hr
    exact .inr ⟨rfl, ⟨rfl, rfl, rfl, by simp, fun k hk _ => heap_alloc_old w.drew _ hk⟩⟩
  · by_cases hroom : n + m ≤ cap
    · have hfit : n * i.size + news.length ≤ cur.size := by rw [hl, hcs, ← Nat.add_mul]; exact Nat.mul_le_mul_right _ hroom
      have hr2 := run_append_room (P := P) w t ty e i ht hi g n cap cur hg a m c news hl hnews h1 hroom hfit
      rw [hr2] at hr
      cases hr
      exact .inl rfl
    · have holds : ∀ j u, xs[j]? = some u → w.cell? ((⟨g, 0, none⟩ : Addr).add j) = some u := hown.cells (g := g) rfl
      have hr2 := run_append_grow (P := P) w t ty e i z ht hi hz ⟨g, 0, none⟩ n cap xs hown.1 holds a m c news hl hnews (by omega) (by omega) (growslice_fits (by omega) hbytes)
      rw [hr2] at hr
      cases hr
      exact .inr ⟨rfl, ⟨rfl, rfl, rfl, by simp, fun k hk _ => heap_alloc_old w.drew _ hk⟩⟩
/-- 'append' to a list whose room was cut off: all of it anew. -/
theorem append_cut {P : Program} {w : World} {base : Nat} {t ty e : TypeId} {i : TypeInfo} {z : Value} {size bytes : Nat} (ht : P.underlying t = some (.slice e)) (hi : P.info? e = some i) (hz : i.zero = some z)
    (hsize : i.size = size) (hby : i.bytes = bytes) (hzs : z.cells.size = size) {g n C : Nat} {rows : List (List Value)} (hn : n = rows.length) (hown : Own w base e size (.slice (some ⟨g, 0, none⟩) n C) rows) (hbase : base ≤ w.heap.size)
    {a : Addr} {c : Nat} {row : List Value} (hl : row.length = size) (hnews : ∀ j u, row[j]? = some u → w.cell? (a.add j) = some u) (h63 : n + 1 ≤ maxLen) (hbytes : (n + 1) * bytes ≤ 140737488355328) :
    ∃ v' w', (Builtin.append_ #[t, t] ty #[.slice (some ⟨g, 0, none⟩) n n, .slice (some a) 1 c]).run P w = .ok v' w' ∧ Own w' base e size v' (rows ++ [row]) ∧ w.grownBy w' none ∧ v'.ownBlock = some w.heap.size := by
  subst hsize
  subst hby
  subst hn
  have hl1 : row.length = 1 * i.size := by rw [hl, Nat.one_mul]
  have hlen : (rows.flatten ++ row).length = (rows.length + 1) * i.size := by rw [List.length_append, hown.own.1, hl, Nat.succ_mul]
  have holds : ∀ j u, rows.flatten[j]? = some u → w.cell? ((⟨g, 0, none⟩ : Addr).add j) = some u := hown.own.cells (g := g) rfl
  have hr := run_append_grow (P := P) w t ty e i z ht hi hz ⟨g, 0, none⟩ rows.length rows.length rows.flatten hown.own.1 holds a 1 c row hl1 hnews (by omega) (by simp only [maxLen] at h63; omega) (growslice_fits (by omega) hbytes)
  have hge := grownCap_ge w (rows.length + 1) rows.length e
  have hcm : grownCap w (rows.length + 1) rows.length e ≤ maxLen := grownCap_le_maxLen w (rows.length + 1) rows.length e h63
  refine ⟨_, _, hr, ⟨?_, fun r hr' => ?_⟩, ⟨rfl, rfl, rfl, by simp, fun k hk _ => heap_alloc_old w.drew _ hk⟩, rfl⟩
  · refine ⟨by rw [List.flatten_append, List.length_append]; simpa using hlen, .inr ⟨w.heap.size, _, _, by simp, hbase, heap_alloc_new w.drew _, ?_, hcm, ?_, ?_⟩⟩
    · rw [List.length_append]; exact hge
    · simp only [Array.size_append, List.size_toArray, size_zeroCells, hzs, hown.own.1, hl, ← Nat.add_mul, ← Nat.succ_mul]
      congr 1
      omega
    · simp only [Array.toList_append, List.append_assoc]
      rw [← List.append_assoc, show (rows ++ [row]).flatten = rows.flatten ++ row by simp, List.length_append, List.length_singleton, ← hlen]
      exact List.take_left
  · rcases List.mem_append.1 hr' with h | h
    · exact hown.each r h
    · rw [List.mem_singleton.1 h]; exact hl
theorem wpList_append_grow {P : Program} {ops : Array Oper} {rest : List Oper} {o : Oper} {a : Act} {Q : Exit → Act → World → Prop} (hgd : o.guard = none) (s x : Operand) (t : TypeId)
    (ho : o.op = .call { callee := .builtin .append, args := #[s, x], argTypes := #[t, t] }) {B : Nat} {w : World} {e e' : TypeId} {size bytes : Nat} (he : Elem P t e size bytes)
    {v : Value} {rows : List (List Value)} (n : Nat) (hn : rows.length = n) (row : List Value) (hs : a.eval s = v) (hown : OwnX w B e size v rows) (hB : B ≤ w.heap.size)
    (hx : a.eval x = .slice (some ⟨w.heap.size, 0, none⟩) 1 1) (hl : row.length = size) (h1 : ∀ u ∈ row, u.oneCell' = true) (hm : n + 1 ≤ maxLen) (hbytes : (n + 1) * bytes ≤ 140737488355328)
    (h : ∀ v' w', Own w' B e size v' (rows ++ [row]) → w.grownBy w' v.ownBlock → (v'.ownBlock = v.ownBlock ∨ ∃ k, v'.ownBlock = some k ∧ w.heap.size ≤ k ∧ w.grownBy w' none) → (∃ A c, v' = .slice A (n + 1) c) → wpList P ops Q rest (a.put o.dst v') w') :
    wpList P ops Q (o :: rest) a (w.alloc (.cells row.toArray e')) := by
  subst hn
  obtain ⟨i, z, ht, hi, hz, hsize, hby, hzs, hsz⟩ := he.ex
  have hnews : ∀ j u, row[j]? = some u → (w.alloc (.cells row.toArray e')).cell? ((⟨w.heap.size, 0, none⟩ : Addr).add j) = some u := by
    intro j u hj
    rw [show (⟨w.heap.size, 0, none⟩ : Addr).add j = ⟨w.heap.size, j, none⟩ by unfold Addr.add; split <;> simp_all, cell_of_row _ w.heap.size j _ _ _ (heap_alloc_new _ _)]
    simpa using hj
  have hl1 : row.length = 1 * size := by rw [hl, Nat.one_mul]
  have hcut : ∀ v' w', (Builtin.append_ #[t, t] o.type #[v, .slice (some ⟨w.heap.size, 0, none⟩) 1 1]).run P (w.alloc (.cells row.toArray e')) = .ok v' w' → Own w' B e size v' (rows ++ [row]) → (w.alloc (.cells row.toArray e')).grownBy w' v.ownBlock → (v'.ownBlock = v.ownBlock ∨ (v'.ownBlock = some (w.alloc (.cells row.toArray e')).heap.size ∧ (w.alloc (.cells row.toArray e')).grownBy w' none)) →
      wpList P ops Q (o :: rest) a (w.alloc (.cells row.toArray e')) := by
    intro v' w' hr hO h3 h6
    refine wpList_plain hgd fun K hK => ?_
    unfold Oper.wp execOp
    simp only [ho, resolve, invoke, builtin, Sem.run_bind, Sem.run_pure, Result.andThen_ok, List.map_toArray, List.map_cons, List.map_nil, hs, hx, hr]
    obtain ⟨A, c, hA⟩ := own_len hO
    refine hK _ _ (h v' w' hO (World.grownBy.trans (World.grownBy_alloc _ _ _) h3) ?_ ⟨A, c, by simpa using hA⟩)
    rcases h6 with h6 | ⟨h6, h7⟩
    · exact .inl h6
    · exact .inr ⟨_, h6, by simp, World.grownBy.trans (World.grownBy_alloc _ _ _) h7⟩
  have hplain : Own w B e size v rows → wpList P ops Q (o :: rest) a (w.alloc (.cells row.toArray e')) := fun hown => by
    obtain ⟨v', w', hr, h2, h3, h4, h5⟩ := run_append_own_at (P := P) (w.alloc (.cells row.toArray e')) B t o.type e i z size bytes ht hi hz hsize hby hzs hsz v rows.length rows.flatten (hown.own.alloc _) ⟨w.heap.size, 0, none⟩ 1 1 row hl1 hnews h1 hm hbytes (by simp; omega)
    have h6 := append_strong (P := P) ht hi hz hsize hby (hown.own.alloc (.cells row.toArray e')) hl1 hnews h1 hm hbytes (by decide) hr
    exact hcut v' w' hr ⟨by simpa using h2, fun r hr => by
      rcases List.mem_append.1 hr with h | h
      · exact hown.each r h
      · rw [List.mem_singleton.1 h]; exact hl⟩ h3 h6
  rcases hown with hown | ⟨A, C, rfl, hown⟩
  · exact hplain hown
  · rcases hown.shape with ⟨h1', h2'⟩ | ⟨g, c', h1', -⟩
    · simp only [Value.slice.injEq] at h1'
      obtain ⟨rfl, h3', rfl⟩ := h1'
      rw [h3'] at hplain hown
      exact hplain hown
    · simp only [Value.slice.injEq] at h1'
      obtain ⟨rfl, -, -⟩ := h1'
      obtain ⟨v', w', hr, hO, hg, hv⟩ := append_cut (P := P) (ty := o.type) ht hi hz hsize hby hzs rfl (hown.alloc (.cells row.toArray e')) (by simp; omega) (c := 1) hl hnews hm hbytes
      exact hcut v' w' hr hO ⟨hg.os, hg.tape, hg.output, hg.size, fun k hk _ => hg.block k hk (by simp)⟩ (.inr ⟨hv, hg⟩)
/-- A kind's lists, the one at d being grown: v is what it is grown to, by the rows more. -/
structure KMid (w : World) (B : Nat) (lab : Lab) (j : Nat) (H e : TypeId) (z : Nat) (s : KS) (v : Value) (more : List (List Value)) : Prop where
  held : Own w B H 3 s.sv s.rows
  heldL : ∀ k, s.sv.ownBlock = some k → lab k = (j, 0)
  vL : ∀ x, x < s.N → ∀ k, (s.V x).ownBlock = some k → lab k = (j, x + 1)
  todo : ∀ x, s.d < x → x < s.N → OwnX w B e z (s.V x) (s.R x) ∧ s.L x = .slice none 0 0
  done : ∀ x, x < s.d → x < s.N → Rd w B z (s.V x) (s.R x) ∧ OwnX w B e z (s.L x) (s.R x ++ s.M x) ∧ ∀ k, (s.L x).ownBlock = some k → lab k = (j, x + 1)
  lt : s.d < s.N
  rd : Rd w B z (s.V s.d) (s.R s.d)
  now : OwnX w B e z v (s.R s.d ++ more)
  nowL : ∀ k, v.ownBlock = some k → lab k = (j, s.d + 1)
theorem Kind.mid {w : World} {B : Nat} {lab : Lab} {j : Nat} {H e : TypeId} {z : Nat} {s : KS} (h : Kind w B lab j H e z s) (hd : s.d < s.N) : KMid w B lab j H e z s (s.V s.d) [] := by
  obtain ⟨h1, h2⟩ := h.todo s.d (Nat.le_refl _) hd
  exact ⟨h.held, h.heldL, h.vL, fun x hx hN => h.todo x (by omega) hN, h.done, hd, h1.rd, by rw [List.append_nil]; exact h1, h.vL _ hd⟩
theorem KMid.vlt {w : World} {B : Nat} {lab : Lab} {j : Nat} {H e : TypeId} {z : Nat} {s : KS} {v : Value} {more : List (List Value)} (h : KMid w B lab j H e z s v more) {x : Nat} (hx : x < s.N) : ∀ k, (s.V x).ownBlock = some k → B ≤ k ∧ k < w.heap.size := by
  by_cases hd : s.d < x
  · exact (h.todo x hd hx).1.lt
  · by_cases he : x = s.d
    · subst he; exact h.rd.lt
    · exact (h.done x (by omega) hx).1.lt
theorem KMid.turned {S : Nat → Prop} {w w' : World} {B : Nat} {lab lab' : Lab} {j : Nat} {H e : TypeId} {z : Nat} {s : KS} {v : Value} {more : List (List Value)} (h : KMid w B lab j H e z s v more) (ht : Turned S w w') (hS : ∀ k, k < w.heap.size → S k → (lab k).1 ≠ j) (hl : LabUp w lab lab') : KMid w' B lab' j H e z s v more := by
  refine ⟨h.held.turned ht fun k hk hs => hS k (h.held.lt k hk).2 hs (by rw [h.heldL k hk]), fun k hk => (hl k (h.held.lt k hk).2).trans (h.heldL k hk), fun x hx k hk => (hl k (h.vlt hx k hk).2).trans (h.vL x hx k hk), fun x hd hx => ?_, fun x hd hx => ?_, h.lt, h.rd.turned ht fun k hk hs => hS k (h.rd.lt k hk).2 hs (by rw [h.vL _ h.lt k hk]), h.now.turned ht fun k hk hs => hS k (h.now.lt k hk).2 hs (by rw [h.nowL k hk]), fun k hk => (hl k (h.now.lt k hk).2).trans (h.nowL k hk)⟩
  · obtain ⟨h1, h2⟩ := h.todo x hd hx
    exact ⟨h1.turned ht fun k hk hs => hS k (h1.lt k hk).2 hs (by rw [h.vL x hx k hk]), h2⟩
  · obtain ⟨h1, h2, h3⟩ := h.done x hd hx
    exact ⟨h1.turned ht fun k hk hs => hS k (h1.lt k hk).2 hs (by rw [h.vL x hx k hk]), h2.turned ht fun k hk hs => hS k (h2.lt k hk).2 hs (by rw [h3 k hk]), fun k hk => (hl k (h2.lt k hk).2).trans (h3 k hk)⟩
/-- One more is put behind. -/
theorem KMid.step {w w' : World} {B : Nat} {lab : Lab} {j : Nat} {H e : TypeId} {z : Nat} {s : KS} {v v' : Value} {more : List (List Value)} {row : List Value} (h : KMid w B lab j H e z s v more) (hO : Own w' B e z v' (s.R s.d ++ more ++ [row])) (hg : w.grownBy w' v.ownBlock)
    (hv : v'.ownBlock = v.ownBlock ∨ ∃ k, v'.ownBlock = some k ∧ w.heap.size ≤ k ∧ w.grownBy w' none) (fresh : ∀ k, w.heap.size ≤ k → lab k = (0, 0)) :
    ∃ lab', LabUp w lab lab' ∧ (∀ k, w'.heap.size ≤ k → lab' k = (0, 0)) ∧ KMid w' B lab' j H e z s v' (more ++ [row]) ∧ Turned (fun b => lab b = (j, s.d + 1)) w w' := by
  have hT : Turned (fun b => v.ownBlock = some b) w w' := turned_grown hg fun k hk => hk
  have hne : ∀ k x, lab k = (j, x) → x ≠ s.d + 1 → ¬ v.ownBlock = some k := by
    intro k x hx hn hk
    rw [h.nowL k hk] at hx
    simp at hx; omega
  have hup : ∀ k, k < w.heap.size → (if w.heap.size ≤ k ∧ v'.ownBlock = some k then (j, s.d + 1) else lab k) = lab k := by
    intro k hk
    have : ¬ w.heap.size ≤ k := by omega
    simp [this]
  refine ⟨fun k => if w.heap.size ≤ k ∧ v'.ownBlock = some k then (j, s.d + 1) else lab k, hup, ?_, ?_, hT.mono fun b hb => h.nowL b hb⟩
  · intro k hk
    have h1 : v'.ownBlock ≠ some k := fun e => by have := (hO.lt k e).2; omega
    simp [h1, fresh k (Nat.le_trans hg.size hk)]
  · refine ⟨h.held.turned hT fun k hk hs => hne k 0 (h.heldL k hk) (by omega) hs, fun k hk => (hup k (h.held.lt k hk).2).trans (h.heldL k hk), fun x hx k hk => (hup k (h.vlt hx k hk).2).trans (h.vL x hx k hk), fun x hd hx => ?_, fun x hd hx => ?_, h.lt, ?_, by rw [← List.append_assoc]; exact hO.x, fun k hk => ?_⟩
    · obtain ⟨h1, h2⟩ := h.todo x hd hx
      exact ⟨h1.turned hT fun k hk hs => hne k (x + 1) (h.vL x hx k hk) (by omega) hs, h2⟩
    · obtain ⟨h1, h2, h3⟩ := h.done x hd hx
      exact ⟨h1.turned hT fun k hk hs => hne k (x + 1) (h.vL x hx k hk) (by omega) hs, h2.turned hT fun k hk hs => hne k (x + 1) (h3 k hk) (by omega) hs, fun k hk => (hup k (h2.lt k hk).2).trans (h3 k hk)⟩
    · rcases hv with hv | ⟨k0, hv, hk0, hg0⟩
      · rcases h.rd with ⟨h1, h2⟩ | ⟨g, c, h1, h2, h3, h4, h5⟩
        · exact .inl ⟨h1, h2⟩
        · by_cases hgv : v.ownBlock = some g
          · have hlt := (hO.lt g (hv.trans hgv))
            refine .inr ⟨g, c, h1, h2, h3, hlt.2, fun i r hi jj u hu => ?_⟩
            rcases hO.shape with ⟨h6, h7⟩ | ⟨g', c', h6, -⟩
            · simp at h7
            · rw [h6] at hO hv
              have : g' = g := by
                have := hv.trans hgv
                simpa [Value.ownBlock] using this
              subst this
              refine hO.cell (i := i) ?_ hu
              rw [List.append_assoc, List.getElem?_append_left (List.getElem?_eq_some_iff.1 hi).1]; exact hi
          · exact Rd.turned (.inr ⟨g, c, h1, h2, h3, h4, h5⟩) hT fun k hk hs => by rw [h1] at hk; simp [Value.ownBlock] at hk; subst hk; exact hgv hs
      · exact h.rd.turned (turned_grown (S := fun _ => False) hg0 fun k hk => by cases hk) fun _ _ h => h
    · by_cases hk' : w.heap.size ≤ k
      · simp [hk, hk']
      · rcases hv with hv | ⟨k0, hv, hk0, hg0⟩
        · simp only [hk', false_and, if_false]
          exact h.nowL k (hv ▸ hk)
        · rw [hv] at hk; cases hk; omega
theorem set_same {α : Type} : ∀ {l : List α} {i : Nat} {a : α}, l[i]? = some a → l.set i a = l
  | [], _, _, _ => rfl
  | x :: l, 0, a, h => by simp at h; simp [h]
  | x :: l, i + 1, a, h => by simp at h; simp [set_same h]
/-- What it is grown to is laid into its place. -/
theorem KMid.put {w : World} {B : Nat} {lab : Lab} {j : Nat} {H e : TypeId} {z : Nat} {s : KS} {v : Value} {more : List (List Value)} (h : KMid w B lab j H e z s v more) {gs n c : Nat} (hsv : s.sv = .slice (some ⟨gs, 0, none⟩) n c) :
    Kind (w.setCell ⟨gs, s.d * 3 + 1, none⟩ v) B lab j H e z { s with L := upd s.L s.d v, M := upd s.M s.d more, d := s.d + 1 } ∧ Turned (fun b => lab b = (j, 0)) w (w.setCell ⟨gs, s.d * 3 + 1, none⟩ v) := by
  have hgl : lab gs = (j, 0) := h.heldL gs (by rw [hsv]; rfl)
  have hT : Turned (fun b => b = gs) w (w.setCell ⟨gs, s.d * 3 + 1, none⟩ v) := turned_set w gs _ v rfl
  have hne : ∀ k x, lab k = (j, x + 1) → ¬ k = gs := by
    intro k x hx e
    rw [e, hgl] at hx; simp at hx
  refine ⟨⟨?_, h.heldL, h.vL, fun x hd hx => ?_, fun x hd hx => ?_⟩, hT.mono fun b hb => by rw [hb]; exact hgl⟩
  · have ho := h.held
    have hrl := s.rows_length
    obtain ⟨A, c', h1⟩ := own_len ho
    rw [hsv] at h1
    cases h1
    have hrow := s.rows_get h.lt
    rw [hsv] at ho
    have h2 := owns_sets [v] (s.d * 3 + 1) ho.own
    have h3 := sets_flatten (z := 3) (k := s.d) (row := [s.V s.d, v, .int .i64 (s.num s.d)]) ho.each (by rw [hrl]; exact h.lt) rfl
    simp only [setsFrom] at h2 h3
    rw [set_same (i := s.d * 3) (by simpa using flatten_get ho.each hrow (j := 0) rfl)] at h3
    rw [set_same (i := s.d * 3 + 1 + 1) (by
      rw [List.getElem?_set_ne (by omega)]
      simpa using flatten_get ho.each hrow (j := 2) rfl)] at h3
    rw [h3] at h2
    have h4 : ({ s with L := upd s.L s.d v, M := upd s.M s.d more, d := s.d + 1 } : KS).rows = s.rows.set s.d [s.V s.d, v, .int .i64 (s.num s.d)] := by
      apply List.ext_getElem?
      intro x
      by_cases hx : x = s.d
      · subst hx
        have hg := ({ s with L := upd s.L s.d v, M := upd s.M s.d more, d := s.d + 1 } : KS).rows_get (x := s.d) h.lt
        rw [List.getElem?_set_self (by rw [hrl]; exact h.lt), hg]
        change some [s.V s.d, upd s.L s.d v s.d, .int .i64 (s.num s.d)] = _
        rw [upd_same]
      · rw [List.getElem?_set_ne (fun e => hx e.symm)]
        by_cases hN : x < s.N
        · have hg := ({ s with L := upd s.L s.d v, M := upd s.M s.d more, d := s.d + 1 } : KS).rows_get (x := x) hN
          rw [s.rows_get hN, hg]
          change some [s.V x, upd s.L s.d v x, .int .i64 (s.num x)] = _
          rw [upd_ne _ _ hx]
        · rw [List.getElem?_eq_none (by rw [KS.rows_length]; exact Nat.le_of_not_lt hN), List.getElem?_eq_none (by rw [hrl]; exact Nat.le_of_not_lt hN)]
    rw [h4, show ({ s with L := upd s.L s.d v, M := upd s.M s.d more, d := s.d + 1 } : KS).sv = s.sv from rfl, hsv]
    refine ⟨by rw [List.length_set]; exact h2, fun r hr => ?_⟩
    rcases List.mem_or_eq_of_mem_set hr with h5 | h5
    · exact ho.each r h5
    · rw [h5]; rfl
  · change s.d + 1 ≤ x at hd
    obtain ⟨h1, h2⟩ := h.todo x (by omega) hx
    refine ⟨h1.turned hT fun k hk hs => hne k x (h.vL x hx k hk) hs, ?_⟩
    change upd s.L s.d v x = _
    rw [upd_ne _ _ (by omega)]; exact h2
  · change x < s.d + 1 at hd
    change Rd _ B z (s.V x) (s.R x) ∧ OwnX _ B e z (upd s.L s.d v x) (s.R x ++ upd s.M s.d more x) ∧ ∀ k, (upd s.L s.d v x).ownBlock = some k → lab k = (j, x + 1)
    by_cases hxd : x = s.d
    · subst hxd
      rw [upd_same, upd_same]
      exact ⟨h.rd.turned hT fun k hk hs => hne k _ (h.vL _ h.lt k hk) hs, h.now.turned hT fun k hk hs => hne k _ (h.nowL k hk) hs, h.nowL⟩
    · rw [upd_ne _ _ hxd, upd_ne _ _ hxd]
      obtain ⟨h1, h2, h3⟩ := h.done x (by omega) hx
      exact ⟨h1.turned hT fun k hk hs => hne k x (h.vL x hx k hk) hs, h2.turned hT fun k hk hs => hne k x (h3 k hk) hs, h3⟩
end Go.Proofs.YtbfcfjgcmideeaaGreatDoor
namespace Go.Proofs.YtbfcfjgcmideeaaGreatDoor
open Go.RowKit
/-- The lists below d are grown. -/
structure Gro (w : World) (B : Nat) (lab : Lab) (j : Nat) (H e : TypeId) (z : Nat) (s : KS) (mk : Int → List Value) (d : Nat) (wr : World) : Prop where
  turned : Turned (fun b => (lab b).1 = j) w wr
  ex : ∃ (lab' : Lab) (L' : Nat → Value) (M' : Nat → List (List Value)), LabUp w lab lab' ∧ (∀ k, wr.heap.size ≤ k → lab' k = (0, 0)) ∧ Kind wr B lab' j H e z { s with L := L', M := M', d := d } ∧ ∀ x, x < d → M' x = List.replicate 40 (mk (s.num x))
/-- The list at d is being grown, k more so far; a block hb aside stands. -/
structure GroIn (w : World) (B : Nat) (lab : Lab) (j : Nat) (H e : TypeId) (z : Nat) (s : KS) (mk : Int → List Value) (d k : Nat) (v : Value) (hb : Nat) (o : Obj) (wr : World) : Prop where
  turned : Turned (fun b => (lab b).1 = j) w wr
  ex : ∃ (lab' : Lab) (L' : Nat → Value) (M' : Nat → List (List Value)), LabUp w lab lab' ∧ (∀ k, wr.heap.size ≤ k → lab' k = (0, 0)) ∧ KMid wr B lab' j H e z { s with L := L', M := M', d := d } v (List.replicate k (mk (s.num d))) ∧ (∀ x, x < d → M' x = List.replicate 40 (mk (s.num x))) ∧ lab' hb = (0, 0) ∧ wr.heap[hb]? = some o
section
variable {w wr wr' : World} {B : Nat} {lab : Lab} {j : Nat} {H e : TypeId} {z : Nat} {s : KS} {mk : Int → List Value} {d k : Nat} {v : Value} {hb : Nat} {o : Obj}
theorem Gro.start (mk : Int → List Value) (h : Kind w B lab j H e z s) (h0 : s.d = 0) (fresh : ∀ k, w.heap.size ≤ k → lab k = (0, 0)) : Gro w B lab j H e z s mk 0 w := by
  refine ⟨Turned.refl _ _, lab, s.L, s.M, LabUp.refl _ _, fresh, ?_, fun x hx => absurd hx (by omega)⟩
  cases s
  simp only at h0
  subst h0
  exact h
theorem Gro.keep (h : Gro w B lab j H e z s mk d wr) (hb : Below wr.heap.size wr wr') : Gro w B lab j H e z s mk d wr' := by
  obtain ⟨lab', L', M', h1, h2, h3, h4⟩ := h.ex
  exact ⟨h.turned.trans (turned_below (S := fun _ => False) hb) (fun _ _ h => h.elim), lab', L', M', h1, fun k hk => h2 k (Nat.le_trans hb.size hk), h3.turned (turned_below (S := fun _ => False) hb) (fun _ _ h => h.elim) (LabUp.refl _ _), h4⟩
theorem GroIn.keep (h : GroIn w B lab j H e z s mk d k v hb o wr) (hbl : Below wr.heap.size wr wr') : GroIn w B lab j H e z s mk d k v hb o wr' := by
  obtain ⟨lab', L', M', h1, h2, h3, h4, h5, h6⟩ := h.ex
  exact ⟨h.turned.trans (turned_below (S := fun _ => False) hbl) (fun _ _ h => h.elim), lab', L', M', h1, fun k hk => h2 k (Nat.le_trans hbl.size hk), h3.turned (turned_below (S := fun _ => False) hbl) (fun _ _ h => h.elim) (LabUp.refl _ _), h4, h5, (hbl.block hb (Array.getElem?_eq_some_iff.1 h6).1).trans h6⟩
theorem turned_book {S : Nat → Prop} (h : Turned S w wr) {bk : Nat} (hn : ¬ S bk) {o : Obj} (hb : w.heap[bk]? = some o) : wr.heap[bk]? = some o :=
  (h.block bk (Array.getElem?_eq_some_iff.1 hb).1 hn).trans hb
theorem Gro.head (h : Gro w B lab j H e z s mk d wr) {x : Nat} (hx : x < s.N) : ∃ g c l, s.sv = .slice (some ⟨g, 0, none⟩) s.N c ∧ wr.cell? ⟨g, x * 3, none⟩ = some (s.V x) ∧ wr.cell? ⟨g, x * 3 + 1, none⟩ = some l ∧ wr.cell? ⟨g, x * 3 + 2, none⟩ = some (.int .i64 (s.num x)) ∧ (d ≤ x → l = .slice none 0 0) := by
  obtain ⟨lab', L', M', h1, h2, h3, h4⟩ := h.ex
  obtain ⟨g, c, e1, e2, e3, e4⟩ := h3.head hx
  exact ⟨g, c, _, e1, e2, e3, e4, fun hd => (h3.todo x hd hx).2⟩
theorem Gro.into (h : Gro w B lab j H e z s mk d wr) (hd : d < s.N) (o : Obj) : GroIn w B lab j H e z s mk d 0 (s.V d) wr.heap.size o (wr.alloc o) := by
  obtain ⟨lab', L', M', h1, h2, h3, h4⟩ := h.ex
  have hB := below_alloc (Below.refl wr.heap.size wr) o
  exact ⟨h.turned.trans (turned_below (S := fun _ => False) hB) (fun _ _ h => h.elim), lab', L', M', h1, fun k hk => h2 k (Nat.le_trans hB.size hk), (h3.mid hd).turned (turned_below (S := fun _ => False) hB) (fun _ _ h => h.elim) (LabUp.refl _ _), h4, h2 _ (Nat.le_refl _), heap_alloc_new wr o⟩
theorem GroIn.own (h : GroIn w B lab j H e z s mk d k v hb o wr) : OwnX wr B e z v (s.R d ++ List.replicate k (mk (s.num d))) := by
  obtain ⟨lab', L', M', h1, h2, h3, h4⟩ := h.ex
  exact h3.now
theorem GroIn.box (h : GroIn w B lab j H e z s mk d k v hb o wr) : wr.heap[hb]? = some o := by
  obtain ⟨lab', L', M', h1, h2, h3, h4, h5, h6⟩ := h.ex
  exact h6
theorem GroIn.step {v' : Value} (h : GroIn w B lab j H e z s mk d k v hb o wr) (hO : Own wr' B e z v' (s.R d ++ List.replicate k (mk (s.num d)) ++ [mk (s.num d)])) (hg : wr.grownBy wr' v.ownBlock)
    (hv : v'.ownBlock = v.ownBlock ∨ ∃ k, v'.ownBlock = some k ∧ wr.heap.size ≤ k ∧ wr.grownBy wr' none) : GroIn w B lab j H e z s mk d (k + 1) v' hb o wr' := by
  obtain ⟨lab', L', M', h1, h2, h3, h4, h5, h6⟩ := h.ex
  obtain ⟨lab2, e1, e2, e3, e4⟩ := h3.step hO hg hv h2
  have hlt := (Array.getElem?_eq_some_iff.1 h6).1
  refine ⟨h.turned.trans e4 fun b hb hx => ?_, lab2, L', M', h1.trans e1 h.turned.size, e2, by rw [List.replicate_succ']; exact e3, h4, (e1 hb hlt).trans h5, turned_book e4 (by rw [h5]; simp) h6⟩
  rw [h1 b hb] at hx
  rw [hx]
theorem GroIn.head (h : GroIn w B lab j H e z s mk d k v hb o wr) : ∃ g c l, s.sv = .slice (some ⟨g, 0, none⟩) s.N c ∧ wr.cell? ⟨g, d * 3 + 1, none⟩ = some l ∧ wr.frozen? ⟨g, d * 3 + 1, none⟩ = false := by
  obtain ⟨lab', L', M', h1, h2, h3, h4⟩ := h.ex
  have hd : d < s.N := h3.lt
  rcases h3.held.shape with ⟨e1, e2⟩ | ⟨g, c, e1, -⟩
  · have := KS.rows_length { s with L := L', M := M', d := d }
    rw [e2] at this; simp at this; omega
  · have ho := h3.held
    rw [e1] at ho
    have h7 := ho.own.frozenAt (d * 3 + 1)
    have h8 := ho.cell (KS.rows_get { s with L := L', M := M', d := d } hd) (j := 1) rfl
    rw [Nat.zero_add] at h8
    rw [KS.rows_length] at e1
    exact ⟨g, c, _, e1, h8, h7⟩
theorem GroIn.out (h : GroIn w B lab j H e z s mk d 40 v hb o wr) {gs n c : Nat} (hsv : s.sv = .slice (some ⟨gs, 0, none⟩) n c) : Gro w B lab j H e z s mk (d + 1) (wr.setCell ⟨gs, d * 3 + 1, none⟩ v) := by
  obtain ⟨lab', L', M', h1, h2, h3, h4, h5, h6⟩ := h.ex
  obtain ⟨e1, e2⟩ := h3.put hsv
  refine ⟨h.turned.trans e2 fun b hb hx => ?_, lab', upd L' d v, upd M' d (List.replicate 40 (mk (s.num d))), h1, fun k hk => h2 k (by simpa [World.setCell] using hk), e1, fun x hx => ?_⟩
  · rw [h1 b hb] at hx
    rw [hx]
  · by_cases hxd : x = d
    · subst hxd; rw [upd_same]
    · rw [upd_ne _ _ hxd]; exact h4 x (by omega)
end
end Go.Proofs.YtbfcfjgcmideeaaGreatDoor
