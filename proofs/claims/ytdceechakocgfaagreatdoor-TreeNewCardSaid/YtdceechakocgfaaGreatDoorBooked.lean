/- The Book as it stands: bytes, entries and nodes may be held; what is kept in it. -/
import Derived.Test.YtdceechakocgfaaGreatDoorKeep
import Derived.Test.YtdceechakocgfaaGreatDoorPut
namespace Go.Proofs.YtdceechakocgfaaGreatDoor
open Go.RowKit
def bookV (n : Int) (a e m : Value) : Array Value := #[.int .i64 n, a, .slice none 0 0, .slice none 0 0, .slice none 0 0, .slice none 0 0, .slice none 0 0, .slice none 0 0, .slice none 0 0, e, m, .slice none 0 0, .slice none 0 0]
structure Neat (s : KS) (n : Int) : Prop where
  d : s.d = 0
  num : ∀ x, x < s.N → 0 ≤ s.num x ∧ s.num x ≤ n
  len : ∀ x, x < s.N → (s.R x).length ≤ 1000000
theorem Neat.mono {s : KS} {n n' : Int} (h : Neat s n) (hn : n ≤ n') : Neat s n' := ⟨h.d, fun x hx => ⟨(h.num x hx).1, by have := (h.num x hx).2; omega⟩, h.len⟩
theorem Neat.add {s : KS} {n : Int} (h : Neat s n) (h0 : 0 ≤ n) {sv l : Value} {rows : List (List Value)} (hr : rows.length ≤ 1000000) : Neat (s.add sv l n rows) n := by
  refine ⟨h.d, fun x hx => ?_, fun x hx => ?_⟩
  · change x < s.N + 1 at hx
    change 0 ≤ upd s.num s.N n x ∧ upd s.num s.N n x ≤ n
    by_cases hn : x = s.N
    · subst hn; rw [upd_same]; omega
    · rw [upd_ne _ _ hn]; exact h.num x (by omega)
  · change x < s.N + 1 at hx
    change (upd s.R s.N rows x).length ≤ 1000000
    by_cases hn : x = s.N
    · subst hn; rw [upd_same]; exact hr
    · rw [upd_ne _ _ hn]; exact h.len x (by omega)
theorem Neat.empty (n : Int) : Neat KS.empty n := ⟨rfl, fun x hx => absurd hx (by simp [KS.empty]), fun x hx => absurd hx (by simp [KS.empty])⟩
structure BookAt (w : World) (B : Nat) (lab : Lab) (bk : Nat) (n : Int) (a e m : KS) : Prop where
  box : w.heap[bk]? = some (.cells (bookV n a.sv e.sv m.sv) 35 (0, 0))
  own : lab bk = (0, 1)
  low : B ≤ bk
  fresh : ∀ k, w.heap.size ≤ k → lab k = (0, 0)
  kb : Kind w B lab 1 127 5 1 a
  ke : Kind w B lab 9 162 122 2 e
  kn : Kind w B lab 10 165 74 10 m
/-- So many bytes, entries and nodes are held. -/
def BookIs (w : World) (B : Nat) (lab : Lab) (bk : Nat) (n : Int) (nb ne nn : Nat) : Prop :=
  ∃ a e m, BookAt w B lab bk n a e m ∧ Neat a n ∧ Neat e n ∧ Neat m n ∧ a.N = nb ∧ e.N = ne ∧ m.N = nn
theorem BookAt.keep {w w' : World} {B : Nat} {lab : Lab} {bk : Nat} {n : Int} {a e m : KS} (h : BookAt w B lab bk n a e m) (hb : Below w.heap.size w w') : BookAt w' B lab bk n a e m :=
  ⟨(hb.block bk (Array.getElem?_eq_some_iff.1 h.box).1).trans h.box, h.own, h.low, fun k hk => h.fresh k (Nat.le_trans hb.size hk), h.kb.turned (turned_below (S := fun _ => False) hb) (fun _ _ h => h.elim) (LabUp.refl _ _), h.ke.turned (turned_below (S := fun _ => False) hb) (fun _ _ h => h.elim) (LabUp.refl _ _), h.kn.turned (turned_below (S := fun _ => False) hb) (fun _ _ h => h.elim) (LabUp.refl _ _)⟩
theorem BookIs.keep {w w' : World} {B : Nat} {lab : Lab} {bk : Nat} {n : Int} {nb ne nn : Nat} (h : BookIs w B lab bk n nb ne nn) (hb : Below w.heap.size w w') : BookIs w' B lab bk n nb ne nn := by
  obtain ⟨a, e, m, h1, h2⟩ := h
  exact ⟨a, e, m, h1.keep hb, h2⟩
/-- New labels for what was nobody's. -/
theorem BookIs.relabel {w : World} {B : Nat} {lab lab' : Lab} {bk : Nat} {n : Int} {nb ne nn : Nat} (h : BookIs w B lab bk n nb ne nn) (hl : ∀ k, lab k ≠ (0, 0) → lab' k = lab k) (hf : ∀ k, w.heap.size ≤ k → lab' k = (0, 0)) : BookIs w B lab' bk n nb ne nn := by
  obtain ⟨a, e, m, h1, h2⟩ := h
  have hk : ∀ {j : Nat} {H t : TypeId} {z : Nat} {s : KS}, j ≠ 0 → Kind w B lab j H t z s → Kind w B lab' j H t z s := by
    intro j H t z s hj h
    have hup : ∀ k x, lab k = (j, x) → lab' k = (j, x) := fun k x e => (hl k (by rw [e]; intro h; simp at h; exact hj h.1)).trans e
    exact ⟨h.held, fun k hk => hup k _ (h.heldL k hk), fun x hx k hk => hup k _ (h.vL x hx k hk), h.todo, fun x hd hx => ⟨(h.done x hd hx).1, (h.done x hd hx).2.1, fun k hk => hup k _ ((h.done x hd hx).2.2 k hk)⟩⟩
  exact ⟨a, e, m, ⟨h1.box, (hl bk (by rw [h1.own]; simp)).trans h1.own, h1.low, hf, hk (by decide) h1.kb, hk (by decide) h1.ke, hk (by decide) h1.kn⟩, h2⟩
/-- The book's box, and the lists of lists. -/
def Hd (p : Nat × Nat) : Prop := p = (0, 1) ∨ p.1 ≠ 0 ∧ p.2 = 0
/-- What a book's keeping leaves: the book, with more, and all else that is nobody's of it. -/
structure Kp (W w : World) (lab : Lab) (bk : Nat) (n : Int) (nb ne nn : Nat) (w' : World) : Prop where
  ex : ∃ lab', LabUp w lab lab' ∧ BookIs w' W.heap.size lab' bk n nb ne nn
  turned : Turned (fun k => Hd (lab k)) w w'
  below : Below W.heap.size W w'
theorem below_turned {S : Nat → Prop} {W w w' : World} {B : Nat} (h : Below B W w) (ht : Turned S w w') (hs : ∀ k, k < B → ¬ S k) (hB : B ≤ w.heap.size) : Below B W w' :=
  ⟨ht.os.trans h.os, ht.tape.trans h.tape, ht.output.trans h.output, Nat.le_trans h.size ht.size, fun k hk => (ht.block k (Nat.lt_of_lt_of_le hk hB) (hs k hk)).trans (h.block k hk)⟩
theorem Turned.monoLab {S T : Nat → Prop} {w w' : World} (h : Turned S w w') (hs : ∀ k, k < w.heap.size → S k → T k) : Turned T w w' :=
  ⟨h.os, h.tape, h.output, h.size, fun k hk hn => h.block k hk fun a => hn (hs k hk a)⟩
theorem keptByte (W w : World) (lab : Lab) (bk : Nat) (n : Int) (nb ne nn : Nat) (h : BookIs w W.heap.size lab bk n nb ne nn) (hW : Below W.heap.size W w) (hn : 0 ≤ n ∧ n ≤ 1000000) (hN : nb ≤ 1000000) (A : Option Addr) (m c : Nat) (rows : List (List Value)) (hl : Own w W.heap.size 5 1 (.slice A m c) rows) (hr : rows.length ≤ 1000000) (hll : ∀ k, (Value.slice A m c).ownBlock = some k → lab k = (1, nb + 1)) :
    Calls Tryz.prog 180 #[.pointer (some ⟨bk, 0, none⟩), .slice A m c] w fun e w' => e = .returned (.tuple #[]) ∧ Kp W w lab bk (n + 1) (nb + 1) ne nn w' := by
  obtain ⟨ka, ke, km, hb, ha1, he1, hm1, rfl, rfl, rfl⟩ := h
  refine (keepByte_calls W w bk (bookV n ka.sv ke.sv km.sv) n (by omega) ka.sv ka.rows A m c hb.box rfl rfl hb.low hb.kb.held (fun e => by have := hb.kb.heldL bk e; rw [hb.own] at this; simp at this) (by rw [KS.rows_length]; exact hN) hW).mono ?_
  rintro _ w' ⟨sv', ⟨rfl, hbox, hown⟩, hT, hv⟩
  have hSl : ∀ k, k < w.heap.size → (k = bk ∨ ka.sv.ownBlock = some k) → lab k = (0, 1) ∨ lab k = (1, 0) := by
    rintro k - (rfl | hk)
    · exact .inl hb.own
    · exact .inr (hb.kb.heldL k hk)
  have hj : ∀ {j : Nat}, j ≠ 0 → j ≠ 1 → ∀ k, k < w.heap.size → (k = bk ∨ ka.sv.ownBlock = some k) → (lab k).1 ≠ j := by
    intro j h0 h1 k hk hs e
    rcases hSl k hk hs with h2 | h2 <;> rw [h2] at e
    · exact h0 e.symm
    · exact h1 e.symm
  obtain ⟨lab', hup, hfr, hkind⟩ := hb.kb.add ha1.d hT hSl (by decide) hown hv hl hll hb.fresh
  have hlt := (Array.getElem?_eq_some_iff.1 hb.box).1
  refine ⟨rfl, ⟨lab', hup, ka.add sv' _ (n + 1) rows, ke, km, ⟨hbox, (hup bk hlt).trans hb.own, hb.low, hfr, hkind, hb.ke.turned hT (hj (by decide) (by decide)) hup, hb.kn.turned hT (hj (by decide) (by decide)) hup⟩, (ha1.mono (by omega)).add (by omega) hr, he1.mono (by omega), hm1.mono (by omega), rfl, rfl, rfl⟩, hT.monoLab fun k hk hs => (hSl k hk hs).imp id fun h => by rw [h]; exact ⟨by decide, rfl⟩, ?_⟩
  refine below_turned hW hT (fun k hk hs => ?_) hW.size
  rcases hs with rfl | hs
  · exact absurd hb.low (by omega)
  · exact absurd (hb.kb.held.lt k hs).1 (by omega)
theorem keptEntry (W w : World) (lab : Lab) (bk : Nat) (n : Int) (nb ne nn : Nat) (h : BookIs w W.heap.size lab bk n nb ne nn) (hW : Below W.heap.size W w) (hn : 0 ≤ n ∧ n ≤ 1000000) (hN : ne ≤ 1000000) (A : Option Addr) (m c : Nat) (rows : List (List Value)) (hl : Own w W.heap.size 122 2 (.slice A m c) rows) (hr : rows.length ≤ 1000000) (hll : ∀ k, (Value.slice A m c).ownBlock = some k → lab k = (9, ne + 1)) :
    Calls Tryz.prog 181 #[.pointer (some ⟨bk, 0, none⟩), .slice A m c] w fun e w' => e = .returned (.tuple #[]) ∧ Kp W w lab bk (n + 1) nb (ne + 1) nn w' := by
  obtain ⟨ka, ke, km, hb, ha1, he1, hm1, rfl, rfl, rfl⟩ := h
  refine (keepEntry_calls W w bk (bookV n ka.sv ke.sv km.sv) n (by omega) ke.sv ke.rows A m c hb.box rfl rfl hb.low hb.ke.held (fun e => by have := hb.ke.heldL bk e; rw [hb.own] at this; simp at this) (by rw [KS.rows_length]; exact hN) hW).mono ?_
  rintro _ w' ⟨sv', ⟨rfl, hbox, hown⟩, hT, hv⟩
  have hSl : ∀ k, k < w.heap.size → (k = bk ∨ ke.sv.ownBlock = some k) → lab k = (0, 1) ∨ lab k = (9, 0) := by
    rintro k - (rfl | hk)
    · exact .inl hb.own
    · exact .inr (hb.ke.heldL k hk)
  have hj : ∀ {j : Nat}, j ≠ 0 → j ≠ 9 → ∀ k, k < w.heap.size → (k = bk ∨ ke.sv.ownBlock = some k) → (lab k).1 ≠ j := by
    intro j h0 h1 k hk hs e
    rcases hSl k hk hs with h2 | h2 <;> rw [h2] at e
    · exact h0 e.symm
    · exact h1 e.symm
  obtain ⟨lab', hup, hfr, hkind⟩ := hb.ke.add he1.d hT hSl (by decide) hown hv hl hll hb.fresh
  have hlt := (Array.getElem?_eq_some_iff.1 hb.box).1
  refine ⟨rfl, ⟨lab', hup, ka, ke.add sv' _ (n + 1) rows, km, ⟨hbox, (hup bk hlt).trans hb.own, hb.low, hfr, hb.kb.turned hT (hj (by decide) (by decide)) hup, hkind, hb.kn.turned hT (hj (by decide) (by decide)) hup⟩, ha1.mono (by omega), (he1.mono (by omega)).add (by omega) hr, hm1.mono (by omega), rfl, rfl, rfl⟩, hT.monoLab fun k hk hs => (hSl k hk hs).imp id fun h => by rw [h]; exact ⟨by decide, rfl⟩, ?_⟩
  refine below_turned hW hT (fun k hk hs => ?_) hW.size
  rcases hs with rfl | hs
  · exact absurd hb.low (by omega)
  · exact absurd (hb.ke.held.lt k hs).1 (by omega)
theorem keptNode (W w : World) (lab : Lab) (bk : Nat) (n : Int) (nb ne nn : Nat) (h : BookIs w W.heap.size lab bk n nb ne nn) (hW : Below W.heap.size W w) (hn : 0 ≤ n ∧ n ≤ 1000000) (hN : nn ≤ 1000000) (A : Option Addr) (m c : Nat) (rows : List (List Value)) (hl : Own w W.heap.size 74 10 (.slice A m c) rows) (hr : rows.length ≤ 1000000) (hll : ∀ k, (Value.slice A m c).ownBlock = some k → lab k = (10, nn + 1)) :
    Calls Tryz.prog 103 #[.pointer (some ⟨bk, 0, none⟩), .slice A m c] w fun e w' => e = .returned (.tuple #[]) ∧ Kp W w lab bk (n + 1) nb ne (nn + 1) w' := by
  obtain ⟨ka, ke, km, hb, ha1, he1, hm1, rfl, rfl, rfl⟩ := h
  refine (keepNode_calls W w bk (bookV n ka.sv ke.sv km.sv) n (by omega) km.sv km.rows A m c hb.box rfl rfl hb.low hb.kn.held (fun e => by have := hb.kn.heldL bk e; rw [hb.own] at this; simp at this) (by rw [KS.rows_length]; exact hN) hW).mono ?_
  rintro _ w' ⟨sv', ⟨rfl, hbox, hown⟩, hT, hv⟩
  have hSl : ∀ k, k < w.heap.size → (k = bk ∨ km.sv.ownBlock = some k) → lab k = (0, 1) ∨ lab k = (10, 0) := by
    rintro k - (rfl | hk)
    · exact .inl hb.own
    · exact .inr (hb.kn.heldL k hk)
  have hj : ∀ {j : Nat}, j ≠ 0 → j ≠ 10 → ∀ k, k < w.heap.size → (k = bk ∨ km.sv.ownBlock = some k) → (lab k).1 ≠ j := by
    intro j h0 h1 k hk hs e
    rcases hSl k hk hs with h2 | h2 <;> rw [h2] at e
    · exact h0 e.symm
    · exact h1 e.symm
  obtain ⟨lab', hup, hfr, hkind⟩ := hb.kn.add hm1.d hT hSl (by decide) hown hv hl hll hb.fresh
  have hlt := (Array.getElem?_eq_some_iff.1 hb.box).1
  refine ⟨rfl, ⟨lab', hup, ka, ke, km.add sv' _ (n + 1) rows, ⟨hbox, (hup bk hlt).trans hb.own, hb.low, hfr, hb.kb.turned hT (hj (by decide) (by decide)) hup, hb.ke.turned hT (hj (by decide) (by decide)) hup, hkind⟩, ha1.mono (by omega), he1.mono (by omega), (hm1.mono (by omega)).add (by omega) hr, rfl, rfl, rfl⟩, hT.monoLab fun k hk hs => (hSl k hk hs).imp id fun h => by rw [h]; exact ⟨by decide, rfl⟩, ?_⟩
  refine below_turned hW hT (fun k hk hs => ?_) hW.size
  rcases hs with rfl | hs
  · exact absurd hb.low (by omega)
  · exact absurd (hb.kn.held.lt k hs).1 (by omega)
end Go.Proofs.YtdceechakocgfaaGreatDoor
