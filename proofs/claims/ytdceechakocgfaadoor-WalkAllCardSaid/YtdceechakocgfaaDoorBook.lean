/- A Book of held lists: what it holds, apart from one another; any program. -/
import Derived.Test.YtdceechakocgfaaDoorM2
namespace Go.Proofs.YtdceechakocgfaaDoor
open Go.RowKit
/-- Beyond the blocks S, what lay there stands. -/
structure Turned (S : Nat → Prop) (w w' : World) : Prop where
  os : w'.os = w.os
  tape : w'.tape = w.tape
  output : w'.output = w.output
  size : w.heap.size ≤ w'.heap.size
  block : ∀ k, k < w.heap.size → ¬ S k → w'.heap[k]? = w.heap[k]?
theorem Turned.refl (S : Nat → Prop) (w : World) : Turned S w w := ⟨rfl, rfl, rfl, Nat.le_refl _, fun _ _ _ => rfl⟩
theorem Turned.mono {S T : Nat → Prop} {w w' : World} (h : Turned S w w') (hs : ∀ k, S k → T k) : Turned T w w' :=
  ⟨h.os, h.tape, h.output, h.size, fun k hk hn => h.block k hk (fun a => hn (hs k a))⟩
theorem Turned.trans {S T : Nat → Prop} {w w1 w2 : World} (h : Turned S w w1) (h' : Turned T w1 w2) (ht : ∀ k, k < w.heap.size → T k → S k) : Turned S w w2 :=
  ⟨h'.os.trans h.os, h'.tape.trans h.tape, h'.output.trans h.output, Nat.le_trans h.size h'.size, fun k hk hn => (h'.block k (Nat.lt_of_lt_of_le hk h.size) (fun a => hn (ht k hk a))).trans (h.block k hk hn)⟩
theorem turned_grown {S : Nat → Prop} {w w' : World} {g : Option Nat} (h : w.grownBy w' g) (hs : ∀ k, g = some k → S k) : Turned S w w' :=
  ⟨h.os, h.tape, h.output, h.size, fun k hk hn => h.block k hk (fun e => hn (hs k e.symm))⟩
theorem turned_set {S : Nat → Prop} (w : World) (g o : Nat) (u : Value) (hs : S g) : Turned S w (w.setCell ⟨g, o, none⟩ u) :=
  ⟨rfl, rfl, rfl, Nat.le_of_eq (by simp [World.setCell]), fun k _ hn => Below.heap_setCell w _ u k (fun e => hn (by rw [e]; exact hs))⟩
theorem turned_below {S : Nat → Prop} {w w' : World} (h : Below w.heap.size w w') : Turned S w w' :=
  ⟨h.os, h.tape, h.output, h.size, fun k hk _ => h.block k hk⟩
theorem Own.turned {S : Nat → Prop} {w w' : World} {B : Nat} {e : TypeId} {size : Nat} {v : Value} {rows : List (List Value)} (h : Own w B e size v rows) (ht : Turned S w w') (hn : ∀ k, v.ownBlock = some k → ¬ S k) : Own w' B e size v rows := by
  refine ⟨?_, h.each⟩
  have hl := h.own.lt
  refine ⟨h.own.1, ?_⟩
  rcases h.own.2 with h' | ⟨g, cap, cur, h1, h2, h3, h4⟩
  · exact .inl h'
  · subst h1
    exact .inr ⟨g, cap, cur, rfl, h2, (ht.block g (hl g rfl).2 (hn g rfl)).trans h3, h4⟩
theorem own_slice_ {w : World} {B : Nat} {e : TypeId} {size : Nat} {v : Value} {rows : List (List Value)} (h : Own w B e size v rows) : ∃ A n c, v = .slice A n c := by
  rcases h.shape with ⟨h, -⟩ | ⟨g, c, h, -⟩
  · exact ⟨_, _, _, h⟩
  · exact ⟨_, _, _, h⟩
end Go.Proofs.YtdceechakocgfaaDoor
