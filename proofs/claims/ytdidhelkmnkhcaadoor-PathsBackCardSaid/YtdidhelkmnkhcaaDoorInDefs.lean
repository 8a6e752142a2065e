/- paths.In: where a path leads. -/
import Derived.Test.YtdidhelkmnkhcaaDoorInPure
import Derived.Test.YtdidhelkmnkhcaaDoorSearch
import Derived.Test.YtdidhelkmnkhcaaDoorSmall
import Derived.Great.BuildSlice
import Derived.Laws.CopyOwn
import Derived.StillTailTactics
import Derived.Outline
namespace Go.Proofs.YtdidhelkmnkhcaaDoor
open Go.RowKit
attribute [local go_sem] Later.cell_eq
/-- What a walk along a path keeps. -/
structure InBase (w0 : World) (b b1 b2 : Nat) (t : TTree) (A : Option Addr) (c : Nat) (u g m d : Int) : Prop where
  t0 : w0.cell? ⟨b, 0, none⟩ = some (.slice A t.nodes.length c)
  t1 : w0.cell? ⟨b, 1, none⟩ = some (.int .i64 t.now)
  e0 : w0.cell? ⟨b1, 0, none⟩ = some (.int .i64 u)
  e1 : w0.cell? ⟨b1, 1, none⟩ = some (.int .i64 g)
  e2 : w0.cell? ⟨b1, 2, none⟩ = some (.int .i64 m)
  e3 : w0.cell? ⟨b1, 3, none⟩ = some (.int .i64 d)
  pl : w0.heap[b2]? = some (.cells noPlace.cells 55 (0, 0))
  nodes : NodesAt w0 A t.nodes
theorem InBase.keep {w0 w1 : World} {b b1 b2 : Nat} {t : TTree} {A : Option Addr} {c : Nat} {u g m d : Int} (h : InBase w0 b b1 b2 t A c u g m d) (hb : Below w0.heap.size w0 w1) : InBase w1 b b1 b2 t A c u g m d :=
  ⟨cell_keep hb h.t0, cell_keep hb h.t1, cell_keep hb h.e0, cell_keep hb h.e1, cell_keep hb h.e2, cell_keep hb h.e3, (hb.block _ (Array.getElem?_eq_some_iff.1 h.pl).1).trans h.pl, h.nodes.keep hb⟩
theorem InBase.grown {w0 w1 : World} {b b1 b2 bw : Nat} {t : TTree} {A : Option Addr} {c : Nat} {u g m d : Int} (h : InBase w0 b b1 b2 t A c u g m d) (hg : w0.grownBy w1 (some bw)) (n0 : b ≠ bw) (n1 : b1 ≠ bw) (n2 : b2 ≠ bw) {w : World} (hA : NodesAt w A t.nodes) (hb : Below w.heap.size w w0) (hbw : w.heap.size ≤ bw) : InBase w1 b b1 b2 t A c u g m d :=
  have k : ∀ {x : Nat}, x ≠ bw → some x ≠ some bw := fun n e => n (Option.some.inj e)
  ⟨hg.cell h.t0 (k n0), hg.cell h.t1 (k n0), hg.cell h.e0 (k n1), hg.cell h.e1 (k n1), hg.cell h.e2 (k n1), hg.cell h.e3 (k n1), (hg.block _ (Array.getElem?_eq_some_iff.1 h.pl).1 (k n2)).trans h.pl, hA.keep (hb.grown hg hb.size (fun k hk => by cases hk; exact hbw))⟩
theorem inBase_made (w : World) (t : TTree) (A : Option Addr) (c : Nat) (u g m d : Int) (hA : NodesAt w A t.nodes) :
    InBase ((((w.alloc (.cells #[.slice A t.nodes.length c, .int .i64 t.now] 24)).alloc (.cells #[.int .i64 u, .int .i64 g, .int .i64 m, .int .i64 d] 26)).alloc (.cells noPlace.cells 55)).alloc (.cells #[.int .i64 d, .slice none 0 0, .bool false, .int .i64 0] 112)) w.heap.size (w.heap.size + 1) (w.heap.size + 1 + 1) t A c u g m d := by
  refine ⟨by simp [go_sem], by simp [go_sem], by simp [go_sem], by simp [go_sem], by simp [go_sem], by simp [go_sem], heap_alloc_lt (heap_alloc_at (by simp) _) _, hA.keep (below_alloc (below_alloc (below_alloc (below_alloc (Below.refl _ _) _) _) _) _)⟩
theorem StrList.drew {w : World} {X : Nat} {v : Value} {l : List (List UInt8)} (h : StrList w X v l) : StrList w.drew X v l := h.keep (Below.refl _ _).drew
theorem tail_list (w : World) (bw b o o' N : Nat) (x : ByteArray) (xs : List ByteArray) (rest : List (List UInt8)) (u : Value) (hx : xs.map (·.data.toList) = rest) (hN : N = xs.length) (hbw : b ≠ bw) (hbl : b < w.heap.size)
    (hc : ∀ (k : Nat) (y : ByteArray), (x :: xs)[k]? = some y → w.cell? ⟨b, o + k, none⟩ = some (.string y)) (ho : o' = o + 1 ∨ xs.length = 0) :
    StrList (w.setCell ⟨bw, 1, none⟩ u) bw (.slice (some ⟨b, o', none⟩) N N) rest := by
  subst hN
  refine StrList.far ⟨xs, some ⟨b, o', none⟩, xs.length, rfl, Nat.le_refl _, fun h => (by cases h), hx, .inr ⟨b, o', rfl, hbw, hbl, fun k y hk => ?_⟩⟩ 1 u
  rcases ho with rfl | h
  · have := hc (k + 1) y (by simpa using hk)
    rwa [show o + (k + 1) = o + 1 + k by omega] at this
  · have := (List.getElem?_eq_some_iff.1 hk).1
    omega
theorem cond3 (k : Int) (rest : List (List UInt8)) (f d : Bool) : (k == 3 && (!rest.isEmpty || f || d)) = true ↔ (k = 3 ∧ (rest ≠ [] ∨ f = true ∨ d = true)) := by cases rest <;> cases f <;> cases d <;> simp
theorem cond1 (k : Int) (rest : List (List UInt8)) (d : Bool) : (rest.isEmpty && (k != 1 || !d)) = true ↔ rest = [] ∧ (k ≠ 1 ∨ d = false) := by cases rest <;> cases d <;> simp
/-- The loop of a function; what stands behind it. -/
def loopOf : Code → Option Code
  | .loop c => some c
  | .seq a b => match loopOf a with
    | some c => some c
    | none => loopOf b
  | .block _ c => loopOf c
  | .scope c => loopOf c
  | .cond _ a b => match loopOf a with
    | some c => some c
    | none => loopOf b
  | _ => none
def tailAt (n : Nat) : Code → Option Code
  | .seq a b => match a with
    | .region k _ _ => if k = n then some (.seq a b) else tailAt n b
    | _ => tailAt n b
  | .block _ c => tailAt n c
  | .scope c => tailAt n c
  | _ => none
noncomputable def inBody : Code := (Tryd.f45.body.bind loopOf).getD .skip
noncomputable def inTail : Code := (Tryd.f45.body.bind (tailAt 36)).getD .skip
end Go.Proofs.YtdidhelkmnkhcaaDoor
