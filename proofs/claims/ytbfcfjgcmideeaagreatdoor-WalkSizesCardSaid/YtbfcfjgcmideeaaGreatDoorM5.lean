/- Where a path leads: the plain part. -/
/- Where a path leads somebody: the plain part. -/
/- paths.In: where a path leads. -/
import Derived.Test.YtbfcfjgcmideeaaGreatDoorP1
import Derived.Test.YtbfcfjgcmideeaaGreatDoorPerms
import Derived.Test.YtbfcfjgcmideeaaGreatDoorM4
import Derived.Test.YtbfcfjgcmideeaaGreatDoorSearch
import Derived.Test.YtbfcfjgcmideeaaGreatDoorS2
import Derived.Great.BuildSlice
import Derived.Laws.CopyOwn
import Derived.StillTailTactics
import Derived.Outline
namespace Go.Proofs.YtbfcfjgcmideeaaGreatDoor
structure PlaceV where
  dir : Int
  name : List UInt8
  node : Int
  dirs : Bool
def noPlace : PlaceV := ⟨0, [], 0, false⟩
def PlaceV.cells (p : PlaceV) : Array Value := #[.int .i64 p.dir, .string ⟨p.name.toArray⟩, .int .i64 p.node, .bool p.dirs]
def PlaceV.val (p : PlaceV) : Value := .agg p.cells
def inGo (t : TTree) (u g : Int) (follow : Bool) : Nat → Int → List (List UInt8) → Bool → Nat → PlaceV × Int
  | 0, _, _, _, _ => (noPlace, 0)
  | _ + 1, a, [], dirs, _ => (⟨a, [], a, dirs⟩, 0)
  | f + 1, a, s :: rest, dirs, hops =>
    if mayB (t.at a) u g 1 = false then (noPlace, 10)
    else if 64 < s.length then (noPlace, 13)
    else if s = [46] then inGo t u g follow f a rest dirs hops
    else if s = [46, 46] then inGo t u g follow f (t.at a).parent rest dirs hops
    else if tIn t a ⟨s.toArray⟩ = 0 then (if rest = [] then (⟨a, s, 0, dirs⟩, 0) else (noPlace, 6))
    else if (t.at (tIn t a ⟨s.toArray⟩)).kind = 3 ∧ (rest ≠ [] ∨ follow = true ∨ dirs = true) then
      (if 16 < hops + 1 then (noPlace, 12)
      else inGo t u g follow f (if (t.at (tIn t a ⟨s.toArray⟩)).target.data.toList.head? = some 47 then 1 else a) (partsOf (t.at (tIn t a ⟨s.toArray⟩)).target.data.toList ++ rest) (dirs || rest.isEmpty && slashEnd (t.at (tIn t a ⟨s.toArray⟩)).target.data.toList) (hops + 1))
    else if rest = [] ∧ ((t.at (tIn t a ⟨s.toArray⟩)).kind ≠ 1 ∨ dirs = false) then (⟨a, s, tIn t a ⟨s.toArray⟩, dirs⟩, 0)
    else if (t.at (tIn t a ⟨s.toArray⟩)).kind ≠ 2 then (noPlace, 9)
    else inGo t u g follow f (tIn t a ⟨s.toArray⟩) rest dirs hops
def inS (t : TTree) (u g d : Int) (p : List UInt8) (follow : Bool) : PlaceV × Int :=
  if p = [] then (noPlace, 6)
  else if badS p = true then (noPlace, 13)
  else inGo t u g follow 20000 (if p.head? = some 47 then 1 else d) (partsOf p) (slashEnd p) 0
def DirAt (t : TTree) (a : Int) : Prop := 1 ≤ a ∧ a < t.nodes.length ∧ (t.at a).kind = 2
theorem dirAt_root {t : TTree} (h : TreeOK t) : DirAt t 1 := ⟨by omega, by have := h.head.two; omega, h.head.root⟩
theorem dirAt_parent {t : TTree} (h : TreeOK t) {a : Int} (ha : DirAt t a) : DirAt t (t.at a).parent := by
  by_cases h1 : a = 1
  · subst h1; rw [h.head.rootp]; exact dirAt_root h
  · obtain ⟨j, -, -, -, -, hu⟩ := upB_next (h.up ha.1 ha.2.1 ha.2.2) h1
    by_cases h2 : (t.at a).parent = 1
    · rw [h2]; exact dirAt_root h
    · obtain ⟨_, _, h3, h4, h5, _⟩ := upB_next hu h2
      exact ⟨by omega, h4, h5⟩
theorem inList_mem {l : List TEnt} {s : ByteArray} (h : inList l s ≠ 0) : ∃ e ∈ l, e.node = inList l s := by
  unfold inList at h ⊢
  cases hf : l.find? (fun e => sameB e.name s) with
  | none => rw [hf] at h; exact absurd rfl h
  | some e => exact ⟨e, List.mem_of_find?_eq_some hf, rfl⟩
theorem tIn_in {t : TTree} (h : TreeOK t) (a : Int) (s : ByteArray) : tIn t a s = 0 ∨ 2 ≤ tIn t a s ∧ tIn t a s < t.nodes.length := by
  by_cases h0 : tIn t a s = 0
  · exact .inl h0
  · unfold tIn at h0 ⊢
    by_cases hr : a < 1 ∨ (t.nodes.length : Int) ≤ a
    · rw [if_pos hr] at h0; exact absurd rfl h0
    · rw [if_neg hr] at h0 ⊢
      obtain ⟨e, he, h1⟩ := inList_mem h0
      obtain ⟨x, hx⟩ : ∃ x, t.nodes[a.toNat]? = some x := ⟨t.nodes[a.toNat]'(by omega), by simp⟩
      rw [at_eq hx] at he h1 ⊢
      obtain ⟨k, hk⟩ := List.mem_iff_getElem?.1 he
      have := h.lists _ x hx k e ((List.getElem?_eq_some_iff.1 hk).1) hk
      rw [← h1]
      exact .inr ⟨this.2.2.1, this.2.2.2.1⟩
theorem tIn_range {t : TTree} (h : TreeOK t) (a : Int) (s : ByteArray) : 0 ≤ tIn t a s ∧ tIn t a s < t.nodes.length := by
  have := h.head.two
  rcases tIn_in h a s with h | h <;> omega
theorem bytes_back (x : ByteArray) : (⟨x.data.toList.toArray⟩ : ByteArray) = x := by cases x; simp
theorem parts_len (p : ByteArray) : (partsOf p.data.toList).length ≤ p.size + 1 := by
  unfold partsOf
  refine Nat.le_trans (List.length_filter_le _ _) ?_
  have := count_le_size p
  rw [pieces_length]; omega
theorem link_bd {t : TTree} (h : TreeOK t) {n : Int} (h1 : 0 ≤ n) (h2 : n < t.nodes.length) (hk : (t.at n).kind = 3) : 0 < (t.at n).target.size ∧ (t.at n).target.size ≤ 1024 := by
  obtain ⟨x, hx⟩ : ∃ x, t.nodes[n.toNat]? = some x := ⟨t.nodes[n.toNat]'(by omega), by simp⟩
  rw [at_eq hx] at hk ⊢
  have := h.each x (List.mem_of_getElem? hx)
  unfold TNode.ok at this
  rw [Bool.and_eq_true] at this
  have h3 := this.2
  unfold TNode.byKind at h3
  rw [if_neg (by omega), if_neg (by omega), if_neg (by omega)] at h3
  have := of_decide_eq_true h3
  exact ⟨this.2.1, this.2.2.1⟩
end Go.Proofs.YtbfcfjgcmideeaaGreatDoor
namespace Go.Proofs.YtbfcfjgcmideeaaGreatDoor
noncomputable def findS (t : TTree) (u g m d : Int) (p : List UInt8) (follow : Bool) : PlaceV × Int := if permB t u g m d = true then inS t u g d p follow else (noPlace, 1)
theorem permB_dir {t : TTree} {u g m d : Int} (h : permB t u g m d = true) : TreeOK t ∧ DirAt t d := by
  unfold permB at h
  simp only [Bool.and_eq_true, decide_eq_true_eq, beq_iff_eq] at h
  exact ⟨TreeOK.of h.1, h.2.2.1.1, h.2.2.1.2, h.2.2.2⟩
end Go.Proofs.YtbfcfjgcmideeaaGreatDoor
namespace Go.Proofs.YtbfcfjgcmideeaaGreatDoor
open Go.RowKit
attribute [local go_sem] Later.cell_eq
/-- What a walk along a path keeps. -/
structure InBase (w0 : World) (b b1 b2 : Nat) (t : TTree) (A : Option Addr) (c : Nat) (u g m d : Int) : Prop where
  t0 : w0.cell? ⟨b, 0, none⟩ = some (.slice A t.nodes.length c)
  t1 : w0.cell? ⟨b, 1, none⟩ = some (.int .i64 t.now)
  e0 : w0.cell? ⟨b1, 0, none⟩ = some (.int .i64 u)
  e1 : w0.cell? ⟨b1, 1, none⟩ = some (.int .i64 g)
  e2 : w0.cell? ⟨b1, 2, none⟩ = some (.int .i64 m)
  e3 : w0.cell? ⟨b1, 3, none⟩ = some (.int .i64 d)
  pl : w0.heap[b2]? = some (.cells noPlace.cells 114 (0, 0))
  nodes : NodesAt w0 A t.nodes
theorem InBase.keep {w0 w1 : World} {b b1 b2 : Nat} {t : TTree} {A : Option Addr} {c : Nat} {u g m d : Int} (h : InBase w0 b b1 b2 t A c u g m d) (hb : Below w0.heap.size w0 w1) : InBase w1 b b1 b2 t A c u g m d :=
  ⟨cell_keep hb h.t0, cell_keep hb h.t1, cell_keep hb h.e0, cell_keep hb h.e1, cell_keep hb h.e2, cell_keep hb h.e3, (hb.block _ (Array.getElem?_eq_some_iff.1 h.pl).1).trans h.pl, h.nodes.keep hb⟩
theorem InBase.grown {w0 w1 : World} {b b1 b2 bw : Nat} {t : TTree} {A : Option Addr} {c : Nat} {u g m d : Int} (h : InBase w0 b b1 b2 t A c u g m d) (hg : w0.grownBy w1 (some bw)) (n0 : b ≠ bw) (n1 : b1 ≠ bw) (n2 : b2 ≠ bw) {w : World} (hA : NodesAt w A t.nodes) (hb : Below w.heap.size w w0) (hbw : w.heap.size ≤ bw) : InBase w1 b b1 b2 t A c u g m d :=
  have k : ∀ {x : Nat}, x ≠ bw → some x ≠ some bw := fun n e => n (Option.some.inj e)
  ⟨hg.cell h.t0 (k n0), hg.cell h.t1 (k n0), hg.cell h.e0 (k n1), hg.cell h.e1 (k n1), hg.cell h.e2 (k n1), hg.cell h.e3 (k n1), (hg.block _ (Array.getElem?_eq_some_iff.1 h.pl).1 (k n2)).trans h.pl, hA.keep (hb.grown hg hb.size (fun k hk => by cases hk; exact hbw))⟩
theorem inBase_made (w : World) (t : TTree) (A : Option Addr) (c : Nat) (u g m d : Int) (hA : NodesAt w A t.nodes) :
    InBase ((((w.alloc (.cells #[.slice A t.nodes.length c, .int .i64 t.now] 24)).alloc (.cells #[.int .i64 u, .int .i64 g, .int .i64 m, .int .i64 d] 26)).alloc (.cells noPlace.cells 114)).alloc (.cells #[.int .i64 d, .slice none 0 0, .bool false, .int .i64 0] 240)) w.heap.size (w.heap.size + 1) (w.heap.size + 1 + 1) t A c u g m d := by
  refine ⟨by simp [go_sem], by simp [go_sem], by simp [go_sem], by simp [go_sem], by simp [go_sem], by simp [go_sem], heap_alloc_lt (heap_alloc_at (by simp) _) _, hA.keep (below_alloc (below_alloc (below_alloc (below_alloc (Below.refl _ _) _) _) _) _)⟩
theorem StrList.drew {w : World} {X : Nat} {v : Value} {l : List (List UInt8)} (h : StrList w X v l) : StrList w.drew X v l := h.keep (Below.refl _ _).drew
theorem tail_list (w : World) (bw b o o' N : Nat) (x : ByteArray) (xs : List ByteArray) (rest : List (List UInt8)) (u : Value) (hx : xs.map (·.data.toList) = rest) (hN : N = xs.length) (hbw : b ≠ bw) (hbl : b < w.heap.size)
    (hc : ∀ (k : Nat) (y : ByteArray), (x :: xs)[k]? = some y → w.cell? ⟨b, o + k, none⟩ = some (.string y)) (ho : o' = o + 1 ∨ xs.length = 0) :
    StrList (w.setCell ⟨bw, 1, none⟩ u) bw (.slice (some ⟨b, o', none⟩) N N) rest := by
  subst hN
  refine StrList.far ⟨xs, some ⟨b, o', none⟩, xs.length, rfl, Nat.le_refl _, fun h => (by cases h), hx, .inr ⟨b, o', rfl, hbw, hbl, fun k y hk => ?_⟩⟩ 1 u
  rcases ho with rfl | h
  · have := hc (k + 1) y (by simpa using hk)
    rwa [show o + (k + 1) = o + 1 + k by omega] at this
  · have := (List.getElem?_eq_some_iff.1 hk).1
    omega
theorem cond3 (k : Int) (rest : List (List UInt8)) (f d : Bool) : (k == 3 && (!rest.isEmpty || f || d)) = true ↔ (k = 3 ∧ (rest ≠ [] ∨ f = true ∨ d = true)) := by cases rest <;> cases f <;> cases d <;> simp
theorem cond1 (k : Int) (rest : List (List UInt8)) (d : Bool) : (rest.isEmpty && (k != 1 || !d)) = true ↔ rest = [] ∧ (k ≠ 1 ∨ d = false) := by cases rest <;> cases d <;> simp
/-- The loop of a function; what stands behind it. -/
def loopOf : Code → Option Code
  | .loop c => some c
  | .seq a b => match loopOf a with
    | some c => some c
    | none => loopOf b
  | .block _ c => loopOf c
  | .scope c => loopOf c
  | .cond _ a b => match loopOf a with
    | some c => some c
    | none => loopOf b
  | _ => none
def tailAt (n : Nat) : Code → Option Code
  | .seq a b => match a with
    | .region k _ _ => if k = n then some (.seq a b) else tailAt n b
    | _ => tailAt n b
  | .block _ c => tailAt n c
  | .scope c => tailAt n c
  | _ => none
noncomputable def inBody : Code := (Tryz.f124.body.bind loopOf).getD .skip
noncomputable def inTail : Code := (Tryz.f124.body.bind (tailAt 36)).getD .skip
end Go.Proofs.YtbfcfjgcmideeaaGreatDoor
