/- The Book as it stands, whatever six kinds of lists it holds; what is kept in it. -/
/- The Book: a tree is kept. -/
/- A tree in memory of its own: its nodes' slice, each node's two lists, whose blocks are told apart by labels; a copy is one; a Book keeps it. -/
import Derived.Test.YtbfcfjgcmideeaaGreatDoorK1
import Derived.Test.YtbfcfjgcmideeaaGreatDoorB1
import Derived.Test.YtbfcfjgcmideeaaGreatDoorM6
namespace Go.Proofs.YtbfcfjgcmideeaaGreatDoor
open Go.RowKit
/-- The kinds that may be held: bytes, ints, texts, entries, nodes, steps. -/
def live (j : Nat) : Prop := j = 1 ∨ j = 2 ∨ j = 3 ∨ j = 9 ∨ j = 10 ∨ j = 12
def kH : Nat → TypeId
  | 1 => 181
  | 2 => 184
  | 3 => 179
  | 9 => 214
  | 10 => 217
  | 12 => 177
  | _ => 0
def kE : Nat → TypeId
  | 1 => 5
  | 2 => 3
  | 3 => 9
  | 9 => 162
  | 10 => 80
  | 12 => 111
  | _ => 0
def kZ : Nat → Nat
  | 1 => 1
  | 2 => 1
  | 3 => 1
  | 9 => 2
  | 10 => 10
  | 12 => 4
  | _ => 0
def bookV (n : Int) (f : Nat → Value) : Array Value := #[.int .i64 n, f 1, f 2, f 3, f 4, f 5, f 6, f 7, f 8, f 9, f 10, f 11, f 12]
theorem bookV_set (n m : Int) (f : Nat → Value) (v : Value) : ∀ {j : Nat}, live j → ((bookV n f).setIfInBounds 0 (.int .i64 m)).setIfInBounds j v = bookV m (upd f j v) := by
  rintro j (rfl | rfl | rfl | rfl | rfl | rfl) <;> rfl
structure Neat (s : KS) (n : Int) : Prop where
  d : s.d = 0
  num : ∀ x, x < s.N → 0 ≤ s.num x ∧ s.num x ≤ n
  len : ∀ x, x < s.N → (s.R x).length ≤ 1000000
theorem Neat.mono {s : KS} {n n' : Int} (h : Neat s n) (hn : n ≤ n') : Neat s n' := ⟨h.d, fun x hx => ⟨(h.num x hx).1, by have := (h.num x hx).2; omega⟩, h.len⟩
theorem Neat.add {s : KS} {n : Int} (h : Neat s n) (h0 : 0 ≤ n) {sv l : Value} {rows : List (List Value)} (hr : rows.length ≤ 1000000) : Neat (s.add sv l n rows) n := by
  refine ⟨h.d, fun x hx => ?_, fun x hx => ?_⟩
  · change x < s.N + 1 at hx
    change 0 ≤ upd s.num s.N n x ∧ upd s.num s.N n x ≤ n
    by_cases hn : x = s.N
    · subst hn; rw [upd_same]; omega
    · rw [upd_ne _ _ hn]; exact h.num x (by omega)
  · change x < s.N + 1 at hx
    change (upd s.R s.N rows x).length ≤ 1000000
    by_cases hn : x = s.N
    · subst hn; rw [upd_same]; exact hr
    · rw [upd_ne _ _ hn]; exact h.len x (by omega)
theorem Neat.empty (n : Int) : Neat KS.empty n := ⟨rfl, fun x hx => absurd hx (by simp [KS.empty]), fun x hx => absurd hx (by simp [KS.empty])⟩
structure BookAt (w : World) (B : Nat) (lab : Lab) (bk : Nat) (n : Int) (K : Nat → KS) : Prop where
  box : w.heap[bk]? = some (.cells (bookV n fun j => (K j).sv) 53 (0, 0))
  own : lab bk = (0, 1)
  low : B ≤ bk
  fresh : ∀ k, w.heap.size ≤ k → lab k = (0, 0)
  k : ∀ j, Kind w B lab j (kH j) (kE j) (kZ j) (K j)
  dead : ∀ j, ¬ live j → K j = KS.empty
/-- So many lists of each kind are held. -/
def BookIs (w : World) (B : Nat) (lab : Lab) (bk : Nat) (n : Int) (C : Nat → Nat) : Prop :=
  ∃ K, BookAt w B lab bk n K ∧ (∀ j, Neat (K j) n) ∧ (∀ j, (K j).N = C j) ∧ ∀ j, (C j : Int) ≤ n
theorem BookAt.keep {w w' : World} {B : Nat} {lab : Lab} {bk : Nat} {n : Int} {K : Nat → KS} (h : BookAt w B lab bk n K) (hb : Below w.heap.size w w') : BookAt w' B lab bk n K :=
  ⟨(hb.block bk (Array.getElem?_eq_some_iff.1 h.box).1).trans h.box, h.own, h.low, fun k hk => h.fresh k (Nat.le_trans hb.size hk), fun j => (h.k j).turned (turned_below (S := fun _ => False) hb) (fun _ _ h => h.elim) (LabUp.refl _ _), h.dead⟩
theorem BookIs.keep {w w' : World} {B : Nat} {lab : Lab} {bk : Nat} {n : Int} {C : Nat → Nat} (h : BookIs w B lab bk n C) (hb : Below w.heap.size w w') : BookIs w' B lab bk n C := by
  obtain ⟨K, h1, h2⟩ := h
  exact ⟨K, h1.keep hb, h2⟩
theorem BookIs.fresh {w : World} {B : Nat} {lab : Lab} {bk : Nat} {n : Int} {C : Nat → Nat} (h : BookIs w B lab bk n C) : ∀ k, w.heap.size ≤ k → lab k = (0, 0) := by
  obtain ⟨K, h1, h2⟩ := h
  exact h1.fresh
theorem BookIs.le {w : World} {B : Nat} {lab : Lab} {bk : Nat} {n : Int} {C : Nat → Nat} (h : BookIs w B lab bk n C) (j : Nat) : (C j : Int) ≤ n := by
  obtain ⟨K, -, -, -, h4⟩ := h
  exact h4 j
/-- A new book: its box, and labels for what is to be held. -/
theorem BookIs.start {w : World} {B : Nat} {lab : Lab} {bk : Nat} (hbox : w.heap[bk]? = some (.cells #[.int .i64 0, .slice none 0 0, .slice none 0 0, .slice none 0 0, .slice none 0 0, .slice none 0 0, .slice none 0 0, .slice none 0 0, .slice none 0 0, .slice none 0 0, .slice none 0 0, .slice none 0 0, .slice none 0 0] 53 (0, 0)))
    (hown : lab bk = (0, 1)) (hlow : B ≤ bk) (hfresh : ∀ k, w.heap.size ≤ k → lab k = (0, 0)) : BookIs w B lab bk 0 fun _ => 0 :=
  ⟨fun _ => KS.empty, ⟨hbox, hown, hlow, hfresh, fun _ => Kind.empty _ _ _ _ _ _ _, fun _ _ => rfl⟩, fun _ => Neat.empty _, fun _ => rfl, fun _ => by simp⟩
/-- The book's box, and the lists of lists. -/
def Hd (p : Nat × Nat) : Prop := p = (0, 1) ∨ p.1 ≠ 0 ∧ p.2 = 0
/-- What a book's keeping leaves: the book, with more, and all else that is nobody's of it. -/
structure Kp (W w : World) (lab : Lab) (bk : Nat) (n : Int) (C : Nat → Nat) (w' : World) : Prop where
  ex : ∃ lab', LabUp w lab lab' ∧ BookIs w' W.heap.size lab' bk n C
  turned : Turned (fun k => Hd (lab k)) w w'
  below : Below W.heap.size W w'
theorem below_turned {S : Nat → Prop} {W w w' : World} {B : Nat} (h : Below B W w) (ht : Turned S w w') (hs : ∀ k, k < B → ¬ S k) (hB : B ≤ w.heap.size) : Below B W w' :=
  ⟨ht.os.trans h.os, ht.tape.trans h.tape, ht.output.trans h.output, Nat.le_trans h.size ht.size, fun k hk => (ht.block k (Nat.lt_of_lt_of_le hk hB) (hs k hk)).trans (h.block k hk)⟩
theorem Turned.monoLab {S T : Nat → Prop} {w w' : World} (h : Turned S w w') (hs : ∀ k, k < w.heap.size → S k → T k) : Turned T w w' :=
  ⟨h.os, h.tape, h.output, h.size, fun k hk hn => h.block k hk fun a => hn (hs k hk a)⟩
/-- What keeping a list of kind j makes of the book. -/
theorem BookAt.kept {W w w' : World} {lab : Lab} {bk : Nat} {n : Int} {K : Nat → KS} {C : Nat → Nat} {j : Nat} {A : Option Addr} {m c : Nat} {rows : List (List Value)} {e : Ending} (hj : live j) (hb : BookAt w W.heap.size lab bk n K) (hne : ∀ j, Neat (K j) n) (hC : ∀ j, (K j).N = C j) (hle : ∀ j, (C j : Int) ≤ n) (hW : Below W.heap.size W w) (hn : 0 ≤ n)
    (hl : OwnX w W.heap.size (kE j) (kZ j) (.slice A m c) rows) (hr : rows.length ≤ 1000000) (hll : ∀ k, (Value.slice A m c).ownBlock = some k → lab k = (j, C j + 1))
    (h : Kept w W bk j 53 (kH j) (bookV n fun j => (K j).sv) n (K j).sv (.slice A m c) (K j).rows e w') : e = .returned (.tuple #[]) ∧ Kp W w lab bk (n + 1) (upd C j (C j + 1)) w' := by
  obtain ⟨sv', ⟨rfl, hbox, hown⟩, hT, hv⟩ := h
  have hj0 : j ≠ 0 := by rintro rfl; revert hj; simp [live]
  have hSl : ∀ k, k < w.heap.size → (k = bk ∨ (K j).sv.ownBlock = some k) → lab k = (0, 1) ∨ lab k = (j, 0) := by
    rintro k - (rfl | hk)
    · exact .inl hb.own
    · exact .inr ((hb.k j).heldL k hk)
  obtain ⟨lab', hup, hfr, hkind⟩ := (hb.k j).add (hne j).d hT hSl hj0 hown hv hl (by rw [hC j]; exact hll) hb.fresh
  have hlt := (Array.getElem?_eq_some_iff.1 hb.box).1
  refine ⟨rfl, ⟨lab', hup, upd K j ((K j).add sv' (.slice A m c) (n + 1) rows), ⟨?_, (hup bk hlt).trans hb.own, hb.low, hfr, fun i => ?_, fun i hi => ?_⟩, fun i => ?_, fun i => ?_, fun i => ?_⟩, hT.monoLab fun k hk hs => (hSl k hk hs).imp id fun h => by rw [h]; exact ⟨hj0, rfl⟩, ?_⟩
  · rw [hbox, bookV_set _ _ _ _ hj]
    have : (upd (fun j => (K j).sv) j sv') = fun i => (upd K j ((K j).add sv' (.slice A m c) (n + 1) rows) i).sv := by
      funext i
      by_cases hi : i = j
      · subst hi; rw [upd_same, upd_same]; rfl
      · rw [upd_ne _ _ hi, upd_ne _ _ hi]
    rw [this]
  · by_cases hi : i = j
    · subst hi; rw [upd_same]; exact hkind
    · rw [upd_ne _ _ hi]
      by_cases h0 : i = 0
      · rw [hb.dead i (by rw [h0]; simp [live])]; exact Kind.empty _ _ _ _ _ _ _
      · refine (hb.k i).turned hT (fun k hk hs e => ?_) hup
        rcases hSl k hk hs with h2 | h2 <;> rw [h2] at e
        · exact h0 e.symm
        · exact hi e.symm
  · have : i ≠ j := by rintro rfl; exact hi hj
    rw [upd_ne _ _ this]; exact hb.dead i hi
  · by_cases hi : i = j
    · subst hi; rw [upd_same]; exact ((hne i).mono (by omega)).add (by omega) hr
    · rw [upd_ne _ _ hi]; exact (hne i).mono (by omega)
  · by_cases hi : i = j
    · subst hi; rw [upd_same, upd_same]; show (K i).N + 1 = _; rw [hC i]
    · rw [upd_ne _ _ hi, upd_ne _ _ hi]; exact hC i
  · have := hle i
    have := hle j
    by_cases hi : i = j
    · subst hi; rw [upd_same]; omega
    · rw [upd_ne _ _ hi]; omega
  · refine below_turned hW hT (fun k hk hs => ?_) hW.size
    rcases hs with rfl | hs
    · exact absurd hb.low (by omega)
    · exact absurd ((hb.k j).held.lt k hs).1 (by omega)
theorem keptByte (W w : World) (lab : Lab) (bk : Nat) (n : Int) (C : Nat → Nat) (h : BookIs w W.heap.size lab bk n C) (hW : Below W.heap.size W w) (hn : 0 ≤ n ∧ n ≤ 900000) (A : Option Addr) (m c : Nat) (rows : List (List Value)) (hl : OwnX w W.heap.size 5 1 (.slice A m c) rows) (hr : rows.length ≤ 1000000) (hll : ∀ k, (Value.slice A m c).ownBlock = some k → lab k = (1, C 1 + 1)) :
    Calls Tryz.prog 142 #[.pointer (some ⟨bk, 0, none⟩), .slice A m c] w fun e w' => e = .returned (.tuple #[]) ∧ Kp W w lab bk (n + 1) (upd C 1 (C 1 + 1)) w' := by
  obtain ⟨K, hb, hne, hC, hle⟩ := h
  have hN : (K 1).N ≤ 1000000 := by have := hle 1; rw [hC]; omega
  refine (keepByte_calls W w bk (bookV n fun j => (K j).sv) n (by omega) (K 1).sv (K 1).rows A m c hb.box rfl rfl hb.low (hb.k 1).held (fun e => by have := (hb.k 1).heldL bk e; rw [hb.own] at this; simp at this) (by rw [KS.rows_length]; exact hN) hW).mono ?_
  intro e w' hk
  exact hb.kept (j := 1) (by simp [live]) hne hC hle hW hn.1 hl hr hll hk
theorem keptInt (W w : World) (lab : Lab) (bk : Nat) (n : Int) (C : Nat → Nat) (h : BookIs w W.heap.size lab bk n C) (hW : Below W.heap.size W w) (hn : 0 ≤ n ∧ n ≤ 900000) (A : Option Addr) (m c : Nat) (rows : List (List Value)) (hl : OwnX w W.heap.size 3 1 (.slice A m c) rows) (hr : rows.length ≤ 1000000) (hll : ∀ k, (Value.slice A m c).ownBlock = some k → lab k = (2, C 2 + 1)) :
    Calls Tryz.prog 113 #[.pointer (some ⟨bk, 0, none⟩), .slice A m c] w fun e w' => e = .returned (.tuple #[]) ∧ Kp W w lab bk (n + 1) (upd C 2 (C 2 + 1)) w' := by
  obtain ⟨K, hb, hne, hC, hle⟩ := h
  have hN : (K 2).N ≤ 1000000 := by have := hle 2; rw [hC]; omega
  refine (keepInt_calls W w bk (bookV n fun j => (K j).sv) n (by omega) (K 2).sv (K 2).rows A m c hb.box rfl rfl hb.low (hb.k 2).held (fun e => by have := (hb.k 2).heldL bk e; rw [hb.own] at this; simp at this) (by rw [KS.rows_length]; exact hN) hW).mono ?_
  intro e w' hk
  exact hb.kept (j := 2) (by simp [live]) hne hC hle hW hn.1 hl hr hll hk
theorem keptText (W w : World) (lab : Lab) (bk : Nat) (n : Int) (C : Nat → Nat) (h : BookIs w W.heap.size lab bk n C) (hW : Below W.heap.size W w) (hn : 0 ≤ n ∧ n ≤ 900000) (A : Option Addr) (m c : Nat) (rows : List (List Value)) (hl : OwnX w W.heap.size 9 1 (.slice A m c) rows) (hr : rows.length ≤ 1000000) (hll : ∀ k, (Value.slice A m c).ownBlock = some k → lab k = (3, C 3 + 1)) :
    Calls Tryz.prog 71 #[.pointer (some ⟨bk, 0, none⟩), .slice A m c] w fun e w' => e = .returned (.tuple #[]) ∧ Kp W w lab bk (n + 1) (upd C 3 (C 3 + 1)) w' := by
  obtain ⟨K, hb, hne, hC, hle⟩ := h
  have hN : (K 3).N ≤ 1000000 := by have := hle 3; rw [hC]; omega
  refine (keepText_calls W w bk (bookV n fun j => (K j).sv) n (by omega) (K 3).sv (K 3).rows A m c hb.box rfl rfl hb.low (hb.k 3).held (fun e => by have := (hb.k 3).heldL bk e; rw [hb.own] at this; simp at this) (by rw [KS.rows_length]; exact hN) hW).mono ?_
  intro e w' hk
  exact hb.kept (j := 3) (by simp [live]) hne hC hle hW hn.1 hl hr hll hk
theorem keptEntry (W w : World) (lab : Lab) (bk : Nat) (n : Int) (C : Nat → Nat) (h : BookIs w W.heap.size lab bk n C) (hW : Below W.heap.size W w) (hn : 0 ≤ n ∧ n ≤ 900000) (A : Option Addr) (m c : Nat) (rows : List (List Value)) (hl : OwnX w W.heap.size 162 2 (.slice A m c) rows) (hr : rows.length ≤ 1000000) (hll : ∀ k, (Value.slice A m c).ownBlock = some k → lab k = (9, C 9 + 1)) :
    Calls Tryz.prog 258 #[.pointer (some ⟨bk, 0, none⟩), .slice A m c] w fun e w' => e = .returned (.tuple #[]) ∧ Kp W w lab bk (n + 1) (upd C 9 (C 9 + 1)) w' := by
  obtain ⟨K, hb, hne, hC, hle⟩ := h
  have hN : (K 9).N ≤ 1000000 := by have := hle 9; rw [hC]; omega
  refine (keepEntry_calls W w bk (bookV n fun j => (K j).sv) n (by omega) (K 9).sv (K 9).rows A m c hb.box rfl rfl hb.low (hb.k 9).held (fun e => by have := (hb.k 9).heldL bk e; rw [hb.own] at this; simp at this) (by rw [KS.rows_length]; exact hN) hW).mono ?_
  intro e w' hk
  exact hb.kept (j := 9) (by simp [live]) hne hC hle hW hn.1 hl hr hll hk
theorem keptNode (W w : World) (lab : Lab) (bk : Nat) (n : Int) (C : Nat → Nat) (h : BookIs w W.heap.size lab bk n C) (hW : Below W.heap.size W w) (hn : 0 ≤ n ∧ n ≤ 900000) (A : Option Addr) (m c : Nat) (rows : List (List Value)) (hl : OwnX w W.heap.size 80 10 (.slice A m c) rows) (hr : rows.length ≤ 1000000) (hll : ∀ k, (Value.slice A m c).ownBlock = some k → lab k = (10, C 10 + 1)) :
    Calls Tryz.prog 151 #[.pointer (some ⟨bk, 0, none⟩), .slice A m c] w fun e w' => e = .returned (.tuple #[]) ∧ Kp W w lab bk (n + 1) (upd C 10 (C 10 + 1)) w' := by
  obtain ⟨K, hb, hne, hC, hle⟩ := h
  have hN : (K 10).N ≤ 1000000 := by have := hle 10; rw [hC]; omega
  refine (keepNode_calls W w bk (bookV n fun j => (K j).sv) n (by omega) (K 10).sv (K 10).rows A m c hb.box rfl rfl hb.low (hb.k 10).held (fun e => by have := (hb.k 10).heldL bk e; rw [hb.own] at this; simp at this) (by rw [KS.rows_length]; exact hN) hW).mono ?_
  intro e w' hk
  exact hb.kept (j := 10) (by simp [live]) hne hC hle hW hn.1 hl hr hll hk
theorem keptStep (W w : World) (lab : Lab) (bk : Nat) (n : Int) (C : Nat → Nat) (h : BookIs w W.heap.size lab bk n C) (hW : Below W.heap.size W w) (hn : 0 ≤ n ∧ n ≤ 900000) (A : Option Addr) (m c : Nat) (rows : List (List Value)) (hl : OwnX w W.heap.size 111 4 (.slice A m c) rows) (hr : rows.length ≤ 1000000) (hll : ∀ k, (Value.slice A m c).ownBlock = some k → lab k = (12, C 12 + 1)) :
    Calls Tryz.prog 70 #[.pointer (some ⟨bk, 0, none⟩), .slice A m c] w fun e w' => e = .returned (.tuple #[]) ∧ Kp W w lab bk (n + 1) (upd C 12 (C 12 + 1)) w' := by
  obtain ⟨K, hb, hne, hC, hle⟩ := h
  have hN : (K 12).N ≤ 1000000 := by have := hle 12; rw [hC]; omega
  refine (keepStep_calls W w bk (bookV n fun j => (K j).sv) n (by omega) (K 12).sv (K 12).rows A m c hb.box rfl rfl hb.low (hb.k 12).held (fun e => by have := (hb.k 12).heldL bk e; rw [hb.own] at this; simp at this) (by rw [KS.rows_length]; exact hN) hW).mono ?_
  intro e w' hk
  exact hb.kept (j := 12) (by simp [live]) hne hC hle hW hn.1 hl hr hll hk
end Go.Proofs.YtbfcfjgcmideeaaGreatDoor
namespace Go.Proofs.YtbfcfjgcmideeaaGreatDoor
open Go.RowKit
attribute [local go_sem] Later.cell_eq
theorem Kp.trans {W w w1 w2 : World} {lab lab1 : Lab} {bk : Nat} {n1 n2 : Int} {C1 C2 : Nat → Nat} (h : Kp W w lab bk n1 C1 w1) (hu : LabUp w lab lab1) (h' : Kp W w1 lab1 bk n2 C2 w2) : Kp W w lab bk n2 C2 w2 := by
  obtain ⟨lab2, e1, e2⟩ := h'.ex
  exact ⟨⟨lab2, hu.trans e1 h.turned.size, e2⟩, h.turned.trans h'.turned fun k hk hs => by rw [hu k hk] at hs; exact hs, h'.below⟩
theorem Kp.start {W w : World} {lab : Lab} {bk : Nat} {n : Int} {C : Nat → Nat} (h : BookIs w W.heap.size lab bk n C) (hW : Below W.heap.size W w) : Kp W w lab bk n C w :=
  ⟨⟨lab, LabUp.refl _ _, h⟩, Turned.refl _ _, hW⟩
theorem hd_no {j x : Nat} (hj : j ≠ 0) : ¬ Hd (j, x + 1) := by
  rintro (hs | ⟨-, hs⟩)
  · simp at hs; exact hj hs.1
  · simp at hs
/-- A list that the book does not hold yet stands. -/
theorem own_on {w w' : World} {lab lab' : Lab} {B j x z : Nat} {e : TypeId} {v : Value} {rows : List (List Value)} (h : OwnX w B e z v rows) (hl : ∀ k, v.ownBlock = some k → lab k = (j, x + 1)) (hj : j ≠ 0) (hT : Turned (fun k => Hd (lab k)) w w') (hu : LabUp w lab lab') : OwnX w' B e z v rows ∧ ∀ k, v.ownBlock = some k → lab' k = (j, x + 1) := by
  refine ⟨h.turned hT fun k hk hs => ?_, fun k hk => (hu k (h.lt k hk).2).trans (hl k hk)⟩
  rw [hl k hk] at hs
  exact hd_no hj hs
/-- A block of nobody's stands. -/
theorem Kp.cell {W w w' : World} {lab : Lab} {bk : Nat} {n : Int} {C : Nat → Nat} (h : Kp W w lab bk n C w') {b o : Nat} {v : Value} (hl : lab b = (0, 0)) (hc : w.cell? ⟨b, o, none⟩ = some v) : w'.cell? ⟨b, o, none⟩ = some v :=
  (World.cell?_of_block (h.turned.block b (World.block_lt_of_cell? w _ hc) (by rw [hl]; intro hs; rcases hs with hs | hs <;> simp at hs))).trans hc
theorem Kp.from {W w w0 w' : World} {lab : Lab} {bk : Nat} {n : Int} {C : Nat → Nat} (h : Kp W w lab bk n C w') (hb : Below w0.heap.size w0 w) : Kp W w0 lab bk n C w' := by
  obtain ⟨lab', h1, h2⟩ := h.ex
  exact ⟨⟨lab', fun k hk => h1 k (Nat.lt_of_lt_of_le hk hb.size), h2⟩, (turned_below (S := fun k => Hd (lab k)) hb).trans h.turned fun _ _ h => h, h.below⟩
theorem Kp.congr {W w w' : World} {lab : Lab} {bk : Nat} {n n' : Int} {C C' : Nat → Nat} (h : Kp W w lab bk n C w') (hn : n = n') (hC : ∀ j, C j = C' j) : Kp W w lab bk n' C' w' := by
  subst hn
  rwa [show C = C' from funext hC] at h
/-- So many bytes, entries and nodes more. -/
def cAdd (C : Nat → Nat) (b e m : Nat) : Nat → Nat := fun j => if j = 1 then C 1 + b else if j = 9 then C 9 + e else if j = 10 then C 10 + m else C j
theorem cAdd_1 (C : Nat → Nat) (b e m : Nat) : cAdd C b e m 1 = C 1 + b := rfl
theorem cAdd_9 (C : Nat → Nat) (b e m : Nat) : cAdd C b e m 9 = C 9 + e := rfl
theorem cAdd_10 (C : Nat → Nat) (b e m : Nat) : cAdd C b e m 10 = C 10 + m := rfl
theorem cAdd_zero (C : Nat → Nat) (j : Nat) : C j = cAdd C 0 0 0 j := by
  unfold cAdd
  repeat' split
  all_goals first | rfl | (subst_vars; rfl)
theorem cAdd_node (C : Nat → Nat) (i j : Nat) : cAdd (cAdd C i i 0) 1 1 0 j = cAdd C (i + 1) (i + 1) 0 j := by
  unfold cAdd
  repeat' split
  all_goals first | rfl | omega | (subst_vars; simp_all) | simp_all
theorem cAdd_two (C : Nat → Nat) (j : Nat) : upd (upd C 1 (C 1 + 1)) 9 ((upd C 1 (C 1 + 1)) 9 + 1) j = cAdd C 1 1 0 j := by
  unfold cAdd upd
  repeat' split
  all_goals first | rfl | omega | (subst_vars; simp_all) | simp_all
theorem cAdd_last (C : Nat → Nat) (i j : Nat) : upd (cAdd C i i 0) 10 (cAdd C i i 0 10 + 1) j = cAdd C i i 1 j := by
  unfold cAdd upd
  repeat' split
  all_goals first | rfl | omega | (subst_vars; simp_all) | simp_all
theorem OwnX.cell {w : World} {B : Nat} {e : TypeId} {z g n c : Nat} {rows : List (List Value)} (h : OwnX w B e z (.slice (some ⟨g, 0, none⟩) n c) rows) {i : Nat} {r : List Value} (hi : rows[i]? = some r) {j : Nat} {u : Value} (hj : r[j]? = some u) : w.cell? ⟨g, 0 + i * z + j, none⟩ = some u := by
  rcases h.rd with ⟨h1, -⟩ | ⟨g', c', h1, -, -, -, h2⟩
  · cases h1
  · cases h1; exact h2 i r hi j u hj
theorem bytes_kept (W w : World) (lab : Lab) (bk : Nat) (n : Int) (C : Nat → Nat) (h : BookIs w W.heap.size lab bk n C) (hW : Below W.heap.size W w) (hn : 0 ≤ n ∧ n ≤ 900000) (A : Option Addr) (m c : Nat) (rows : List (List Value)) (hl : OwnX w W.heap.size 5 1 (.slice A m c) rows) (hr : rows.length ≤ 1000000) (hll : ∀ k, (Value.slice A m c).ownBlock = some k → lab k = (1, C 1 + 1)) :
    Calls Tryz.prog 58 #[.pointer (some ⟨bk, 0, none⟩), .slice A m c] w fun e w' => e = .returned (.tuple #[]) ∧ Kp W w lab bk (n + 1) (upd C 1 (C 1 + 1)) w' := by
  go_enter Tryz.func58, Tryz.ntmps58
  go_wp2_with (go_at_call 142; refine (keptByte W w lab bk n C h hW hn A m c rows hl hr hll).mono ?_; rintro _ w1 ⟨rfl, hk1⟩)
  refine bodyPost_end (v := .tuple #[]) (by kernel_rfl) rfl ?_
  exact ⟨rfl, hk1⟩
theorem ints_kept (W w : World) (lab : Lab) (bk : Nat) (n : Int) (C : Nat → Nat) (h : BookIs w W.heap.size lab bk n C) (hW : Below W.heap.size W w) (hn : 0 ≤ n ∧ n ≤ 900000) (A : Option Addr) (m c : Nat) (rows : List (List Value)) (hl : OwnX w W.heap.size 3 1 (.slice A m c) rows) (hr : rows.length ≤ 1000000) (hll : ∀ k, (Value.slice A m c).ownBlock = some k → lab k = (2, C 2 + 1)) :
    Calls Tryz.prog 29 #[.pointer (some ⟨bk, 0, none⟩), .slice A m c] w fun e w' => e = .returned (.tuple #[]) ∧ Kp W w lab bk (n + 1) (upd C 2 (C 2 + 1)) w' := by
  go_enter Tryz.func29, Tryz.ntmps29
  go_wp2_with (go_at_call 113; refine (keptInt W w lab bk n C h hW hn A m c rows hl hr hll).mono ?_; rintro _ w1 ⟨rfl, hk1⟩)
  refine bodyPost_end (v := .tuple #[]) (by kernel_rfl) rfl ?_
  exact ⟨rfl, hk1⟩
theorem texts_kept (W w : World) (lab : Lab) (bk : Nat) (n : Int) (C : Nat → Nat) (h : BookIs w W.heap.size lab bk n C) (hW : Below W.heap.size W w) (hn : 0 ≤ n ∧ n ≤ 900000) (A : Option Addr) (m c : Nat) (rows : List (List Value)) (hl : OwnX w W.heap.size 9 1 (.slice A m c) rows) (hr : rows.length ≤ 1000000) (hll : ∀ k, (Value.slice A m c).ownBlock = some k → lab k = (3, C 3 + 1)) :
    Calls Tryz.prog 22 #[.pointer (some ⟨bk, 0, none⟩), .slice A m c] w fun e w' => e = .returned (.tuple #[]) ∧ Kp W w lab bk (n + 1) (upd C 3 (C 3 + 1)) w' := by
  go_enter Tryz.func22, Tryz.ntmps22
  go_wp2_with (go_at_call 71; refine (keptText W w lab bk n C h hW hn A m c rows hl hr hll).mono ?_; rintro _ w1 ⟨rfl, hk1⟩)
  refine bodyPost_end (v := .tuple #[]) (by kernel_rfl) rfl ?_
  exact ⟨rfl, hk1⟩
theorem entries_kept (W w : World) (lab : Lab) (bk : Nat) (n : Int) (C : Nat → Nat) (h : BookIs w W.heap.size lab bk n C) (hW : Below W.heap.size W w) (hn : 0 ≤ n ∧ n ≤ 900000) (A : Option Addr) (m c : Nat) (rows : List (List Value)) (hl : OwnX w W.heap.size 162 2 (.slice A m c) rows) (hr : rows.length ≤ 1000000) (hll : ∀ k, (Value.slice A m c).ownBlock = some k → lab k = (9, C 9 + 1)) :
    Calls Tryz.prog 220 #[.pointer (some ⟨bk, 0, none⟩), .slice A m c] w fun e w' => e = .returned (.tuple #[]) ∧ Kp W w lab bk (n + 1) (upd C 9 (C 9 + 1)) w' := by
  go_enter Tryz.func220, Tryz.ntmps220
  go_wp2_with (go_at_call 258; refine (keptEntry W w lab bk n C h hW hn A m c rows hl hr hll).mono ?_; rintro _ w1 ⟨rfl, hk1⟩)
  refine bodyPost_end (v := .tuple #[]) (by kernel_rfl) rfl ?_
  exact ⟨rfl, hk1⟩
theorem steps_kept (W w : World) (lab : Lab) (bk : Nat) (n : Int) (C : Nat → Nat) (h : BookIs w W.heap.size lab bk n C) (hW : Below W.heap.size W w) (hn : 0 ≤ n ∧ n ≤ 900000) (A : Option Addr) (m c : Nat) (rows : List (List Value)) (hl : OwnX w W.heap.size 111 4 (.slice A m c) rows) (hr : rows.length ≤ 1000000) (hll : ∀ k, (Value.slice A m c).ownBlock = some k → lab k = (12, C 12 + 1)) :
    Calls Tryz.prog 21 #[.pointer (some ⟨bk, 0, none⟩), .slice A m c] w fun e w' => e = .returned (.tuple #[]) ∧ Kp W w lab bk (n + 1) (upd C 12 (C 12 + 1)) w' := by
  go_enter Tryz.func21, Tryz.ntmps21
  go_wp2_with (go_at_call 70; refine (keptStep W w lab bk n C h hW hn A m c rows hl hr hll).mono ?_; rintro _ w1 ⟨rfl, hk1⟩)
  refine bodyPost_end (v := .tuple #[]) (by kernel_rfl) rfl ?_
  exact ⟨rfl, hk1⟩
set_option maxHeartbeats 1000000 in
theorem node_kept (W w : World) (lab : Lab) (bk : Nat) (n : Int) (C : Nat → Nat) (h : BookIs w W.heap.size lab bk n C) (hW : Below W.heap.size W w) (hn : 0 ≤ n ∧ n ≤ 899999) (v0 v1 v2 v3 v4 v5 v7 v9 : Value) (A1 A2 : Option Addr) (m1 c1 m2 c2 : Nat) (r1 r2 : List (List Value))
    (hl1 : OwnX w W.heap.size 5 1 (.slice A1 m1 c1) r1) (hr1 : r1.length ≤ 1000000) (hll1 : ∀ k, (Value.slice A1 m1 c1).ownBlock = some k → lab k = (1, C 1 + 1))
    (hl2 : OwnX w W.heap.size 162 2 (.slice A2 m2 c2) r2) (hr2 : r2.length ≤ 1000000) (hll2 : ∀ k, (Value.slice A2 m2 c2).ownBlock = some k → lab k = (9, C 9 + 1)) :
    Calls Tryz.prog 150 #[.pointer (some ⟨bk, 0, none⟩), .agg #[v0, v1, v2, v3, v4, v5, .slice A1 m1 c1, v7, .slice A2 m2 c2, v9]] w fun e w' => e = .returned (.tuple #[]) ∧ Kp W w lab bk (n + 2) (cAdd C 1 1 0) w' := by
  have HH := Lib.hid h
  have HL1 := Lib.hid (And.intro hl1 (And.intro hr1 hll1))
  have HL2 := Lib.hid (And.intro hl2 (And.intro hr2 hll2))
  have HW := Lib.hid hW
  clear h hl1 hr1 hll1 hl2 hr2 hll2 hW
  go_enter Tryz.func150, Tryz.ntmps150
  go_upto_region 1 with fail
  obtain ⟨wb, hwb⟩ : ∃ x, x = w.alloc (.cells #[v0, v1, v2, v3, v4, v5, .slice A1 m1 c1, v7, .slice A2 m2 c2, v9] 80) := ⟨_, rfl⟩
  have hB : Below w.heap.size w wb := by rw [hwb]; exact below_alloc (Below.refl _ _) _
  have b6 : wb.cell? ⟨w.heap.size, 6, none⟩ = some (.slice A1 m1 c1) := by rw [hwb, cell_of_row _ _ _ _ _ _ (heap_alloc_new w _)]; rfl
  have b8 : wb.cell? ⟨w.heap.size, 8, none⟩ = some (.slice A2 m2 c2) := by rw [hwb, cell_of_row _ _ _ _ _ _ (heap_alloc_new w _)]; rfl
  rw [← hwb]
  have hlb := HH.out.fresh w.heap.size (Nat.le_refl _)
  obtain ⟨hb, hhb⟩ : ∃ x, x = w.heap.size := ⟨_, rfl⟩
  have HHb := Lib.hid (HH.out.keep hB)
  have HWb := Lib.hid (below_step HW.out hB)
  have HB := Lib.hid hB
  rw [← hhb] at b6 b8 hlb
  rw [← hhb]
  have HLB := Lib.hid hlb
  clear hwb hhb hB hlb
  go_wp2_with (first
    | (go_at_call 58
       refine (bytes_kept W _ lab bk n C HHb.out HWb.out (by omega) A1 m1 c1 r1 (HL1.out.1.keep HB.out) HL1.out.2.1 HL1.out.2.2).mono ?_
       rintro _ w1 ⟨rfl, hk1⟩
       have c8 := hk1.cell HLB.out b8
       have HK1 := Lib.hid hk1
       obtain ⟨lab1, hu1, hh1⟩ := hk1.ex
       have hon := own_on (HL2.out.1.keep HB.out) HL2.out.2.2 (by decide) hk1.turned hu1
       have HU1 := Lib.hid hu1
       have HH1 := Lib.hid hh1
       have HON := Lib.hid hon
       clear hk1 hu1 hh1 hon)
    | (go_at_call 220
       refine (entries_kept W _ lab1 bk (n + 1) (upd C 1 (C 1 + 1)) HH1.out HK1.out.below (by omega) A2 m2 c2 r2 HON.out.1 HL2.out.2.1 HON.out.2).mono ?_
       rintro _ w2 ⟨rfl, hk2⟩))
  refine bodyPost_end (v := .tuple #[]) (by kernel_rfl) rfl ?_
  have h2 := (HK1.out.trans HU1.out hk2).congr (n' := n + 2) (by omega) (cAdd_two C)
  exact ⟨rfl, h2.from HB.out⟩
/-- The nodes of a tree, each with lists of its own. -/
def NodesOf (w : World) (B : Nat) (lab : Lab) (nb ne : Nat) (rows : List (List Value)) : Prop :=
  ∀ i, i < rows.length → ∃ (v0 v1 v2 v3 v4 v5 v7 v9 : Value) (A1 A2 : Option Addr) (m1 c1 m2 c2 : Nat) (r1 r2 : List (List Value)), rows[i]? = some [v0, v1, v2, v3, v4, v5, .slice A1 m1 c1, v7, .slice A2 m2 c2, v9] ∧
    OwnX w B 5 1 (.slice A1 m1 c1) r1 ∧ r1.length ≤ 1000000 ∧ (∀ k, (Value.slice A1 m1 c1).ownBlock = some k → lab k = (1, nb + i + 1)) ∧
    OwnX w B 162 2 (.slice A2 m2 c2) r2 ∧ r2.length ≤ 1000000 ∧ ∀ k, (Value.slice A2 m2 c2).ownBlock = some k → lab k = (9, ne + i + 1)
set_option maxHeartbeats 2000000 in
theorem nodes_kept (W w : World) (lab : Lab) (bk : Nat) (n : Int) (C : Nat → Nat) (h : BookIs w W.heap.size lab bk n C) (hW : Below W.heap.size W w) (rows : List (List Value)) (hrl : rows.length ≤ 200000) (hn : 0 ≤ n ∧ n ≤ 400000) (A : Option Addr) (c : Nat)
    (hl : OwnX w W.heap.size 80 10 (.slice A rows.length c) rows) (hll : ∀ k, (Value.slice A rows.length c).ownBlock = some k → lab k = (10, C 10 + 1)) (hno : NodesOf w W.heap.size lab (C 1) (C 9) rows) :
    Calls Tryz.prog 69 #[.pointer (some ⟨bk, 0, none⟩), .slice A rows.length c] w fun e w' => e = .returned (.tuple #[]) ∧ Kp W w lab bk (n + 2 * rows.length + 1) (cAdd C rows.length rows.length 1) w' := by
  have hst := Kp.start h hW
  have HL := Lib.hid (And.intro hl hll)
  have HNO := Lib.hid hno
  clear h hW hl hll hno
  go_enter Tryz.func69, Tryz.ntmps69
  go_wp2
  go_loopg [4] rows.length (fun g s4 wr => ∃ i : Nat, i + g = rows.length ∧ s4 = .int .i64 i ∧ Hid (Kp W w lab bk (n + 2 * i) (cAdd C i i 0) wr))
  case atStart => exact ⟨0, by omega, rfl, Lib.hid (hst.congr (by omega) (cAdd_zero C))⟩
  case round =>
    clear hst
    obtain ⟨i, hg, rfl, HK⟩ := hrel
    obtain ⟨lab1, hu1, hh1⟩ := HK.out.ex
    have HU := Lib.hid hu1
    have HH := Lib.hid hh1
    have HON := Lib.hid (own_on HL.out.1 HL.out.2 (by decide) HK.out.turned hu1)
    clear hu1 hh1
    cases gk with
    | zero =>
      obtain rfl : i = rows.length := by omega
      go_wp2_with (go_at_call 151; refine (keptNode W _ lab1 bk _ _ HH.out HK.out.below (by omega) A _ c rows HON.out.1 (by omega) HON.out.2).mono ?_; rintro _ w2 ⟨rfl, hk2⟩)
      refine bodyPost_end (v := .tuple #[]) (by kernel_rfl) rfl ?_
      exact ⟨rfl, (HK.out.trans HU.out hk2).congr rfl (cAdd_last C _)⟩
    | succ g =>
      obtain ⟨v0, v1, v2, v3, v4, v5, v7, v9, A1, A2, m1, c1, m2, c2, r1, r2, hrow, ho1, hr1, hl1, ho2, hr2, hl2⟩ := HNO.out i (by omega)
      have HD := Lib.hid (And.intro (own_on ho1 hl1 (by decide) HK.out.turned HU.out) hr1)
      have HE := Lib.hid (And.intro (own_on ho2 hl2 (by decide) HK.out.turned HU.out) hr2)
      clear ho1 hl1 ho2 hl2
      obtain ⟨gl, rfl⟩ : ∃ g, A = some ⟨g, 0, none⟩ := by
        rcases HON.out.1.rd with ⟨e1, e2⟩ | ⟨g, c', e1, -⟩
        · rw [e2] at hg; simp at hg
        · cases e1; exact ⟨g, rfl⟩
      have d0 := HON.out.1.cell hrow (j := 0) rfl
      have d1 := HON.out.1.cell hrow (j := 1) rfl
      have d2 := HON.out.1.cell hrow (j := 2) rfl
      have d3 := HON.out.1.cell hrow (j := 3) rfl
      have d4 := HON.out.1.cell hrow (j := 4) rfl
      have d5 := HON.out.1.cell hrow (j := 5) rfl
      have d6 := HON.out.1.cell hrow (j := 6) rfl
      have d7 := HON.out.1.cell hrow (j := 7) rfl
      have d8 := HON.out.1.cell hrow (j := 8) rfl
      have d9 := HON.out.1.cell hrow (j := 9) rfl
      rw [Nat.zero_add] at d0 d1 d2 d3 d4 d5 d6 d7 d8 d9
      rw [Nat.add_zero] at d0
      go_wp2_with (go_at_call 150; refine (node_kept W _ lab1 bk _ _ HH.out HK.out.below (by omega) v0 v1 v2 v3 v4 v5 v7 v9 A1 A2 m1 c1 m2 c2 r1 r2 HD.out.1.1 HD.out.2 HD.out.1.2 HE.out.1.1 HE.out.2 HE.out.1.2).mono ?_; rintro _ w2 ⟨rfl, hk2⟩)
      go_roundg g
      case measure => omega
      case rel =>
        refine ⟨i + 1, by omega, by go_num, Lib.hid ?_⟩
        exact (HK.out.trans HU.out hk2).congr (by omega) (cAdd_node C i)
theorem NodesOf.keep {w w' : World} {B : Nat} {lab : Lab} {nb ne : Nat} {rows : List (List Value)} (h : NodesOf w B lab nb ne rows) (hb : Below w.heap.size w w') : NodesOf w' B lab nb ne rows := by
  intro i hi
  obtain ⟨v0, v1, v2, v3, v4, v5, v7, v9, A1, A2, m1, c1, m2, c2, r1, r2, hrow, ho1, hr1, hl1, ho2, hr2, hl2⟩ := h i hi
  exact ⟨v0, v1, v2, v3, v4, v5, v7, v9, A1, A2, m1, c1, m2, c2, r1, r2, hrow, ho1.keep hb, hr1, hl1, ho2.keep hb, hr2, hl2⟩
theorem tree_kept (W w : World) (lab : Lab) (bk : Nat) (n : Int) (C : Nat → Nat) (h : BookIs w W.heap.size lab bk n C) (hW : Below W.heap.size W w) (rows : List (List Value)) (hrl : rows.length ≤ 200000) (hn : 0 ≤ n ∧ n ≤ 400000) (A : Option Addr) (c : Nat) (now : Value)
    (hl : OwnX w W.heap.size 80 10 (.slice A rows.length c) rows) (hll : ∀ k, (Value.slice A rows.length c).ownBlock = some k → lab k = (10, C 10 + 1)) (hno : NodesOf w W.heap.size lab (C 1) (C 9) rows) :
    Calls Tryz.prog 20 #[.pointer (some ⟨bk, 0, none⟩), .agg #[.slice A rows.length c, now]] w fun e w' => e = .returned (.tuple #[]) ∧ Kp W w lab bk (n + 2 * rows.length + 1) (cAdd C rows.length rows.length 1) w' := by
  have hb0 := fun (o1 : Obj) => below_alloc (Below.refl w.heap.size w) o1
  go_enter Tryz.func20, Tryz.ntmps20
  go_wp2_with (go_at_call 69; refine (nodes_kept W _ lab bk n C (h.keep (hb0 _)) (below_step hW (hb0 _)) rows hrl hn A c (hl.keep (hb0 _)) hll (hno.keep (hb0 _))).mono ?_; rintro _ w1 ⟨rfl, hk1⟩)
  refine bodyPost_end (v := .tuple #[]) (by kernel_rfl) rfl ?_
  exact ⟨rfl, hk1.from (hb0 _)⟩
end Go.Proofs.YtbfcfjgcmideeaaGreatDoor
namespace Go.Proofs.YtbfcfjgcmideeaaGreatDoor
open Go.RowKit
def nodeVs (n : TNode) (A1 : Option Addr) (c1 : Nat) (A2 : Option Addr) (c2 : Nat) : List Value := [.int .u8 n.kind, .int .i64 n.mode, .int .i64 n.user, .int .i64 n.group, .int .i64 n.links, .int .i64 n.time, .slice A1 n.data.length c1, .string n.target, .slice A2 n.list.length c2, .int .i64 n.parent]
def NodeIn (w : World) (B : Nat) (lab : Lab) (b e i : Nat) (n : TNode) (vs : List Value) : Prop :=
  ∃ A1 c1 A2 c2, vs = nodeVs n A1 c1 A2 c2 ∧ OwnX w B 5 1 (.slice A1 n.data.length c1) (n.data.map byteRow) ∧ (∀ k, (Value.slice A1 n.data.length c1).ownBlock = some k → lab k = (1, b + i + 1)) ∧
    OwnX w B 162 2 (.slice A2 n.list.length c2) (n.list.map entRow) ∧ ∀ k, (Value.slice A2 n.list.length c2).ownBlock = some k → lab k = (9, e + i + 1)
structure TreeIn (w : World) (B : Nat) (lab : Lab) (b e m : Nat) (A : Option Addr) (c : Nat) (l : List TNode) : Prop where
  ex : ∃ rows, OwnX w B 80 10 (.slice A l.length c) rows ∧ rows.length = l.length ∧ (∀ k, (Value.slice A l.length c).ownBlock = some k → lab k = (10, m + 1)) ∧ ∀ i n, l[i]? = some n → ∃ vs, rows[i]? = some vs ∧ NodeIn w B lab b e i n vs
theorem NodeIn.turned {S : Nat → Prop} {w w' : World} {B : Nat} {lab : Lab} {b e i : Nat} {n : TNode} {vs : List Value} (h : NodeIn w B lab b e i n vs) (ht : Turned S w w') (hS : ∀ k, k < w.heap.size → S k → lab k ≠ (1, b + i + 1) ∧ lab k ≠ (9, e + i + 1)) : NodeIn w' B lab b e i n vs := by
  obtain ⟨A1, c1, A2, c2, h0, h1, h2, h3, h4⟩ := h
  exact ⟨A1, c1, A2, c2, h0, h1.turned ht fun k hk hs => (hS k (h1.lt k hk).2 hs).1 (h2 k hk), h2, h3.turned ht fun k hk hs => (hS k (h3.lt k hk).2 hs).2 (h4 k hk), h4⟩
theorem TreeIn.turned {S : Nat → Prop} {w w' : World} {B : Nat} {lab : Lab} {b e m : Nat} {A : Option Addr} {c : Nat} {l : List TNode} (h : TreeIn w B lab b e m A c l) (ht : Turned S w w') (hS : ∀ k, k < w.heap.size → S k → (lab k).2 = 0) : TreeIn w' B lab b e m A c l := by
  obtain ⟨rows, h1, h2, h3, h4⟩ := h.ex
  refine ⟨rows, h1.turned ht fun k hk hs => ?_, h2, h3, fun i n hi => ?_⟩
  · have := hS k (h1.lt k hk).2 hs
    rw [h3 k hk] at this; simp at this
  · obtain ⟨vs, h5, h6⟩ := h4 i n hi
    exact ⟨vs, h5, h6.turned ht fun k hk hs => ⟨fun e => by have := hS k hk hs; rw [e] at this; simp at this, fun e => by have := hS k hk hs; rw [e] at this; simp at this⟩⟩
theorem TreeIn.keep {w w' : World} {B : Nat} {lab : Lab} {b e m : Nat} {A : Option Addr} {c : Nat} {l : List TNode} (h : TreeIn w B lab b e m A c l) (hb : Below w.heap.size w w') : TreeIn w' B lab b e m A c l :=
  h.turned (turned_below (S := fun _ => False) hb) fun _ _ h => h.elim
theorem TreeIn.base {w : World} {B B' : Nat} {lab : Lab} {b e m : Nat} {A : Option Addr} {c : Nat} {l : List TNode} (h : TreeIn w B lab b e m A c l) (hB : B' ≤ B) : TreeIn w B' lab b e m A c l := by
  have ho : ∀ {e : TypeId} {z : Nat} {v : Value} {rows : List (List Value)}, OwnX w B e z v rows → OwnX w B' e z v rows := fun h => h.imp (fun h => h.base hB) fun ⟨A, C, h1, h2⟩ => ⟨A, C, h1, h2.base hB⟩
  obtain ⟨rows, h1, h2, h3, h4⟩ := h.ex
  refine ⟨rows, ho h1, h2, h3, fun i n hi => ?_⟩
  obtain ⟨vs, h5, A1, c1, A2, c2, k0, k1, k2, k3, k4⟩ := h4 i n hi
  exact ⟨vs, h5, A1, c1, A2, c2, k0, ho k1, k2, ho k3, k4⟩
/-- Other labels, and so many lists ahead. -/
theorem TreeIn.shift {w : World} {B : Nat} {lab lab' : Lab} {A : Option Addr} {c : Nat} {l : List TNode} (h : TreeIn w B lab 0 0 0 A c l) (b e m : Nat) (h1 : ∀ k i, B ≤ k → k < w.heap.size → lab k = (1, i + 1) → lab' k = (1, b + i + 1)) (h9 : ∀ k i, B ≤ k → k < w.heap.size → lab k = (9, i + 1) → lab' k = (9, e + i + 1)) (h10 : ∀ k, B ≤ k → k < w.heap.size → lab k = (10, 1) → lab' k = (10, m + 1)) : TreeIn w B lab' b e m A c l := by
  obtain ⟨rows, k1, k2, k3, k4⟩ := h.ex
  refine ⟨rows, k1, k2, fun k hk => h10 k (k1.lt k hk).1 (k1.lt k hk).2 (k3 k hk), fun i n hi => ?_⟩
  obtain ⟨vs, j5, A1, c1, A2, c2, j0, j1, j2, j3, j4⟩ := k4 i n hi
  exact ⟨vs, j5, A1, c1, A2, c2, j0, j1, fun k hk => h1 k i (j1.lt k hk).1 (j1.lt k hk).2 (by have := j2 k hk; rwa [Nat.zero_add] at this), j3, fun k hk => h9 k i (j3.lt k hk).1 (j3.lt k hk).2 (by have := j4 k hk; rwa [Nat.zero_add] at this)⟩
theorem OwnX.bytesAt {w : World} {B : Nat} {e : TypeId} {A : Option Addr} {n c : Nat} {l : List Int} (h : OwnX w B e 1 (.slice A n c) (l.map byteRow)) : BytesAt w A l := fun k x hk => by
  rcases h.rd with ⟨-, h2⟩ | ⟨g, c', h1, -, -, -, h2⟩
  · have h3 : l = [] := List.map_eq_nil_iff.1 h2
    rw [h3] at hk; simp at hk
  · cases h1
    exact ⟨g, 0, rfl, by have := h2 k (byteRow x) (by simp [hk]) 0 _ rfl; simpa using this⟩
theorem OwnX.entsAt {w : World} {B : Nat} {e : TypeId} {A : Option Addr} {n c : Nat} {l : List TEnt} (h : OwnX w B e 2 (.slice A n c) (l.map entRow)) : EntsAt w A l := fun k x hk => by
  rcases h.rd with ⟨-, h2⟩ | ⟨g, c', h1, -, -, -, h2⟩
  · have h3 : l = [] := List.map_eq_nil_iff.1 h2
    rw [h3] at hk; simp at hk
  · cases h1
    exact ⟨g, 0, rfl, h2 k (entRow x) (by simp [hk]) 0 _ rfl, h2 k (entRow x) (by simp [hk]) 1 _ rfl⟩
theorem OwnX.room {w : World} {B : Nat} {e : TypeId} {z : Nat} {A : Option Addr} {n c : Nat} {rows : List (List Value)} (h : OwnX w B e z (.slice A n c) rows) : n ≤ c := by
  obtain ⟨A', c', C, h1, h2, h3, h4⟩ := h.base
  simp only [Value.slice.injEq] at h1
  rw [h1.2.1, h1.2.2]; exact h4
theorem TreeIn.nodes {w : World} {B : Nat} {lab : Lab} {b e m : Nat} {A : Option Addr} {c : Nat} {l : List TNode} (h : TreeIn w B lab b e m A c l) : NodesAt w A l := fun i n hi => by
  obtain ⟨rows, h1, h2, h3, h4⟩ := h.ex
  obtain ⟨vs, h5, A1, c1, A2, c2, rfl, k1, k2, k3, k4⟩ := h4 i n hi
  rcases h1.rd with ⟨-, h6⟩ | ⟨g, c', h6, -, -, -, h7⟩
  · rw [h6] at h5; simp at h5
  · simp only [Value.slice.injEq] at h6
    obtain ⟨rfl, -, -⟩ := h6
    exact ⟨g, 0, _, rfl, ⟨_, c1, _, c2, rfl, k1.room, k1.bytesAt, k3.room, k3.entsAt⟩, fun j v hj => h7 i _ h5 j v hj⟩
theorem Own.front {w : World} {B : Nat} {e : TypeId} {z : Nat} {A : Option Addr} {n c : Nat} {rows : List (List Value)} {r : List Value} (h : Own w B e z (.slice A n c) (rows ++ [r])) : Own w B e z (.slice A rows.length c) rows := by
  have hr := h.each
  rcases h.own.2 with ⟨h1, h2⟩ | ⟨g, cap, cur, h1, h2, h3, h4, h5, h6, h7⟩
  · simp at h2
  · simp only [Value.slice.injEq] at h1
    obtain ⟨rfl, -, rfl⟩ := h1
    have hz : rows.flatten.length = rows.length * z := by
      have : ∀ {l : List (List Value)}, (∀ r ∈ l, r.length = z) → l.flatten.length = l.length * z := by
        intro l
        induction l with
        | nil => intro _; simp
        | cons b m ih => intro h; rw [List.flatten_cons, List.length_append, ih (fun r hr => h r (by simp [hr])), h b (by simp), List.length_cons, Nat.succ_mul]; omega
      exact this fun r hr' => hr r (by simp [hr'])
    refine ⟨⟨hz, .inr ⟨g, c, cur, rfl, h2, h3, ?_, h5, h6, ?_⟩⟩, fun r hr' => hr r (by simp [hr'])⟩
    · simp at h4; omega
    · have h8 := congrArg (List.take rows.flatten.length) h7
      have hle : rows.flatten.length ≤ (rows ++ [r]).length * z := by
        rw [hz, List.length_append]
        exact Nat.mul_le_mul_right _ (Nat.le_add_right _ _)
      rw [List.take_take, Nat.min_eq_left hle] at h8
      rw [← hz, h8, List.flatten_append, List.take_left]
theorem TwinAt.inn {w : World} {B g cap : Nat} {l : List TNode} (h : TwinAt w B g cap l) : ∃ lab : Lab, TreeIn w B lab 0 0 0 (some ⟨g, 0, none⟩) cap l := by
  obtain ⟨⟨rows, tl, h1, h2⟩, h3, h4⟩ := h
  refine ⟨fun k => if k = g then (10, 1) else tl k, rows, ?_, h2.1, fun k hk => ?_, fun i n hi => ?_⟩
  · have := h1.front
    rw [h2.1] at this
    exact this.x
  · simp [Value.ownBlock] at hk
    subst hk; simp
  · obtain ⟨vs, h5, ⟨D, cd, L, cl, rfl, e1, e2, e3, e4, e5, e6, e7, e8, e9, e10, e11⟩, l1, l2⟩ := h2.2 i n (List.getElem?_eq_some_iff.1 hi).1 hi
    refine ⟨_, h5, some ⟨D, 0, none⟩, cd, some ⟨L, 0, none⟩, cl, rfl, ?_, fun k hk => ?_, ?_, fun k hk => ?_⟩
    · rw [List.map_append] at e2
      have := e2.front
      rw [List.length_map] at this
      exact this.x
    · have hD : D = k := by simpa [Value.ownBlock] using hk
      subst hD
      have hne : D ≠ g := fun e => e7 (by rw [e])
      simp only [if_neg hne, Nat.zero_add]
      exact l1 D rfl
    · rw [List.map_append] at e4
      have := e4.front
      rw [List.length_map] at this
      exact this.x
    · have hL : L = k := by simpa [Value.ownBlock] using hk
      subst hL
      have hne : L ≠ g := fun e => e8 (by rw [e])
      simp only [if_neg hne, Nat.zero_add]
      exact l2 L rfl
theorem NodeTw.turned {S : Nat → Prop} {w w' : World} {B : Nat} {g : Option Nat} {n : TNode} {vs : List Value} (h : NodeTw w B g n vs) (ht : Turned S w w') (hS : ∀ k, B ≤ k → k < w.heap.size → ¬ S k) : NodeTw w' B g n vs := by
  obtain ⟨D, cd, L, cl, h0, h1, h2, h3, h4, h5, h6, h7, h8, h9, h10, h11⟩ := h
  exact ⟨D, cd, L, cl, h0, h1, h2.turned ht fun k hk => hS k (h2.lt k hk).1 (h2.lt k hk).2, h3, h4.turned ht fun k hk => hS k (h4.lt k hk).1 (h4.lt k hk).2, h5, h6, h7, h8, Nat.lt_of_lt_of_le h9 ht.size, Nat.lt_of_lt_of_le h10 ht.size, h11⟩
theorem TwinAt.turned {S : Nat → Prop} {w w' : World} {B g cap : Nat} {l : List TNode} (h : TwinAt w B g cap l) (ht : Turned S w w') (hS : ∀ k, B ≤ k → k < w.heap.size → ¬ S k) : TwinAt w' B g cap l := by
  obtain ⟨⟨rows, tl, h1, h2⟩, h3, h4⟩ := h
  refine ⟨⟨rows, tl, h1.turned ht fun k hk => hS k (h1.lt k hk).1 (h1.lt k hk).2, h2.1, fun i n hi hn => ?_⟩, h3, h4⟩
  obtain ⟨vs, h5, h6, h7⟩ := h2.2 i n hi hn
  exact ⟨vs, h5, h6.turned ht hS, h7⟩
/-- A Book keeps a tree. -/
theorem treeIn_kept (W w : World) (lab : Lab) (bk : Nat) (n : Int) (C : Nat → Nat) (h : BookIs w W.heap.size lab bk n C) (hW : Below W.heap.size W w) (l : List TNode) (hl : l.length ≤ 200000) (hn : 0 ≤ n ∧ n ≤ 400000) (hF : ∀ x ∈ l, x.data.length ≤ 1000000 ∧ x.list.length ≤ 1000000) (A : Option Addr) (c : Nat) (now : Value) (ht : TreeIn w W.heap.size lab (C 1) (C 9) (C 10) A c l) :
    Calls Tryz.prog 20 #[.pointer (some ⟨bk, 0, none⟩), .agg #[.slice A l.length c, now]] w fun e w' => e = .returned (.tuple #[]) ∧ Kp W w lab bk (n + 2 * l.length + 1) (cAdd C l.length l.length 1) w' := by
  obtain ⟨rows, h1, h2, h3, h4⟩ := ht.ex
  rw [← h2] at h1 h3 ⊢
  refine tree_kept W w lab bk n C h hW rows (by omega) hn A c now h1 h3 fun i hi => ?_
  obtain ⟨x, hx⟩ : ∃ x, l[i]? = some x := ⟨l[i]'(by omega), by simp⟩
  obtain ⟨vs, h5, A1, c1, A2, c2, rfl, k1, k2, k3, k4⟩ := h4 i x hx
  obtain ⟨f1, f2⟩ := hF x (List.mem_of_getElem? hx)
  exact ⟨_, _, _, _, _, _, _, _, A1, A2, _, c1, _, c2, _, _, h5, k1, by rw [List.length_map]; exact f1, k2, k3, by rw [List.length_map]; exact f2, k4⟩
end Go.Proofs.YtbfcfjgcmideeaaGreatDoor
