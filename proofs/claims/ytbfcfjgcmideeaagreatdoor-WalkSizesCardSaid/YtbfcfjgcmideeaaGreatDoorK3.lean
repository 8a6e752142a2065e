/- The Book: all that is held is filled, grown and looked at: no two lists share memory. -/
/- A Book of a tree and two lists more: labels for what is to be held; Apart behind the keeping. -/
/- The library's table of powers of ten, out of a row's condition. -/
import Derived.Test.YtbfcfjgcmideeaaGreatDoorB2
import Derived.Test.YtbfcfjgcmideeaaGreatDoorK2
import Derived.Test.YtbfcfjgcmideeaaGreatDoorLook1
import Derived.Test.YtbfcfjgcmideeaaGreatDoorK1
import Derived.Test.YtbfcfjgcmideeaaGreatDoorS1
import Derived.Lib.LaidU8
namespace Go.Proofs.YtbfcfjgcmideeaaGreatDoor
open Go.RowKit
attribute [local go_sem] Later.cell_eq
def mkK : Nat → Int → List Value
  | 1 => mkB
  | 2 => mkI
  | 3 => mkT
  | 9 => mkE
  | 10 => mkN
  | 12 => mkS
  | _ => fun _ => []
/-- Each list is full of its mark. -/
def Full (s : KS) (mk : Int → List Value) : Prop := ∀ x, x < s.N → ∃ n, n ≤ 1000000 ∧ s.R x = List.replicate n (mk (s.num x))
/-- Each list is grown. -/
def Tall (s : KS) (mk : Int → List Value) : Prop := s.d = s.N ∧ ∀ x, x < s.N → s.M x = List.replicate 40 (mk (s.num x))
theorem Kind.marked {w : World} {B : Nat} {lab : Lab} {j : Nat} {H e : TypeId} {z : Nat} {s : KS} {mk : Int → List Value} (h : Kind w B lab j H e z s) (hn : ∀ x, x < s.N → NumOK w (s.num x)) (hf : Full s mk) (ht : Tall s mk) : Marked w B z s mk := by
  intro x hx
  obtain ⟨n, h2, h3⟩ := hf x hx
  obtain ⟨h4, h5, -⟩ := h.done x (by rw [ht.1]; exact hx) hx
  rw [h3] at h4 h5
  rw [ht.2 x hx, List.replicate_append_replicate] at h5
  exact ⟨hn x hx, n, h2, h4, h5.rd⟩
/-- The lists are filled with marks. -/
def KS.full (s : KS) (mk : Int → List Value) : KS := { s with R := fun x => List.replicate (s.R x).length (mk (s.num x)) }
/-- The lists are grown. -/
def KS.grown (s : KS) (L : Nat → Value) (M : Nat → List (List Value)) : KS := { s with L := L, M := M, d := s.N }
/-- What is turned: lists, and lists of lists; not the box. -/
def Tn (p : Nat × Nat) : Prop := p.1 ≠ 0
/-- How far all is: filled up to kind p, grown up to kind p - 12. -/
structure Stg (n : Int) (p : Nat) (s : KS) (j : Nat) : Prop where
  N : s.N ≤ 1000000
  num : ∀ x, x < s.N → 0 ≤ s.num x ∧ s.num x ≤ n
  len : ∀ x, x < s.N → (s.R x).length ≤ 1000000
  full : j ≤ p → Full s (mkK j)
  tall : j + 12 ≤ p → Tall s (mkK j)
  d : p < j + 12 → s.d = 0
structure BA (w : World) (B : Nat) (lab : Lab) (bk : Nat) (n : Int) (p : Nat) (K : Nat → KS) : Prop where
  at_ : BookAt w B lab bk n K
  stg : ∀ j, live j → Stg n p (K j) j
  tab : TabW w
  far : TabFar fun b => lab b ≠ (0, 0)
  n1 : n ≤ 1000000
theorem live_ne {j : Nat} (hj : live j) : 1 ≤ j ∧ j ≤ 12 := by rcases hj with h | h | h | h | h | h <;> omega
section
variable {w w' : World} {B : Nat} {lab : Lab} {bk : Nat} {n : Int} {p : Nat} {K : Nat → KS}
theorem BA.numOK (h : BA w B lab bk n p K) {j : Nat} (hj : live j) : ∀ x, x < (K j).N → NumOK w ((K j).num x) := fun x hx => by
  obtain ⟨h1, h2⟩ := (h.stg j hj).num x hx
  have := h.n1
  exact ⟨h1, by omega, .inr h.tab⟩
theorem BA.farJ (h : BA w B lab bk n p K) {j : Nat} (hj : live j) : TabFar fun b => (lab b).1 = j := fun g hg e => h.far g hg (fun e' => by have e2 : (lab g).1 = j := e; rw [e'] at e2; have := live_ne hj; simp at e2; omega)
theorem BA.keep (h : BA w B lab bk n p K) (hb : Below w.heap.size w w') : BA w' B lab bk n p K := ⟨h.at_.keep hb, h.stg, h.tab.keep hb, h.far, h.n1⟩
theorem BA.skip (h : BA w B lab bk n p K) {j : Nat} (hj : ¬ live j) (h1 : 1 ≤ j ∧ j ≤ 12) (hp : p + 1 = j ∨ p + 1 = j + 12) : BA w B lab bk n (p + 1) K := by
  refine ⟨h.at_, fun i hi => ?_, h.tab, h.far, h.n1⟩
  have hne : i ≠ j := by rintro rfl; exact hj hi
  have hs := h.stg i hi
  have h0 := live_ne hi
  exact ⟨hs.N, hs.num, hs.len, fun _ => hs.full (by omega), fun _ => hs.tall (by omega), fun _ => hs.d (by omega)⟩
theorem BA.fill (h : BA w B lab bk n p K) {j : Nat} (hj : live j) (hp : p + 1 = j) (hk : Kind w' B lab j (kH j) (kE j) (kZ j) ((K j).full (mkK j))) (ht : Turned (fun b => (lab b).1 = j ∧ (lab b).2 ≠ 0) w w') :
    BA w' B lab bk n (p + 1) (upd K j ((K j).full (mkK j))) := by
  have hj0 := live_ne hj
  have hT := ht.mono (T := fun b => (lab b).1 = j) fun _ h => h.1
  have hb := h.at_
  refine ⟨⟨?_, hb.own, hb.low, fun k hk => hb.fresh k (Nat.le_trans ht.size hk), fun i => ?_, fun i hi => ?_⟩, fun i hi => ?_, h.tab.turned hT (h.farJ hj), h.far, h.n1⟩
  · rw [turned_book hT (by rw [hb.own]; simp; omega) hb.box]
    have : (fun j => (K j).sv) = fun i => (upd K j ((K j).full (mkK j)) i).sv := by
      funext i
      by_cases hi : i = j
      · subst hi; rw [upd_same]; rfl
      · rw [upd_ne _ _ hi]
    rw [this]
  · by_cases hi : i = j
    · subst hi; rw [upd_same]; exact hk
    · rw [upd_ne _ _ hi]; exact (hb.k i).turned hT (fun k _ e => by rw [e]; exact fun e' => hi e'.symm) (LabUp.refl _ _)
  · have hij : i ≠ j := fun e => hi (by rw [e]; exact hj)
    rw [upd_ne _ _ hij]; exact hb.dead i hi
  · have hs := h.stg i hi
    have h0 := live_ne hi
    by_cases hij : i = j
    · subst hij
      rw [upd_same]
      refine ⟨hs.N, hs.num, fun x hx => ?_, fun _ x hx => ⟨((K i).R x).length, hs.len x hx, rfl⟩, fun _ => absurd ‹_› (by omega), fun _ => hs.d (by omega)⟩
      show (List.replicate _ _).length ≤ _
      rw [List.length_replicate]; exact hs.len x hx
    · rw [upd_ne _ _ hij]
      exact ⟨hs.N, hs.num, hs.len, fun _ => hs.full (by omega), fun _ => hs.tall (by omega), fun _ => hs.d (by omega)⟩
theorem BA.grow (h : BA w B lab bk n p K) {j : Nat} (hj : live j) (hp : p + 1 = j + 12) (hg : Gro w B lab j (kH j) (kE j) (kZ j) (K j) (mkK j) (K j).N w') :
    ∃ lab' K', LabUp w lab lab' ∧ BA w' B lab' bk n (p + 1) K' := by
  have hj0 := live_ne hj
  have hT := hg.turned
  have hb := h.at_
  obtain ⟨lab', L, M, h1, h2, h3, h4⟩ := hg.ex
  refine ⟨lab', upd K j ((K j).grown L M), h1, ⟨?_, (h1 bk (Array.getElem?_eq_some_iff.1 hb.box).1).trans hb.own, hb.low, h2, fun i => ?_, fun i hi => ?_⟩, fun i hi => ?_, h.tab.turned hT (h.farJ hj), ?_, h.n1⟩
  · rw [turned_book hT (by rw [hb.own]; simp; omega) hb.box]
    have : (fun j => (K j).sv) = fun i => (upd K j ((K j).grown L M) i).sv := by
      funext i
      by_cases hi : i = j
      · subst hi; rw [upd_same]; rfl
      · rw [upd_ne _ _ hi]
    rw [this]
  · by_cases hi : i = j
    · subst hi; rw [upd_same]; exact h3
    · rw [upd_ne _ _ hi]; exact (hb.k i).turned hT (fun k _ e => by rw [e]; exact fun e' => hi e'.symm) h1
  · have hij : i ≠ j := fun e => hi (by rw [e]; exact hj)
    rw [upd_ne _ _ hij]; exact hb.dead i hi
  · have hs := h.stg i hi
    have h0 := live_ne hi
    by_cases hij : i = j
    · subst hij
      rw [upd_same]
      exact ⟨hs.N, hs.num, hs.len, fun _ => hs.full (by omega), fun _ => ⟨rfl, h4⟩, fun _ => absurd ‹_› (by omega)⟩
    · rw [upd_ne _ _ hij]
      exact ⟨hs.N, hs.num, hs.len, fun _ => hs.full (by omega), fun _ => hs.tall (by omega), fun _ => hs.d (by omega)⟩
  · intro g hg' hl
    have hl' : lab' g ≠ (0, 0) := hl
    rw [h1 g (h.tab.low g hg')] at hl'
    exact h.far g hg' hl'
end
/-- Somewhere within Apart: all that is held, p calls on. -/
def Ap (w0 : World) (lab0 : Lab) (B bk : Nat) (n : Int) (p : Nat) (w : World) : Prop :=
  ∃ lab K, LabUp w0 lab0 lab ∧ BA w B lab bk n p K ∧ Turned (fun b => Tn (lab0 b)) w0 w ∧ B ≤ w.heap.size
theorem Turned.tn {w w1 w2 : World} {lab lab1 : Lab} {j : Nat} (h : Turned (fun b => Tn (lab b)) w w1) (hu : LabUp w lab lab1) (hj : live j) (h' : Turned (fun b => (lab1 b).1 = j) w1 w2) : Turned (fun b => Tn (lab b)) w w2 :=
  h.trans h' fun k hk hs => by rw [hu k hk] at hs; unfold Tn; rw [hs]; have := live_ne hj; omega
variable {w0 w : World} {lab0 : Lab} {B bk : Nat} {n : Int}
theorem Ap.keep {w' : World} {p : Nat} (h : Ap w0 lab0 B bk n p w) (hb : Below w.heap.size w w') : Ap w0 lab0 B bk n p w' := by
  obtain ⟨lab, K, hu, hb', hT, hB⟩ := h
  exact ⟨lab, K, hu, hb'.keep hb, hT.trans (turned_below (S := fun b => Tn (lab0 b)) hb) fun _ _ h => h, Nat.le_trans hB hb.size⟩
theorem apFillByte (h : Ap w0 lab0 B bk n 0 w) : Calls Tryz.prog 72 #[.pointer (some ⟨bk, 0, none⟩)] w fun e w' => e = .returned (.tuple #[]) ∧ Ap w0 lab0 B bk n 1 w' := by
  obtain ⟨lab, K, hu, hb, hT, hB⟩ := h
  have hj : live 1 := by simp [live]
  refine (fillByte_calls w B bk lab _ (K 1) hb.at_.box rfl hb.at_.own (hb.at_.k 1) ((hb.stg 1 hj).d (by decide)) (hb.numOK hj) (hb.farJ hj) (hb.stg 1 hj).N).mono ?_
  rintro _ w' ⟨rfl, hk, ht⟩
  exact ⟨rfl, lab, _, hu, hb.fill hj rfl hk ht, hT.tn hu hj (ht.mono fun _ h => h.1), Nat.le_trans hB ht.size⟩
theorem apFillInt (h : Ap w0 lab0 B bk n 1 w) : Calls Tryz.prog 73 #[.pointer (some ⟨bk, 0, none⟩)] w fun e w' => e = .returned (.tuple #[]) ∧ Ap w0 lab0 B bk n 2 w' := by
  obtain ⟨lab, K, hu, hb, hT, hB⟩ := h
  have hj : live 2 := by simp [live]
  refine (fillInt_calls w B bk lab _ (K 2) hb.at_.box rfl hb.at_.own (hb.at_.k 2) ((hb.stg 2 hj).d (by decide)) (hb.numOK hj) (hb.farJ hj) (hb.stg 2 hj).N).mono ?_
  rintro _ w' ⟨rfl, hk, ht⟩
  exact ⟨rfl, lab, _, hu, hb.fill hj rfl hk ht, hT.tn hu hj (ht.mono fun _ h => h.1), Nat.le_trans hB ht.size⟩
theorem apFillText (h : Ap w0 lab0 B bk n 2 w) : Calls Tryz.prog 74 #[.pointer (some ⟨bk, 0, none⟩)] w fun e w' => e = .returned (.tuple #[]) ∧ Ap w0 lab0 B bk n 3 w' := by
  obtain ⟨lab, K, hu, hb, hT, hB⟩ := h
  have hj : live 3 := by simp [live]
  refine (fillText_calls w B bk lab _ (K 3) hb.at_.box rfl hb.at_.own (hb.at_.k 3) ((hb.stg 3 hj).d (by decide)) (hb.numOK hj) (hb.farJ hj) (hb.stg 3 hj).N).mono ?_
  rintro _ w' ⟨rfl, hk, ht⟩
  exact ⟨rfl, lab, _, hu, hb.fill hj rfl hk ht, hT.tn hu hj (ht.mono fun _ h => h.1), Nat.le_trans hB ht.size⟩
theorem apFillBlob (h : Ap w0 lab0 B bk n 3 w) : Calls Tryz.prog 75 #[.pointer (some ⟨bk, 0, none⟩)] w fun e w' => e = .returned (.tuple #[]) ∧ Ap w0 lab0 B bk n 4 w' := by
  obtain ⟨lab, K, hu, hb, hT, hB⟩ := h
  have hj : ¬ live 4 := by simp [live]
  refine (fillBlob_none w bk _ hb.at_.box (by show some (K 4).sv = _; rw [hb.at_.dead 4 hj]; rfl)).mono ?_
  rintro _ w' ⟨rfl, rfl⟩
  exact ⟨rfl, lab, K, hu, hb.skip hj (by decide) (.inl rfl), hT, hB⟩
theorem apFillRow (h : Ap w0 lab0 B bk n 4 w) : Calls Tryz.prog 76 #[.pointer (some ⟨bk, 0, none⟩)] w fun e w' => e = .returned (.tuple #[]) ∧ Ap w0 lab0 B bk n 5 w' := by
  obtain ⟨lab, K, hu, hb, hT, hB⟩ := h
  have hj : ¬ live 5 := by simp [live]
  refine (fillRow_none w bk _ hb.at_.box (by show some (K 5).sv = _; rw [hb.at_.dead 5 hj]; rfl)).mono ?_
  rintro _ w' ⟨rfl, rfl⟩
  exact ⟨rfl, lab, K, hu, hb.skip hj (by decide) (.inl rfl), hT, hB⟩
theorem apFillFlag (h : Ap w0 lab0 B bk n 5 w) : Calls Tryz.prog 77 #[.pointer (some ⟨bk, 0, none⟩)] w fun e w' => e = .returned (.tuple #[]) ∧ Ap w0 lab0 B bk n 6 w' := by
  obtain ⟨lab, K, hu, hb, hT, hB⟩ := h
  have hj : ¬ live 6 := by simp [live]
  refine (fillFlag_none w bk _ hb.at_.box (by show some (K 6).sv = _; rw [hb.at_.dead 6 hj]; rfl)).mono ?_
  rintro _ w' ⟨rfl, rfl⟩
  exact ⟨rfl, lab, K, hu, hb.skip hj (by decide) (.inl rfl), hT, hB⟩
theorem apFillRange (h : Ap w0 lab0 B bk n 6 w) : Calls Tryz.prog 78 #[.pointer (some ⟨bk, 0, none⟩)] w fun e w' => e = .returned (.tuple #[]) ∧ Ap w0 lab0 B bk n 7 w' := by
  obtain ⟨lab, K, hu, hb, hT, hB⟩ := h
  have hj : ¬ live 7 := by simp [live]
  refine (fillRange_none w bk _ hb.at_.box (by show some (K 7).sv = _; rw [hb.at_.dead 7 hj]; rfl)).mono ?_
  rintro _ w' ⟨rfl, rfl⟩
  exact ⟨rfl, lab, K, hu, hb.skip hj (by decide) (.inl rfl), hT, hB⟩
theorem apFillChange (h : Ap w0 lab0 B bk n 7 w) : Calls Tryz.prog 79 #[.pointer (some ⟨bk, 0, none⟩)] w fun e w' => e = .returned (.tuple #[]) ∧ Ap w0 lab0 B bk n 8 w' := by
  obtain ⟨lab, K, hu, hb, hT, hB⟩ := h
  have hj : ¬ live 8 := by simp [live]
  refine (fillChange_none w bk _ hb.at_.box (by show some (K 8).sv = _; rw [hb.at_.dead 8 hj]; rfl)).mono ?_
  rintro _ w' ⟨rfl, rfl⟩
  exact ⟨rfl, lab, K, hu, hb.skip hj (by decide) (.inl rfl), hT, hB⟩
theorem apFillEntry (h : Ap w0 lab0 B bk n 8 w) : Calls Tryz.prog 80 #[.pointer (some ⟨bk, 0, none⟩)] w fun e w' => e = .returned (.tuple #[]) ∧ Ap w0 lab0 B bk n 9 w' := by
  obtain ⟨lab, K, hu, hb, hT, hB⟩ := h
  have hj : live 9 := by simp [live]
  refine (fillEntry_calls w B bk lab _ (K 9) hb.at_.box rfl hb.at_.own (hb.at_.k 9) ((hb.stg 9 hj).d (by decide)) (hb.numOK hj) (hb.farJ hj) (hb.stg 9 hj).N).mono ?_
  rintro _ w' ⟨rfl, hk, ht⟩
  exact ⟨rfl, lab, _, hu, hb.fill hj rfl hk ht, hT.tn hu hj (ht.mono fun _ h => h.1), Nat.le_trans hB ht.size⟩
theorem apFillNode (h : Ap w0 lab0 B bk n 9 w) : Calls Tryz.prog 81 #[.pointer (some ⟨bk, 0, none⟩)] w fun e w' => e = .returned (.tuple #[]) ∧ Ap w0 lab0 B bk n 10 w' := by
  obtain ⟨lab, K, hu, hb, hT, hB⟩ := h
  have hj : live 10 := by simp [live]
  refine (fillNode_calls w B bk lab _ (K 10) hb.at_.box rfl hb.at_.own (hb.at_.k 10) ((hb.stg 10 hj).d (by decide)) (hb.numOK hj) (hb.farJ hj) (hb.stg 10 hj).N).mono ?_
  rintro _ w' ⟨rfl, hk, ht⟩
  exact ⟨rfl, lab, _, hu, hb.fill hj rfl hk ht, hT.tn hu hj (ht.mono fun _ h => h.1), Nat.le_trans hB ht.size⟩
theorem apFillCall (h : Ap w0 lab0 B bk n 10 w) : Calls Tryz.prog 82 #[.pointer (some ⟨bk, 0, none⟩)] w fun e w' => e = .returned (.tuple #[]) ∧ Ap w0 lab0 B bk n 11 w' := by
  obtain ⟨lab, K, hu, hb, hT, hB⟩ := h
  have hj : ¬ live 11 := by simp [live]
  refine (fillCall_none w bk _ hb.at_.box (by show some (K 11).sv = _; rw [hb.at_.dead 11 hj]; rfl)).mono ?_
  rintro _ w' ⟨rfl, rfl⟩
  exact ⟨rfl, lab, K, hu, hb.skip hj (by decide) (.inl rfl), hT, hB⟩
theorem apFillStep (h : Ap w0 lab0 B bk n 11 w) : Calls Tryz.prog 83 #[.pointer (some ⟨bk, 0, none⟩)] w fun e w' => e = .returned (.tuple #[]) ∧ Ap w0 lab0 B bk n 12 w' := by
  obtain ⟨lab, K, hu, hb, hT, hB⟩ := h
  have hj : live 12 := by simp [live]
  refine (fillStep_calls w B bk lab _ (K 12) hb.at_.box rfl hb.at_.own (hb.at_.k 12) ((hb.stg 12 hj).d (by decide)) (hb.numOK hj) (hb.farJ hj) (hb.stg 12 hj).N).mono ?_
  rintro _ w' ⟨rfl, hk, ht⟩
  exact ⟨rfl, lab, _, hu, hb.fill hj rfl hk ht, hT.tn hu hj (ht.mono fun _ h => h.1), Nat.le_trans hB ht.size⟩
theorem apGrowByte (h : Ap w0 lab0 B bk n 12 w) : Calls Tryz.prog 84 #[.pointer (some ⟨bk, 0, none⟩)] w fun e w' => e = .returned (.tuple #[]) ∧ Ap w0 lab0 B bk n 13 w' := by
  obtain ⟨lab, K, hu, hb, hT, hB⟩ := h
  have hj : live 1 := by simp [live]
  refine (growByte_calls w B bk lab _ (K 1) hB hb.at_.box rfl hb.at_.own (hb.at_.k 1) ((hb.stg 1 hj).d (by decide)) (hb.numOK hj) (hb.farJ hj) (hb.stg 1 hj).N (hb.stg 1 hj).len hb.at_.fresh).mono ?_
  rintro _ w' ⟨rfl, hg⟩
  obtain ⟨lab', K', h1, h2⟩ := hb.grow hj rfl hg
  exact ⟨rfl, lab', K', hu.trans h1 hT.size, h2, hT.tn hu hj hg.turned, Nat.le_trans hB hg.turned.size⟩
theorem apGrowInt (h : Ap w0 lab0 B bk n 13 w) : Calls Tryz.prog 85 #[.pointer (some ⟨bk, 0, none⟩)] w fun e w' => e = .returned (.tuple #[]) ∧ Ap w0 lab0 B bk n 14 w' := by
  obtain ⟨lab, K, hu, hb, hT, hB⟩ := h
  have hj : live 2 := by simp [live]
  refine (growInt_calls w B bk lab _ (K 2) hB hb.at_.box rfl hb.at_.own (hb.at_.k 2) ((hb.stg 2 hj).d (by decide)) (hb.numOK hj) (hb.farJ hj) (hb.stg 2 hj).N (hb.stg 2 hj).len hb.at_.fresh).mono ?_
  rintro _ w' ⟨rfl, hg⟩
  obtain ⟨lab', K', h1, h2⟩ := hb.grow hj rfl hg
  exact ⟨rfl, lab', K', hu.trans h1 hT.size, h2, hT.tn hu hj hg.turned, Nat.le_trans hB hg.turned.size⟩
theorem apGrowText (h : Ap w0 lab0 B bk n 14 w) : Calls Tryz.prog 86 #[.pointer (some ⟨bk, 0, none⟩)] w fun e w' => e = .returned (.tuple #[]) ∧ Ap w0 lab0 B bk n 15 w' := by
  obtain ⟨lab, K, hu, hb, hT, hB⟩ := h
  have hj : live 3 := by simp [live]
  refine (growText_calls w B bk lab _ (K 3) hB hb.at_.box rfl hb.at_.own (hb.at_.k 3) ((hb.stg 3 hj).d (by decide)) (hb.numOK hj) (hb.farJ hj) (hb.stg 3 hj).N (hb.stg 3 hj).len hb.at_.fresh).mono ?_
  rintro _ w' ⟨rfl, hg⟩
  obtain ⟨lab', K', h1, h2⟩ := hb.grow hj rfl hg
  exact ⟨rfl, lab', K', hu.trans h1 hT.size, h2, hT.tn hu hj hg.turned, Nat.le_trans hB hg.turned.size⟩
theorem apGrowBlob (h : Ap w0 lab0 B bk n 15 w) : Calls Tryz.prog 87 #[.pointer (some ⟨bk, 0, none⟩)] w fun e w' => e = .returned (.tuple #[]) ∧ Ap w0 lab0 B bk n 16 w' := by
  obtain ⟨lab, K, hu, hb, hT, hB⟩ := h
  have hj : ¬ live 4 := by simp [live]
  refine (growBlob_none w bk _ hb.at_.box (by show some (K 4).sv = _; rw [hb.at_.dead 4 hj]; rfl)).mono ?_
  rintro _ w' ⟨rfl, rfl⟩
  exact ⟨rfl, lab, K, hu, hb.skip hj (by decide) (.inr rfl), hT, hB⟩
theorem apGrowRow (h : Ap w0 lab0 B bk n 16 w) : Calls Tryz.prog 88 #[.pointer (some ⟨bk, 0, none⟩)] w fun e w' => e = .returned (.tuple #[]) ∧ Ap w0 lab0 B bk n 17 w' := by
  obtain ⟨lab, K, hu, hb, hT, hB⟩ := h
  have hj : ¬ live 5 := by simp [live]
  refine (growRow_none w bk _ hb.at_.box (by show some (K 5).sv = _; rw [hb.at_.dead 5 hj]; rfl)).mono ?_
  rintro _ w' ⟨rfl, rfl⟩
  exact ⟨rfl, lab, K, hu, hb.skip hj (by decide) (.inr rfl), hT, hB⟩
theorem apGrowFlag (h : Ap w0 lab0 B bk n 17 w) : Calls Tryz.prog 89 #[.pointer (some ⟨bk, 0, none⟩)] w fun e w' => e = .returned (.tuple #[]) ∧ Ap w0 lab0 B bk n 18 w' := by
  obtain ⟨lab, K, hu, hb, hT, hB⟩ := h
  have hj : ¬ live 6 := by simp [live]
  refine (growFlag_none w bk _ hb.at_.box (by show some (K 6).sv = _; rw [hb.at_.dead 6 hj]; rfl)).mono ?_
  rintro _ w' ⟨rfl, rfl⟩
  exact ⟨rfl, lab, K, hu, hb.skip hj (by decide) (.inr rfl), hT, hB⟩
theorem apGrowRange (h : Ap w0 lab0 B bk n 18 w) : Calls Tryz.prog 90 #[.pointer (some ⟨bk, 0, none⟩)] w fun e w' => e = .returned (.tuple #[]) ∧ Ap w0 lab0 B bk n 19 w' := by
  obtain ⟨lab, K, hu, hb, hT, hB⟩ := h
  have hj : ¬ live 7 := by simp [live]
  refine (growRange_none w bk _ hb.at_.box (by show some (K 7).sv = _; rw [hb.at_.dead 7 hj]; rfl)).mono ?_
  rintro _ w' ⟨rfl, rfl⟩
  exact ⟨rfl, lab, K, hu, hb.skip hj (by decide) (.inr rfl), hT, hB⟩
theorem apGrowChange (h : Ap w0 lab0 B bk n 19 w) : Calls Tryz.prog 91 #[.pointer (some ⟨bk, 0, none⟩)] w fun e w' => e = .returned (.tuple #[]) ∧ Ap w0 lab0 B bk n 20 w' := by
  obtain ⟨lab, K, hu, hb, hT, hB⟩ := h
  have hj : ¬ live 8 := by simp [live]
  refine (growChange_none w bk _ hb.at_.box (by show some (K 8).sv = _; rw [hb.at_.dead 8 hj]; rfl)).mono ?_
  rintro _ w' ⟨rfl, rfl⟩
  exact ⟨rfl, lab, K, hu, hb.skip hj (by decide) (.inr rfl), hT, hB⟩
theorem apGrowEntry (h : Ap w0 lab0 B bk n 20 w) : Calls Tryz.prog 92 #[.pointer (some ⟨bk, 0, none⟩)] w fun e w' => e = .returned (.tuple #[]) ∧ Ap w0 lab0 B bk n 21 w' := by
  obtain ⟨lab, K, hu, hb, hT, hB⟩ := h
  have hj : live 9 := by simp [live]
  refine (growEntry_calls w B bk lab _ (K 9) hB hb.at_.box rfl hb.at_.own (hb.at_.k 9) ((hb.stg 9 hj).d (by decide)) (hb.numOK hj) (hb.farJ hj) (hb.stg 9 hj).N (hb.stg 9 hj).len hb.at_.fresh).mono ?_
  rintro _ w' ⟨rfl, hg⟩
  obtain ⟨lab', K', h1, h2⟩ := hb.grow hj rfl hg
  exact ⟨rfl, lab', K', hu.trans h1 hT.size, h2, hT.tn hu hj hg.turned, Nat.le_trans hB hg.turned.size⟩
theorem apGrowNode (h : Ap w0 lab0 B bk n 21 w) : Calls Tryz.prog 93 #[.pointer (some ⟨bk, 0, none⟩)] w fun e w' => e = .returned (.tuple #[]) ∧ Ap w0 lab0 B bk n 22 w' := by
  obtain ⟨lab, K, hu, hb, hT, hB⟩ := h
  have hj : live 10 := by simp [live]
  refine (growNode_calls w B bk lab _ (K 10) hB hb.at_.box rfl hb.at_.own (hb.at_.k 10) ((hb.stg 10 hj).d (by decide)) (hb.numOK hj) (hb.farJ hj) (hb.stg 10 hj).N (hb.stg 10 hj).len hb.at_.fresh).mono ?_
  rintro _ w' ⟨rfl, hg⟩
  obtain ⟨lab', K', h1, h2⟩ := hb.grow hj rfl hg
  exact ⟨rfl, lab', K', hu.trans h1 hT.size, h2, hT.tn hu hj hg.turned, Nat.le_trans hB hg.turned.size⟩
theorem apGrowCall (h : Ap w0 lab0 B bk n 22 w) : Calls Tryz.prog 94 #[.pointer (some ⟨bk, 0, none⟩)] w fun e w' => e = .returned (.tuple #[]) ∧ Ap w0 lab0 B bk n 23 w' := by
  obtain ⟨lab, K, hu, hb, hT, hB⟩ := h
  have hj : ¬ live 11 := by simp [live]
  refine (growCall_none w bk _ hb.at_.box (by show some (K 11).sv = _; rw [hb.at_.dead 11 hj]; rfl)).mono ?_
  rintro _ w' ⟨rfl, rfl⟩
  exact ⟨rfl, lab, K, hu, hb.skip hj (by decide) (.inr rfl), hT, hB⟩
theorem apGrowStep (h : Ap w0 lab0 B bk n 23 w) : Calls Tryz.prog 95 #[.pointer (some ⟨bk, 0, none⟩)] w fun e w' => e = .returned (.tuple #[]) ∧ Ap w0 lab0 B bk n 24 w' := by
  obtain ⟨lab, K, hu, hb, hT, hB⟩ := h
  have hj : live 12 := by simp [live]
  refine (growStep_calls w B bk lab _ (K 12) hB hb.at_.box rfl hb.at_.own (hb.at_.k 12) ((hb.stg 12 hj).d (by decide)) (hb.numOK hj) (hb.farJ hj) (hb.stg 12 hj).N (hb.stg 12 hj).len hb.at_.fresh).mono ?_
  rintro _ w' ⟨rfl, hg⟩
  obtain ⟨lab', K', h1, h2⟩ := hb.grow hj rfl hg
  exact ⟨rfl, lab', K', hu.trans h1 hT.size, h2, hT.tn hu hj hg.turned, Nat.le_trans hB hg.turned.size⟩
theorem apLookByte (h : Ap w0 lab0 B bk n 24 w) : Calls Tryz.prog 96 #[.pointer (some ⟨bk, 0, none⟩)] w fun e w' => e = .returned (.bool true) ∧ Ap w0 lab0 B bk n 24 w' := by
  have h' := h
  obtain ⟨lab, K, hu, hb, hT, hB⟩ := h
  have hj : live 1 := by simp [live]
  refine (lookByte_calls w B bk lab _ (K 1) hb.at_.box rfl (hb.at_.k 1) ((hb.at_.k 1).marked (hb.numOK hj) ((hb.stg 1 hj).full (by decide)) ((hb.stg 1 hj).tall (by decide))) (hb.stg 1 hj).N).mono ?_
  rintro _ w' ⟨rfl, hbw⟩
  exact ⟨rfl, h'.keep hbw⟩
theorem apLookInt (h : Ap w0 lab0 B bk n 24 w) : Calls Tryz.prog 97 #[.pointer (some ⟨bk, 0, none⟩)] w fun e w' => e = .returned (.bool true) ∧ Ap w0 lab0 B bk n 24 w' := by
  have h' := h
  obtain ⟨lab, K, hu, hb, hT, hB⟩ := h
  have hj : live 2 := by simp [live]
  refine (lookInt_calls w B bk lab _ (K 2) hb.at_.box rfl (hb.at_.k 2) ((hb.at_.k 2).marked (hb.numOK hj) ((hb.stg 2 hj).full (by decide)) ((hb.stg 2 hj).tall (by decide))) (hb.stg 2 hj).N).mono ?_
  rintro _ w' ⟨rfl, hbw⟩
  exact ⟨rfl, h'.keep hbw⟩
theorem apLookText (h : Ap w0 lab0 B bk n 24 w) : Calls Tryz.prog 98 #[.pointer (some ⟨bk, 0, none⟩)] w fun e w' => e = .returned (.bool true) ∧ Ap w0 lab0 B bk n 24 w' := by
  have h' := h
  obtain ⟨lab, K, hu, hb, hT, hB⟩ := h
  have hj : live 3 := by simp [live]
  refine (lookText_calls w B bk lab _ (K 3) hb.at_.box rfl (hb.at_.k 3) ((hb.at_.k 3).marked (hb.numOK hj) ((hb.stg 3 hj).full (by decide)) ((hb.stg 3 hj).tall (by decide))) (hb.stg 3 hj).N).mono ?_
  rintro _ w' ⟨rfl, hbw⟩
  exact ⟨rfl, h'.keep hbw⟩
theorem apLookBlob (h : Ap w0 lab0 B bk n 24 w) : Calls Tryz.prog 99 #[.pointer (some ⟨bk, 0, none⟩)] w fun e w' => e = .returned (.bool true) ∧ Ap w0 lab0 B bk n 24 w' := by
  have h' := h
  obtain ⟨lab, K, hu, hb, hT, hB⟩ := h
  have hj : ¬ live 4 := by simp [live]
  refine (lookBlob_none w bk _ hb.at_.box (by show some (K 4).sv = _; rw [hb.at_.dead 4 hj]; rfl)).mono ?_
  rintro _ w' ⟨rfl, rfl⟩
  exact ⟨rfl, h'⟩
theorem apLookRow (h : Ap w0 lab0 B bk n 24 w) : Calls Tryz.prog 100 #[.pointer (some ⟨bk, 0, none⟩)] w fun e w' => e = .returned (.bool true) ∧ Ap w0 lab0 B bk n 24 w' := by
  have h' := h
  obtain ⟨lab, K, hu, hb, hT, hB⟩ := h
  have hj : ¬ live 5 := by simp [live]
  refine (lookRow_none w bk _ hb.at_.box (by show some (K 5).sv = _; rw [hb.at_.dead 5 hj]; rfl)).mono ?_
  rintro _ w' ⟨rfl, rfl⟩
  exact ⟨rfl, h'⟩
theorem apLookFlag (h : Ap w0 lab0 B bk n 24 w) : Calls Tryz.prog 101 #[.pointer (some ⟨bk, 0, none⟩)] w fun e w' => e = .returned (.bool true) ∧ Ap w0 lab0 B bk n 24 w' := by
  have h' := h
  obtain ⟨lab, K, hu, hb, hT, hB⟩ := h
  have hj : ¬ live 6 := by simp [live]
  refine (lookFlag_none w bk _ hb.at_.box (by show some (K 6).sv = _; rw [hb.at_.dead 6 hj]; rfl)).mono ?_
  rintro _ w' ⟨rfl, rfl⟩
  exact ⟨rfl, h'⟩
theorem apLookRange (h : Ap w0 lab0 B bk n 24 w) : Calls Tryz.prog 102 #[.pointer (some ⟨bk, 0, none⟩)] w fun e w' => e = .returned (.bool true) ∧ Ap w0 lab0 B bk n 24 w' := by
  have h' := h
  obtain ⟨lab, K, hu, hb, hT, hB⟩ := h
  have hj : ¬ live 7 := by simp [live]
  refine (lookRange_none w bk _ hb.at_.box (by show some (K 7).sv = _; rw [hb.at_.dead 7 hj]; rfl)).mono ?_
  rintro _ w' ⟨rfl, rfl⟩
  exact ⟨rfl, h'⟩
theorem apLookChange (h : Ap w0 lab0 B bk n 24 w) : Calls Tryz.prog 103 #[.pointer (some ⟨bk, 0, none⟩)] w fun e w' => e = .returned (.bool true) ∧ Ap w0 lab0 B bk n 24 w' := by
  have h' := h
  obtain ⟨lab, K, hu, hb, hT, hB⟩ := h
  have hj : ¬ live 8 := by simp [live]
  refine (lookChange_none w bk _ hb.at_.box (by show some (K 8).sv = _; rw [hb.at_.dead 8 hj]; rfl)).mono ?_
  rintro _ w' ⟨rfl, rfl⟩
  exact ⟨rfl, h'⟩
theorem apLookEntry (h : Ap w0 lab0 B bk n 24 w) : Calls Tryz.prog 104 #[.pointer (some ⟨bk, 0, none⟩)] w fun e w' => e = .returned (.bool true) ∧ Ap w0 lab0 B bk n 24 w' := by
  have h' := h
  obtain ⟨lab, K, hu, hb, hT, hB⟩ := h
  have hj : live 9 := by simp [live]
  refine (lookEntry_calls w B bk lab _ (K 9) hb.at_.box rfl (hb.at_.k 9) ((hb.at_.k 9).marked (hb.numOK hj) ((hb.stg 9 hj).full (by decide)) ((hb.stg 9 hj).tall (by decide))) (hb.stg 9 hj).N).mono ?_
  rintro _ w' ⟨rfl, hbw⟩
  exact ⟨rfl, h'.keep hbw⟩
theorem apLookNode (h : Ap w0 lab0 B bk n 24 w) : Calls Tryz.prog 105 #[.pointer (some ⟨bk, 0, none⟩)] w fun e w' => e = .returned (.bool true) ∧ Ap w0 lab0 B bk n 24 w' := by
  have h' := h
  obtain ⟨lab, K, hu, hb, hT, hB⟩ := h
  have hj : live 10 := by simp [live]
  refine (lookNode_calls w B bk lab _ (K 10) hb.at_.box rfl (hb.at_.k 10) ((hb.at_.k 10).marked (hb.numOK hj) ((hb.stg 10 hj).full (by decide)) ((hb.stg 10 hj).tall (by decide))) (hb.stg 10 hj).N).mono ?_
  rintro _ w' ⟨rfl, hbw⟩
  exact ⟨rfl, h'.keep hbw⟩
theorem apLookCall (h : Ap w0 lab0 B bk n 24 w) : Calls Tryz.prog 106 #[.pointer (some ⟨bk, 0, none⟩)] w fun e w' => e = .returned (.bool true) ∧ Ap w0 lab0 B bk n 24 w' := by
  have h' := h
  obtain ⟨lab, K, hu, hb, hT, hB⟩ := h
  have hj : ¬ live 11 := by simp [live]
  refine (lookCall_none w bk _ hb.at_.box (by show some (K 11).sv = _; rw [hb.at_.dead 11 hj]; rfl)).mono ?_
  rintro _ w' ⟨rfl, rfl⟩
  exact ⟨rfl, h'⟩
theorem apLookStep (h : Ap w0 lab0 B bk n 24 w) : Calls Tryz.prog 107 #[.pointer (some ⟨bk, 0, none⟩)] w fun e w' => e = .returned (.bool true) ∧ Ap w0 lab0 B bk n 24 w' := by
  have h' := h
  obtain ⟨lab, K, hu, hb, hT, hB⟩ := h
  have hj : live 12 := by simp [live]
  refine (lookStep_calls w B bk lab _ (K 12) hb.at_.box rfl (hb.at_.k 12) ((hb.at_.k 12).marked (hb.numOK hj) ((hb.stg 12 hj).full (by decide)) ((hb.stg 12 hj).tall (by decide))) (hb.stg 12 hj).N).mono ?_
  rintro _ w' ⟨rfl, hbw⟩
  exact ⟨rfl, h'.keep hbw⟩
set_option maxHeartbeats 4000000 in
theorem apart_calls (w : World) (B : Nat) (lab : Lab) (bk : Nat) (n : Int) (C : Nat → Nat) (h : BookIs w B lab bk n C) (hB : B ≤ w.heap.size) (hn : n ≤ 1000000) (ht : TabW w) (hf : TabFar fun b => lab b ≠ (0, 0)) :
    Calls Tryz.prog 23 #[.pointer (some ⟨bk, 0, none⟩)] w fun e w' => e = .returned (.bool true) ∧ Turned (fun b => Tn (lab b)) w w' := by
  have H0 : Hid (Ap w lab B bk n 0 w) := by
    obtain ⟨K, hb, hne, hC, hle⟩ := h
    refine Lib.hid ⟨lab, K, LabUp.refl _ _, ⟨hb, fun j hj => ⟨by have := hle j; rw [hC]; omega, (hne j).num, (hne j).len, fun h => absurd h (by have := live_ne hj; omega), fun h => absurd h (by omega), fun _ => (hne j).d⟩, ht, hf, hn⟩, Turned.refl _ _, hB⟩
  clear h hB hn ht hf
  go_enter Tryz.func23, Tryz.ntmps23
  go_wp2_with (first
    | (go_at_call 107; refine (apLookStep H35.out).mono ?_; rintro _ w36 ⟨rfl, h36⟩; have H36 := Lib.hid h36; clear h36)
    | (go_at_call 106; refine (apLookCall H34.out).mono ?_; rintro _ w35 ⟨rfl, h35⟩; have H35 := Lib.hid h35; clear h35)
    | (go_at_call 105; refine (apLookNode H33.out).mono ?_; rintro _ w34 ⟨rfl, h34⟩; have H34 := Lib.hid h34; clear h34)
    | (go_at_call 104; refine (apLookEntry H32.out).mono ?_; rintro _ w33 ⟨rfl, h33⟩; have H33 := Lib.hid h33; clear h33)
    | (go_at_call 103; refine (apLookChange H31.out).mono ?_; rintro _ w32 ⟨rfl, h32⟩; have H32 := Lib.hid h32; clear h32)
    | (go_at_call 102; refine (apLookRange H30.out).mono ?_; rintro _ w31 ⟨rfl, h31⟩; have H31 := Lib.hid h31; clear h31)
    | (go_at_call 101; refine (apLookFlag H29.out).mono ?_; rintro _ w30 ⟨rfl, h30⟩; have H30 := Lib.hid h30; clear h30)
    | (go_at_call 100; refine (apLookRow H28.out).mono ?_; rintro _ w29 ⟨rfl, h29⟩; have H29 := Lib.hid h29; clear h29)
    | (go_at_call 99; refine (apLookBlob H27.out).mono ?_; rintro _ w28 ⟨rfl, h28⟩; have H28 := Lib.hid h28; clear h28)
    | (go_at_call 98; refine (apLookText H26.out).mono ?_; rintro _ w27 ⟨rfl, h27⟩; have H27 := Lib.hid h27; clear h27)
    | (go_at_call 97; refine (apLookInt H25.out).mono ?_; rintro _ w26 ⟨rfl, h26⟩; have H26 := Lib.hid h26; clear h26)
    | (go_at_call 96; refine (apLookByte H24.out).mono ?_; rintro _ w25 ⟨rfl, h25⟩; have H25 := Lib.hid h25; clear h25)
    | (go_at_call 95; refine (apGrowStep H23.out).mono ?_; rintro _ w24 ⟨rfl, h24⟩; have H24 := Lib.hid h24; clear h24)
    | (go_at_call 94; refine (apGrowCall H22.out).mono ?_; rintro _ w23 ⟨rfl, h23⟩; have H23 := Lib.hid h23; clear h23)
    | (go_at_call 93; refine (apGrowNode H21.out).mono ?_; rintro _ w22 ⟨rfl, h22⟩; have H22 := Lib.hid h22; clear h22)
    | (go_at_call 92; refine (apGrowEntry H20.out).mono ?_; rintro _ w21 ⟨rfl, h21⟩; have H21 := Lib.hid h21; clear h21)
    | (go_at_call 91; refine (apGrowChange H19.out).mono ?_; rintro _ w20 ⟨rfl, h20⟩; have H20 := Lib.hid h20; clear h20)
    | (go_at_call 90; refine (apGrowRange H18.out).mono ?_; rintro _ w19 ⟨rfl, h19⟩; have H19 := Lib.hid h19; clear h19)
    | (go_at_call 89; refine (apGrowFlag H17.out).mono ?_; rintro _ w18 ⟨rfl, h18⟩; have H18 := Lib.hid h18; clear h18)
    | (go_at_call 88; refine (apGrowRow H16.out).mono ?_; rintro _ w17 ⟨rfl, h17⟩; have H17 := Lib.hid h17; clear h17)
    | (go_at_call 87; refine (apGrowBlob H15.out).mono ?_; rintro _ w16 ⟨rfl, h16⟩; have H16 := Lib.hid h16; clear h16)
    | (go_at_call 86; refine (apGrowText H14.out).mono ?_; rintro _ w15 ⟨rfl, h15⟩; have H15 := Lib.hid h15; clear h15)
    | (go_at_call 85; refine (apGrowInt H13.out).mono ?_; rintro _ w14 ⟨rfl, h14⟩; have H14 := Lib.hid h14; clear h14)
    | (go_at_call 84; refine (apGrowByte H12.out).mono ?_; rintro _ w13 ⟨rfl, h13⟩; have H13 := Lib.hid h13; clear h13)
    | (go_at_call 83; refine (apFillStep H11.out).mono ?_; rintro _ w12 ⟨rfl, h12⟩; have H12 := Lib.hid h12; clear h12)
    | (go_at_call 82; refine (apFillCall H10.out).mono ?_; rintro _ w11 ⟨rfl, h11⟩; have H11 := Lib.hid h11; clear h11)
    | (go_at_call 81; refine (apFillNode H9.out).mono ?_; rintro _ w10 ⟨rfl, h10⟩; have H10 := Lib.hid h10; clear h10)
    | (go_at_call 80; refine (apFillEntry H8.out).mono ?_; rintro _ w9 ⟨rfl, h9⟩; have H9 := Lib.hid h9; clear h9)
    | (go_at_call 79; refine (apFillChange H7.out).mono ?_; rintro _ w8 ⟨rfl, h8⟩; have H8 := Lib.hid h8; clear h8)
    | (go_at_call 78; refine (apFillRange H6.out).mono ?_; rintro _ w7 ⟨rfl, h7⟩; have H7 := Lib.hid h7; clear h7)
    | (go_at_call 77; refine (apFillFlag H5.out).mono ?_; rintro _ w6 ⟨rfl, h6⟩; have H6 := Lib.hid h6; clear h6)
    | (go_at_call 76; refine (apFillRow H4.out).mono ?_; rintro _ w5 ⟨rfl, h5⟩; have H5 := Lib.hid h5; clear h5)
    | (go_at_call 75; refine (apFillBlob H3.out).mono ?_; rintro _ w4 ⟨rfl, h4⟩; have H4 := Lib.hid h4; clear h4)
    | (go_at_call 74; refine (apFillText H2.out).mono ?_; rintro _ w3 ⟨rfl, h3⟩; have H3 := Lib.hid h3; clear h3)
    | (go_at_call 73; refine (apFillInt H1.out).mono ?_; rintro _ w2 ⟨rfl, h2⟩; have H2 := Lib.hid h2; clear h2)
    | (go_at_call 72; refine (apFillByte H0.out).mono ?_; rintro _ w1 ⟨rfl, h1⟩; have H1 := Lib.hid h1; clear h1))
  obtain ⟨lab', K', h1, h2, h3, h4⟩ := H36.out
  go_ret
  exact ⟨rfl, h3⟩
end Go.Proofs.YtbfcfjgcmideeaaGreatDoor
namespace Go.Proofs.YtbfcfjgcmideeaaGreatDoor
open Go.RowKit
theorem OwnX.down {w : World} {B B' : Nat} {e : TypeId} {z : Nat} {v : Value} {rows : List (List Value)} (h : OwnX w B e z v rows) (hB : B' ≤ B) : OwnX w B' e z v rows := h.imp (fun h => h.base hB) fun ⟨A, C, h1, h2⟩ => ⟨A, C, h1, h2.base hB⟩
theorem sizeSum_mem' {l : List TNode} : ∀ {n : TNode}, n ∈ l → n.size ≤ sizeSum l l.length := by
  intro n hn
  unfold sizeSum
  rw [List.take_length]
  induction l with
  | nil => cases hn
  | cons a r ih =>
    rw [List.map_cons, List.sum_cons]
    rcases List.mem_cons.1 hn with rfl | h
    · omega
    · have := ih h; omega
theorem TTree.cost {t : TTree} {N : Nat} (h : t.size ≤ N) : t.nodes.length ≤ N ∧ ∀ n ∈ t.nodes, n.data.length ≤ N ∧ n.list.length ≤ N := by
  unfold TTree.size at h
  refine ⟨by omega, fun n hn => ?_⟩
  have := sizeSum_mem' hn
  unfold TNode.size at this
  omega
theorem book_lab {w1 w8 : World} {B bk j1 j2 : Nat} {A : Option Addr} {c : Nat} {l : List TNode} {v1 v2 : Value} {lab1 : Lab} (h : TreeIn w1 B lab1 0 0 0 A c l) (hb : Below w1.heap.size w1 w8) (hB : B ≤ w1.heap.size)
    (hbox : w8.heap[bk]? = some (.cells #[.int .i64 0, .slice none 0 0, .slice none 0 0, .slice none 0 0, .slice none 0 0, .slice none 0 0, .slice none 0 0, .slice none 0 0, .slice none 0 0, .slice none 0 0, .slice none 0 0, .slice none 0 0, .slice none 0 0] 53 (0, 0)))
    (hbk : w1.heap.size ≤ bk) (h1 : ∀ k, v1.ownBlock = some k → w1.heap.size ≤ k ∧ k < bk) (h2 : ∀ k, v2.ownBlock = some k → w1.heap.size ≤ k ∧ k < bk) (h12 : ∀ k, v1.ownBlock = some k → v2.ownBlock ≠ some k) :
    ∃ lab : Lab, BookIs w8 B lab bk 0 (fun _ => 0) ∧ TreeIn w8 B lab 0 0 0 A c l ∧ (∀ k, v1.ownBlock = some k → lab k = (j1, 1)) ∧ (∀ k, v2.ownBlock = some k → lab k = (j2, 1)) ∧ (∀ k, k < B → lab k = (0, 0)) ∧ (j1 ≠ 0 → j2 ≠ 0 → ∀ k, B ≤ k → k ≠ bk → ¬ Hd (lab k)) := by
  have hlt := (Array.getElem?_eq_some_iff.1 hbox).1
  have n1 : ∀ k, k < w1.heap.size → v1.ownBlock ≠ some k := fun k hk e => by have := (h1 k e).1; omega
  have n2 : ∀ k, k < w1.heap.size → v2.ownBlock ≠ some k := fun k hk e => by have := (h2 k e).1; omega
  let lab : Lab := fun k => if k = bk then (0, 1) else if v1.ownBlock = some k then (j1, 1) else if v2.ownBlock = some k then (j2, 1) else if B ≤ k ∧ k < w1.heap.size ∧ (lab1 k).1 ≠ 0 ∧ (lab1 k).2 ≠ 0 then lab1 k else (0, 0)
  have old : ∀ k, k < w1.heap.size → lab k = if B ≤ k ∧ k < w1.heap.size ∧ (lab1 k).1 ≠ 0 ∧ (lab1 k).2 ≠ 0 then lab1 k else (0, 0) := by
    intro k hk
    have hne : k ≠ bk := by omega
    show (if k = bk then _ else _) = _
    rw [if_neg hne, if_neg (n1 k hk), if_neg (n2 k hk)]
  have keep : ∀ k j i, B ≤ k → k < w1.heap.size → lab1 k = (j + 1, i + 1) → lab k = (j + 1, i + 1) := by
    intro k j i hk0 hk e
    rw [old k hk, if_pos ⟨hk0, hk, by rw [e]; simp, by rw [e]; simp⟩, e]
  refine ⟨lab, BookIs.start hbox ?_ (Nat.le_trans hB hbk) fun k hk => ?_, ?_, fun k hk => ?_, fun k hk => ?_, fun k hk => ?_, fun hj1 hj2 k hk0 hkn => ?_⟩
  · show (if bk = bk then _ else _) = _
    rw [if_pos rfl]
  · have a1 : k ≠ bk := by omega
    have a2 : v1.ownBlock ≠ some k := fun e => by have := (h1 k e).2; omega
    have a3 : v2.ownBlock ≠ some k := fun e => by have := (h2 k e).2; omega
    have a4 : ¬ (B ≤ k ∧ k < w1.heap.size ∧ (lab1 k).1 ≠ 0 ∧ (lab1 k).2 ≠ 0) := by omega
    show (if k = bk then _ else _) = _
    rw [if_neg a1, if_neg a2, if_neg a3, if_neg a4]
  · refine (h.shift 0 0 0 (fun k i hk0 hk e => ?_) (fun k i hk0 hk e => ?_) fun k hk0 hk e => ?_).keep hb
    · rw [Nat.zero_add]; exact keep k 0 i hk0 hk e
    · rw [Nat.zero_add]; exact keep k 8 i hk0 hk e
    · exact keep k 9 0 hk0 hk e
  · have := h1 k hk
    have a1 : k ≠ bk := by omega
    show (if k = bk then _ else _) = _
    rw [if_neg a1, if_pos hk]
  · have := h2 k hk
    have a1 : k ≠ bk := by omega
    have a2 : v1.ownBlock ≠ some k := fun e => h12 k e hk
    show (if k = bk then _ else _) = _
    rw [if_neg a1, if_neg a2, if_pos hk]
  · rw [old k (by omega), if_neg (by omega)]
  · show ¬ Hd (if k = bk then _ else _)
    rw [if_neg hkn]
    by_cases e1 : v1.ownBlock = some k
    · rw [if_pos e1]
      rintro (hs | ⟨-, hs⟩)
      · simp at hs; exact hj1 hs
      · simp at hs
    · rw [if_neg e1]
      by_cases e2 : v2.ownBlock = some k
      · rw [if_pos e2]
        rintro (hs | ⟨-, hs⟩)
        · simp at hs; exact hj2 hs
        · simp at hs
      · rw [if_neg e2]
        by_cases e : B ≤ k ∧ k < w1.heap.size ∧ (lab1 k).1 ≠ 0 ∧ (lab1 k).2 ≠ 0
        · rw [if_pos e]
          rintro (hs | ⟨-, hs⟩)
          · have := e.2.2.1; rw [hs] at this; exact this rfl
          · exact e.2.2.2 hs
        · rw [if_neg e]
          rintro (hs | ⟨hs, -⟩)
          · simp at hs
          · exact hs rfl
theorem Kp.keep {W w8 w w' : World} {lab : Lab} {bk : Nat} {n : Int} {C : Nat → Nat} (hK : Kp W w8 lab bk n C w) (hb : Below w.heap.size w w') : Kp W w8 lab bk n C w' := by
  obtain ⟨lab', hu, hi⟩ := hK.ex
  exact ⟨⟨lab', hu, hi.keep hb⟩, hK.turned.trans (turned_below (S := fun k => Hd (lab k)) hb) fun _ _ h => h, below_step hK.below hb⟩
/-- Behind all the keeping: Apart. -/
theorem Kp.apart {W w8 w : World} {lab : Lab} {bk : Nat} {n : Int} {C : Nat → Nat} (hK : Kp W w8 lab bk n C w) (hlow : ∀ k, k < W.heap.size → lab k = (0, 0)) (hW : W.heap.size ≤ w8.heap.size) (hn : n ≤ 1000000) (ht : TabW W) :
    Calls Tryz.prog 23 #[.pointer (some ⟨bk, 0, none⟩)] w fun e w' => e = .returned (.bool true) ∧ Below W.heap.size W w' := by
  obtain ⟨lab', hu, hb⟩ := hK.ex
  have hl : ∀ k, k < W.heap.size → lab' k = (0, 0) := fun k hk => (hu k (Nat.lt_of_lt_of_le hk hW)).trans (hlow k hk)
  refine (apart_calls w W.heap.size lab' bk n C hb hK.below.size hn (ht.turned (turned_below (S := fun _ => False) hK.below) fun _ _ h => h) fun g hg e => e (hl g (ht.low g hg))).mono ?_
  rintro _ w' ⟨rfl, hT⟩
  exact ⟨rfl, below_turned hK.below hT (fun k hk hs => by rw [hl k hk] at hs; exact hs rfl) hK.below.size⟩
/-- A list more is told what it is, behind some keeping. -/
theorem Kp.on {W w8 w : World} {lab : Lab} {bk : Nat} {n : Int} {C : Nat → Nat} (hK : Kp W w8 lab bk n C w) {B j z : Nat} {e : TypeId} {v : Value} {rows : List (List Value)} (h : OwnX w8 B e z v rows) (hl : ∀ k, v.ownBlock = some k → lab k = (j, 1)) (hj : j ≠ 0) :
    ∃ lab', LabUp w8 lab lab' ∧ BookIs w W.heap.size lab' bk n C ∧ OwnX w B e z v rows ∧ ∀ k, v.ownBlock = some k → lab' k = (j, 1) := by
  obtain ⟨lab', hu, hb⟩ := hK.ex
  have := own_on (x := 0) h hl hj hK.turned hu
  exact ⟨lab', hu, hb, this⟩
end Go.Proofs.YtbfcfjgcmideeaaGreatDoor
namespace Go.Proofs.YtbfcfjgcmideeaaGreatDoor
open Go.RowKit
theorem tabW_of {W : World} (h : Lib.VarReads Tryz.prog W "internal/strconv.uint64pow10" (Lib.tabData .u64 Lib.pow10Tab)) : TabW W := by
  obtain ⟨g, t, cs, fuel, p, hg, ht, hvar, hd⟩ := h
  have h1 : Tryz.prog.globalNamed "internal/strconv.uint64pow10" = some g := hg
  have h2 : ((Tryz.prog.globalNamed "internal/strconv.uint64pow10").bind fun g => (Tryz.prog.globals[g]?).map (·.type)) = some 302 := by kernel_rfl
  rw [h1, Option.bind_some, ht] at h2
  obtain rfl : t = 302 := Option.some.inj h2
  unfold TabW Lib.TabIs
  rw [hvar, ← Lib.cells_of_tab (n := 20) Tryz.underlying302 Tryz.underlying293 (by kernel_rfl) (by kernel_rfl) hd]
end Go.Proofs.YtbfcfjgcmideeaaGreatDoor
