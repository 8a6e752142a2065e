/- The Book: all that is held is filled, grown and looked at: no two lists share memory. -/
import Derived.Test.YtdceechakocgfaaGreatDoorBookTree
import Derived.Test.YtdceechakocgfaaGreatDoorFill
import Derived.Test.YtdceechakocgfaaGreatDoorGrow
import Derived.Test.YtdceechakocgfaaGreatDoorLook1
import Derived.Test.YtdceechakocgfaaGreatDoorVoid
namespace Go.Proofs.YtdceechakocgfaaGreatDoor
open Go.RowKit
attribute [local go_sem] Later.cell_eq
/-- Each list is full of its mark. -/
def Full (s : KS) (mk : Int → List Value) : Prop := ∀ x, x < s.N → (0 ≤ s.num x ∧ s.num x < 100) ∧ ∃ n, n ≤ 1000000 ∧ s.R x = List.replicate n (mk (s.num x))
/-- Each list is grown. -/
def Tall (s : KS) (mk : Int → List Value) : Prop := s.d = s.N ∧ ∀ x, x < s.N → s.M x = List.replicate 40 (mk (s.num x))
theorem Kind.marked {w : World} {B : Nat} {lab : Lab} {j : Nat} {H e : TypeId} {z : Nat} {s : KS} {mk : Int → List Value} (h : Kind w B lab j H e z s) (hf : Full s mk) (ht : Tall s mk) : Marked w B z s mk := by
  intro x hx
  obtain ⟨h1, n, h2, h3⟩ := hf x hx
  obtain ⟨h4, h5, -⟩ := h.done x (by rw [ht.1]; exact hx) hx
  rw [h3] at h4 h5
  rw [ht.2 x hx, List.replicate_append_replicate] at h5
  exact ⟨h1, n, h2, h4, h5.rd⟩
/-- The lists are filled with marks. -/
def KS.full (s : KS) (mk : Int → List Value) : KS := { s with R := fun x => List.replicate (s.R x).length (mk (s.num x)) }
theorem Neat.toFull {s : KS} {n : Int} (h : Neat s n) (hn : n < 100) (mk : Int → List Value) : Full (s.full mk) mk := fun x hx => ⟨⟨(h.num x hx).1, by have := (h.num x hx).2; show s.num x < 100; omega⟩, (s.R x).length, h.len x hx, rfl⟩
/-- What is turned: lists, and lists of lists; not the box. -/
def Tn (p : Nat × Nat) : Prop := p.1 ≠ 0
theorem tn_other {w w' : World} {lab : Lab} {j : Nat} (h : Turned (fun b => (lab b).1 = j) w w') (hj : j ≠ 0) : Turned (fun b => Tn (lab b)) w w' := h.mono fun _ hb => by unfold Tn; rw [hb]; exact hj
theorem BookAt.fillByte {w w' : World} {B : Nat} {lab : Lab} {bk : Nat} {n : Int} {a e m : KS} {s : KS} (h : BookAt w B lab bk n a e m) (hs : s.sv = a.sv) (hk : Kind w' B lab 1 127 5 1 s) (hT : Turned (fun b => (lab b).1 = 1) w w') : BookAt w' B lab bk n s e m :=
  ⟨by rw [hs]; exact turned_book hT (by rw [h.own]; decide) h.box, h.own, h.low, fun k hk => h.fresh k (Nat.le_trans hT.size hk), hk, h.ke.turned hT (fun k _ hb => by rw [hb]; decide) (LabUp.refl _ _), h.kn.turned hT (fun k _ hb => by rw [hb]; decide) (LabUp.refl _ _)⟩
theorem BookAt.fillEntry {w w' : World} {B : Nat} {lab : Lab} {bk : Nat} {n : Int} {a e m : KS} {s : KS} (h : BookAt w B lab bk n a e m) (hs : s.sv = e.sv) (hk : Kind w' B lab 9 162 122 2 s) (hT : Turned (fun b => (lab b).1 = 9) w w') : BookAt w' B lab bk n a s m :=
  ⟨by rw [hs]; exact turned_book hT (by rw [h.own]; decide) h.box, h.own, h.low, fun k hk => h.fresh k (Nat.le_trans hT.size hk), h.kb.turned hT (fun k _ hb => by rw [hb]; decide) (LabUp.refl _ _), hk, h.kn.turned hT (fun k _ hb => by rw [hb]; decide) (LabUp.refl _ _)⟩
theorem BookAt.fillNode {w w' : World} {B : Nat} {lab : Lab} {bk : Nat} {n : Int} {a e m : KS} {s : KS} (h : BookAt w B lab bk n a e m) (hs : s.sv = m.sv) (hk : Kind w' B lab 10 165 74 10 s) (hT : Turned (fun b => (lab b).1 = 10) w w') : BookAt w' B lab bk n a e s :=
  ⟨by rw [hs]; exact turned_book hT (by rw [h.own]; decide) h.box, h.own, h.low, fun k hk => h.fresh k (Nat.le_trans hT.size hk), h.kb.turned hT (fun k _ hb => by rw [hb]; decide) (LabUp.refl _ _), h.ke.turned hT (fun k _ hb => by rw [hb]; decide) (LabUp.refl _ _), hk⟩
/-- The lists are grown. -/
def KS.grown (s : KS) (L : Nat → Value) (M : Nat → List (List Value)) : KS := { s with L := L, M := M, d := s.N }
theorem BookAt.relab {w w' : World} {B : Nat} {lab lab' : Lab} {bk : Nat} {n : Int} {a e m : KS} {j : Nat} (h : BookAt w B lab bk n a e m) (hj : j ≠ 0) (hT : Turned (fun b => (lab b).1 = j) w w') (hu : LabUp w lab lab') :
    w'.heap[bk]? = some (.cells (bookV n a.sv e.sv m.sv) 35 (0, 0)) ∧ lab' bk = (0, 1) ∧ (j ≠ 1 → Kind w' B lab' 1 127 5 1 a) ∧ (j ≠ 9 → Kind w' B lab' 9 162 122 2 e) ∧ (j ≠ 10 → Kind w' B lab' 10 165 74 10 m) :=
  ⟨turned_book hT (by rw [h.own]; exact fun e => hj e.symm) h.box, (hu bk (Array.getElem?_eq_some_iff.1 h.box).1).trans h.own, fun h1 => h.kb.turned hT (fun k _ hb => by rw [hb]; exact h1) hu, fun h1 => h.ke.turned hT (fun k _ hb => by rw [hb]; exact h1) hu, fun h1 => h.kn.turned hT (fun k _ hb => by rw [hb]; exact h1) hu⟩
theorem BookAt.growByte {w w' : World} {B : Nat} {lab : Lab} {bk : Nat} {n : Int} {a e m : KS} (h : BookAt w B lab bk n a e m) (hg : Gro w B lab 1 127 5 1 a mkB a.N w') : ∃ lab' L M, LabUp w lab lab' ∧ BookAt w' B lab' bk n (a.grown L M) e m ∧ Tall (a.grown L M) mkB := by
  obtain ⟨lab', L, M, h1, h2, h3, h4⟩ := hg.ex
  obtain ⟨e1, e2, -, e4, e5⟩ := h.relab (by decide) hg.turned h1
  exact ⟨lab', L, M, h1, ⟨e1, e2, h.low, h2, h3, e4 (by decide), e5 (by decide)⟩, rfl, h4⟩
theorem BookAt.growEntry {w w' : World} {B : Nat} {lab : Lab} {bk : Nat} {n : Int} {a e m : KS} (h : BookAt w B lab bk n a e m) (hg : Gro w B lab 9 162 122 2 e mkE e.N w') : ∃ lab' L M, LabUp w lab lab' ∧ BookAt w' B lab' bk n a (e.grown L M) m ∧ Tall (e.grown L M) mkE := by
  obtain ⟨lab', L, M, h1, h2, h3, h4⟩ := hg.ex
  obtain ⟨e1, e2, e3, -, e5⟩ := h.relab (by decide) hg.turned h1
  exact ⟨lab', L, M, h1, ⟨e1, e2, h.low, h2, e3 (by decide), h3, e5 (by decide)⟩, rfl, h4⟩
theorem BookAt.growNode {w w' : World} {B : Nat} {lab : Lab} {bk : Nat} {n : Int} {a e m : KS} (h : BookAt w B lab bk n a e m) (hg : Gro w B lab 10 165 74 10 m mkN m.N w') : ∃ lab' L M, LabUp w lab lab' ∧ BookAt w' B lab' bk n a e (m.grown L M) ∧ Tall (m.grown L M) mkN := by
  obtain ⟨lab', L, M, h1, h2, h3, h4⟩ := hg.ex
  obtain ⟨e1, e2, e3, e4, -⟩ := h.relab (by decide) hg.turned h1
  exact ⟨lab', L, M, h1, ⟨e1, e2, h.low, h2, e3 (by decide), e4 (by decide), h3⟩, rfl, h4⟩
theorem Turned.tn {w w1 w2 : World} {lab lab1 : Lab} {j : Nat} (h : Turned (fun b => Tn (lab b)) w w1) (hu : LabUp w lab lab1) (hj : j ≠ 0) (h' : Turned (fun b => (lab1 b).1 = j) w1 w2) : Turned (fun b => Tn (lab b)) w w2 :=
  h.trans h' fun k hk hs => by rw [hu k hk] at hs; unfold Tn; rw [hs]; exact hj
set_option maxHeartbeats 4000000 in
theorem apart_calls (w : World) (B : Nat) (lab : Lab) (bk : Nat) (n : Int) (nb ne nn : Nat) (h : BookIs w B lab bk n nb ne nn) (hB : B ≤ w.heap.size) (hn : n < 100) (hN : nb ≤ 1000000 ∧ ne ≤ 1000000 ∧ nn ≤ 1000000) :
    Calls Tryz.prog 11 #[.pointer (some ⟨bk, 0, none⟩)] w fun e w' => e = .returned (.bool true) ∧ Turned (fun b => Tn (lab b)) w w' := by
  obtain ⟨ka, ke, km, hb, ha1, he1, hm1, rfl, rfl, rfl⟩ := h
  have H0 := Lib.hid hb
  have NA := Lib.hid ha1
  have NE := Lib.hid he1
  have NM := Lib.hid hm1
  clear hb ha1 he1 hm1
  go_enter Tryz.func11, Tryz.ntmps11
  go_wp2_with (first
    | (go_at_call 37
       refine (fillByte_calls _ B bk lab _ _ H0.out.box rfl H0.out.own H0.out.kb NA.out.d (fun x hx => ⟨(NA.out.num x hx).1, by have := (NA.out.num x hx).2; omega⟩) hN.1).mono ?_
       rintro _ w1 ⟨rfl, hk1, ht1⟩
       have H1 := Lib.hid (H0.out.fillByte (s := ka.full mkB) rfl hk1 (ht1.mono fun _ h => h.1))
       have T1 := Lib.hid ((Turned.refl (fun b => Tn (lab b)) w).trans (tn_other (ht1.mono fun _ h => h.1) (by decide)) fun _ _ h => h)
       clear hk1 ht1)
    | (go_at_call 38; refine (fillInt_none _ bk _ H1.out.box rfl).mono ?_; rintro _ _ ⟨rfl, rfl⟩)
    | (go_at_call 39; refine (fillText_none _ bk _ H1.out.box rfl).mono ?_; rintro _ _ ⟨rfl, rfl⟩)
    | (go_at_call 40; refine (fillBlob_none _ bk _ H1.out.box rfl).mono ?_; rintro _ _ ⟨rfl, rfl⟩)
    | (go_at_call 41; refine (fillRow_none _ bk _ H1.out.box rfl).mono ?_; rintro _ _ ⟨rfl, rfl⟩)
    | (go_at_call 42; refine (fillFlag_none _ bk _ H1.out.box rfl).mono ?_; rintro _ _ ⟨rfl, rfl⟩)
    | (go_at_call 43; refine (fillRange_none _ bk _ H1.out.box rfl).mono ?_; rintro _ _ ⟨rfl, rfl⟩)
    | (go_at_call 44; refine (fillChange_none _ bk _ H1.out.box rfl).mono ?_; rintro _ _ ⟨rfl, rfl⟩)
    | (go_at_call 45
       refine (fillEntry_calls _ B bk lab _ _ H1.out.box rfl H1.out.own H1.out.ke NE.out.d (fun x hx => ⟨(NE.out.num x hx).1, by have := (NE.out.num x hx).2; omega⟩) hN.2.1).mono ?_
       rintro _ w2 ⟨rfl, hk2, ht2⟩
       have H2 := Lib.hid (H1.out.fillEntry (s := ke.full mkE) rfl hk2 (ht2.mono fun _ h => h.1))
       have T2 := Lib.hid (T1.out.trans (tn_other (ht2.mono fun _ h => h.1) (by decide)) fun _ _ h => h)
       clear hk2 ht2)
    | (go_at_call 46
       refine (fillNode_calls _ B bk lab _ _ H2.out.box rfl H2.out.own H2.out.kn NM.out.d (fun x hx => ⟨(NM.out.num x hx).1, by have := (NM.out.num x hx).2; omega⟩) hN.2.2).mono ?_
       rintro _ w3 ⟨rfl, hk3, ht3⟩
       have H3 := Lib.hid (H2.out.fillNode (s := km.full mkN) rfl hk3 (ht3.mono fun _ h => h.1))
       have T3 := Lib.hid (T2.out.trans (tn_other (ht3.mono fun _ h => h.1) (by decide)) fun _ _ h => h)
       clear hk3 ht3)
    | (go_at_call 47; refine (fillCall_none _ bk _ H3.out.box rfl).mono ?_; rintro _ _ ⟨rfl, rfl⟩)
    | (go_at_call 48; refine (fillStep_none _ bk _ H3.out.box rfl).mono ?_; rintro _ _ ⟨rfl, rfl⟩)
    | (go_at_call 49
       refine (growByte_calls _ B bk lab _ _ (Nat.le_trans hB T3.out.size) H3.out.box rfl H3.out.own H3.out.kb NA.out.d (fun x hx => ⟨(NA.out.num x hx).1, by have := (NA.out.num x hx).2; show ka.num x < 100; omega⟩) hN.1 (fun x hx => by show (List.replicate _ _).length ≤ _; rw [List.length_replicate]; exact NA.out.len x hx) H3.out.fresh).mono ?_
       rintro _ w4 ⟨rfl, hg4⟩
       obtain ⟨lab4, L4, M4, hu4, hb4, hta4⟩ := H3.out.growByte hg4
       have H4 := Lib.hid hb4
       have A4 := Lib.hid hta4
       have T4 := Lib.hid (T3.out.tn (LabUp.refl w lab) (by decide) hg4.turned)
       have U4 := Lib.hid ((LabUp.refl w lab).trans hu4 T3.out.size)
       clear hg4 hu4 hb4 hta4)
    | (go_at_call 50; refine (growInt_none _ bk _ H4.out.box rfl).mono ?_; rintro _ _ ⟨rfl, rfl⟩)
    | (go_at_call 51; refine (growText_none _ bk _ H4.out.box rfl).mono ?_; rintro _ _ ⟨rfl, rfl⟩)
    | (go_at_call 52; refine (growBlob_none _ bk _ H4.out.box rfl).mono ?_; rintro _ _ ⟨rfl, rfl⟩)
    | (go_at_call 53; refine (growRow_none _ bk _ H4.out.box rfl).mono ?_; rintro _ _ ⟨rfl, rfl⟩)
    | (go_at_call 54; refine (growFlag_none _ bk _ H4.out.box rfl).mono ?_; rintro _ _ ⟨rfl, rfl⟩)
    | (go_at_call 55; refine (growRange_none _ bk _ H4.out.box rfl).mono ?_; rintro _ _ ⟨rfl, rfl⟩)
    | (go_at_call 56; refine (growChange_none _ bk _ H4.out.box rfl).mono ?_; rintro _ _ ⟨rfl, rfl⟩)
    | (go_at_call 57
       refine (growEntry_calls _ B bk lab4 _ _ (Nat.le_trans hB T4.out.size) H4.out.box rfl H4.out.own H4.out.ke NE.out.d (fun x hx => ⟨(NE.out.num x hx).1, by have := (NE.out.num x hx).2; show ke.num x < 100; omega⟩) hN.2.1 (fun x hx => by show (List.replicate _ _).length ≤ _; rw [List.length_replicate]; exact NE.out.len x hx) H4.out.fresh).mono ?_
       rintro _ w5 ⟨rfl, hg5⟩
       obtain ⟨lab5, L5, M5, hu5, hb5, hta5⟩ := H4.out.growEntry hg5
       have H5 := Lib.hid hb5
       have A5 := Lib.hid hta5
       have T5 := Lib.hid (T4.out.tn U4.out (by decide) hg5.turned)
       have U5 := Lib.hid (U4.out.trans hu5 T4.out.size)
       clear hg5 hu5 hb5 hta5)
    | (go_at_call 58
       refine (growNode_calls _ B bk lab5 _ _ (Nat.le_trans hB T5.out.size) H5.out.box rfl H5.out.own H5.out.kn NM.out.d (fun x hx => ⟨(NM.out.num x hx).1, by have := (NM.out.num x hx).2; show km.num x < 100; omega⟩) hN.2.2 (fun x hx => by show (List.replicate _ _).length ≤ _; rw [List.length_replicate]; exact NM.out.len x hx) H5.out.fresh).mono ?_
       rintro _ w6 ⟨rfl, hg6⟩
       obtain ⟨lab6, L6, M6, hu6, hb6, hta6⟩ := H5.out.growNode hg6
       have H6 := Lib.hid hb6
       have A6 := Lib.hid hta6
       have T6 := Lib.hid (T5.out.tn U5.out (by decide) hg6.turned)
       have U6 := Lib.hid (U5.out.trans hu6 T5.out.size)
       clear hg6 hu6 hb6 hta6)
    | (go_at_call 59; refine (growCall_none _ bk _ H6.out.box rfl).mono ?_; rintro _ _ ⟨rfl, rfl⟩)
    | (go_at_call 60; refine (growStep_none _ bk _ H6.out.box rfl).mono ?_; rintro _ _ ⟨rfl, rfl⟩)
    | (go_at_call 61
       refine (lookByte_calls _ B bk lab6 _ _ H6.out.box rfl H6.out.kb (H6.out.kb.marked (NA.out.toFull hn mkB) A4.out) hN.1).mono ?_
       rintro _ w7 ⟨rfl, hb7⟩
       have H7 := Lib.hid (H6.out.keep hb7)
       have T7 := Lib.hid (T6.out.trans (turned_below (S := fun b => Tn (lab b)) hb7) fun _ _ h => h)
       clear hb7)
    | (go_at_call 62; refine (lookInt_none _ bk _ H7.out.box rfl).mono ?_; rintro _ _ ⟨rfl, rfl⟩)
    | (go_at_call 63; refine (lookText_none _ bk _ H7.out.box rfl).mono ?_; rintro _ _ ⟨rfl, rfl⟩)
    | (go_at_call 64; refine (lookBlob_none _ bk _ H7.out.box rfl).mono ?_; rintro _ _ ⟨rfl, rfl⟩)
    | (go_at_call 65; refine (lookRow_none _ bk _ H7.out.box rfl).mono ?_; rintro _ _ ⟨rfl, rfl⟩)
    | (go_at_call 66; refine (lookFlag_none _ bk _ H7.out.box rfl).mono ?_; rintro _ _ ⟨rfl, rfl⟩)
    | (go_at_call 67; refine (lookRange_none _ bk _ H7.out.box rfl).mono ?_; rintro _ _ ⟨rfl, rfl⟩)
    | (go_at_call 68; refine (lookChange_none _ bk _ H7.out.box rfl).mono ?_; rintro _ _ ⟨rfl, rfl⟩)
    | (go_at_call 69
       refine (lookEntry_calls _ B bk lab6 _ _ H7.out.box rfl H7.out.ke (H7.out.ke.marked (NE.out.toFull hn mkE) A5.out) hN.2.1).mono ?_
       rintro _ w8 ⟨rfl, hb8⟩
       have H8 := Lib.hid (H7.out.keep hb8)
       have T8 := Lib.hid (T7.out.trans (turned_below (S := fun b => Tn (lab b)) hb8) fun _ _ h => h)
       clear hb8)
    | (go_at_call 70
       refine (lookNode_calls _ B bk lab6 _ _ H8.out.box rfl H8.out.kn (H8.out.kn.marked (NM.out.toFull hn mkN) A6.out) hN.2.2).mono ?_
       rintro _ w9 ⟨rfl, hb9⟩
       have H9 := Lib.hid (H8.out.keep hb9)
       have T9 := Lib.hid (T8.out.trans (turned_below (S := fun b => Tn (lab b)) hb9) fun _ _ h => h)
       clear hb9)
    | (go_at_call 71; refine (lookCall_none _ bk _ H9.out.box rfl).mono ?_; rintro _ _ ⟨rfl, rfl⟩)
    | (go_at_call 72; refine (lookStep_none _ bk _ H9.out.box rfl).mono ?_; rintro _ _ ⟨rfl, rfl⟩))
  go_ret
  exact ⟨rfl, T9.out⟩
end Go.Proofs.YtdceechakocgfaaGreatDoor
