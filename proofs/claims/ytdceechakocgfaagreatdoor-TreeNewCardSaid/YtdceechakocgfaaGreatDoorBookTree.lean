/- The Book: a tree is kept. -/
import Derived.Test.YtdceechakocgfaaGreatDoorBooked
namespace Go.Proofs.YtdceechakocgfaaGreatDoor
open Go.RowKit
attribute [local go_sem] Later.cell_eq
theorem Kp.trans {W w w1 w2 : World} {lab lab1 : Lab} {bk : Nat} {n1 n2 : Int} {nb1 ne1 nn1 nb2 ne2 nn2 : Nat} (h : Kp W w lab bk n1 nb1 ne1 nn1 w1) (hu : LabUp w lab lab1) (h' : Kp W w1 lab1 bk n2 nb2 ne2 nn2 w2) : Kp W w lab bk n2 nb2 ne2 nn2 w2 := by
  obtain ⟨lab2, e1, e2⟩ := h'.ex
  exact ⟨⟨lab2, hu.trans e1 h.turned.size, e2⟩, h.turned.trans h'.turned fun k hk hs => by rw [hu k hk] at hs; exact hs, h'.below⟩
theorem Kp.start {W w : World} {lab : Lab} {bk : Nat} {n : Int} {nb ne nn : Nat} (h : BookIs w W.heap.size lab bk n nb ne nn) (hW : Below W.heap.size W w) : Kp W w lab bk n nb ne nn w :=
  ⟨⟨lab, LabUp.refl _ _, h⟩, Turned.refl _ _, hW⟩
/-- A list that the book does not hold yet stands. -/
theorem own_on {w w' : World} {lab lab' : Lab} {B j x z : Nat} {e : TypeId} {v : Value} {rows : List (List Value)} (h : Own w B e z v rows) (hl : ∀ k, v.ownBlock = some k → lab k = (j, x + 1)) (hj : j ≠ 0) (hT : Turned (fun k => Hd (lab k)) w w') (hu : LabUp w lab lab') : Own w' B e z v rows ∧ ∀ k, v.ownBlock = some k → lab' k = (j, x + 1) := by
  refine ⟨h.turned hT fun k hk hs => ?_, fun k hk => (hu k (h.lt k hk).2).trans (hl k hk)⟩
  rw [hl k hk] at hs
  rcases hs with hs | ⟨-, hs⟩
  · simp at hs; exact hj hs.1
  · simp at hs
/-- A block of nobody's stands. -/
theorem Kp.cell {W w w' : World} {lab : Lab} {bk : Nat} {n : Int} {nb ne nn : Nat} (h : Kp W w lab bk n nb ne nn w') {b o : Nat} {v : Value} (hl : lab b = (0, 0)) (hc : w.cell? ⟨b, o, none⟩ = some v) : w'.cell? ⟨b, o, none⟩ = some v :=
  (World.cell?_of_block (h.turned.block b (World.block_lt_of_cell? w _ hc) (by rw [hl]; intro hs; rcases hs with hs | hs <;> simp at hs))).trans hc
theorem BookIs.fresh {w : World} {B : Nat} {lab : Lab} {bk : Nat} {n : Int} {nb ne nn : Nat} (h : BookIs w B lab bk n nb ne nn) : ∀ k, w.heap.size ≤ k → lab k = (0, 0) := by
  obtain ⟨a, e, m, h1, h2⟩ := h
  exact h1.fresh
theorem Kp.from {W w w0 w' : World} {lab : Lab} {bk : Nat} {n : Int} {nb ne nn : Nat} (h : Kp W w lab bk n nb ne nn w') (hb : Below w0.heap.size w0 w) : Kp W w0 lab bk n nb ne nn w' := by
  obtain ⟨lab', h1, h2⟩ := h.ex
  exact ⟨⟨lab', fun k hk => h1 k (Nat.lt_of_lt_of_le hk hb.size), h2⟩, (turned_below (S := fun k => Hd (lab k)) hb).trans h.turned fun _ _ h => h, h.below⟩
theorem bytes_kept (W w : World) (lab : Lab) (bk : Nat) (n : Int) (nb ne nn : Nat) (h : BookIs w W.heap.size lab bk n nb ne nn) (hW : Below W.heap.size W w) (hn : 0 ≤ n ∧ n ≤ 1000000) (hN : nb ≤ 1000000) (A : Option Addr) (m c : Nat) (rows : List (List Value)) (hl : Own w W.heap.size 5 1 (.slice A m c) rows) (hr : rows.length ≤ 1000000) (hll : ∀ k, (Value.slice A m c).ownBlock = some k → lab k = (1, nb + 1)) :
    Calls Tryz.prog 156 #[.pointer (some ⟨bk, 0, none⟩), .slice A m c] w fun e w' => e = .returned (.tuple #[]) ∧ Kp W w lab bk (n + 1) (nb + 1) ne nn w' := by
  go_enter Tryz.func156, Tryz.ntmps156
  go_wp2_with (go_at_call 180; refine (keptByte W w lab bk n nb ne nn h hW hn hN A m c rows hl hr hll).mono ?_; rintro _ w1 ⟨rfl, hk1⟩)
  refine bodyPost_end (v := .tuple #[]) (by kernel_rfl) rfl ?_
  exact ⟨rfl, hk1⟩
theorem entries_kept (W w : World) (lab : Lab) (bk : Nat) (n : Int) (nb ne nn : Nat) (h : BookIs w W.heap.size lab bk n nb ne nn) (hW : Below W.heap.size W w) (hn : 0 ≤ n ∧ n ≤ 1000000) (hN : ne ≤ 1000000) (A : Option Addr) (m c : Nat) (rows : List (List Value)) (hl : Own w W.heap.size 122 2 (.slice A m c) rows) (hr : rows.length ≤ 1000000) (hll : ∀ k, (Value.slice A m c).ownBlock = some k → lab k = (9, ne + 1)) :
    Calls Tryz.prog 157 #[.pointer (some ⟨bk, 0, none⟩), .slice A m c] w fun e w' => e = .returned (.tuple #[]) ∧ Kp W w lab bk (n + 1) nb (ne + 1) nn w' := by
  go_enter Tryz.func157, Tryz.ntmps157
  go_wp2_with (go_at_call 181; refine (keptEntry W w lab bk n nb ne nn h hW hn hN A m c rows hl hr hll).mono ?_; rintro _ w1 ⟨rfl, hk1⟩)
  refine bodyPost_end (v := .tuple #[]) (by kernel_rfl) rfl ?_
  exact ⟨rfl, hk1⟩
theorem node_kept (W w : World) (lab : Lab) (bk : Nat) (n : Int) (nb ne nn : Nat) (h : BookIs w W.heap.size lab bk n nb ne nn) (hW : Below W.heap.size W w) (hn : 0 ≤ n ∧ n ≤ 999999) (hN : nb ≤ 1000000 ∧ ne ≤ 1000000) (v0 v1 v2 v3 v4 v5 v7 v9 : Value) (A1 A2 : Option Addr) (m1 c1 m2 c2 : Nat) (r1 r2 : List (List Value))
    (hl1 : Own w W.heap.size 5 1 (.slice A1 m1 c1) r1) (hr1 : r1.length ≤ 1000000) (hll1 : ∀ k, (Value.slice A1 m1 c1).ownBlock = some k → lab k = (1, nb + 1))
    (hl2 : Own w W.heap.size 122 2 (.slice A2 m2 c2) r2) (hr2 : r2.length ≤ 1000000) (hll2 : ∀ k, (Value.slice A2 m2 c2).ownBlock = some k → lab k = (9, ne + 1)) :
    Calls Tryz.prog 102 #[.pointer (some ⟨bk, 0, none⟩), .agg #[v0, v1, v2, v3, v4, v5, .slice A1 m1 c1, v7, .slice A2 m2 c2, v9]] w fun e w' => e = .returned (.tuple #[]) ∧ Kp W w lab bk (n + 2) (nb + 1) (ne + 1) nn w' := by
  have HH := Lib.hid h
  have HL1 := Lib.hid (And.intro hl1 (And.intro hr1 hll1))
  have HL2 := Lib.hid (And.intro hl2 (And.intro hr2 hll2))
  have HW := Lib.hid hW
  clear h hl1 hr1 hll1 hl2 hr2 hll2 hW
  go_enter Tryz.func102, Tryz.ntmps102
  go_upto_region 1 with fail
  obtain ⟨wb, hwb⟩ : ∃ x, x = w.alloc (.cells #[v0, v1, v2, v3, v4, v5, .slice A1 m1 c1, v7, .slice A2 m2 c2, v9] 74) := ⟨_, rfl⟩
  have hB : Below w.heap.size w wb := by rw [hwb]; exact below_alloc (Below.refl _ _) _
  have b6 : wb.cell? ⟨w.heap.size, 6, none⟩ = some (.slice A1 m1 c1) := by rw [hwb, cell_of_row _ _ _ _ _ _ (heap_alloc_new w _)]; rfl
  have b8 : wb.cell? ⟨w.heap.size, 8, none⟩ = some (.slice A2 m2 c2) := by rw [hwb, cell_of_row _ _ _ _ _ _ (heap_alloc_new w _)]; rfl
  rw [← hwb]
  have hlb := HH.out.fresh w.heap.size (Nat.le_refl _)
  obtain ⟨hb, hhb⟩ : ∃ x, x = w.heap.size := ⟨_, rfl⟩
  have HHb := Lib.hid (HH.out.keep hB)
  have HWb := Lib.hid (below_step HW.out hB)
  have HB := Lib.hid hB
  rw [← hhb] at b6 b8 hlb
  rw [← hhb]
  have HLB := Lib.hid hlb
  clear hwb hhb hB hlb
  go_wp2_with (first
    | (go_at_call 156
       refine (bytes_kept W _ lab bk n nb ne nn HHb.out HWb.out (by omega) hN.1 A1 m1 c1 r1 (HL1.out.1.keep HB.out) HL1.out.2.1 HL1.out.2.2).mono ?_
       rintro _ w1 ⟨rfl, hk1⟩
       have c8 := hk1.cell HLB.out b8
       have HK1 := Lib.hid hk1
       obtain ⟨lab1, hu1, hh1⟩ := hk1.ex
       have hon := own_on (HL2.out.1.keep HB.out) HL2.out.2.2 (by decide) hk1.turned hu1
       have HU1 := Lib.hid hu1
       have HH1 := Lib.hid hh1
       have HON := Lib.hid hon
       clear hk1 hu1 hh1 hon)
    | (go_at_call 157
       refine (entries_kept W _ lab1 bk (n + 1) (nb + 1) ne nn HH1.out HK1.out.below (by omega) hN.2 A2 m2 c2 r2 HON.out.1 HL2.out.2.1 HON.out.2).mono ?_
       rintro _ w2 ⟨rfl, hk2⟩))
  refine bodyPost_end (v := .tuple #[]) (by kernel_rfl) rfl ?_
  have h2 := HK1.out.trans HU1.out hk2
  rw [show n + 1 + 1 = n + 2 by omega] at h2
  exact ⟨rfl, h2.from HB.out⟩
/-- The nodes of a tree, each with lists of its own. -/
def NodesOf (w : World) (B : Nat) (lab : Lab) (nb ne : Nat) (rows : List (List Value)) : Prop :=
  ∀ i, i < rows.length → ∃ (v0 v1 v2 v3 v4 v5 v7 v9 : Value) (A1 A2 : Option Addr) (m1 c1 m2 c2 : Nat) (r1 r2 : List (List Value)), rows[i]? = some [v0, v1, v2, v3, v4, v5, .slice A1 m1 c1, v7, .slice A2 m2 c2, v9] ∧
    Own w B 5 1 (.slice A1 m1 c1) r1 ∧ r1.length ≤ 1000000 ∧ (∀ k, (Value.slice A1 m1 c1).ownBlock = some k → lab k = (1, nb + i + 1)) ∧
    Own w B 122 2 (.slice A2 m2 c2) r2 ∧ r2.length ≤ 1000000 ∧ ∀ k, (Value.slice A2 m2 c2).ownBlock = some k → lab k = (9, ne + i + 1)
set_option maxHeartbeats 2000000 in
theorem nodes_kept (W w : World) (lab : Lab) (bk : Nat) (n : Int) (nb ne nn : Nat) (h : BookIs w W.heap.size lab bk n nb ne nn) (hW : Below W.heap.size W w) (rows : List (List Value)) (hrl : rows.length ≤ 100000) (hn : 0 ≤ n ∧ n ≤ 100000) (hN : nb ≤ 100000 ∧ ne ≤ 100000 ∧ nn ≤ 100000) (A : Option Addr) (c : Nat)
    (hl : Own w W.heap.size 74 10 (.slice A rows.length c) rows) (hll : ∀ k, (Value.slice A rows.length c).ownBlock = some k → lab k = (10, nn + 1)) (hno : NodesOf w W.heap.size lab nb ne rows) :
    Calls Tryz.prog 36 #[.pointer (some ⟨bk, 0, none⟩), .slice A rows.length c] w fun e w' => e = .returned (.tuple #[]) ∧ Kp W w lab bk (n + 2 * rows.length + 1) (nb + rows.length) (ne + rows.length) (nn + 1) w' := by
  have hst := Kp.start h hW
  have HL := Lib.hid (And.intro hl hll)
  have HNO := Lib.hid hno
  clear h hW hl hll hno
  go_enter Tryz.func36, Tryz.ntmps36
  go_wp2
  go_loopg [4] rows.length (fun g s4 wr => ∃ i : Nat, i + g = rows.length ∧ s4 = .int .i64 i ∧ Hid (Kp W w lab bk (n + 2 * i) (nb + i) (ne + i) nn wr))
  case atStart => exact ⟨0, by omega, rfl, Lib.hid (by simpa using hst)⟩
  case round =>
    clear hst
    obtain ⟨i, hg, rfl, HK⟩ := hrel
    obtain ⟨lab1, hu1, hh1⟩ := HK.out.ex
    have HU := Lib.hid hu1
    have HH := Lib.hid hh1
    have HON := Lib.hid (own_on HL.out.1 HL.out.2 (by decide) HK.out.turned hu1)
    clear hu1 hh1
    cases gk with
    | zero =>
      obtain rfl : i = rows.length := by omega
      go_wp2_with (go_at_call 103; refine (keptNode W _ lab1 bk _ _ _ nn HH.out HK.out.below (by omega) (by omega) A _ c rows HON.out.1 (by omega) HON.out.2).mono ?_; rintro _ w2 ⟨rfl, hk2⟩)
      refine bodyPost_end (v := .tuple #[]) (by kernel_rfl) rfl ?_
      exact ⟨rfl, HK.out.trans HU.out hk2⟩
    | succ g =>
      obtain ⟨v0, v1, v2, v3, v4, v5, v7, v9, A1, A2, m1, c1, m2, c2, r1, r2, hrow, ho1, hr1, hl1, ho2, hr2, hl2⟩ := HNO.out i (by omega)
      have HD := Lib.hid (And.intro (own_on ho1 hl1 (by decide) HK.out.turned HU.out) hr1)
      have HE := Lib.hid (And.intro (own_on ho2 hl2 (by decide) HK.out.turned HU.out) hr2)
      clear ho1 hl1 ho2 hl2
      obtain ⟨gl, rfl⟩ : ∃ g, A = some ⟨g, 0, none⟩ := by
        rcases HON.out.1.shape with ⟨e1, e2⟩ | ⟨g, c', e1, -⟩
        · rw [e2] at hg; simp at hg
        · cases e1; exact ⟨g, rfl⟩
      have d0 := HON.out.1.cell hrow (j := 0) rfl
      have d1 := HON.out.1.cell hrow (j := 1) rfl
      have d2 := HON.out.1.cell hrow (j := 2) rfl
      have d3 := HON.out.1.cell hrow (j := 3) rfl
      have d4 := HON.out.1.cell hrow (j := 4) rfl
      have d5 := HON.out.1.cell hrow (j := 5) rfl
      have d6 := HON.out.1.cell hrow (j := 6) rfl
      have d7 := HON.out.1.cell hrow (j := 7) rfl
      have d8 := HON.out.1.cell hrow (j := 8) rfl
      have d9 := HON.out.1.cell hrow (j := 9) rfl
      rw [Nat.zero_add] at d0 d1 d2 d3 d4 d5 d6 d7 d8 d9
      rw [Nat.add_zero] at d0
      go_wp2_with (go_at_call 102; refine (node_kept W _ lab1 bk _ _ _ nn HH.out HK.out.below (by omega) (by omega) v0 v1 v2 v3 v4 v5 v7 v9 A1 A2 m1 c1 m2 c2 r1 r2 HD.out.1.1 HD.out.2 HD.out.1.2 HE.out.1.1 HE.out.2 HE.out.1.2).mono ?_; rintro _ w2 ⟨rfl, hk2⟩)
      go_roundg g
      case measure => omega
      case rel =>
        refine ⟨i + 1, by omega, by go_num, Lib.hid ?_⟩
        have h2 := HK.out.trans HU.out hk2
        rwa [show n + 2 * (i : Int) + 2 = n + 2 * ((i + 1 : Nat) : Int) by omega, Nat.add_assoc, Nat.add_assoc] at h2
theorem NodesOf.keep {w w' : World} {B : Nat} {lab : Lab} {nb ne : Nat} {rows : List (List Value)} (h : NodesOf w B lab nb ne rows) (hb : Below w.heap.size w w') : NodesOf w' B lab nb ne rows := by
  intro i hi
  obtain ⟨v0, v1, v2, v3, v4, v5, v7, v9, A1, A2, m1, c1, m2, c2, r1, r2, hrow, ho1, hr1, hl1, ho2, hr2, hl2⟩ := h i hi
  exact ⟨v0, v1, v2, v3, v4, v5, v7, v9, A1, A2, m1, c1, m2, c2, r1, r2, hrow, ho1.keep hb, hr1, hl1, ho2.keep hb, hr2, hl2⟩
theorem tree_kept (W w : World) (lab : Lab) (bk : Nat) (n : Int) (nb ne nn : Nat) (h : BookIs w W.heap.size lab bk n nb ne nn) (hW : Below W.heap.size W w) (rows : List (List Value)) (hrl : rows.length ≤ 100000) (hn : 0 ≤ n ∧ n ≤ 100000) (hN : nb ≤ 100000 ∧ ne ≤ 100000 ∧ nn ≤ 100000) (A : Option Addr) (c : Nat) (now : Value)
    (hl : Own w W.heap.size 74 10 (.slice A rows.length c) rows) (hll : ∀ k, (Value.slice A rows.length c).ownBlock = some k → lab k = (10, nn + 1)) (hno : NodesOf w W.heap.size lab nb ne rows) :
    Calls Tryz.prog 10 #[.pointer (some ⟨bk, 0, none⟩), .agg #[.slice A rows.length c, now]] w fun e w' => e = .returned (.tuple #[]) ∧ Kp W w lab bk (n + 2 * rows.length + 1) (nb + rows.length) (ne + rows.length) (nn + 1) w' := by
  have hb0 := fun (o1 : Obj) => below_alloc (Below.refl w.heap.size w) o1
  go_enter Tryz.func10, Tryz.ntmps10
  go_wp2_with (go_at_call 36; refine (nodes_kept W _ lab bk n nb ne nn (h.keep (hb0 _)) (below_step hW (hb0 _)) rows hrl hn hN A c (hl.keep (hb0 _)) hll (hno.keep (hb0 _))).mono ?_; rintro _ w1 ⟨rfl, hk1⟩)
  refine bodyPost_end (v := .tuple #[]) (by kernel_rfl) rfl ?_
  exact ⟨rfl, hk1.from (hb0 _)⟩
end Go.Proofs.YtdceechakocgfaaGreatDoor
