/- The reference's Check of layer 12: the same as the program's. -/
import Derived.Test.YtbfcfjgcmideeaaGreatDoorM9
namespace Go.Proofs.YtbfcfjgcmideeaaGreatDoor
open Go.RowKit
attribute [local go_sem] Later.cell_eq
theorem OuterOK.skip {t : TTree} {N i : Nat} {n : TNode} {T D : List Int} (hn : t.nodes[i]? = some n) (h : OuterOK t N i T D) (hl : n.list = []) : OuterOK t N (i + 1) T D := by
  have h1 := h.inner n.list
  have h2 : InnerOK t N i n.list n.list.length T D := by rw [hl] at h1 ⊢; exact h1
  exact h2.outer hn
set_option maxHeartbeats 4000000 in
set_option maxRecDepth 100000 in
theorem refCheck_nohead (t : TTree) (A : Option Addr) (c : Nat) (w : World) (hA : NodesAt w A t.nodes) (hF : t.Fits) (hno : ¬ (HeadOK t ∧ zeroB (t.at 0) = true)) :
    Calls Tryz.prog 110 #[.agg #[.slice A t.nodes.length c, .int .i64 t.now]] w fun e w' => e = .returned (.bool false) ∧ Below w.heap.size w w' := by
  have hb47 := hF.nodes
  by_cases h2 : 2 ≤ t.nodes.length
  · by_cases h5 : t.nodes.length ≤ 513
    · obtain ⟨y0, hy0⟩ : ∃ x, t.nodes[0]? = some x := ⟨t.nodes[0]'(by omega), by simp⟩
      obtain ⟨y1, hy1⟩ : ∃ x, t.nodes[1]? = some x := ⟨t.nodes[1]'(by omega), by simp⟩
      obtain ⟨yl, hyl⟩ : ∃ x, t.nodes[t.nodes.length - 1]? = some x := ⟨t.nodes[t.nodes.length - 1]'(by omega), by simp⟩
      have hneg : ¬ (zeroB y0 = true ∧ y1.kind = 2 ∧ y1.parent = 1 ∧ yl.kind ≠ 0 ∧ 0 ≤ t.now ∧ t.now ≤ 1099511627775) := fun ⟨a, b, c, d, e, f⟩ =>
        hno ⟨⟨h2, h5, by rw [show t.at 0 = y0 from at_of hy0]; exact (zeroB_ok a).2.1, by rw [show t.at 1 = y1 from at_of hy1]; exact b, by rw [show t.at 1 = y1 from at_of hy1]; exact c, by rw [at_of hyl]; exact d, e, f⟩, by rw [show t.at 0 = y0 from at_of hy0]; exact a⟩
      have hf0 := Lib.hid (hF.each y0 (List.mem_of_getElem? hy0))
      obtain ⟨b, o, D0, cd0, L0, cl0, rfl, -, -, -, -, x00, x01, x02, x03, x04, x05, x06, x07, x08, x09⟩ := hA.get hy0
      obtain ⟨b1, o1, D1, cd1, L1, cl1, hA1, -, -, -, -, x10, -, -, -, -, -, -, -, -, x19⟩ := hA.get hy1
      cases hA1
      obtain ⟨bl, ol, Dl, cdl, Ll, cll, hAl, -, -, -, -, xl0, -, -, -, -, -, -, -, -, -⟩ := hA.get hyl
      cases hAl
      have hbl := World.block_lt_of_cell? _ _ x00
      dsimp only at hbl
      have HN := Lib.hid hneg
      have hk1 : ((t.nodes.length : Int) - 1).toNat = t.nodes.length - 1 := by omega
      have hk3 : (0 : Int) ≤ (t.nodes.length : Int) - 1 := by omega
      rw [Nat.zero_mul, Nat.add_zero] at x00 x01 x02 x03 x04 x05 x06 x07 x08 x09
      rw [Nat.one_mul] at x10 x19
      cases hz : zeroB y0 with
      | false =>
        have HZ := Lib.hid hz
        clear hno hneg hy0 hy1 hyl hA hF hz
        go_enter Tryz.func110, Tryz.ntmps110
        go_wp2_with (go_at_call 177; refine (refZero_calls y0 hf0.out _ _ _ _ _).mono ?_; rintro _ wk ⟨rfl, hbk⟩; rw [HZ.out]; have hbw := below_step (below_alloc (Below.refl _ _) _) hbk; clear hbk)
        go_ret
        exact ⟨rfl, hbw⟩
      | true =>
        have HZ := Lib.hid hz
        clear hno hneg hy0 hy1 hyl hA hF hz
        go_enter Tryz.func110, Tryz.ntmps110
        go_wp2_with (go_at_call 177; refine (refZero_calls y0 hf0.out _ _ _ _ _).mono ?_; rintro _ wk ⟨rfl, hbk⟩; rw [HZ.out]; have bk0 := cell_keep hbk (p := ⟨w.heap.size, 0, none⟩) (v := .slice (some ⟨b, o, none⟩) t.nodes.length c) (by rw [World.cell?_alloc_new]; rfl); have bk1 := cell_keep hbk (p := ⟨w.heap.size, 1, none⟩) (v := .int .i64 t.now) (by rw [World.cell?_alloc_new]; rfl); have hbw := below_step (below_alloc (Below.refl _ _) _) hbk; replace x10 := cell_keep hbw x10; replace x19 := cell_keep hbw x19; replace xl0 := cell_keep hbw xl0; clear hbk)
        all_goals first
          | (exfalso; have := HN.out; have := HZ.out; simp only [this, true_and] at *; omega)
          | (go_ret; exact ⟨rfl, hbw⟩)
    · clear hno hA hF
      go_enter Tryz.func110, Tryz.ntmps110
      go_wp2_with fail
      go_ret
      exact ⟨rfl, (by repeat (first | exact Below.refl _ _ | assumption | refine Below.drew ?_ | refine below_drewN ?_ _ | refine below_alloc ?_ _ | refine below_set ?_ (by simp) _ | refine below_step ?_ (by assumption)))⟩
  · clear hno hA hF
    go_enter Tryz.func110, Tryz.ntmps110
    go_wp2_with fail
    go_ret
    exact ⟨rfl, (by repeat (first | exact Below.refl _ _ | assumption | refine Below.drew ?_ | refine below_drewN ?_ _ | refine below_alloc ?_ _ | refine below_set ?_ (by simp) _ | refine below_step ?_ (by assumption)))⟩
theorem refs_length_le' (t : TTree) (i : Nat) (hl : ∀ j n, j < i → t.nodes[j]? = some n → n.list.length ≤ 512) : (t.refs i).length ≤ i * 512 := by
  unfold TTree.refs
  induction i with
  | zero => simp
  | succ i ih =>
    have ih' := ih fun j n hj hn => hl j n (by omega) hn
    rw [List.take_add_one, List.flatMap_append, List.length_append]
    have hx : (t.nodes[i]?.toList.flatMap fun n => refsOf n.list).length ≤ 512 := by
      cases hn : t.nodes[i]? with
      | none => simp
      | some n =>
        have := hl i n (by omega) hn
        simpa [refsOf] using this
    omega
theorem InnerOK.bounds' {t : TTree} {N i k : Nat} {l : List TEnt} {T D : List Int} (h : InnerOK t N i l k T D) (hl : ∀ j n, j < i → t.nodes[j]? = some n → n.list.length ≤ 512) (hl5 : l.length ≤ 512) (hi : i ≤ 513) (j : Nat) (hj : j < N) :
    (0 ≤ T.getD j 0 ∧ T.getD j 0 ≤ 1000000) ∧ 0 ≤ D.getD i 0 ∧ D.getD i 0 ≤ 1000000 := by
  rw [h.times j hj, h.dir]
  have a := List.count_le_length (a := j) (l := t.refs i)
  have b := refs_length_le' t i hl
  have c := List.count_le_length (a := j) (l := refsOf (l.take k))
  have d : (refsOf (l.take k)).length ≤ 512 := by simp [refsOf]; omega
  have f : dirsOf t (l.take k) ≤ 512 := by
    have := List.length_filter_le (fun e => (t.at e.node).kind == 2) (l.take k)
    unfold dirsOf
    simp at this ⊢
    omega
  omega
theorem at_eq' {t : TTree} {n : Int} {x : TNode} (hx : t.nodes[n.toNat]? = some x) : t.at n = x := by simp [TTree.at, hx]
def Pre1 (t : TTree) (N k : Nat) (l : List TEnt) (e : TEnt) : Prop := preOK N k l e ∧ (t.at e.node).kind ≠ 0
theorem Pre1.of {t : TTree} {N i k : Nat} (hN : t.nodes.length = N) {l : List TEnt} {e : TEnt} (h : entAt t i l k e) : Pre1 t N k l e := ⟨entAt_pre hN h, h.2.2.2.2.1⟩
theorem okTo_succ {t : TTree} {i : Nat} {n : TNode} (h : ∀ j x, j < i → t.nodes[j]? = some x → x.ok = true) (hn : t.nodes[i]? = some n) (ho : n.ok = true) : ∀ j x, j < i + 1 → t.nodes[j]? = some x → x.ok = true := fun j x hj hx => by
  by_cases e : j = i
  · subst e; rw [hn] at hx; cases hx; exact ho
  · exact h j x (by omega) hx
set_option maxHeartbeats 16000000 in
set_option maxRecDepth 100000 in
theorem refCheck_head (t : TTree) (A : Option Addr) (c : Nat) (w : World) (hA : NodesAt w A t.nodes) (hF : t.Fits) (hh : HeadOK t) (hz : zeroB (t.at 0) = true) :
    Calls Tryz.prog 110 #[.agg #[.slice A t.nodes.length c, .int .i64 t.now]] w fun e w' => e = .returned (.bool (treeOK t)) ∧ Below w.heap.size w w' := by
  have h2 := hh.two
  have h5 := hh.most
  obtain ⟨y0, hy0⟩ : ∃ x, t.nodes[0]? = some x := ⟨t.nodes[0]'(by omega), by simp⟩
  obtain ⟨y1, hy1⟩ : ∃ x, t.nodes[1]? = some x := ⟨t.nodes[1]'(by omega), by simp⟩
  obtain ⟨yl, hyl⟩ : ∃ x, t.nodes[t.nodes.length - 1]? = some x := ⟨t.nodes[t.nodes.length - 1]'(by omega), by simp⟩
  have HZ : Hid (zeroB y0 = true) := Lib.hid (by rw [show t.at 0 = y0 from at_of hy0] at hz; exact hz)
  have hf0 := Lib.hid (hF.each y0 (List.mem_of_getElem? hy0))
  have k1 : (y1.kind != 2) = false := by have := hh.root; rw [show t.at 1 = y1 from at_of hy1] at this; simp [this]
  have k2 : (y1.parent != 1) = false := by have := hh.rootp; rw [show t.at 1 = y1 from at_of hy1] at this; simp [this]
  have k3 : (yl.kind == 0) = false := by have := hh.last; rw [at_of hyl] at this; exact beq_eq_false_iff_ne.2 this
  have k4 : decide (t.now < 0) = false := decide_eq_false (by have := hh.now0; omega)
  have k5 : decide (1099511627775 < t.now) = false := decide_eq_false (by have := hh.now1; omega)
  have HA := Lib.hid hA
  obtain ⟨b, o, D0, cd0, L0, cl0, rfl, -, -, -, -, x00, x01, x02, x03, x04, x05, x06, x07, x08, x09⟩ := hA.get hy0
  obtain ⟨b1, o1, D1, cd1, L1, cl1, hA1, -, -, -, -, x10, -, -, -, -, -, -, -, -, x19⟩ := hA.get hy1
  cases hA1
  obtain ⟨bl, ol, Dl, cdl, Ll, cll, hAl, -, -, -, -, xl0, -, -, -, -, -, -, -, -, -⟩ := hA.get hyl
  cases hAl
  have hbl := World.block_lt_of_cell? _ _ x00
  dsimp only at hbl
  have hk1 : ((t.nodes.length : Int) - 1).toNat = t.nodes.length - 1 := by omega
  have hk3 : (0 : Int) ≤ (t.nodes.length : Int) - 1 := by omega
  rw [Nat.zero_mul, Nat.add_zero] at x00 x01 x02 x03 x04 x05 x06 x07 x08 x09
  rw [Nat.one_mul] at x10 x19
  have HH := Lib.hid hh
  have HF := Lib.hid hF
  have HY0 := Lib.hid hy0
  obtain ⟨N, hN⟩ : ∃ N, t.nodes.length = N := ⟨_, rfl⟩
  have HN := Lib.hid hN
  rw [hN] at h2 h5 hk1 hk3 xl0 ⊢
  have hmk := make_ints N (by omega)
  clear hh hy0 hy1 hyl hA hF hN hz
  go_enter Tryz.func110, Tryz.ntmps110
  go_upto_region 4 with (go_at_call 177; refine (refZero_calls y0 hf0.out _ _ _ _ _).mono ?_; rintro _ wk ⟨rfl, hbk⟩; rw [HZ.out]; have bk0 := cell_keep hbk (p := ⟨w.heap.size, 0, none⟩) (v := .slice (some ⟨b, o, none⟩) N c) (by rw [World.cell?_alloc_new]; rfl); have bk1 := cell_keep hbk (p := ⟨w.heap.size, 1, none⟩) (v := .int .i64 t.now) (by rw [World.cell?_alloc_new]; rfl); have hbw := below_step (below_alloc (Below.refl _ _) _) hbk; replace x10 := cell_keep hbw x10; replace x19 := cell_keep hbw x19; replace xl0 := cell_keep hbw xl0; clear hbk)
  clear x00 x01 x02 x03 x04 x05 x06 x07 x08 x09 x10 x19 xl0 k1 k2 k3 k4 k5 hk1 hk3
  have hbk2 := below_alloc (below_alloc hbw (.cells (Array.replicate N (.int .i64 0)) 3)) (.cells (Array.replicate N (.int .i64 0)) 3)
  have hwk := World.block_lt_of_cell? _ _ bk0
  dsimp only at hwk
  obtain ⟨g1, hg1⟩ : ∃ g1, wk.heap.size = g1 := ⟨_, rfl⟩
  have r1 := (intRow_made wk N g1 hg1.symm).new (.cells (Array.replicate N (.int .i64 0)) 3)
  have r2 := intRow_made (wk.alloc (.cells (Array.replicate N (.int .i64 0)) 3)) N (g1 + 1) (by simp [hg1])
  have d0 := cell_new (cell_new bk1 (.cells (Array.replicate N (.int .i64 0)) 3)) (.cells (Array.replicate N (.int .i64 0)) 3)
  have c0 := cell_new (cell_new bk0 (.cells (Array.replicate N (.int .i64 0)) 3)) (.cells (Array.replicate N (.int .i64 0)) 3)
  rw [hg1] at hwk
  have hg1w : w.heap.size < g1 := hwk
  go_upto_region 9 with fail
  try rw [hg1]
  obtain ⟨w3, hw3⟩ : ∃ w3, w3 = (wk.alloc (.cells (Array.replicate N (.int .i64 0)) 3)).alloc (.cells (Array.replicate N (.int .i64 0)) 3) := ⟨_, rfl⟩
  rw [← hw3] at r1 r2 c0 d0 hbk2 ⊢
  clear hw3 hmk bk0 bk1 hbw hg1 hwk
  obtain ⟨g2, hg2⟩ : ∃ g2, g1 + 1 = g2 := ⟨_, rfl⟩
  rw [hg2] at r2 ⊢
  have hg : g1 ≠ g2 := by omega
  have hg2w : w.heap.size < g2 := by omega
  clear hg2
  have hB1 : t.bytes 1 ≤ 1 * 65536 ∧ t.names 1 ≤ 1 * 512 ∧ t.bytes 1 = 0 ∧ t.names 1 = 0 := by
    have a : t.bytes 1 = t.bytes 0 + y0.data.length := bytes_succ HY0.out
    have b : t.names 1 = t.names 0 + y0.list.length := names_succ HY0.out
    have hd : y0.data.length = 0 ∧ y0.list.length = 0 := by
      have h := HZ.out
      unfold zeroB at h
      rw [decide_eq_true_iff] at h
      exact ⟨h.2.2.2.2.2.2.1, h.2.2.2.2.2.2.2.2.1⟩
    have z1 : t.bytes 0 = 0 := rfl
    have z2 : t.names 0 = 0 := rfl
    omega
  have hS1 : Hid (OuterOK t N 1 (List.replicate N 0) (List.replicate N 0)) := Lib.hid ((OuterOK.start t N).skip HY0.out (zeroB_ok HZ.out).2.2)
  have hO1 : Hid (∀ j x, j < 1 → t.nodes[j]? = some x → x.ok = true) := Lib.hid fun j x hj hx => by
    obtain rfl : j = 0 := by omega
    rw [HY0.out] at hx; cases hx; exact (zeroB_ok HZ.out).1
  go_loopg [6, 7, 8] (N - 1) (fun g s6 s7 s8 wr => ∃ (i : Nat) (T D : List Int), i + g = N ∧ 1 ≤ i ∧ s6 = .int .i64 (t.bytes i : Nat) ∧ s7 = .int .i64 (t.names i : Nat) ∧ s8 = .int .i64 i ∧ t.bytes i ≤ i * 65536 ∧ t.names i ≤ i * 512 ∧ Below w.heap.size w wr ∧ wr.cell? ⟨w.heap.size, 0, none⟩ = some (.slice (some ⟨b, o, none⟩) N c) ∧ wr.cell? ⟨w.heap.size, 1, none⟩ = some (.int .i64 t.now) ∧ IntRow wr g1 T ∧ IntRow wr g2 D ∧ Hid (OuterOK t N i T D) ∧ Hid (∀ j x, j < i → t.nodes[j]? = some x → x.ok = true))
  case atStart => exact ⟨1, _, _, by omega, Nat.le_refl _, by rw [hB1.2.2.1]; rfl, by rw [hB1.2.2.2]; rfl, rfl, hB1.1, hB1.2.1, hbk2, c0, d0, r1, r2, hS1, hO1⟩
  case round =>
    clear hbk2 c0 d0 r1 r2 hS1 hO1 hB1
    obtain ⟨i, T, D, hig, hi1, rfl, rfl, rfl, hB, hM, hb, hbox, hbox1, hr1, hr2, HS, HO⟩ := hrel
    cases gk with
    | zero =>
      obtain rfl : i = N := by omega
      have HOK : Hid (∀ x ∈ t.nodes, x.ok = true) := Lib.hid fun x hx => by
        obtain ⟨j, hj⟩ := List.getElem?_of_mem hx
        exact HO.out j x (by rw [← HN.out]; exact (List.getElem?_eq_some_iff.1 hj).1) hj
      have HALL : Hid (∀ i n, t.nodes[i]? = some n → listOK t i n) := Lib.hid fun j n hn => HS.out.ok j n (by rw [← HN.out]; exact (List.getElem?_eq_some_iff.1 hn).1) hn
      have HT : Hid (∀ j, j < t.nodes.length → T.getD j 0 = (t.times j : Nat)) := Lib.hid fun j hj => by rw [HS.out.times j (by rw [← HN.out]; exact hj)]; unfold TTree.times; rw [HN.out]
      have HD : Hid (∀ j n, t.nodes[j]? = some n → D.getD j 0 = (dirsOf t n.list : Nat)) := Lib.hid fun j n hn => HS.out.dirs j n (by rw [← HN.out]; exact (List.getElem?_eq_some_iff.1 hn).1) hn
      have hTl : Hid (T.length = i) := Lib.hid HS.out.lt
      have hDl : Hid (D.length = i) := Lib.hid HS.out.ld
      clear HO HS
      by_cases s1 : t.bytes i ≤ 1048576
      · by_cases s2 : t.names i ≤ 2048
        · have S1 := Lib.hid s1
          have S2 := Lib.hid s2
          have HL0 : Hid (∀ x, t.nodes[0]? = some x → linkOK t 0 x) := Lib.hid fun x hx => by
            rw [HY0.out] at hx; cases hx
            have hz := (zeroB_ok HZ.out).2.1
            exact ⟨fun h => by omega, fun h => by omega⟩
          go_wp2
          go_loopg [12] (i - 1) (fun g s12 wr => ∃ j : Nat, j + g = i ∧ 1 ≤ j ∧ s12 = .int .i64 j ∧ Below w.heap.size w wr ∧ wr.cell? ⟨w.heap.size, 0, none⟩ = some (.slice (some ⟨b, o, none⟩) i c) ∧ wr.cell? ⟨w.heap.size, 1, none⟩ = some (.int .i64 t.now) ∧ IntRow wr g1 T ∧ IntRow wr g2 D ∧ Hid (∀ m x, m < j → t.nodes[m]? = some x → linkOK t m x))
          case atStart => exact ⟨1, by omega, Nat.le_refl _, rfl, hb, hbox, hbox1, hr1, hr2, Lib.hid fun m x hm hx => HL0.out x (by rw [show (0 : Nat) = m by omega]; exact hx) |> fun h => (show m = 0 by omega) ▸ h⟩
          case round =>
            clear hbox hbox1 hr1 hr2 hb
            obtain ⟨j, hjg, hj1, rfl, hb, hc0, hc1, hr1, hr2, HL⟩ := hrel
            cases gk with
            | zero =>
              obtain rfl : j = i := by omega
              have HYes := Lib.hid (treeOK_yes (t := t) ⟨HH.out, HOK.out, HALL.out, by rw [HN.out]; exact S1.out, by rw [HN.out]; exact S2.out, fun m x hx => HL.out m x (by rw [← HN.out]; exact (List.getElem?_eq_some_iff.1 hx).1) hx⟩)
              go_wp2
              go_ret
              exact ⟨ret_bool HYes.out.symm, hb⟩
            | succ g =>
              have hj : j < i := by omega
              obtain ⟨n, hni⟩ : ∃ n, t.nodes[j]? = some n := ⟨t.nodes[j]'(by rw [HN.out]; exact hj), by simp⟩
              obtain ⟨b', o', Da, cd, L, cl, hA', hcd, -, hcl, -, c0, c1, c2, c3, c4, c5, c6, c7, c8, c9⟩ := HA.out.get hni
              cases hA'
              replace c0 := cell_keep hb c0
              replace c1 := cell_keep hb c1
              replace c2 := cell_keep hb c2
              replace c3 := cell_keep hb c3
              replace c4 := cell_keep hb c4
              replace c5 := cell_keep hb c5
              replace c6 := cell_keep hb c6
              replace c7 := cell_keep hb c7
              replace c8 := cell_keep hb c8
              replace c9 := cell_keep hb c9
              have hnok := HOK.out n (List.mem_of_getElem? hni)
              have hkd := HF.out.each n (List.mem_of_getElem? hni)
              have hk0 := hkd.kind
              have hk3' : n.kind ≤ 3 := by
                rw [TNode.ok, Bool.and_eq_true, TNode.nums, decide_eq_true_iff] at hnok; exact hnok.1.1
              have t0 := hr1.cell j (by rw [hTl.out]; exact hj)
              have d0 := hr2.cell j (by rw [hDl.out]; exact hj)
              have hg1l := hr1.lt
              have hg2l := hr2.lt
              have hc0l := World.block_lt_of_cell? _ _ hc0
              dsimp only at hc0l
              have htv0 : T.getD j 0 = (t.times j : Nat) := HT.out j (by rw [HN.out]; exact hj)
              have hdv0 : D.getD j 0 = (dirsOf t n.list : Nat) := HD.out j n hni
              have htb : t.times j ≤ 1000000 := by
                have a := List.count_le_length (a := j) (l := t.refs t.nodes.length)
                have b := refs_length_le t (fun x hx => node_list_le (HOK.out x hx)) t.nodes.length
                unfold TTree.times
                rw [HN.out] at b ⊢
                rw [HN.out] at a
                omega
              have hdb : dirsOf t n.list ≤ 512 := by
                have := List.length_filter_le (fun e => (t.at e.node).kind == 2) n.list
                have := node_list_le hnok
                unfold dirsOf
                omega
              rw [htv0] at t0
              rw [hdv0] at d0
              obtain ⟨tv, htv⟩ : ∃ tv, t.times j = tv := ⟨_, rfl⟩
              obtain ⟨dv, hdv⟩ : ∃ dv, dirsOf t n.list = dv := ⟨_, rfl⟩
              rw [htv] at t0 htb
              rw [hdv] at d0 hdb
              have HTV := Lib.hid htv
              have HDV := Lib.hid hdv
              have HNI := Lib.hid hni
              have HLK := Lib.hid (fun (h : TreeOK t) => h.link j n hni)
              obtain ⟨uz, huz⟩ : ∃ uz, refUp t j = uz := ⟨_, rfl⟩
              have HUZ : Hid (0 ≤ uz ↔ upB t 32 j = true) := Lib.hid (by rw [← huz]; exact refUp_iff t j)
              have HUP : Hid (∀ W : World, NodesAt W (some ⟨b, o, none⟩) t.nodes → Calls Tryz.prog 180 #[.agg #[.slice (some ⟨b, o, none⟩) i c, .int .i64 t.now], .int .i64 (j : Int)] W fun e w' => e = .returned (.int .i64 uz) ∧ Below W.heap.size W w') := Lib.hid fun W hW => by
                have h := refUp_calls t HF.out j _ c W hW
                rw [huz, HN.out] at h
                exact h
              clear hni hnok hkd htv0 hdv0 htv hdv huz
              have hj0 : (0 : Int) ≤ (j : Int) := by omega
              have hj2 : (j : Int) < (i : Int) := by omega
              have hcase : n.kind = 0 ∨ n.kind = 1 ∨ n.kind = 2 ∨ n.kind = 3 := by omega
              by_cases k0' : n.kind = 0
              · have kk0 : (n.kind == 0) = true := beq_iff_eq.2 k0'
                have K0 := Lib.hid k0'
                clear k0' hcase
                go_wp2
                go_roundg g
                case measure => omega
                case rel => exact ⟨j + 1, by omega, by omega, by go_num, below_alloc hb _, cell_new hc0 _, cell_new hc1 _, hr1.new _, hr2.new _, Lib.hid (linkTo_succ HL.out HNI.out ⟨fun h => by have := K0.out; omega, fun h => by have := K0.out; omega⟩)⟩
              · have kk0 : (n.kind == 0) = false := beq_eq_false_iff_ne.2 k0'
                by_cases k2' : n.kind = 2
                · have kk2 : (n.kind != 2) = false := by simp [k2']
                  have K2 := Lib.hid k2'
                  clear k0' k2' hcase
                  by_cases l1 : n.links = 2 + (dv : Int)
                  · have ll1 : (n.links != 2 + (dv : Int)) = false := by simp [l1]
                    have L1 := Lib.hid l1
                    clear l1
                    by_cases l2 : 1 < j
                    · have ll2 : decide (1 < j) = true := decide_eq_true l2
                      have ll2' : decide ((1 : Int) < (j : Int)) = true := decide_eq_true (by omega)
                      have L2 := Lib.hid l2
                      clear l2
                      by_cases l3 : tv = 1
                      · have ll3 : ((tv : Int) != 1) = false := by simp [l3]
                        have L3 := Lib.hid l3
                        clear l3
                        by_cases hu : uz < 0
                        · have huu : decide (uz < 0) = true := decide_eq_true hu
                          have HNo := Lib.hid (treeOK_no (t := t) fun h => by have h1 := ((HLK.out h).1 K2.out).2.2; have := HUZ.out.mpr h1; omega)
                          go_upto_region 40 with fail
                          refine wp_region_later (by kernel_rfl) (by kernel_rfl) ?_
                          repeat (go_big_quiet_step ((exact Calls.later (HUP.out _ (HA.out.keep (below_step (below_alloc hb _) (Later.h _)))))))
                          refine wpQuiet_nil ?_
                          intro wL hbL
                          go_wp2
                          go_ret
                          exact ⟨ret_bool HNo.out.symm, (below_alloc hb _).trans (hbL.mono (by have := hb.size; simp; omega))⟩
                        · have huu : decide (uz < 0) = false := decide_eq_false hu
                          have HU1 : Hid (upB t 32 j = true) := Lib.hid (HUZ.out.mp (by omega))
                          go_upto_region 40 with fail
                          refine wp_region_later (by kernel_rfl) (by kernel_rfl) ?_
                          repeat (go_big_quiet_step ((exact Calls.later (HUP.out _ (HA.out.keep (below_step (below_alloc hb _) (Later.h _)))))))
                          refine wpQuiet_nil ?_
                          intro wL hbL
                          go_wp2
                          go_roundg g
                          case measure => omega
                          case rel => exact ⟨j + 1, by omega, by omega, by go_num, (below_alloc hb _).trans (hbL.mono (by have := hb.size; simp; omega)), cell_keep hbL (cell_new hc0 _), cell_keep hbL (cell_new hc1 _), (hr1.new _).keep hbL, (hr2.new _).keep hbL, Lib.hid (linkTo_succ HL.out HNI.out ⟨fun _ => ⟨by rw [HDV.out]; exact L1.out, fun _ => by rw [HTV.out]; exact L3.out, HU1.out⟩, fun h => by have := K2.out; omega⟩)⟩
                      · have ll3 : ((tv : Int) != 1) = true := by simp; omega
                        have L3 := Lib.hid l3
                        clear l3
                        have HNo := Lib.hid (treeOK_no (t := t) fun h => L3.out (HTV.out ▸ ((HLK.out h).1 K2.out).2.1 L2.out))
                        go_upto_region 40 with fail
                        refine wp_region_later (by kernel_rfl) (by kernel_rfl) ?_
                        repeat (go_big_quiet_step (fail))
                        refine wpQuiet_nil ?_
                        intro wL hbL
                        go_wp2
                        go_ret
                        exact ⟨ret_bool HNo.out.symm, (below_alloc hb _).trans (hbL.mono (by have := hb.size; simp; omega))⟩
                    · have ll2 : decide (1 < j) = false := decide_eq_false l2
                      have ll2' : decide ((1 : Int) < (j : Int)) = false := decide_eq_false (by omega)
                      have L2 := Lib.hid l2
                      clear l2
                      by_cases hu : uz < 0
                      · have huu : decide (uz < 0) = true := decide_eq_true hu
                        have HNo := Lib.hid (treeOK_no (t := t) fun h => by have h1 := ((HLK.out h).1 K2.out).2.2; have := HUZ.out.mpr h1; omega)
                        go_upto_region 40 with fail
                        refine wp_region_later (by kernel_rfl) (by kernel_rfl) ?_
                        repeat (go_big_quiet_step ((exact Calls.later (HUP.out _ (HA.out.keep (below_step (below_alloc hb _) (Later.h _)))))))
                        refine wpQuiet_nil ?_
                        intro wL hbL
                        go_wp2
                        go_ret
                        exact ⟨ret_bool HNo.out.symm, (below_alloc hb _).trans (hbL.mono (by have := hb.size; simp; omega))⟩
                      · have huu : decide (uz < 0) = false := decide_eq_false hu
                        have HU1 : Hid (upB t 32 j = true) := Lib.hid (HUZ.out.mp (by omega))
                        go_upto_region 40 with fail
                        refine wp_region_later (by kernel_rfl) (by kernel_rfl) ?_
                        repeat (go_big_quiet_step ((exact Calls.later (HUP.out _ (HA.out.keep (below_step (below_alloc hb _) (Later.h _)))))))
                        refine wpQuiet_nil ?_
                        intro wL hbL
                        go_wp2
                        go_roundg g
                        case measure => omega
                        case rel => exact ⟨j + 1, by omega, by omega, by go_num, (below_alloc hb _).trans (hbL.mono (by have := hb.size; simp; omega)), cell_keep hbL (cell_new hc0 _), cell_keep hbL (cell_new hc1 _), (hr1.new _).keep hbL, (hr2.new _).keep hbL, Lib.hid (linkTo_succ HL.out HNI.out ⟨fun _ => ⟨by rw [HDV.out]; exact L1.out, fun h => absurd h L2.out, HU1.out⟩, fun h => by have := K2.out; omega⟩)⟩
                  · have ll1 : (n.links != 2 + (dv : Int)) = true := by simp [l1]
                    have L1 := Lib.hid l1
                    clear l1
                    have HNo := Lib.hid (treeOK_no (t := t) fun h => L1.out (HDV.out ▸ ((HLK.out h).1 K2.out).1))
                    go_upto_region 40 with fail
                    refine wp_region_later (by kernel_rfl) (by kernel_rfl) ?_
                    repeat (go_big_quiet_step (fail))
                    refine wpQuiet_nil ?_
                    intro wL hbL
                    go_wp2
                    go_ret
                    exact ⟨ret_bool HNo.out.symm, (below_alloc hb _).trans (hbL.mono (by have := hb.size; simp; omega))⟩
                · have kk2 : (n.kind != 2) = true := by simp [k2']
                  have K13 := Lib.hid (show n.kind = 1 ∨ n.kind = 3 by omega)
                  have K2 := Lib.hid k2'
                  clear k0' k2' hcase
                  by_cases v1 : tv < 1
                  · have vv1 : decide (tv < 1) = true := decide_eq_true v1
                    have vv2 : decide ((tv : Int) < 1) = true := decide_eq_true (by omega)
                    have vv3 : decide (tv = 0) = true := decide_eq_true (by omega)
                    have V1 := Lib.hid v1
                    clear v1
                    have HNo := Lib.hid (treeOK_no (t := t) fun h => absurd ((HLK.out h).2 K13.out).1 (by rw [HTV.out]; have := V1.out; omega))
                    go_upto_region 38 with fail
                    refine wp_region_later (by kernel_rfl) (by kernel_rfl) ?_
                    repeat (go_big_quiet_step (fail))
                    refine wpQuiet_nil ?_
                    intro wL hbL
                    go_wp2
                    go_ret
                    exact ⟨ret_bool HNo.out.symm, (below_alloc hb _).trans (hbL.mono (by have := hb.size; simp; omega))⟩
                  · have vv1 : decide (tv < 1) = false := decide_eq_false v1
                    have vv2 : decide ((tv : Int) < 1) = false := decide_eq_false (by omega)
                    have vv3 : decide (tv = 0) = false := decide_eq_false (by omega)
                    have V1 := Lib.hid v1
                    clear v1
                    by_cases l1 : n.links = (tv : Int)
                    · have ll1 : (n.links != (tv : Int)) = false := by simp [l1]
                      have L1 := Lib.hid l1
                      clear l1
                      go_upto_region 38 with fail
                      refine wp_region_later (by kernel_rfl) (by kernel_rfl) ?_
                      repeat (go_big_quiet_step (fail))
                      refine wpQuiet_nil ?_
                      intro wL hbL
                      go_wp2
                      go_roundg g
                      case measure => omega
                      case rel => exact ⟨j + 1, by omega, by omega, by go_num, (below_alloc hb _).trans (hbL.mono (by have := hb.size; simp; omega)), cell_keep hbL (cell_new hc0 _), cell_keep hbL (cell_new hc1 _), (hr1.new _).keep hbL, (hr2.new _).keep hbL, Lib.hid (linkTo_succ HL.out HNI.out ⟨fun h => absurd h K2.out, fun _ => by rw [HTV.out]; exact ⟨by have := V1.out; omega, L1.out⟩⟩)⟩
                    · have ll1 : (n.links != (tv : Int)) = true := by simp [l1]
                      have L1 := Lib.hid l1
                      clear l1
                      have HNo := Lib.hid (treeOK_no (t := t) fun h => L1.out (HTV.out ▸ ((HLK.out h).2 K13.out).2))
                      go_upto_region 38 with fail
                      refine wp_region_later (by kernel_rfl) (by kernel_rfl) ?_
                      repeat (go_big_quiet_step (fail))
                      refine wpQuiet_nil ?_
                      intro wL hbL
                      go_wp2
                      go_ret
                      exact ⟨ret_bool HNo.out.symm, (below_alloc hb _).trans (hbL.mono (by have := hb.size; simp; omega))⟩
        · have HNo := Lib.hid (treeOK_no (t := t) fun h => s2 (by have := h.names; rw [HN.out] at this; exact this))
          go_wp2
          go_ret
          exact ⟨ret_bool HNo.out.symm, hb⟩
      · have HNo := Lib.hid (treeOK_no (t := t) fun h => s1 (by have := h.bytes; rw [HN.out] at this; exact this))
        go_wp2
        go_ret
        exact ⟨ret_bool HNo.out.symm, hb⟩
    | succ g =>
      have hi : i < N := by omega
      obtain ⟨n, hni⟩ : ∃ n, t.nodes[i]? = some n := ⟨t.nodes[i]'(by rw [HN.out]; exact hi), by simp⟩
      obtain ⟨b', o', Da, cd, L, cl, hA', hcd, hD, hcl, hL, c0, c1, c2, c3, c4, c5, c6, c7, c8, c9⟩ := HA.out.get hni
      cases hA'
      replace c0 := cell_keep hb c0
      replace c1 := cell_keep hb c1
      replace c2 := cell_keep hb c2
      replace c3 := cell_keep hb c3
      replace c4 := cell_keep hb c4
      replace c5 := cell_keep hb c5
      replace c6 := cell_keep hb c6
      replace c7 := cell_keep hb c7
      replace c8 := cell_keep hb c8
      replace c9 := cell_keep hb c9
      obtain ⟨wo, rfl⟩ : ∃ wo : World, wo = wr := ⟨_, rfl⟩
      have HFit := Lib.hid (HF.out.each n (List.mem_of_getElem? hni))
      have HNI := Lib.hid hni
      have HE := Lib.hid hL
      have hin0 : (0 : Int) ≤ (i : Int) := by omega
      have hin1 : (i : Int) < (N : Int) := by omega
      clear hni hL hD
      by_cases k0 : n.kind = 0
      · have kk : (n.kind == 0) = true := beq_iff_eq.2 k0
        have K0 := Lib.hid k0
        clear k0
        cases hz : zeroB n with
        | false =>
          have HZN := Lib.hid hz
          have HNo := Lib.hid (treeOK_no (t := t) fun h => by have h1 := h.each n (List.mem_of_getElem? HNI.out); rw [zeroB_no hz K0.out] at h1; cases h1)
          clear hz
          go_wp2_with (go_at_call 177; refine (refZero_calls n HFit.out _ _ _ _ _).mono ?_; rintro _ w1 ⟨rfl, hb1⟩; rw [HZN.out])
          go_ret
          exact ⟨ret_bool HNo.out.symm, below_step (below_alloc hb _) hb1⟩
        | true =>
          have HZN := Lib.hid hz
          have HZ2 := Lib.hid (zeroB_ok hz)
          have hd0 : n.data.length = 0 ∧ n.list.length = 0 := by
            unfold zeroB at hz
            rw [decide_eq_true_iff] at hz
            exact ⟨hz.2.2.2.2.2.2.1, hz.2.2.2.2.2.2.2.2.1⟩
          have HD1 : Hid (t.bytes (i + 1) = t.bytes i) := Lib.hid (by rw [bytes_succ HNI.out, hd0.1, Nat.add_zero])
          have HD2 : Hid (t.names (i + 1) = t.names i) := Lib.hid (by rw [names_succ HNI.out, hd0.2, Nat.add_zero])
          have HD3 : Hid (t.bytes (i + 1) ≤ (i + 1) * 65536) := Lib.hid (by rw [HD1.out]; exact Nat.le_trans hB (Nat.mul_le_mul_right _ (Nat.le_succ i)))
          have HD4 : Hid (t.names (i + 1) ≤ (i + 1) * 512) := Lib.hid (by rw [HD2.out]; exact Nat.le_trans hM (Nat.mul_le_mul_right _ (Nat.le_succ i)))
          clear hz hd0
          go_wp2_with (go_at_call 177; refine (refZero_calls n HFit.out _ _ _ _ _).mono ?_; rintro _ w1 ⟨rfl, hb1⟩; rw [HZN.out]; have HBZ : Hid (Below wo.heap.size wo w1) := Lib.hid (below_step (below_alloc (Below.refl _ _) _) hb1); clear hb1)
          go_roundg g
          case measure => omega
          case rel => exact ⟨i + 1, T, D, by omega, by omega, by rw [HD1.out], by rw [HD2.out], by go_num, HD3.out, HD4.out, below_step hb HBZ.out, cell_keep HBZ.out hbox, cell_keep HBZ.out hbox1, hr1.keep HBZ.out, hr2.keep HBZ.out, Lib.hid (HS.out.skip HNI.out HZ2.out.2.2), Lib.hid (okTo_succ HO.out HNI.out HZ2.out.1)⟩
      · have kk : (n.kind == 0) = false := beq_eq_false_iff_ne.2 k0
        have K0 := Lib.hid k0
        clear k0
        cases hok : n.ok with
        | false =>
          have HNo := Lib.hid (treeOK_no (t := t) fun h => by have h1 := h.each n (List.mem_of_getElem? HNI.out); rw [hok] at h1; cases h1)
          have HOK := Lib.hid hok
          clear hok
          go_wp2_with (go_at_call 178; refine (refAlone_calls n HFit.out K0.out _ _ _ _ _).mono ?_; rintro _ w1 ⟨rfl, hb1⟩; rw [HOK.out])
          go_ret
          exact ⟨ret_bool HNo.out.symm, below_step (below_alloc hb _) hb1⟩
        | true =>
          have hd := node_data_le hok
          have hl5 := node_list_le hok
          have HOK := Lib.hid hok
          have HL512 : Hid (∀ x ∈ t.nodes, x.list.length ≤ 512 ∨ True) := Lib.hid fun _ _ => .inr trivial
          clear hok HL512
          go_upto_region 17 with (go_at_call 178; refine (refAlone_calls n HFit.out K0.out _ _ _ _ _).mono ?_; rintro _ w1 ⟨rfl, hb1⟩; rw [HOK.out])
          have e6 : w1.cell? ⟨wo.heap.size, 6, none⟩ = some (.slice Da n.data.length cd) := cell_keep hb1 (by rw [World.cell?_alloc_new]; rfl)
          have e8 : w1.cell? ⟨wo.heap.size, 8, none⟩ = some (.slice L n.list.length cl) := cell_keep hb1 (by rw [World.cell?_alloc_new]; rfl)
          have hz1 : wo.heap.size < w1.heap.size := by have := hb1.size; simp at this; omega
          have hk1 : Below wo.heap.size wo w1 := below_step (below_alloc (Below.refl _ _) _) hb1
          have hbn : Below w.heap.size w w1 := below_step hb hk1
          have hbox2 := cell_keep hk1 hbox
          have hbox3 := cell_keep hk1 hbox1
          have hq1 := hr1.keep hk1
          have hq2 := hr2.keep hk1
          have hg1o : g1 ≠ wo.heap.size := by have := hr1.lt; omega
          have hg2o : g2 ≠ wo.heap.size := by have := hr2.lt; omega
          clear hb1 hk1 c0 c1 c2 c3 c4 c5 c6 c7 c8 c9
          go_wp2
          clear e6
          go_loopg [10] (n.list.length) (fun gg s10 wq => ∃ k : Nat, ∃ T D : List Int, k + gg = n.list.length ∧ s10 = .int .i64 k ∧ Below w.heap.size w wq ∧ wq.cell? ⟨w.heap.size, 0, none⟩ = some (.slice (some ⟨b, o, none⟩) N c) ∧ wq.cell? ⟨w.heap.size, 1, none⟩ = some (.int .i64 t.now) ∧
            wq.cell? ⟨wo.heap.size, 8, none⟩ = some (.slice L n.list.length cl) ∧ wo.heap.size < wq.heap.size ∧ IntRow wq g1 T ∧ IntRow wq g2 D ∧ Hid (InnerOK t N i n.list k T D))
          case atStart => exact ⟨0, T, D, by omega, rfl, hbn, hbox2, hbox3, e8, hz1, hq1, hq2, Lib.hid (HS.out.inner _)⟩
          case round =>
            clear hbn hbox2 hbox3 e8 hz1 hq1 hq2 hr1 hr2 hbox hbox1 hb
            clear HS
            obtain ⟨k, T, D, hkg, rfl, hb, hbox, hbox1, hb6, hsz, hr1, hr2, HS⟩ := hrel
            cases gk with
            | zero =>
              obtain rfl : k = n.list.length := by omega
              go_wp2
              go_roundg g
              case measure => omega
              case rel => exact ⟨i + 1, T, D, by omega, by omega, by rw [bytes_succ HNI.out]; push_cast; rfl, by rw [names_succ HNI.out]; push_cast; rfl, by go_num, by rw [bytes_succ HNI.out]; omega, by rw [names_succ HNI.out]; omega, hb, hbox, hbox1, hr1, hr2, Lib.hid (HS.out.outer HNI.out), Lib.hid (okTo_succ HO.out HNI.out HOK.out)⟩
            | succ gg =>
              have hk : k < n.list.length := by omega
              obtain ⟨e, hke⟩ : ∃ e, n.list[k]? = some e := ⟨n.list[k], by simp⟩
              have hes := Lib.hid (HFit.out.ents e (List.mem_of_getElem? hke)).name
              obtain ⟨b3, o3, rfl, e0, e1⟩ := HE.out k e hke
              have hb'w := World.block_lt_of_cell? _ _ e0
              have hb'q := below_lt hb hb'w
              have hwq := World.block_lt_of_cell? _ _ hbox
              replace e0 := cell_keep hb e0
              replace e1 := cell_keep hb e1
              dsimp only at hb'w hb'q hwq
              have HK := Lib.hid hke
              clear hke
              go_upto_region 23 with fail
              go_cut [152] (fun s152 wx => ∃ bad : Bool, s152 = .bool bad ∧ (bad = true ↔ ¬ Pre1 t N k n.list e) ∧ Below (wr.alloc (.cells #[.string e.name, .int .i64 e.node] 162)).heap.size (wr.alloc (.cells #[.string e.name, .int .i64 e.node] 162)) wx)
              case first =>
                by_cases p1 : nameOK e.name = true
                · by_cases p2 : k = 0
                  · have hk0 : decide (0 < k) = false := decide_eq_false (by omega)
                    have P2 := Lib.hid p2
                    clear p2
                    by_cases p4 : 2 ≤ e.node
                    · by_cases p5 : e.node < (N : Int)
                      · have d4 : decide (e.node < 2) = false := decide_eq_false (by omega)
                        have d5 : decide ((N : Int) ≤ e.node) = false := decide_eq_false (by omega)
                        obtain ⟨x, hx⟩ : ∃ x, t.nodes[e.node.toNat]? = some x := ⟨t.nodes[e.node.toNat]'(by rw [HN.out]; omega), by simp⟩
                        obtain ⟨bx, ox, Dx, cdx, Lx, clx, hAx, _, _, _, _, x0, -, -, -, -, -, -, -, -, -⟩ := HA.out.get hx
                        cases hAx
                        have hbxl := World.block_lt_of_cell? _ _ x0
                        dsimp only at hbxl
                        replace x0 := cell_keep hb x0
                        have hbxq := below_lt hb hbxl
                        have hn0 : (0 : Int) ≤ e.node := by omega
                        have HAT := Lib.hid (at_eq' hx)
                        clear hx
                        by_cases kz : x.kind = 0
                        · have kk : (x.kind == 0) = true := beq_iff_eq.2 kz
                          have HH' : Hid (¬ Pre1 t N k n.list e) := Lib.hid (fun h => h.2 (by rw [HAT.out]; exact kz))
                          clear kz
                          refine wp_region_later (by kernel_rfl) (by kernel_rfl) ?_
                          repeat (go_big_quiet_step ((exact Calls.later (refName_calls e.name hes.out _))))
                          refine wpQuiet_nil ?_
                          intro wL hbL
                          go_wp2_with fail
                          go_meet
                          case rel => exact ⟨_, rfl, by simp [HH'.out], hbL⟩
                        · have kk : (x.kind == 0) = false := beq_eq_false_iff_ne.2 kz
                          have HH' : Hid (Pre1 t N k n.list e) := Lib.hid (⟨⟨p1, fun q h => absurd P2.out h, p4, p5⟩, by rw [HAT.out]; exact kz⟩)
                          clear kz
                          refine wp_region_later (by kernel_rfl) (by kernel_rfl) ?_
                          repeat (go_big_quiet_step ((exact Calls.later (refName_calls e.name hes.out _))))
                          refine wpQuiet_nil ?_
                          intro wL hbL
                          go_wp2_with fail
                          go_meet
                          case rel => exact ⟨_, rfl, by simp [HH'.out], hbL⟩
                      · have d4 : decide (e.node < 2) = false := decide_eq_false (by omega)
                        have d5 : decide ((N : Int) ≤ e.node) = true := decide_eq_true (by omega)
                        have HH' : Hid (¬ Pre1 t N k n.list e) := Lib.hid (fun h => p5 h.1.2.2.2)
                        refine wp_region_later (by kernel_rfl) (by kernel_rfl) ?_
                        repeat (go_big_quiet_step ((exact Calls.later (refName_calls e.name hes.out _))))
                        refine wpQuiet_nil ?_
                        intro wL hbL
                        go_wp2_with fail
                        go_meet
                        case rel => exact ⟨_, rfl, by simp [HH'.out], hbL⟩
                    · have d4 : decide (e.node < 2) = true := decide_eq_true (by omega)
                      have HH' : Hid (¬ Pre1 t N k n.list e) := Lib.hid (fun h => p4 h.1.2.2.1)
                      refine wp_region_later (by kernel_rfl) (by kernel_rfl) ?_
                      repeat (go_big_quiet_step ((exact Calls.later (refName_calls e.name hes.out _))))
                      refine wpQuiet_nil ?_
                      intro wL hbL
                      go_wp2_with fail
                      go_meet
                      case rel => exact ⟨_, rfl, by simp [HH'.out], hbL⟩
                  · obtain ⟨q, hq⟩ : ∃ q, n.list[k - 1]? = some q := ⟨n.list[k - 1]'(by omega), by simp⟩
                    obtain ⟨b2, o2, hA2, f0, f1⟩ := HE.out (k - 1) q hq
                    cases hA2
                    replace f0 := cell_keep hb f0
                    have hk1 : ((k : Int) - 1).toNat = k - 1 := by omega
                    have hk2 : IntKind.i64.wrap ((k : Int) - 1) = (k : Int) - 1 := IntWalk.i64_in _ (by omega)
                    have hk3 : (0 : Int) ≤ (k : Int) - 1 := by omega
                    have hk4 : (k : Int) - 1 < (n.list.length : Int) := by omega
                    have hk5 : 0 < k := by omega
                    have HQ := Lib.hid hq
                    clear hq f1
                    by_cases p3 : strLt q.name e.name = true
                    · have p3' := p3
                      unfold strLt at p3'
                      by_cases p4 : 2 ≤ e.node
                      · by_cases p5 : e.node < (N : Int)
                        · have d4 : decide (e.node < 2) = false := decide_eq_false (by omega)
                          have d5 : decide ((N : Int) ≤ e.node) = false := decide_eq_false (by omega)
                          obtain ⟨x, hx⟩ : ∃ x, t.nodes[e.node.toNat]? = some x := ⟨t.nodes[e.node.toNat]'(by rw [HN.out]; omega), by simp⟩
                          obtain ⟨bx, ox, Dx, cdx, Lx, clx, hAx, _, _, _, _, x0, -, -, -, -, -, -, -, -, -⟩ := HA.out.get hx
                          cases hAx
                          have hbxl := World.block_lt_of_cell? _ _ x0
                          dsimp only at hbxl
                          replace x0 := cell_keep hb x0
                          have hbxq := below_lt hb hbxl
                          have hn0 : (0 : Int) ≤ e.node := by omega
                          have HAT := Lib.hid (at_eq' hx)
                          clear hx
                          by_cases kz : x.kind = 0
                          · have kk : (x.kind == 0) = true := beq_iff_eq.2 kz
                            have HH' : Hid (¬ Pre1 t N k n.list e) := Lib.hid (fun h => h.2 (by rw [HAT.out]; exact kz))
                            clear kz
                            refine wp_region_later (by kernel_rfl) (by kernel_rfl) ?_
                            repeat (go_big_quiet_step ((exact Calls.later (refName_calls e.name hes.out _))))
                            refine wpQuiet_nil ?_
                            intro wL hbL
                            go_wp2_with fail
                            go_meet
                            case rel => exact ⟨_, rfl, by simp [HH'.out], hbL⟩
                          · have kk : (x.kind == 0) = false := beq_eq_false_iff_ne.2 kz
                            have HH' : Hid (Pre1 t N k n.list e) := Lib.hid (⟨⟨p1, fun q' h hq' => by rw [HQ.out] at hq'; cases hq'; exact p3, p4, p5⟩, by rw [HAT.out]; exact kz⟩)
                            clear kz
                            refine wp_region_later (by kernel_rfl) (by kernel_rfl) ?_
                            repeat (go_big_quiet_step ((exact Calls.later (refName_calls e.name hes.out _))))
                            refine wpQuiet_nil ?_
                            intro wL hbL
                            go_wp2_with fail
                            go_meet
                            case rel => exact ⟨_, rfl, by simp [HH'.out], hbL⟩
                        · have d4 : decide (e.node < 2) = false := decide_eq_false (by omega)
                          have d5 : decide ((N : Int) ≤ e.node) = true := decide_eq_true (by omega)
                          have HH' : Hid (¬ Pre1 t N k n.list e) := Lib.hid (fun h => p5 h.1.2.2.2)
                          refine wp_region_later (by kernel_rfl) (by kernel_rfl) ?_
                          repeat (go_big_quiet_step ((exact Calls.later (refName_calls e.name hes.out _))))
                          refine wpQuiet_nil ?_
                          intro wL hbL
                          go_wp2_with fail
                          go_meet
                          case rel => exact ⟨_, rfl, by simp [HH'.out], hbL⟩
                      · have d4 : decide (e.node < 2) = true := decide_eq_true (by omega)
                        have HH' : Hid (¬ Pre1 t N k n.list e) := Lib.hid (fun h => p4 h.1.2.2.1)
                        refine wp_region_later (by kernel_rfl) (by kernel_rfl) ?_
                        repeat (go_big_quiet_step ((exact Calls.later (refName_calls e.name hes.out _))))
                        refine wpQuiet_nil ?_
                        intro wL hbL
                        go_wp2_with fail
                        go_meet
                        case rel => exact ⟨_, rfl, by simp [HH'.out], hbL⟩
                    · have p3' : Op.bytesLess q.name.toList e.name.toList = false := by simpa using p3
                      have HH' : Hid (¬ Pre1 t N k n.list e) := Lib.hid (fun h => p3 (h.1.2.1 q p2 HQ.out))
                      clear p3
                      refine wp_region_later (by kernel_rfl) (by kernel_rfl) ?_
                      repeat (go_big_quiet_step ((exact Calls.later (refName_calls e.name hes.out _))))
                      refine wpQuiet_nil ?_
                      intro wL hbL
                      go_wp2_with fail
                      go_meet
                      case rel => exact ⟨_, rfl, by simp [HH'.out], hbL⟩
                · have HH' : Hid (¬ Pre1 t N k n.list e) := Lib.hid (fun h => p1 h.1.1)
                  refine wp_region_later (by kernel_rfl) (by kernel_rfl) ?_
                  repeat (go_big_quiet_step ((exact Calls.later (refName_calls e.name hes.out _))))
                  refine wpQuiet_nil ?_
                  intro wL hbL
                  go_wp2_with fail
                  go_meet
                  case rel => exact ⟨_, rfl, by simp [HH'.out], hbL⟩
              case rest =>
                obtain ⟨bad, rfl, hbad, hbc⟩ := hcut
                have hbq : Below w.heap.size w wc := (below_alloc hb _).trans (hbc.mono (by simp; omega))
                have hboxc : wc.cell? ⟨w.heap.size, 0, none⟩ = some (.slice (some ⟨b, o, none⟩) N c) := cell_keep hbc ((World.cell?_alloc_lt _ _ _ hwq).trans hbox)
                have hbox1c : wc.cell? ⟨w.heap.size, 1, none⟩ = some (.int .i64 t.now) := cell_keep hbc ((World.cell?_alloc_lt _ _ _ hwq).trans hbox1)
                have hb6c : wc.cell? ⟨wo.heap.size, 8, none⟩ = some (.slice (some ⟨b3, o3, none⟩) n.list.length cl) := cell_keep hbc ((World.cell?_alloc_lt _ _ _ hsz).trans hb6)
                have ha1 : Below wr.heap.size wr (wr.alloc (.cells #[.string e.name, .int .i64 e.node] 162)) := (Below.refl _ _).alloc (Nat.le_refl _) _
                have hr1c := (hr1.keep ha1).keep hbc
                have hr2c := (hr2.keep ha1).keep hbc
                have e1c : wc.cell? ⟨wr.heap.size, 1, none⟩ = some (.int .i64 e.node) := cell_keep hbc (by rw [World.cell?_alloc_new]; rfl)
                have hszc : wr.heap.size < wc.heap.size := by have := hbc.size; simp at this; omega
                cases bad with
                | true =>
                  have HB := Lib.hid (hbad.mp rfl)
                  have HNo := Lib.hid (treeOK_no (t := t) fun h => InnerOK.bad HNI.out HK.out (fun ha => HB.out (Pre1.of HN.out ha)) h.lists)
                  clear hbad
                  go_wp2
                  go_ret
                  exact ⟨ret_bool HNo.out.symm, hbq⟩
                | false =>
                  have hpre0 : Pre1 t N k n.list e := Classical.byContradiction fun h => by simpa using hbad.mpr h
                  have hpre := hpre0.1
                  have HKZ := Lib.hid hpre0.2
                  have hp4 := hpre.2.2.1
                  have hp5 := hpre.2.2.2
                  have hm : e.node.toNat < N := by omega
                  obtain ⟨x, hx⟩ : ∃ x, t.nodes[e.node.toNat]? = some x := ⟨t.nodes[e.node.toNat]'(by rw [HN.out]; exact hm), by simp⟩
                  obtain ⟨bx, ox, Dx, cdx, Lx, clx, hAx, _, _, _, _, x0, x1, x2, x3, x4, x5, x6, x7, x8, x9⟩ := HA.out.get hx
                  cases hAx
                  replace x0 := cell_keep hbq x0
                  replace x1 := cell_keep hbq x1
                  replace x2 := cell_keep hbq x2
                  replace x3 := cell_keep hbq x3
                  replace x4 := cell_keep hbq x4
                  replace x5 := cell_keep hbq x5
                  replace x6 := cell_keep hbq x6
                  replace x7 := cell_keep hbq x7
                  replace x8 := cell_keep hbq x8
                  replace x9 := cell_keep hbq x9
                  have HX := Lib.hid hx
                  have HP := Lib.hid hpre
                  have HXK : Hid (x.kind ≠ 0) := Lib.hid (by have := HKZ.out; rw [at_eq' hx] at this; exact this)
                  clear hx hpre hpre0 hbad
                  have hTl : T.length = N := HS.out.lt
                  have hDl : D.length = N := HS.out.ld
                  have t0 := hr1c.cell e.node.toNat (by omega)
                  have t1 := hr1c.free e.node.toNat
                  have d0 := hr2c.cell i (by omega)
                  have d1 := hr2c.free i
                  have hg1c := hr1c.lt
                  have hg2c := hr2c.lt
                  obtain ⟨tb, db⟩ := HS.out.bounds' (fun j x hj hx => node_list_le (HO.out j x hj hx)) (by omega) (by omega) e.node.toNat hm
                  obtain ⟨tv, htv⟩ : ∃ tv, T.getD e.node.toNat 0 = tv := ⟨_, rfl⟩
                  obtain ⟨dv, hdv⟩ : ∃ dv, D.getD i 0 = dv := ⟨_, rfl⟩
                  rw [htv] at t0 tb
                  rw [hdv] at d0 db
                  have HTV := Lib.hid htv
                  have HDV := Lib.hid hdv
                  have HTL := Lib.hid hTl
                  have HDL := Lib.hid hDl
                  clear htv hdv hTl hDl
                  have tb0 := tb.1
                  have tb1 := tb.2
                  have db0 := db.1
                  have db1 := db.2
                  clear tb db
                  have hb1 : Below w.heap.size w (wc.setCell ⟨g1, e.node.toNat, none⟩ (.int .i64 (tv + 1))) := hbq.setCell (by show _ ≤ g1; omega) _
                  have hb2 := hb1.setCell (p := ⟨g2, i, none⟩) (by show _ ≤ g2; omega) (.int .i64 (dv + 1))
                  have q1 : IntRow (wc.setCell ⟨g1, e.node.toNat, none⟩ (.int .i64 (tv + 1))) g1 (T.set e.node.toNat (T.getD e.node.toNat 0 + 1)) := by rw [HTV.out]; exact hr1c.set_ _ _
                  have q2 := hr2c.far (p := ⟨g1, e.node.toNat, none⟩) (Ne.symm hg) (.int .i64 (tv + 1))
                  have q1' := q1.far (p := ⟨g2, i, none⟩) hg (.int .i64 (dv + 1))
                  have q2' : IntRow ((wc.setCell ⟨g1, e.node.toNat, none⟩ (.int .i64 (tv + 1))).setCell ⟨g2, i, none⟩ (.int .i64 (dv + 1))) g2 (D.set i (D.getD i 0 + 1)) := by rw [HDV.out]; exact q2.set_ _ _
                  have y1 := cell_set (q := ⟨g1, e.node.toNat, none⟩) (u := .int .i64 (tv + 1)) hboxc (by show w.heap.size ≠ g1; omega)
                  have y2 := cell_set (q := ⟨g2, i, none⟩) (u := .int .i64 (dv + 1)) y1 (by show w.heap.size ≠ g2; omega)
                  have u1 := cell_set (q := ⟨g1, e.node.toNat, none⟩) (u := .int .i64 (tv + 1)) hbox1c (by show w.heap.size ≠ g1; omega)
                  have u2 := cell_set (q := ⟨g2, i, none⟩) (u := .int .i64 (dv + 1)) u1 (by show w.heap.size ≠ g2; omega)
                  have z1 := cell_set (q := ⟨g1, e.node.toNat, none⟩) (u := .int .i64 (tv + 1)) hb6c (by show wo.heap.size ≠ g1; omega)
                  have z2 := cell_set (q := ⟨g2, i, none⟩) (u := .int .i64 (dv + 1)) z1 (by show wo.heap.size ≠ g2; omega)
                  have Q1 := Lib.hid q1
                  have Q2 := Lib.hid q2
                  have Q1' := Lib.hid q1'
                  have Q2' := Lib.hid q2'
                  have Y1 := Lib.hid y1
                  have Y2 := Lib.hid y2
                  have U1 := Lib.hid u1
                  have U2 := Lib.hid u2
                  have Z1 := Lib.hid z1
                  have Z2 := Lib.hid z2
                  clear q1 q2 q1' q2' y1 y2 u1 u2 z1 z2
                  have hne1 : wr.heap.size ≠ g1 := by have := hr1.lt; omega
                  have hne2 : wr.heap.size ≠ g2 := by have := hr2.lt; omega
                  have hne3 : b ≠ g1 := by omega
                  have hne4 : b ≠ g2 := by omega
                  have hne5 : w.heap.size ≠ g1 := by omega
                  have hne6 : w.heap.size ≠ g2 := by omega
                  by_cases kx : x.kind = 2
                  · have kx' : (x.kind == 2) = true := beq_iff_eq.2 kx
                    have KX := Lib.hid kx
                    clear kx
                    by_cases px : x.parent = i
                    · have px' : (x.parent != (i : Int)) = false := by simp [px]
                      have PX := Lib.hid px
                      clear px
                      go_wp2
                      go_roundg gg
                      case measure => omega
                      case rel => exact ⟨k + 1, _, _, by omega, by go_num, hb2, Y2.out, U2.out, Z2.out, by simp [World.setCell]; omega, Q1'.out, Q2'.out, Lib.hid (HS.out.dirStep hi HK.out ((entAt_iff HN.out HX.out).mpr ⟨HP.out, HXK.out, fun _ => PX.out⟩) HX.out KX.out hm)⟩
                    · have px' : (x.parent != (i : Int)) = true := by simp [px]
                      have PX := Lib.hid px
                      clear px
                      have HNo := Lib.hid (treeOK_no (t := t) fun h => InnerOK.bad HNI.out HK.out (fun ha => PX.out (((entAt_iff HN.out HX.out).mp ha).2.2 KX.out)) h.lists)
                      go_wp2
                      go_ret
                      exact ⟨ret_bool HNo.out.symm, hb2⟩
                  · have kx' : (x.kind == 2) = false := beq_eq_false_iff_ne.2 kx
                    have KX := Lib.hid kx
                    clear kx
                    go_wp2
                    go_roundg gg
                    case measure => omega
                    case rel => exact ⟨k + 1, _, _, by omega, by go_num, hb1, Y1.out, U1.out, Z1.out, by simp [World.setCell]; omega, Q1.out, Q2.out, Lib.hid (HS.out.otherStep HK.out ((entAt_iff HN.out HX.out).mpr ⟨HP.out, HXK.out, fun h => absurd h KX.out⟩) HX.out KX.out hm)⟩
theorem refCheck_calls (t : TTree) (hF : t.Fits) (A : Option Addr) (c : Nat) (w : World) (hA : NodesAt w A t.nodes) :
    Calls Tryz.prog 110 #[.agg #[.slice A t.nodes.length c, .int .i64 t.now]] w fun e w' => e = .returned (.bool (treeOK t)) ∧ Below w.heap.size w w' := by
  by_cases h : HeadOK t ∧ zeroB (t.at 0) = true
  · exact refCheck_head t A c w hA hF h.1 h.2
  · have hno : treeOK t = false := treeOK_no fun ht => h ⟨ht.head, by
      cases hz : zeroB (t.at 0) with
      | true => rfl
      | false =>
        obtain ⟨y0, hy0⟩ : ∃ x, t.nodes[0]? = some x := ⟨t.nodes[0]'(by have := ht.head.two; omega), by simp⟩
        have e0 : t.at 0 = y0 := at_of hy0
        have hk := ht.head.zero
        rw [e0] at hk hz
        have := ht.each y0 (List.mem_of_getElem? hy0)
        rw [zeroB_no hz hk] at this
        cases this⟩
    rw [hno]
    exact refCheck_nohead t A c w hA hF h
end Go.Proofs.YtbfcfjgcmideeaaGreatDoor
