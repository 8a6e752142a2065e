/- The law TreeSpoils answers true. -/
import Derived.Test.YtfoocjdnolplpaaPaths
import Derived.Test.YtfoocjdnolplpaaLeftTree
import Derived.Test.YtfoocjdnolplpaaSpoilPure
import Derived.StillTailTactics
import Derived.Outline
namespace Go.Proofs.Ytfoocjdnolplpaa
open Go.RowKit
attribute [local go_sem] Later.cell_eq
theorem TwinAt.free {w : World} {B g cap : Nat} {l : List TNode} (h : TwinAt w B g cap l) (j : Nat) : w.frozen? ⟨g, j, none⟩ = false := by
  obtain ⟨⟨rows, h1, h2⟩, h3, h4⟩ := h
  rcases h1.own.2 with ⟨h5, -⟩ | ⟨g', c', cur, h5, h6, h7, -⟩
  · cases h5
  · injection h5 with a b c; injection a with a; injection a with a; subst a; exact frozen_of_row w g j _ _ h7
theorem TwinAt.lt {w : World} {B g cap : Nat} {l : List TNode} (h : TwinAt w B g cap l) : g < w.heap.size := by
  obtain ⟨⟨rows, h1, h2⟩, h3, h4⟩ := h
  exact (h1.lt g rfl).2
theorem NodeTw.far {w : World} {B g : Nat} {n : TNode} {vs : List Value} (h : NodeTw w B (some g) n vs) (o : Nat) (u : Value) : NodeTw (w.setCell ⟨g, o, none⟩ u) B (some g) n vs := by
  obtain ⟨D, cd, L, cl, h0, h1, h2, h3, h4, h5, h6, h7, h8, h9, h10⟩ := h
  have h7' : D ≠ g := fun e => h7 (by rw [e])
  have h8' : L ≠ g := fun e => h8 (by rw [e])
  refine ⟨D, cd, L, cl, h0, h1, fun k x hk => ?_, h3, fun k x hk => ?_, h5, h6, h7, h8, by simpa [World.setCell] using h9, by simpa [World.setCell] using h10⟩
  · obtain ⟨b', o', hA, c0⟩ := h2 k x hk
    cases hA
    exact ⟨D, 0, rfl, cell_set c0 h7'⟩
  · obtain ⟨b', o', hA, c0, c1⟩ := h4 k x hk
    cases hA
    exact ⟨L, 0, rfl, cell_set c0 h8', cell_set c1 h8'⟩
theorem NodeTw.vals {w : World} {B : Nat} {g : Option Nat} {n : TNode} {vs : List Value} (h : NodeTw w B g n vs) : NodeVals w n vs := by
  obtain ⟨D, cd, L, cl, h0, h1, h2, h3, h4, -⟩ := h
  exact ⟨_, cd, _, cl, h0, by omega, bytesAt_front h2, by omega, entsAt_front h4⟩
theorem TwinAt.put {w : World} {B g cap : Nat} {l : List TNode} (h : TwinAt w B g cap l) {k : Nat} {n m : TNode} (hn : l[k]? = some n) (j0 : Nat) (hj0 : j0 < 10) (u : Value)
    (hm : ∀ w' vs, NodeVals w' n vs → NodeVals w' m (vs.set j0 u)) :
    NodesAt (w.setCell ⟨g, k * 10 + j0, none⟩ u) (some ⟨g, 0, none⟩) (l.set k m) := by
  obtain ⟨⟨rows, h1, h2⟩, h3, h4⟩ := h
  have hcell : ∀ (i : Nat) vs, rows[i]? = some vs → ∀ (j : Nat) v, vs[j]? = some v → w.cell? ⟨g, i * 10 + j, none⟩ = some v := fun i vs hv j v hj => by
    have := h1.cell (i := i) (r := vs) (by rw [List.getElem?_append_left (List.getElem?_eq_some_iff.1 hv).1]; exact hv) hj
    simpa using this
  have hlen : ∀ (i : Nat) vs, rows[i]? = some vs → vs.length = 10 := fun i vs hv => h1.each vs (List.mem_append_left _ (List.mem_of_getElem? hv))
  intro i p hi
  by_cases e : i = k
  · subst e
    rw [List.getElem?_set_self (List.getElem?_eq_some_iff.1 hn).1] at hi
    cases hi
    obtain ⟨vs, h5, h6⟩ := h2.2 i n (List.getElem?_eq_some_iff.1 hn).1 hn
    refine ⟨g, 0, _, rfl, hm _ vs (h6.far _ _).vals, fun j v hj => ?_⟩
    rw [Nat.zero_add]
    by_cases ej : j = j0
    · subst ej
      rw [List.getElem?_set_self (by rw [hlen i vs h5]; exact hj0)] at hj
      cases hj
      obtain ⟨v0, hv0⟩ : ∃ v0, vs[j]? = some v0 := ⟨vs[j]'(by rw [hlen i vs h5]; exact hj0), by simp⟩
      exact World.cell?_setCell_same' _ _ _ (by rw [hcell i vs h5 j v0 hv0]; rfl)
    · rw [List.getElem?_set_ne (Ne.symm ej)] at hj
      rw [World.cell?_setCell_other]
      · exact hcell i vs h5 j v hj
      · intro e; injection e with e1 e2; omega
  · rw [List.getElem?_set_ne (Ne.symm e)] at hi
    obtain ⟨vs, h5, h6⟩ := h2.2 i p (List.getElem?_eq_some_iff.1 hi).1 hi
    refine ⟨g, 0, vs, rfl, (h6.far _ _).vals, fun j v hj => ?_⟩
    have hj10 : j < 10 := by rw [← hlen i vs h5]; exact (List.getElem?_eq_some_iff.1 hj).1
    rw [Nat.zero_add, World.cell?_setCell_other]
    · exact hcell i vs h5 j v hj
    · intro e'; injection e' with e1 e2; omega
theorem frozen_keep {w w' : World} (h : Below w.heap.size w w') {p : Addr} (hlt : p.block < w.heap.size) (hf : w.frozen? p = false) : w'.frozen? p = false := (h.frozen hlt).trans hf
theorem put_fits {t : TTree} (hF : t.Fits) {k : Nat} {m : TNode} (hm : m.Fits) : (t.put k m).Fits :=
  ⟨by rw [put_len]; exact hF.nodes, fun x hx => by
    rcases List.mem_or_eq_of_mem_set hx with h | h
    · exact hF.each x h
    · rw [h]; exact hm, hF.now⟩
theorem put_check {t : TTree} (hF : t.Fits) {k : Nat} {m : TNode} (hm : m.Fits) (hno : ¬ TreeOK (t.put k m)) (A : Option Addr) (c : Nat) (w : World) (hA : NodesAt w A (t.nodes.set k m)) :
    Calls Try.prog 20 #[.agg #[.slice A t.nodes.length c, .int .i64 t.now]] w fun e w' => e = .returned (.bool false) ∧ Below w.heap.size w w' := by
  have h := check_calls (t.put k m) (put_fits hF hm) A c w hA
  rw [put_len, treeOK_no hno] at h
  exact h
set_option maxHeartbeats 4000000 in
set_option maxRecDepth 100000 in
theorem spoils_calls (t : TTree) (hF : t.Fits) (nn by_ : Int) (hn0 : 0 ≤ nn) (hn1 : nn ≤ 65535) (hb0 : -128 ≤ by_) (hb1 : by_ ≤ 127) (A : Option Addr) (c : Nat) (w : World) (hA : NodesAt w A t.nodes) :
    Calls Try.prog 5 #[.agg #[.slice A t.nodes.length c, .int .i64 t.now], .int .u16 nn, .int .i8 by_] w fun e w' => e = .returned (.bool true) ∧ Below w.heap.size w w' := by
  have HF := Lib.hid hF
  have HA := Lib.hid hA
  have hn47 := hF.nodes
  clear hF hA
  cases hok : treeOK t with
  | false =>
    have HO := Lib.hid hok
    clear hok
    go_enter Try.func5, Try.ntmps5
    go_wp2_with (first
      | (go_at_call 6; refine (great_calls t HF.out A c _ (HA.out.keep (below_alloc (Below.refl _ _) _))).mono ?_; rintro _ w1 ⟨b, ⟨rfl, hbq⟩, hb1⟩; clear hbq; cases b <;> have k0 := cell_keep hb1 (p := ⟨w.heap.size, 0, none⟩) (v := .slice A t.nodes.length c) (by rw [World.cell?_alloc_new]; rfl) <;> have k1 := cell_keep hb1 (p := ⟨w.heap.size, 1, none⟩) (v := .int .i64 t.now) (by rw [World.cell?_alloc_new]; rfl) <;> have HB1 := Lib.hid (below_step (below_alloc (Below.refl _ _) _) hb1) <;> clear hb1)
      | (go_at_call 20; refine (check_calls t HF.out _ _ _ (HA.out.keep HB1.out)).mono ?_; rintro _ w2 ⟨rfl, hb2⟩; rw [HO.out]; replace k0 := cell_keep hb2 k0; replace k1 := cell_keep hb2 k1; have HB2 := Lib.hid (below_step HB1.out hb2); clear hb2)
      | (go_at_call 7; refine (lives_calls _).mono ?_; rintro _ w3 ⟨rfl, hb3⟩))
    all_goals go_ret
    all_goals first
      | exact ⟨rfl, below_step HB2.out hb3⟩
      | exact ⟨rfl, below_step HB1.out hb3⟩
  | true =>
    have HO := Lib.hid hok
    have HOK := Lib.hid (TreeOK.of hok)
    clear hok
    have hz2 := HOK.out.head.two
    have hz5 := HOK.out.head.most
    obtain ⟨K, hK⟩ : ∃ K : Nat, nn % ((t.nodes.length : Int) - 1) = (K : Int) := ⟨(nn % ((t.nodes.length : Int) - 1)).toNat, by have := Int.emod_nonneg nn (show (t.nodes.length : Int) - 1 ≠ 0 by omega); omega⟩
    have hK1 : K + 1 < t.nodes.length := by have := Int.emod_lt_of_pos nn (show 0 < (t.nodes.length : Int) - 1 by omega); omega
    have hK0 : K ≤ 513 := by omega
    go_enter Try.func5, Try.ntmps5
    go_upto_region 3 with (first
      | (go_at_call 6; refine (great_calls t HF.out A c _ (HA.out.keep (below_alloc (Below.refl _ _) _))).mono ?_; rintro _ w1 ⟨b, ⟨rfl, hbq⟩, hb1⟩; clear hbq; cases b <;> have k0 := cell_keep hb1 (p := ⟨w.heap.size, 0, none⟩) (v := .slice A t.nodes.length c) (by rw [World.cell?_alloc_new]; rfl) <;> have k1 := cell_keep hb1 (p := ⟨w.heap.size, 1, none⟩) (v := .int .i64 t.now) (by rw [World.cell?_alloc_new]; rfl) <;> have HB1 := Lib.hid (below_step (below_alloc (Below.refl _ _) _) hb1) <;> clear hb1)
      | (go_at_call 20; refine (check_calls t HF.out _ _ _ (HA.out.keep HB1.out)).mono ?_; rintro _ w2 ⟨rfl, hb2⟩; rw [HO.out]; replace k0 := cell_keep hb2 k0; replace k1 := cell_keep hb2 k1; have HB2 := Lib.hid (below_step HB1.out hb2); clear hb2)
      | (go_at_call 7; refine (lives_calls _).mono ?_; rintro _ w3 ⟨rfl, hb3⟩))
    rotate_left
    · go_ret
      exact ⟨rfl, below_step HB1.out hb3⟩
    go_upto_region 4 with fail
    clear hK
    rw [show (1 : Int) + (K : Int) = ((K + 1 : Nat) : Int) by omega]
    obtain ⟨k, hk⟩ : ∃ k, K + 1 = k := ⟨_, rfl⟩
    have hk1 : 1 ≤ k := by omega
    rw [hk] at hK1 ⊢
    clear hk hK0
    obtain ⟨n, hni⟩ : ∃ n, t.nodes[k]? = some n := ⟨t.nodes[k]'(by omega), by simp⟩
    have hsz : Hid (t.nodes.length ≤ 1000000 ∧ ∀ x ∈ t.nodes, x.data.length ≤ 1000000 ∧ x.list.length ≤ 1000000) := Lib.hid ⟨by omega, fun x hx => ⟨by have := node_data_le (HOK.out.each x hx); omega, by have := node_list_le (HOK.out.each x hx); omega⟩⟩
    have hfit := HF.out.each n (List.mem_of_getElem? hni)
    have hkind := hfit.kind
    have HNI := Lib.hid hni
    have HFI := Lib.hid hfit
    clear hni hfit
    have k02 := k0
    go_upto_region 5 with (go_at_call 8; refine (twinTree_calls t hsz.out.1 hsz.out.2 A c _ (HA.out.keep HB2.out)).mono ?_; rintro _ w3 ⟨g, cap, ⟨rfl, hT⟩, hb3⟩; replace k0 := cell_keep hb3 k0; replace k1 := cell_keep hb3 k1; have HB3 := Lib.hid (below_step HB2.out hb3); have hgb : w.heap.size + 1 ≤ g := (by have := hT.base; have := World.block_lt_of_cell? _ _ k02; dsimp only at this; omega); have HT := Lib.hid hT; clear hb3 hT)
    clear k02
    have hgl := HT.out.lt
    have hwl := World.block_lt_of_cell? _ _ k0
    dsimp only at hwl
    obtain ⟨w4, hw4⟩ : ∃ w4, w4 = w3.alloc (.cells #[.slice (some ⟨g, 0, none⟩) t.nodes.length cap, .int .i64 t.now] 24) := ⟨_, rfl⟩
    have hh4 : w4.heap[w3.heap.size]? = some (.cells #[.slice (some ⟨g, 0, none⟩) t.nodes.length cap, .int .i64 t.now] 24 (0, 0)) := by rw [hw4]; exact heap_alloc_new _ _
    have HB34 : Hid (Below w3.heap.size w3 w4) := Lib.hid (by rw [hw4]; exact below_alloc (Below.refl _ _) _)
    have hs4 : w4.heap.size = w3.heap.size + 1 := by rw [hw4]; simp
    rw [← hw4]
    clear hw4
    obtain ⟨⟨m0, m1⟩, g0, g1, -⟩ := row2 hh4
    replace k0 := cell_keep HB34.out k0
    replace k1 := cell_keep HB34.out k1
    have HB4 := Lib.hid (below_step HB3.out HB34.out)
    have HT4 := Lib.hid (HT.out.keep HB34.out)
    obtain ⟨D, cd, L, cl, -, -, -, -, f0, -, -, -, f4, -, -, -, -, f9⟩ := HT4.out.get HNI.out
    have fr4 := HT4.out.free (k * 10 + 4)
    have hg4 : g < w4.heap.size := by omega
    have hb84 : w3.heap.size < w4.heap.size := by omega
    have hn8 : w3.heap.size ≠ g := by omega
    have hi0 : (0 : Int) ≤ (k : Int) := by omega
    have hi1 : (k : Int) < (t.nodes.length : Int) := by omega
    have HH4 := Lib.hid hh4
    clear hh4 hs4 HB34 HT
    obtain ⟨b8, hb8⟩ : ∃ b8, w3.heap.size = b8 := ⟨_, rfl⟩
    rw [hb8] at m0 m1 g0 g1 hgl hwl hb84 hn8 HH4 ⊢
    clear hb8
    by_cases hz : n.kind = 0
    · rw [hz] at f0
      clear hz
      go_wp2_with (go_at_call 7; refine (lives_calls _).mono ?_; rintro _ w5 ⟨rfl, hb5⟩)
      go_ret
      exact ⟨rfl, below_step HB4.out hb5⟩
    have hz0 : (n.kind == 0) = false := beq_eq_false_iff_ne.2 hz
    have HZ := Lib.hid hz
    clear hz
    by_cases hy : by_ = 0
    · have hy0 : (by_ == 0) = true := beq_iff_eq.2 hy
      clear hy
      go_wp2_with (go_at_call 7; refine (lives_calls _).mono ?_; rintro _ w5 ⟨rfl, hb5⟩)
      go_ret
      exact ⟨rfl, below_step HB4.out hb5⟩
    have hy0 : (by_ == 0) = false := beq_eq_false_iff_ne.2 hy
    have HY := Lib.hid hy
    clear hy
    obtain ⟨l0, l1⟩ := links_bd HOK.out HNI.out hkind.1 HZ.out
    obtain ⟨p0, p1⟩ := parent_bd HOK.out hk1 HNI.out hkind.1 HZ.out
    go_upto_region 7 with fail
    have hsum : IntKind.i64.wrap (n.links + by_) = n.links + by_ := IntWalk.i64_in _ (by omega)
    go_still_tail 14, (by kernel_rfl)
    change wpList _ _ _ _ _ w4.drew
    have HB45 : Hid (Below w4.heap.size w4 w4.drew) := Lib.hid (Below.refl _ _).drew
    obtain ⟨w5, hw5⟩ : ∃ w5, w5 = w4.drew := ⟨_, rfl⟩
    rw [← hw5] at HB45 ⊢
    clear hw5 hsum
    replace k0 := cell_keep HB45.out k0
    replace k1 := cell_keep HB45.out k1
    replace m0 := cell_keep HB45.out m0
    replace m1 := cell_keep HB45.out m1
    replace f4 := cell_keep HB45.out f4
    replace g0 := frozen_keep HB45.out hb84 g0
    replace g1 := frozen_keep HB45.out hb84 g1
    replace fr4 := frozen_keep HB45.out hg4 fr4
    have HB5 := Lib.hid (below_step HB4.out HB45.out)
    have HT5 := Lib.hid (HT4.out.keep HB45.out)
    replace hg4 : g < w5.heap.size := Nat.lt_of_lt_of_le hg4 HB45.out.size
    replace hb84 : b8 < w5.heap.size := Nat.lt_of_lt_of_le hb84 HB45.out.size
    go_upto_region 8 with fail
    have hA6 := HT5.out.put HNI.out 4 (by omega) (.int .i64 (n.links + by_)) (m := { n with links := n.links + by_ }) (fun w' vs ⟨D, cd, L, cl, hv, h1, h2, h3, h4⟩ => ⟨D, cd, L, cl, by rw [hv]; rfl, h1, h2, h3, h4⟩)
    have HB6 := Lib.hid (HB5.out.setCell (p := ⟨g, k * 10 + 4, none⟩) (by dsimp only; omega) (.int .i64 (n.links + by_)))
    replace k0 := cell_set (q := ⟨g, k * 10 + 4, none⟩) (u := .int .i64 (n.links + by_)) k0 (by dsimp only; omega)
    replace k1 := cell_set (q := ⟨g, k * 10 + 4, none⟩) (u := .int .i64 (n.links + by_)) k1 (by dsimp only; omega)
    replace m0 := cell_set (q := ⟨g, k * 10 + 4, none⟩) (u := .int .i64 (n.links + by_)) m0 hn8
    replace m1 := cell_set (q := ⟨g, k * 10 + 4, none⟩) (u := .int .i64 (n.links + by_)) m1 hn8
    have g0' : (w5.setCell ⟨g, k * 10 + 4, none⟩ (.int .i64 (n.links + by_))).frozen? ⟨b8, 0, none⟩ = false := by rw [World.frozen?_setCell]; exact g0
    have g1' : (w5.setCell ⟨g, k * 10 + 4, none⟩ (.int .i64 (n.links + by_))).frozen? ⟨b8, 1, none⟩ = false := by rw [World.frozen?_setCell]; exact g1
    have hs6 : (w5.setCell ⟨g, k * 10 + 4, none⟩ (.int .i64 (n.links + by_))).heap.size = w5.heap.size := by simp [World.setCell]
    obtain ⟨w6, hw6⟩ : ∃ w6, w6 = w5.setCell ⟨g, k * 10 + 4, none⟩ (.int .i64 (n.links + by_)) := ⟨_, rfl⟩
    rw [← hw6] at hA6 HB6 k0 k1 m0 m1 g0' g1' hs6 ⊢
    have HA6 := Lib.hid hA6
    have hb86 : b8 < w6.heap.size := by omega
    clear hw6 hA6 f0 f4 f9 g0 g1 fr4 HT5 HB5 HB45 hg4 hb84 hs6
    have hml : Hid (TNode.Fits { n with links := n.links + by_ }) := Lib.hid { HFI.out with links := by unfold I64; dsimp only; omega }
    have hns : Hid (¬ TreeOK (t.put k { n with links := n.links + by_ })) := Lib.hid (spoil_links HOK.out HNI.out hkind.1 HZ.out _ (by have := HY.out; omega))
    go_upto_region 10 with (go_at_call 20; refine (put_check HF.out hml.out hns.out _ _ _ HA6.out).mono ?_; rintro _ w7 ⟨rfl, hb7⟩; replace k0 := cell_keep hb7 k0; replace k1 := cell_keep hb7 k1; replace m0 := cell_keep hb7 m0; replace m1 := cell_keep hb7 m1; replace g0' := frozen_keep hb7 hb86 g0'; replace g1' := frozen_keep hb7 hb86 g1'; replace hb86 := Nat.lt_of_lt_of_le hb86 hb7.size; have HB7 := Lib.hid (below_step HB6.out hb7); clear hb7)
    clear HA6 hml hns HT4
    go_upto_region 11 with (go_at_call 8; refine (twinTree_calls t hsz.out.1 hsz.out.2 A c _ (HA.out.keep HB7.out)).mono ?_; rintro _ w8 ⟨g', cap', ⟨rfl, hT⟩, hb8⟩; replace k0 := cell_keep hb8 k0; replace k1 := cell_keep hb8 k1; replace m0 := cell_keep hb8 m0; replace m1 := cell_keep hb8 m1; replace g0' := frozen_keep hb8 hb86 g0'; replace g1' := frozen_keep hb8 hb86 g1'; have hgb' : b8 < g' := (by have := hT.base; omega); have hb87 := hb86; replace hb86 := Nat.lt_of_lt_of_le hb86 hb8.size; have HB8 := Lib.hid (below_step HB7.out hb8); have HT8 := Lib.hid hT; clear hb8 hT)
    have hT9 := HT8.out.cells hb87 0 [.slice (some ⟨g', 0, none⟩) t.nodes.length cap', .int .i64 t.now]
    have HB9 : Hid (Below w.heap.size w ((w8.setCell ⟨b8, 0, none⟩ (.slice (some ⟨g', 0, none⟩) t.nodes.length cap')).setCell ⟨b8, 1, none⟩ (.int .i64 t.now))) := Lib.hid ((HB8.out.setCell (by dsimp only; omega) _).setCell (by dsimp only; omega) _)
    have n0 : ((w8.setCell ⟨b8, 0, none⟩ (.slice (some ⟨g', 0, none⟩) t.nodes.length cap')).setCell ⟨b8, 1, none⟩ (.int .i64 t.now)).cell? ⟨b8, 0, none⟩ = some (.slice (some ⟨g', 0, none⟩) t.nodes.length cap') := by simp [go_sem, m0]
    have n1 : ((w8.setCell ⟨b8, 0, none⟩ (.slice (some ⟨g', 0, none⟩) t.nodes.length cap')).setCell ⟨b8, 1, none⟩ (.int .i64 t.now)).cell? ⟨b8, 1, none⟩ = some (.int .i64 t.now) := by simp [go_sem, m1]
    have hs9 : ((w8.setCell ⟨b8, 0, none⟩ (.slice (some ⟨g', 0, none⟩) t.nodes.length cap')).setCell ⟨b8, 1, none⟩ (.int .i64 t.now)).heap.size = w8.heap.size := by simp [World.setCell]
    obtain ⟨w9, hw9⟩ : ∃ w9, w9 = (w8.setCell ⟨b8, 0, none⟩ (.slice (some ⟨g', 0, none⟩) t.nodes.length cap')).setCell ⟨b8, 1, none⟩ (.int .i64 t.now) := ⟨_, rfl⟩
    change TwinAt ((w8.setCell ⟨b8, 0, none⟩ (.slice (some ⟨g', 0, none⟩) t.nodes.length cap')).setCell ⟨b8, 1, none⟩ (.int .i64 t.now)) _ _ _ _ at hT9
    rw [← hw9] at hT9 HB9 n0 n1 hs9 ⊢
    have HT9 := Lib.hid hT9
    have hg9 := hT9.lt
    have hb89 : b8 < w9.heap.size := by omega
    have hgb9 : w.heap.size < g' := by omega
    clear hw9 hT9 HT8 HB8 k0 k1 m0 m1 g0' g1' hs9
    obtain ⟨D', cd', L', cl', -, -, -, -, -, -, -, -, -, -, -, -, -, f9⟩ := HT9.out.get HNI.out
    have fr9 := HT9.out.free (k * 10 + 9)
    have hsum : IntKind.i64.wrap (n.parent + by_) = n.parent + by_ := IntWalk.i64_in _ (by omega)
    go_still_tail 14, (by kernel_rfl)
    change wpList _ _ _ _ _ w9.drew
    have HB910 : Hid (Below w9.heap.size w9 w9.drew) := Lib.hid (Below.refl _ _).drew
    obtain ⟨w10, hw10⟩ : ∃ w10, w10 = w9.drew := ⟨_, rfl⟩
    rw [← hw10] at HB910 ⊢
    clear hw10 hsum
    replace n0 := cell_keep HB910.out n0
    replace n1 := cell_keep HB910.out n1
    replace f9 := cell_keep HB910.out f9
    replace fr9 := frozen_keep HB910.out hg9 fr9
    have HB10 := Lib.hid (below_step HB9.out HB910.out)
    have HT10 := Lib.hid (HT9.out.keep HB910.out)
    go_upto_region 12 with fail
    have hA11 := HT10.out.put HNI.out 9 (by omega) (.int .i64 (n.parent + by_)) (m := { n with parent := n.parent + by_ }) (fun w' vs ⟨D, cd, L, cl, hv, h1, h2, h3, h4⟩ => ⟨D, cd, L, cl, by rw [hv]; rfl, h1, h2, h3, h4⟩)
    have HB11 := Lib.hid (HB10.out.setCell (p := ⟨g', k * 10 + 9, none⟩) (by dsimp only; omega) (.int .i64 (n.parent + by_)))
    have hn8' : b8 ≠ g' := by omega
    replace n0 := cell_set (q := ⟨g', k * 10 + 9, none⟩) (u := .int .i64 (n.parent + by_)) n0 hn8'
    replace n1 := cell_set (q := ⟨g', k * 10 + 9, none⟩) (u := .int .i64 (n.parent + by_)) n1 hn8'
    obtain ⟨w11, hw11⟩ : ∃ w11, w11 = w10.setCell ⟨g', k * 10 + 9, none⟩ (.int .i64 (n.parent + by_)) := ⟨_, rfl⟩
    rw [← hw11] at hA11 HB11 n0 n1 ⊢
    have HA11 := Lib.hid hA11
    clear hw11 hA11 f9 fr9 HT9 HT10 HB910 HB10 HB9
    have hml : Hid (TNode.Fits { n with parent := n.parent + by_ }) := Lib.hid { HFI.out with parent := by unfold I64; dsimp only; omega }
    have hns : Hid (¬ TreeOK (t.put k { n with parent := n.parent + by_ })) := Lib.hid (spoil_parent HOK.out hk1 HNI.out hkind.1 HZ.out _ (by have := HY.out; omega))
    go_wp2_with (first
      | (go_at_call 20; refine (put_check HF.out hml.out hns.out _ _ _ HA11.out).mono ?_; rintro _ w12 ⟨rfl, hb12⟩; have HB12 := Lib.hid (below_step HB11.out hb12); clear hb12)
      | (go_at_call 7; refine (lives_calls _).mono ?_; rintro _ w13 ⟨rfl, hb13⟩))
    go_ret
    exact ⟨rfl, below_step HB12.out hb13⟩
end Go.Proofs.Ytfoocjdnolplpaa
