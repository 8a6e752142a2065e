/- tree.Check: may a tree be? -/
import Derived.Test.YtbfcfjgcmideeaaGreatDoorUp
import Derived.Test.YtbfcfjgcmideeaaGreatDoorM1
import Derived.Test.YtbfcfjgcmideeaaGreatDoorNode
namespace Go.Proofs.YtbfcfjgcmideeaaGreatDoor
open Go.RowKit
attribute [local go_sem] Later.cell_eq
theorem at_of {t : TTree} {i : Nat} {x : TNode} (h : t.nodes[i]? = some x) : t.at i = x := by simp [TTree.at, h]

set_option maxHeartbeats 4000000 in
set_option maxRecDepth 100000 in
theorem check_nohead (t : TTree) (A : Option Addr) (c : Nat) (w : World) (hA : NodesAt w A t.nodes) (hF : t.Fits) (hno : ¬ HeadOK t) :
    Calls Tryz.prog 33 #[.agg #[.slice A t.nodes.length c, .int .i64 t.now]] w fun e w' => e = .returned (.bool false) ∧ Below w.heap.size w w' := by
  have hb47 := hF.nodes
  by_cases h2 : 2 ≤ t.nodes.length
  · by_cases h5 : t.nodes.length ≤ 513
    · obtain ⟨y0, hy0⟩ : ∃ x, t.nodes[0]? = some x := ⟨t.nodes[0]'(by omega), by simp⟩
      obtain ⟨y1, hy1⟩ : ∃ x, t.nodes[1]? = some x := ⟨t.nodes[1]'(by omega), by simp⟩
      obtain ⟨yl, hyl⟩ : ∃ x, t.nodes[t.nodes.length - 1]? = some x := ⟨t.nodes[t.nodes.length - 1]'(by omega), by simp⟩
      have hneg : ¬ (y0.kind = 0 ∧ y1.kind = 2 ∧ y1.parent = 1 ∧ yl.kind ≠ 0 ∧ 0 ≤ t.now ∧ t.now ≤ 1099511627775) := fun ⟨a, b, c, d, e, f⟩ =>
        hno ⟨h2, h5, by rw [show t.at 0 = y0 from at_of hy0]; exact a, by rw [show t.at 1 = y1 from at_of hy1]; exact b, by rw [show t.at 1 = y1 from at_of hy1]; exact c, by rw [at_of hyl]; exact d, e, f⟩
      obtain ⟨b, o, D0, cd0, L0, cl0, rfl, -, -, -, -, x00, -, -, -, -, -, -, -, -, -⟩ := hA.get hy0
      obtain ⟨b1, o1, D1, cd1, L1, cl1, hA1, -, -, -, -, x10, -, -, -, -, -, -, -, -, x19⟩ := hA.get hy1
      cases hA1
      obtain ⟨bl, ol, Dl, cdl, Ll, cll, hAl, -, -, -, -, xl0, -, -, -, -, -, -, -, -, -⟩ := hA.get hyl
      cases hAl
      have hbl := World.block_lt_of_cell? _ _ x00
      dsimp only at hbl
      have HN := Lib.hid hneg
      have hk1 : ((t.nodes.length : Int) - 1).toNat = t.nodes.length - 1 := by omega
      have hk3 : (0 : Int) ≤ (t.nodes.length : Int) - 1 := by omega
      rw [Nat.zero_mul, Nat.add_zero] at x00
      rw [Nat.one_mul] at x10 x19
      clear hno hneg hy0 hy1 hyl hA hF
      go_enter Tryz.func33, Tryz.ntmps33
      go_wp2_with fail
      all_goals first
        | (exfalso; have := HN.out; omega)
        | (go_ret; exact ⟨rfl, (by repeat (first | exact Below.refl _ _ | assumption | refine Below.drew ?_ | refine below_drewN ?_ _ | refine below_alloc ?_ _ | refine below_set ?_ (by simp) _ | refine below_step ?_ (by assumption)))⟩)
    · clear hno hA hF
      go_enter Tryz.func33, Tryz.ntmps33
      go_wp2_with fail
      go_ret
      exact ⟨rfl, (by repeat (first | exact Below.refl _ _ | assumption | refine Below.drew ?_ | refine below_drewN ?_ _ | refine below_alloc ?_ _ | refine below_set ?_ (by simp) _ | refine below_step ?_ (by assumption)))⟩
  · clear hno hA hF
    go_enter Tryz.func33, Tryz.ntmps33
    go_wp2_with fail
    go_ret
    exact ⟨rfl, (by repeat (first | exact Below.refl _ _ | assumption | refine Below.drew ?_ | refine below_drewN ?_ _ | refine below_alloc ?_ _ | refine below_set ?_ (by simp) _ | refine below_step ?_ (by assumption)))⟩

theorem bytes_succ {t : TTree} {i : Nat} {n : TNode} (hn : t.nodes[i]? = some n) : t.bytes (i + 1) = t.bytes i + n.data.length := by
  unfold TTree.bytes
  rw [List.take_add_one, hn]; simp
theorem names_succ {t : TTree} {i : Nat} {n : TNode} (hn : t.nodes[i]? = some n) : t.names (i + 1) = t.names i + n.list.length := by
  unfold TTree.names
  rw [List.take_add_one, hn]; simp
theorem node_data_le {n : TNode} (h : n.ok = true) : n.data.length ≤ 65536 := by
  rw [TNode.ok, Bool.and_eq_true] at h
  have h2 := h.2
  unfold TNode.byKind TNode.k0 TNode.k1 TNode.k2 TNode.k3 at h2
  repeat' split at h2
  all_goals (rw [decide_eq_true_iff] at h2; omega)
theorem node_list_le {n : TNode} (h : n.ok = true) : n.list.length ≤ 512 := by
  rw [TNode.ok, Bool.and_eq_true] at h
  have h2 := h.2
  unfold TNode.byKind TNode.k0 TNode.k1 TNode.k2 TNode.k3 at h2
  repeat' split at h2
  all_goals (rw [decide_eq_true_iff] at h2; omega)

theorem linkTo_succ {t : TTree} {j : Nat} {n : TNode} (h : ∀ m x, m < j → t.nodes[m]? = some x → linkOK t m x) (hn : t.nodes[j]? = some n) (hl : linkOK t j n) : ∀ m x, m < j + 1 → t.nodes[m]? = some x → linkOK t m x := by
  intro m x hm hx
  by_cases e : m = j
  · subst e; rw [hn] at hx; cases hx; exact hl
  · exact h m x (by omega) hx
set_option maxHeartbeats 8000000 in
set_option maxRecDepth 100000 in
theorem check_head (t : TTree) (A : Option Addr) (c : Nat) (w : World) (hA : NodesAt w A t.nodes) (hF : t.Fits) (hh : HeadOK t) :
    Calls Tryz.prog 33 #[.agg #[.slice A t.nodes.length c, .int .i64 t.now]] w fun e w' => e = .returned (.bool (treeOK t)) ∧ Below w.heap.size w w' := by
  have h2 := hh.two
  have h5 := hh.most
  obtain ⟨y0, hy0⟩ : ∃ x, t.nodes[0]? = some x := ⟨t.nodes[0]'(by omega), by simp⟩
  obtain ⟨y1, hy1⟩ : ∃ x, t.nodes[1]? = some x := ⟨t.nodes[1]'(by omega), by simp⟩
  obtain ⟨yl, hyl⟩ : ∃ x, t.nodes[t.nodes.length - 1]? = some x := ⟨t.nodes[t.nodes.length - 1]'(by omega), by simp⟩
  have k0 : (y0.kind != 0) = false := by have := hh.zero; rw [show t.at 0 = y0 from at_of hy0] at this; simp [this]
  have k1 : (y1.kind != 2) = false := by have := hh.root; rw [show t.at 1 = y1 from at_of hy1] at this; simp [this]
  have k2 : (y1.parent != 1) = false := by have := hh.rootp; rw [show t.at 1 = y1 from at_of hy1] at this; simp [this]
  have k3 : (yl.kind == 0) = false := by have := hh.last; rw [at_of hyl] at this; exact beq_eq_false_iff_ne.2 this
  have k4 : decide (t.now < 0) = false := decide_eq_false (by have := hh.now0; omega)
  have k5 : decide (1099511627775 < t.now) = false := decide_eq_false (by have := hh.now1; omega)
  have HA := Lib.hid hA
  obtain ⟨b, o, D0, cd0, L0, cl0, rfl, -, -, -, -, x00, -, -, -, -, -, -, -, -, -⟩ := hA.get hy0
  obtain ⟨b1, o1, D1, cd1, L1, cl1, hA1, -, -, -, -, x10, -, -, -, -, -, -, -, -, x19⟩ := hA.get hy1
  cases hA1
  obtain ⟨bl, ol, Dl, cdl, Ll, cll, hAl, -, -, -, -, xl0, -, -, -, -, -, -, -, -, -⟩ := hA.get hyl
  cases hAl
  have hbl := World.block_lt_of_cell? _ _ x00
  dsimp only at hbl
  have hk1 : ((t.nodes.length : Int) - 1).toNat = t.nodes.length - 1 := by omega
  have hk3 : (0 : Int) ≤ (t.nodes.length : Int) - 1 := by omega
  rw [Nat.zero_mul, Nat.add_zero] at x00
  rw [Nat.one_mul] at x10 x19
  have HH := Lib.hid hh
  have HF := Lib.hid hF
  obtain ⟨N, hN⟩ : ∃ N, t.nodes.length = N := ⟨_, rfl⟩
  have HN := Lib.hid hN
  rw [hN] at h2 h5 hk1 hk3 xl0 ⊢
  clear hh hy0 hy1 hyl hA hF hN
  go_enter Tryz.func33, Tryz.ntmps33
  go_wp2_with (go_at_call 115; refine (kinds_calls _).mono ?_; rintro e wk ⟨rfl, hbk⟩; have bk0 := cell_keep hbk (p := ⟨w.heap.size, 0, none⟩) (v := .slice (some ⟨b, o, none⟩) N c) (by rw [World.cell?_alloc_new]; rfl); have bk1 := cell_keep hbk (p := ⟨w.heap.size, 1, none⟩) (v := .int .i64 t.now) (by rw [World.cell?_alloc_new]; rfl); have bkz : w.heap.size < wk.heap.size := by { have := hbk.size; simp at this; omega }; replace hbk : Below w.heap.size w wk := ((Below.refl _ _).alloc (Nat.le_refl _) _).trans (hbk.mono (by simp)))
  have hbw : Below w.heap.size w (wk.alloc (.cells #[.func (.func 182) #[] #[], .func (.func 183) #[] #[], .func (.func 184) #[] #[], .func (.func 185) #[] #[]] 142)) := below_alloc hbk _
  have hz : wk.heap.size < (wk.alloc (.cells #[.func (.func 182) #[] #[], .func (.func 183) #[] #[], .func (.func 184) #[] #[], .func (.func 185) #[] #[]] 142)).heap.size := by simp
  have f0 : (wk.alloc (.cells #[.func (.func 182) #[] #[], .func (.func 183) #[] #[], .func (.func 184) #[] #[], .func (.func 185) #[] #[]] 142)).heap[wk.heap.size]? = some (.cells #[.func (.func 182) #[] #[], .func (.func 183) #[] #[], .func (.func 184) #[] #[], .func (.func 185) #[] #[]] 142 (0, 0)) := heap_alloc_new _ _
  go_loopg [3, 4, 75] N (fun g s3 s4 s75 wr => ∃ i : Nat, i + g = N ∧ s3 = .int .i64 (t.bytes i : Nat) ∧ s4 = .int .i64 (t.names i : Nat) ∧ s75 = .int .i64 i ∧ t.bytes i ≤ i * 65536 ∧ t.names i ≤ i * 512 ∧ Below w.heap.size w wr ∧ wk.heap.size < wr.heap.size ∧ wr.cell? ⟨w.heap.size, 0, none⟩ = some (.slice (some ⟨b, o, none⟩) N c) ∧ wr.cell? ⟨w.heap.size, 1, none⟩ = some (.int .i64 t.now) ∧
    wr.heap[wk.heap.size]? = some (.cells #[.func (.func 182) #[] #[], .func (.func 183) #[] #[], .func (.func 184) #[] #[], .func (.func 185) #[] #[]] 142 (0, 0)) ∧ Hid (∀ j x, j < i → t.nodes[j]? = some x → x.ok = true))
  case atStart => exact ⟨0, by omega, rfl, rfl, rfl, Nat.le_refl _, Nat.le_refl _, hbw, hz, cell_new bk0 _, cell_new bk1 _, f0, fun j x h => absurd h (by omega)⟩
  case round =>
    clear hbw hz f0 bk0 bk1
    obtain ⟨i, hig, rfl, rfl, rfl, hB, hM, hb, hz, hb0, hb1, hf, HO⟩ := hrel
    cases gk with
    | zero =>
      obtain rfl : i = N := by omega
      have HOK : Hid (∀ x ∈ t.nodes, x.ok = true) := Lib.hid fun x hx => by
        obtain ⟨j, hj⟩ := List.getElem?_of_mem hx
        exact HO.out j x (by rw [← HN.out]; exact (List.getElem?_eq_some_iff.1 hj).1) hj
      clear HO hf hz x00 x10 x19 xl0
      go_upto_region 12 with (go_at_call 117; rw [← HN.out]; refine (listed_calls t HF.out (by rw [HN.out]; exact h5) (fun x hx => node_list_le (HOK.out x hx)) _ _ _ (HA.out.keep hb)).mono ?_; rintro e w2 ⟨hb2, hpost⟩; rcases hpost with ⟨rfl, hno⟩ | ⟨g1, g2, T, D, rfl, hall, hg1, hg2, hr1, hr2, hT, hD, ht, hd⟩)
      · have HNo := Lib.hid (treeOK_no (t := t) fun h => hno h.lists)
        clear hno
        go_wp2
        go_ret
        exact ⟨ret_bool HNo.out.symm, below_step hb hb2⟩
      · rw [HN.out]
        have HALL := Lib.hid hall
        have HT := Lib.hid ht
        have HD := Lib.hid hd
        have hb0' := cell_keep hb2 hb0
        have hb1' := cell_keep hb2 hb1
        have hbw2 : Below w.heap.size w w2 := below_step hb hb2
        rw [HN.out] at hT hD
        have hTl := Lib.hid hT
        have hDl := Lib.hid hD
        clear hall ht hd hb0 hb1 hb hb2 hT hD
        by_cases s1 : t.bytes i ≤ 1048576
        · by_cases s2 : t.names i ≤ 2048
          · have hw2 := World.block_lt_of_cell? _ _ hb0'
            dsimp only at hw2
            have q0 := cell_new hb0' (.cells #[(.func (.func 118) #[] #[.pointer (some ⟨w.heap.size, 0, none⟩), .pointer (some ⟨w2.heap.size, 0, none⟩)])] 147)
            have q2 : (w2.alloc (.cells #[(.func (.func 118) #[] #[.pointer (some ⟨w.heap.size, 0, none⟩), .pointer (some ⟨w2.heap.size, 0, none⟩)])] 147)).cell? ⟨w2.heap.size, 0, none⟩ = some (.func (.func 118) #[] #[.pointer (some ⟨w.heap.size, 0, none⟩), .pointer (some ⟨w2.heap.size, 0, none⟩)]) := by rw [World.cell?_alloc_new]; rfl
            have q3 := hr1.new (.cells #[(.func (.func 118) #[] #[.pointer (some ⟨w.heap.size, 0, none⟩), .pointer (some ⟨w2.heap.size, 0, none⟩)])] 147)
            have q4 := hr2.new (.cells #[(.func (.func 118) #[] #[.pointer (some ⟨w.heap.size, 0, none⟩), .pointer (some ⟨w2.heap.size, 0, none⟩)])] 147)
            have q5 := below_alloc hbw2 (.cells #[(.func (.func 118) #[] #[.pointer (some ⟨w.heap.size, 0, none⟩), .pointer (some ⟨w2.heap.size, 0, none⟩)])] 147)
            go_upto_region 16 with fail
            clear hb0' hb1' hr1 hr2 hbw2
            go_wp2
            go_loopg [114] i (fun g s114 wr => ∃ j : Nat, j + g = i ∧ s114 = .int .i64 j ∧ Below w.heap.size w wr ∧ wr.cell? ⟨w.heap.size, 0, none⟩ = some (.slice (some ⟨b, o, none⟩) i c) ∧ wr.cell? ⟨w2.heap.size, 0, none⟩ = some (.func (.func 118) #[] #[.pointer (some ⟨w.heap.size, 0, none⟩), .pointer (some ⟨w2.heap.size, 0, none⟩)]) ∧ IntRow wr g1 T ∧ IntRow wr g2 D ∧ Hid (∀ m x, m < j → t.nodes[m]? = some x → linkOK t m x))
            case atStart => exact ⟨0, by omega, rfl, q5, q0, q2, q3, q4, fun m x h => absurd h (by omega)⟩
            case round =>
              clear q0 q2 q3 q4 q5
              obtain ⟨j, hjg, rfl, hb, hc0, hcu, hr1, hr2, HL⟩ := hrel
              cases gk with
              | zero =>
                obtain rfl : j = i := by omega
                have HYes := Lib.hid (treeOK_yes (t := t) ⟨HH.out, HOK.out, HALL.out, by rw [HN.out]; exact s1, by rw [HN.out]; exact s2, fun m x hx => HL.out m x (by rw [← HN.out]; exact (List.getElem?_eq_some_iff.1 hx).1) hx⟩)
                go_wp2
                go_ret
                exact ⟨ret_bool HYes.out.symm, hb⟩
              | succ g =>
                have hj : j < i := by omega
                obtain ⟨n, hni⟩ : ∃ n, t.nodes[j]? = some n := ⟨t.nodes[j]'(by rw [HN.out]; exact hj), by simp⟩
                obtain ⟨b', o', Da, cd, L, cl, hA', hcd, -, hcl, -, c0, c1, c2, c3, c4, c5, c6, c7, c8, c9⟩ := HA.out.get hni
                cases hA'
                replace c0 := cell_keep hb c0
                replace c1 := cell_keep hb c1
                replace c2 := cell_keep hb c2
                replace c3 := cell_keep hb c3
                replace c4 := cell_keep hb c4
                replace c5 := cell_keep hb c5
                replace c6 := cell_keep hb c6
                replace c7 := cell_keep hb c7
                replace c8 := cell_keep hb c8
                replace c9 := cell_keep hb c9
                have hnok := HOK.out n (List.mem_of_getElem? hni)
                have hkd := HF.out.each n (List.mem_of_getElem? hni)
                have hk0 := hkd.kind
                have hk3' : n.kind ≤ 3 := by
                  rw [TNode.ok, Bool.and_eq_true, TNode.nums, decide_eq_true_iff] at hnok; exact hnok.1.1
                have t0 := hr1.cell j (by rw [hTl.out]; exact hj)
                have d0 := hr2.cell j (by rw [hDl.out]; exact hj)
                have hg1l := hr1.lt
                have hg2l := hr2.lt
                have hcul := World.block_lt_of_cell? _ _ hcu
                have hc0l := World.block_lt_of_cell? _ _ hc0
                dsimp only at hcul hc0l
                have htv0 : T.getD j 0 = (t.times j : Nat) := HT.out j (by rw [HN.out]; exact hj)
                have hdv0 : D.getD j 0 = (dirsOf t n.list : Nat) := HD.out j n hni
                have htb : t.times j ≤ 1000000 := by
                  have a := List.count_le_length (a := j) (l := t.refs t.nodes.length)
                  have b := refs_length_le t (fun x hx => node_list_le (HOK.out x hx)) t.nodes.length
                  unfold TTree.times
                  rw [HN.out] at b ⊢
                  rw [HN.out] at a
                  omega
                have hdb : dirsOf t n.list ≤ 512 := by
                  have := List.length_filter_le (fun e => (t.at e.node).kind == 2) n.list
                  have := node_list_le hnok
                  unfold dirsOf
                  omega
                rw [htv0] at t0
                rw [hdv0] at d0
                obtain ⟨tv, htv⟩ : ∃ tv, t.times j = tv := ⟨_, rfl⟩
                obtain ⟨dv, hdv⟩ : ∃ dv, dirsOf t n.list = dv := ⟨_, rfl⟩
                rw [htv] at t0 htb
                rw [hdv] at d0 hdb
                have HTV := Lib.hid htv
                have HDV := Lib.hid hdv
                have HNI := Lib.hid hni
                have HLK := Lib.hid (fun (h : TreeOK t) => h.link j n hni)
                clear hni hnok hkd htv0 hdv0 htv hdv
                have hcase : n.kind = 0 ∨ n.kind = 1 ∨ n.kind = 2 ∨ n.kind = 3 := by omega
                by_cases k2' : n.kind = 2
                · have kk2 : (n.kind == 2) = true := beq_iff_eq.2 k2'
                  have K2 := Lib.hid k2'
                  clear k2' hcase
                  by_cases l1 : n.links = 2 + (dv : Int)
                  · have ll1 : (n.links != 2 + (dv : Int)) = false := by simp [l1]
                    have L1 := Lib.hid l1
                    clear l1
                    by_cases l2 : 1 < j
                    · have ll2 : decide (1 < j) = true := decide_eq_true l2
                      have ll2' : decide ((1 : Int) < (j : Int)) = true := decide_eq_true (by omega)
                      by_cases l3 : tv = 1
                      · have ll3 : ((tv : Int) != 1) = false := by simp [l3]
                        have L3 := Lib.hid l3
                        clear l3
                        cases hu : upB t 32 j with
                        | true =>
                          go_upto_region 22 with fail
                          refine wp_region_later (by kernel_rfl) (by kernel_rfl) ?_
                          repeat (go_big_quiet_step ((exact Calls.later (up_calls t _ c _ _ 32 (by omega) _ _ _ rfl (HA.out.keep (below_step (below_alloc hb _) (Later.h _))) (by rw [HN.out]; exact Later.cell _ (cell_new hc0 _)) (Later.cell _ (cell_new hcu _))))))
                          refine wpQuiet_nil ?_
                          intro wL hbL
                          go_wp2
                          go_roundg g
                          case measure => omega
                          case rel => exact ⟨j + 1, by omega, by go_num, (below_alloc hb _).trans (hbL.mono (by have := hb.size; simp; omega)), cell_keep hbL (cell_new hc0 _), cell_keep hbL (cell_new hcu _), (hr1.new _).keep hbL, (hr2.new _).keep hbL, linkTo_succ HL.out HNI.out ⟨fun _ => ⟨by rw [HDV.out]; exact L1.out, fun _ => by rw [HTV.out]; exact L3.out, hu⟩, fun h => by have := K2.out; omega⟩⟩
                        | false =>
                          have HNo := Lib.hid (treeOK_no (t := t) fun h => by have := ((HLK.out h).1 K2.out).2.2; rw [hu] at this; cases this)
                          go_upto_region 22 with fail
                          refine wp_region_later (by kernel_rfl) (by kernel_rfl) ?_
                          repeat (go_big_quiet_step ((exact Calls.later (up_calls t _ c _ _ 32 (by omega) _ _ _ rfl (HA.out.keep (below_step (below_alloc hb _) (Later.h _))) (by rw [HN.out]; exact Later.cell _ (cell_new hc0 _)) (Later.cell _ (cell_new hcu _))))))
                          refine wpQuiet_nil ?_
                          intro wL hbL
                          go_wp2
                          go_ret
                          exact ⟨ret_bool HNo.out.symm, (below_alloc hb _).trans (hbL.mono (by have := hb.size; simp; omega))⟩
                      · have ll3 : ((tv : Int) != 1) = true := by simp; omega
                        have L3 := Lib.hid l3
                        have L2 := Lib.hid l2
                        clear l3
                        have HNo := Lib.hid (treeOK_no (t := t) fun h => L3.out (HTV.out ▸ ((HLK.out h).1 K2.out).2.1 L2.out))
                        go_upto_region 22 with fail
                        refine wp_region_later (by kernel_rfl) (by kernel_rfl) ?_
                        repeat (go_big_quiet_step ((exact Calls.later (up_calls t _ c _ _ 32 (by omega) _ _ _ rfl (HA.out.keep (below_step (below_alloc hb _) (Later.h _))) (by rw [HN.out]; exact Later.cell _ (cell_new hc0 _)) (Later.cell _ (cell_new hcu _))))))
                        refine wpQuiet_nil ?_
                        intro wL hbL
                        go_wp2
                        go_ret
                        exact ⟨ret_bool HNo.out.symm, (below_alloc hb _).trans (hbL.mono (by have := hb.size; simp; omega))⟩
                    · have ll2 : decide (1 < j) = false := decide_eq_false l2
                      have ll2' : decide ((1 : Int) < (j : Int)) = false := decide_eq_false (by omega)
                      have L2 := Lib.hid l2
                      clear l2
                      cases hu : upB t 32 j with
                      | true =>
                        go_upto_region 22 with fail
                        refine wp_region_later (by kernel_rfl) (by kernel_rfl) ?_
                        repeat (go_big_quiet_step ((exact Calls.later (up_calls t _ c _ _ 32 (by omega) _ _ _ rfl (HA.out.keep (below_step (below_alloc hb _) (Later.h _))) (by rw [HN.out]; exact Later.cell _ (cell_new hc0 _)) (Later.cell _ (cell_new hcu _))))))
                        refine wpQuiet_nil ?_
                        intro wL hbL
                        go_wp2
                        go_roundg g
                        case measure => omega
                        case rel => exact ⟨j + 1, by omega, by go_num, (below_alloc hb _).trans (hbL.mono (by have := hb.size; simp; omega)), cell_keep hbL (cell_new hc0 _), cell_keep hbL (cell_new hcu _), (hr1.new _).keep hbL, (hr2.new _).keep hbL, linkTo_succ HL.out HNI.out ⟨fun _ => ⟨by rw [HDV.out]; exact L1.out, fun h => absurd h L2.out, hu⟩, fun h => by have := K2.out; omega⟩⟩
                      | false =>
                        have HNo := Lib.hid (treeOK_no (t := t) fun h => by have := ((HLK.out h).1 K2.out).2.2; rw [hu] at this; cases this)
                        go_upto_region 22 with fail
                        refine wp_region_later (by kernel_rfl) (by kernel_rfl) ?_
                        repeat (go_big_quiet_step ((exact Calls.later (up_calls t _ c _ _ 32 (by omega) _ _ _ rfl (HA.out.keep (below_step (below_alloc hb _) (Later.h _))) (by rw [HN.out]; exact Later.cell _ (cell_new hc0 _)) (Later.cell _ (cell_new hcu _))))))
                        refine wpQuiet_nil ?_
                        intro wL hbL
                        go_wp2
                        go_ret
                        exact ⟨ret_bool HNo.out.symm, (below_alloc hb _).trans (hbL.mono (by have := hb.size; simp; omega))⟩
                  · have ll1 : (n.links != 2 + (dv : Int)) = true := by simp [l1]
                    have L1 := Lib.hid l1
                    clear l1
                    have HNo := Lib.hid (treeOK_no (t := t) fun h => L1.out (HDV.out ▸ ((HLK.out h).1 K2.out).1))
                    go_upto_region 22 with fail
                    refine wp_region_later (by kernel_rfl) (by kernel_rfl) ?_
                    repeat (go_big_quiet_step ((exact Calls.later (up_calls t _ c _ _ 32 (by omega) _ _ _ rfl (HA.out.keep (below_step (below_alloc hb _) (Later.h _))) (by rw [HN.out]; exact Later.cell _ (cell_new hc0 _)) (Later.cell _ (cell_new hcu _))))))
                    refine wpQuiet_nil ?_
                    intro wL hbL
                    go_wp2
                    go_ret
                    exact ⟨ret_bool HNo.out.symm, (below_alloc hb _).trans (hbL.mono (by have := hb.size; simp; omega))⟩
                · have kk2 : (n.kind == 2) = false := beq_eq_false_iff_ne.2 k2'
                  have K2 := Lib.hid k2'
                  by_cases k0' : n.kind = 0
                  · have kk1 : (n.kind == 1) = false := beq_eq_false_iff_ne.2 (by omega)
                    have kk3 : (n.kind == 3) = false := beq_eq_false_iff_ne.2 (by omega)
                    have K0 := Lib.hid k0'
                    clear k2' k0' hcase
                    go_wp2
                    go_roundg g
                    case measure => omega
                    case rel => exact ⟨j + 1, by omega, by go_num, below_alloc hb _, cell_new hc0 _, cell_new hcu _, hr1.new _, hr2.new _, linkTo_succ HL.out HNI.out ⟨fun h => absurd h K2.out, fun h => by have := K0.out; omega⟩⟩
                  · have K13 := Lib.hid (show n.kind = 1 ∨ n.kind = 3 by omega)
                    by_cases k1' : n.kind = 1
                    · have kk1 : (n.kind == 1) = true := beq_iff_eq.2 k1'
                      clear k2' k0' k1' hcase
                      by_cases v1 : tv < 1
                      · have vv1 : decide (tv < 1) = true := decide_eq_true v1
                        have vv2 : decide ((tv : Int) < 1) = true := decide_eq_true (by omega)
                        have vv3 : decide (tv = 0) = true := decide_eq_true (by omega)
                        have V1 := Lib.hid v1
                        clear v1
                        have HNo := Lib.hid (treeOK_no (t := t) fun h => absurd ((HLK.out h).2 K13.out).1 (by rw [HTV.out]; have := V1.out; omega))
                        go_upto_region 25 with fail
                        refine wp_region_later (by kernel_rfl) (by kernel_rfl) ?_
                        repeat (go_big_quiet_step (fail))
                        refine wpQuiet_nil ?_
                        intro wL hbL
                        go_wp2
                        go_ret
                        exact ⟨ret_bool HNo.out.symm, (below_alloc hb _).trans (hbL.mono (by have := hb.size; simp; omega))⟩
                      · have vv1 : decide (tv < 1) = false := decide_eq_false v1
                        have vv2 : decide ((tv : Int) < 1) = false := decide_eq_false (by omega)
                        have vv3 : decide (tv = 0) = false := decide_eq_false (by omega)
                        have V1 := Lib.hid v1
                        clear v1
                        by_cases l1 : n.links = (tv : Int)
                        · have ll1 : (n.links != (tv : Int)) = false := by simp [l1]
                          have L1 := Lib.hid l1
                          clear l1
                          go_upto_region 25 with fail
                          refine wp_region_later (by kernel_rfl) (by kernel_rfl) ?_
                          repeat (go_big_quiet_step (fail))
                          refine wpQuiet_nil ?_
                          intro wL hbL
                          go_wp2
                          go_roundg g
                          case measure => omega
                          case rel => exact ⟨j + 1, by omega, by go_num, (below_alloc hb _).trans (hbL.mono (by have := hb.size; simp; omega)), cell_keep hbL (cell_new hc0 _), cell_keep hbL (cell_new hcu _), (hr1.new _).keep hbL, (hr2.new _).keep hbL, linkTo_succ HL.out HNI.out ⟨fun h => absurd h K2.out, fun _ => by rw [HTV.out]; exact ⟨by have := V1.out; omega, L1.out⟩⟩⟩
                        · have ll1 : (n.links != (tv : Int)) = true := by simp [l1]
                          have L1 := Lib.hid l1
                          clear l1
                          have HNo := Lib.hid (treeOK_no (t := t) fun h => L1.out (HTV.out ▸ ((HLK.out h).2 K13.out).2))
                          go_upto_region 25 with fail
                          refine wp_region_later (by kernel_rfl) (by kernel_rfl) ?_
                          repeat (go_big_quiet_step (fail))
                          refine wpQuiet_nil ?_
                          intro wL hbL
                          go_wp2
                          go_ret
                          exact ⟨ret_bool HNo.out.symm, (below_alloc hb _).trans (hbL.mono (by have := hb.size; simp; omega))⟩
                    · have kk1 : (n.kind == 1) = false := beq_eq_false_iff_ne.2 k1'
                      have kk3 : (n.kind == 3) = true := beq_iff_eq.2 (by omega)
                      clear k2' k0' k1' hcase
                      by_cases v1 : tv < 1
                      · have vv1 : decide (tv < 1) = true := decide_eq_true v1
                        have vv2 : decide ((tv : Int) < 1) = true := decide_eq_true (by omega)
                        have vv3 : decide (tv = 0) = true := decide_eq_true (by omega)
                        have V1 := Lib.hid v1
                        clear v1
                        have HNo := Lib.hid (treeOK_no (t := t) fun h => absurd ((HLK.out h).2 K13.out).1 (by rw [HTV.out]; have := V1.out; omega))
                        go_upto_region 25 with fail
                        refine wp_region_later (by kernel_rfl) (by kernel_rfl) ?_
                        repeat (go_big_quiet_step (fail))
                        refine wpQuiet_nil ?_
                        intro wL hbL
                        go_wp2
                        go_ret
                        exact ⟨ret_bool HNo.out.symm, (below_alloc hb _).trans (hbL.mono (by have := hb.size; simp; omega))⟩
                      · have vv1 : decide (tv < 1) = false := decide_eq_false v1
                        have vv2 : decide ((tv : Int) < 1) = false := decide_eq_false (by omega)
                        have vv3 : decide (tv = 0) = false := decide_eq_false (by omega)
                        have V1 := Lib.hid v1
                        clear v1
                        by_cases l1 : n.links = (tv : Int)
                        · have ll1 : (n.links != (tv : Int)) = false := by simp [l1]
                          have L1 := Lib.hid l1
                          clear l1
                          go_upto_region 25 with fail
                          refine wp_region_later (by kernel_rfl) (by kernel_rfl) ?_
                          repeat (go_big_quiet_step (fail))
                          refine wpQuiet_nil ?_
                          intro wL hbL
                          go_wp2
                          go_roundg g
                          case measure => omega
                          case rel => exact ⟨j + 1, by omega, by go_num, (below_alloc hb _).trans (hbL.mono (by have := hb.size; simp; omega)), cell_keep hbL (cell_new hc0 _), cell_keep hbL (cell_new hcu _), (hr1.new _).keep hbL, (hr2.new _).keep hbL, linkTo_succ HL.out HNI.out ⟨fun h => absurd h K2.out, fun _ => by rw [HTV.out]; exact ⟨by have := V1.out; omega, L1.out⟩⟩⟩
                        · have ll1 : (n.links != (tv : Int)) = true := by simp [l1]
                          have L1 := Lib.hid l1
                          clear l1
                          have HNo := Lib.hid (treeOK_no (t := t) fun h => L1.out (HTV.out ▸ ((HLK.out h).2 K13.out).2))
                          go_upto_region 25 with fail
                          refine wp_region_later (by kernel_rfl) (by kernel_rfl) ?_
                          repeat (go_big_quiet_step (fail))
                          refine wpQuiet_nil ?_
                          intro wL hbL
                          go_wp2
                          go_ret
                          exact ⟨ret_bool HNo.out.symm, (below_alloc hb _).trans (hbL.mono (by have := hb.size; simp; omega))⟩
          · have HNo := Lib.hid (treeOK_no (t := t) fun h => s2 (by have := h.names; rw [HN.out] at this; exact this))
            go_wp2
            go_ret
            exact ⟨ret_bool HNo.out.symm, hbw2⟩
        · have HNo := Lib.hid (treeOK_no (t := t) fun h => s1 (by have := h.bytes; rw [HN.out] at this; exact this))
          go_wp2
          go_ret
          exact ⟨ret_bool HNo.out.symm, hbw2⟩
    | succ g =>
      have hi : i < N := by omega
      obtain ⟨n, hni⟩ : ∃ n, t.nodes[i]? = some n := ⟨t.nodes[i]'(by rw [HN.out]; exact hi), by simp⟩
      obtain ⟨b', o', Da, cd, L, cl, hA', hcd, hD, hcl, hL, c0, c1, c2, c3, c4, c5, c6, c7, c8, c9⟩ := HA.out.get hni
      cases hA'
      replace c0 := cell_keep hb c0
      replace c1 := cell_keep hb c1
      replace c2 := cell_keep hb c2
      replace c3 := cell_keep hb c3
      replace c4 := cell_keep hb c4
      replace c5 := cell_keep hb c5
      replace c6 := cell_keep hb c6
      replace c7 := cell_keep hb c7
      replace c8 := cell_keep hb c8
      replace c9 := cell_keep hb c9
      have ff0 : wr.cell? ⟨wk.heap.size, 0, none⟩ = some (.func (.func 182) #[] #[]) := by rw [cell_of_row _ _ _ _ _ _ hf]; rfl
      have ff1 : wr.cell? ⟨wk.heap.size, 1, none⟩ = some (.func (.func 183) #[] #[]) := by rw [cell_of_row _ _ _ _ _ _ hf]; rfl
      have ff2 : wr.cell? ⟨wk.heap.size, 2, none⟩ = some (.func (.func 184) #[] #[]) := by rw [cell_of_row _ _ _ _ _ _ hf]; rfl
      have ff3 : wr.cell? ⟨wk.heap.size, 3, none⟩ = some (.func (.func 185) #[] #[]) := by rw [cell_of_row _ _ _ _ _ _ hf]; rfl
      have HFit := Lib.hid (HF.out.each n (List.mem_of_getElem? hni))
      have HNI := Lib.hid hni
      have Hf := Lib.hid hf
      clear hni hL hD hf x00 x10 x19 xl0
      cases hok : n.ok with
      | false =>
        have HNo := Lib.hid (treeOK_no (t := t) fun h => by have := h.each n (List.mem_of_getElem? HNI.out); rw [hok] at this; cases this)
        go_wp2_with (go_at_call 116; refine (node_calls n HFit.out _ _ _ _ _).mono ?_; rintro e w1 ⟨rfl, hb1⟩)
        go_ret
        exact ⟨ret_bool HNo.out.symm, below_step (below_alloc hb _) hb1⟩
      | true =>
        have hd := node_data_le hok
        have hl := node_list_le hok
        have HOK := Lib.hid hok
        clear hok
        go_upto_region 9 with (go_at_call 116; refine (node_calls n HFit.out _ _ _ _ _).mono ?_; rintro e w1 ⟨rfl, hb1⟩; rw [HOK.out])
        have e6 : w1.cell? ⟨wr.heap.size, 6, none⟩ = some (.slice Da n.data.length cd) := cell_keep hb1 (by rw [World.cell?_alloc_new]; rfl)
        have e8 : w1.cell? ⟨wr.heap.size, 8, none⟩ = some (.slice L n.list.length cl) := cell_keep hb1 (by rw [World.cell?_alloc_new]; rfl)
        have hz1 : wr.heap.size < w1.heap.size := by have := hb1.size; simp at this; omega
        have hbn : Below w.heap.size w w1 := below_step (below_alloc hb _) hb1
        have hk1 : Below wr.heap.size wr w1 := ((Below.refl _ _).alloc (Nat.le_refl _) _).trans (hb1.mono (by simp))
        have HB1 := Lib.hid hbn
        have HK1 := Lib.hid hk1
        clear hb1 hbn hk1 c0 c1 c2 c3 c4 c5 c6 c7 c8 c9 ff0 ff1 ff2 ff3
        refine wp_region_later (by kernel_rfl) (by kernel_rfl) ?_
        repeat (go_big_quiet_step (fail))
        refine wpQuiet_nil ?_
        intro wL hbL
        go_wp2
        go_roundg g
        case measure => omega
        case rel =>
          refine ⟨i + 1, by omega, by rw [bytes_succ HNI.out]; push_cast; rfl, by rw [names_succ HNI.out]; push_cast; rfl, by go_num, by rw [bytes_succ HNI.out]; omega, by rw [names_succ HNI.out]; omega, below_step HB1.out hbL, by have := hbL.size; omega, cell_keep hbL (cell_keep HK1.out hb0), cell_keep hbL (cell_keep HK1.out hb1), (hbL.block _ (by omega)).trans ((HK1.out.block _ hz).trans Hf.out), fun j x hj hx => ?_⟩
          by_cases e : j = i
          · subst e; rw [HNI.out] at hx; cases hx; exact HOK.out
          · exact HO.out j x (by omega) hx
end Go.Proofs.YtbfcfjgcmideeaaGreatDoor
