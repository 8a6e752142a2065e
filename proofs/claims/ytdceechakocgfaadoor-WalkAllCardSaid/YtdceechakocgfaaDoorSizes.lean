/- tree.Sizes. -/
import Derived.Test.YtdceechakocgfaaDoorStat
namespace Go.Proofs.YtdceechakocgfaaDoor
open Go.RowKit
attribute [local go_sem] Later.cell_eq
def TTree.files (t : TTree) (i : Nat) : Nat := ((t.nodes.take i).filter fun n => n.kind != 0).length
theorem files_succ {t : TTree} {i : Nat} {n : TNode} (hn : t.nodes[i]? = some n) : t.files (i + 1) = t.files i + if n.kind != 0 then 1 else 0 := by
  unfold TTree.files
  have hi := (List.getElem?_eq_some_iff.1 hn).1
  rw [List.take_add_one, hn, List.filter_append, List.length_append]
  congr 1
  simp only [Option.toList_some, List.filter_cons, List.filter_nil]
  split <;> rfl
noncomputable def tFiles (t : TTree) : Int := if treeOK t = true then (t.files t.nodes.length : Nat) else 0
noncomputable def tBytes (t : TTree) : Int := if treeOK t = true then (t.bytes t.nodes.length : Nat) else 0
set_option maxHeartbeats 2000000 in
set_option maxRecDepth 100000 in
theorem sizes_calls (t : TTree) (hF : t.Fits) (A : Option Addr) (c : Nat) (w : World) (hA : NodesAt w A t.nodes) :
    Calls Tryd.prog 9 #[.agg #[.slice A t.nodes.length c, .int .i64 t.now]] w fun e w' => e = .returned (.tuple #[.int .i64 (tFiles t), .int .i64 (tBytes t)]) ∧ Below w.heap.size w w' := by
  have hn47 := hF.nodes
  have HF := Lib.hid hF
  have HA := Lib.hid hA
  clear hF
  unfold tFiles tBytes
  cases hok : treeOK t with
  | false =>
    have HO := Lib.hid hok
    clear hok hA
    go_enter Tryd.func9, Tryd.ntmps9
    go_wp2_with (go_at_call 8; refine (check_calls t HF.out _ _ _ (HA.out.keep (below_alloc (Below.refl _ _) _))).mono ?_; rintro _ w1 ⟨rfl, hb1⟩; rw [HO.out])
    go_ret2
    exact ⟨rfl, (by repeat (first | exact Below.refl _ _ | assumption | refine Below.drew ?_ | refine below_drewN ?_ _ | refine below_alloc ?_ _ | refine below_set ?_ (by simp) _ | refine below_step ?_ (by assumption)))⟩
  | true =>
    have HO := Lib.hid hok
    have HOK := Lib.hid (TreeOK.of hok)
    have h513 := HOK.out.head.most
    clear hok
    obtain ⟨x1, hx1⟩ : ∃ x, t.nodes[1]? = some x := ⟨t.nodes[1]'(by have := HOK.out.head.two; omega), by simp⟩
    obtain ⟨b, o, D1, cd1, L1, cl1, rfl, -, -, -, -, -, -, -, -, -, -, -, -, -, -⟩ := hA.get hx1
    clear hx1 hA
    go_enter Tryd.func9, Tryd.ntmps9
    go_wp2_with (go_at_call 8; refine (check_calls t HF.out _ _ _ (HA.out.keep (below_alloc (Below.refl _ _) _))).mono ?_; rintro _ w1 ⟨rfl, hb1⟩; rw [HO.out]; have k0 := cell_keep hb1 (p := ⟨w.heap.size, 0, none⟩) (v := .slice (some ⟨b, o, none⟩) t.nodes.length c) (by simp [go_sem]); have hb2 := below_step (below_alloc (Below.refl _ _) _) hb1; clear hb1)
    go_loopg [2, 3, 12] t.nodes.length (fun g s2 s3 s12 wr => ∃ i : Nat, i + g = t.nodes.length ∧ s2 = .int .i64 (t.files i : Nat) ∧ s3 = .int .i64 (t.bytes i : Nat) ∧ s12 = .int .i64 i ∧ t.files i ≤ i ∧ t.bytes i ≤ i * 140737488355328 ∧ Below w.heap.size w wr)
    case atStart => exact ⟨0, by omega, rfl, rfl, rfl, by simp [TTree.files], by simp [TTree.bytes], hb2⟩
    case round =>
      clear k0 hb2
      obtain ⟨i, hg, rfl, rfl, rfl, hfi, hby, hb⟩ := hrel
      cases gk with
      | zero =>
        obtain rfl : i = t.nodes.length := by omega
        go_wp2
        go_ret2
        exact ⟨rfl, hb⟩
      | succ g =>
        obtain ⟨n, hni⟩ : ∃ n, t.nodes[i]? = some n := ⟨t.nodes[i]'(by omega), by simp⟩
        obtain ⟨b', o', Da, cd, L, cl, hA', hcd, hD, hcl, hL, c0, c1, c2, c3, c4, c5, c6, c7, c8, c9⟩ := HA.out.get hni
        cases hA'
        have hdl := (HF.out.each n (List.mem_of_getElem? hni)).data
        replace c0 := cell_keep hb c0
        replace c1 := cell_keep hb c1
        replace c2 := cell_keep hb c2
        replace c3 := cell_keep hb c3
        replace c4 := cell_keep hb c4
        replace c5 := cell_keep hb c5
        replace c6 := cell_keep hb c6
        replace c7 := cell_keep hb c7
        replace c8 := cell_keep hb c8
        replace c9 := cell_keep hb c9
        have HNI := Lib.hid hni
        clear hni hD hL
        cases hk : (n.kind != 0) with
        | true =>
          have hf1 : t.files (i + 1) = t.files i + 1 := by rw [files_succ HNI.out, hk]; rfl
          have HF1 := Lib.hid hf1
          clear hf1
          go_wp2
          go_roundg g
          case measure => omega
          case rel =>
            refine ⟨i + 1, by omega, by rw [HF1.out]; push_cast; rfl, by rw [bytes_succ HNI.out]; push_cast; rfl, by go_num, by rw [HF1.out]; omega, by rw [bytes_succ HNI.out]; omega, below_alloc hb _⟩
        | false =>
          have hf1 : t.files (i + 1) = t.files i := by rw [files_succ HNI.out, hk]; rfl
          have HF1 := Lib.hid hf1
          clear hf1
          go_wp2
          go_roundg g
          case measure => omega
          case rel =>
            refine ⟨i + 1, by omega, by rw [HF1.out], by rw [bytes_succ HNI.out]; push_cast; rfl, by go_num, by rw [HF1.out]; omega, by rw [bytes_succ HNI.out]; omega, below_alloc hb _⟩
end Go.Proofs.YtdceechakocgfaaDoor
