/- tree.Of, tree.Stat, tree.Sizes. -/
import Derived.Test.YtdceechakocgfaaGreatDoorPath
import Derived.Test.YtdceechakocgfaaGreatDoorM4
import Derived.Test.YtdceechakocgfaaGreatDoorM2
import Derived.Great.BuildSlice
import Derived.Laws.CopyOwn
namespace Go.Proofs.YtdceechakocgfaaGreatDoor
open Go.RowKit
attribute [local go_sem] Later.cell_eq
def statV (n : Int) (x : TNode) : Value := .agg #[.int .i64 n, .int .u8 x.kind, .int .i64 x.mode, .int .i64 x.user, .int .i64 x.group, .int .i64 x.links, .int .i64 (((x.data.length + x.target.size : Nat) : Int) + (x.list.length : Nat)), .int .i64 x.time]
def noStat : Value := .agg #[.int .i64 0, .int .u8 0, .int .i64 0, .int .i64 0, .int .i64 0, .int .i64 0, .int .i64 0, .int .i64 0]
set_option maxHeartbeats 1000000 in
theorem of_calls (t : TTree) (hF : t.Fits) (n : Int) (h0 : 0 ≤ n) (h1 : n < t.nodes.length) (A : Option Addr) (c : Nat) (w : World) (hA : NodesAt w A t.nodes) :
    Calls Tryz.prog 90 #[.agg #[.slice A t.nodes.length c, .int .i64 t.now], .int .i64 n] w fun e w' => e = .returned (statV n (t.at n)) ∧ Below w.heap.size w w' := by
  obtain ⟨x, hx⟩ : ∃ x, t.nodes[n.toNat]? = some x := ⟨t.nodes[n.toNat]'(by omega), by simp⟩
  rw [at_eq hx]
  have hf := hF.each x (List.mem_of_getElem? hx)
  obtain ⟨b, o, D, cd, L, cl, rfl, -, -, -, -, x0, x1, x2, x3, x4, x5, x6, x7, x8, x9⟩ := hA.get hx
  have hd := hf.data
  have ht := hf.target
  have hl := hf.list
  have hbl := World.block_lt_of_cell? _ _ x0
  dsimp only at hbl
  clear hA hx hF hf
  go_enter Tryz.func90, Tryz.ntmps90
  go_wp2
  refine bodyPost_ret (by simp [results, Tryz.results90, go_sem]; rfl) rfl ?_
  exact ⟨rfl, (by repeat (first | exact Below.refl _ _ | assumption | refine Below.drew ?_ | refine below_drewN ?_ _ | refine below_alloc ?_ _ | refine below_set ?_ (by simp) _ | refine below_step ?_ (by assumption)))⟩
noncomputable def isNodeB (t : TTree) (n : Int) : Bool := treeOK t && (decide (1 ≤ n) && decide (n < t.nodes.length) && (t.at n).kind != 0)
noncomputable def tStat (t : TTree) (n : Int) : Value := if isNodeB t n = true then statV n (t.at n) else noStat
noncomputable def tStatE (t : TTree) (n : Int) : Int := if isNodeB t n = true then 0 else 1
set_option maxHeartbeats 2000000 in
set_option maxRecDepth 100000 in
theorem stat_calls (t : TTree) (hF : t.Fits) (n : Int) (A : Option Addr) (c : Nat) (w : World) (hA : NodesAt w A t.nodes) :
    Calls Tryz.prog 74 #[.agg #[.slice A t.nodes.length c, .int .i64 t.now], .int .i64 n] w fun e w' => e = .returned (.tuple #[tStat t n, .int .i64 (tStatE t n)]) ∧ Below w.heap.size w w' := by
  have hn47 := hF.nodes
  have HF := Lib.hid hF
  have HA := Lib.hid hA
  clear hF
  unfold tStat tStatE
  cases hok : treeOK t with
  | false =>
    have HR : isNodeB t n = false := by unfold isNodeB; rw [hok]; rfl
    rw [HR]
    have HO := Lib.hid hok
    clear hok hA HR
    go_enter Tryz.func74, Tryz.ntmps74
    go_wp2_with (first | (go_at_call 8; refine (check_calls t HF.out _ _ _ (HA.out.keep (below_alloc (below_alloc (Below.refl _ _) _) _))).mono ?_; rintro _ w1 ⟨rfl, hb1⟩; rw [HO.out]; have k0 := cell_keep hb1 (p := ⟨w.heap.size, 0, none⟩) (v := .slice A t.nodes.length c) (by simp [go_sem]); have k1 := cell_keep hb1 (p := ⟨w.heap.size, 1, none⟩) (v := .int .i64 t.now) (by simp [go_sem]); have h8 := (hb1.block (w.heap.size + 1) (by simp)).trans (heap_alloc2_new _ _ _); have hb2 := below_step (below_alloc (below_alloc (Below.refl _ _) _) _) hb1; clear hb1) | (refine wpList_store_rowTo rfl 86 _ _ rfl rfl (w.heap.size + 1) #[.int .i64 0, .int .u8 0, .int .i64 0, .int .i64 0, .int .i64 0, .int .i64 0, .int .i64 0, .int .i64 0] rfl rfl 86 _ h8 (by kernel_rfl) rfl (by simp [Value.oneCell']) ?_; have h9 := setRow_heap w1 (w.heap.size + 1) _ #[.int .i64 0, .int .u8 0, .int .i64 0, .int .i64 0, .int .i64 0, .int .i64 0, .int .i64 0, .int .i64 0] _ _ h8))
    have hL := run_loadVar_row (P := Tryz.prog) _ _ _ 86 _ _ _ h9 Tryz.underlying86 rfl (by kernel_rfl)
    refine bodyPost_ret (v := .tuple #[noStat, .int .i64 1]) (results_cell_tmp rfl rfl rfl hL) rfl ?_
    exact ⟨rfl, below_setRow hb2 (by omega) _⟩
  | true =>
    have HO := Lib.hid hok
    by_cases h1 : 1 ≤ n
    · by_cases h2 : n < (t.nodes.length : Int)
      · obtain ⟨x, hx⟩ : ∃ x, t.nodes[n.toNat]? = some x := ⟨t.nodes[n.toNat]'(by omega), by simp⟩
        have hat := at_eq hx
        have HR : isNodeB t n = (x.kind != 0) := by unfold isNodeB; rw [hok, hat, decide_eq_true h1, decide_eq_true h2]; rfl
        rw [HR, ← hat]
        obtain ⟨b, o, Dx, cdx, Lx, clx, rfl, -, -, -, -, x0, -, -, -, -, -, -, -, -, -⟩ := hA.get hx
        rw [← hat] at x0
        have h0 : 0 ≤ n := by omega
        have hbl := World.block_lt_of_cell? _ _ x0
        dsimp only at hbl
        cases hk : ((t.at n).kind == 0) with
        | true =>
          have hk2 : ((t.at n).kind != 0) = false := by simp [bne, hk]
          rw [hk2]
          clear hA hok hx hat HR
          go_enter Tryz.func74, Tryz.ntmps74
          go_wp2_with (first | (go_at_call 8; refine (check_calls t HF.out _ _ _ (HA.out.keep (below_alloc (below_alloc (Below.refl _ _) _) _))).mono ?_; rintro _ w1 ⟨rfl, hb1⟩; rw [HO.out]; have k0 := cell_keep hb1 (p := ⟨w.heap.size, 0, none⟩) (v := .slice (some ⟨b, o, none⟩) t.nodes.length c) (by simp [go_sem]); have k1 := cell_keep hb1 (p := ⟨w.heap.size, 1, none⟩) (v := .int .i64 t.now) (by simp [go_sem]); have h8 := (hb1.block (w.heap.size + 1) (by simp)).trans (heap_alloc2_new _ _ _); have hb2 := below_step (below_alloc (below_alloc (Below.refl _ _) _) _) hb1; clear hb1; replace x0 := cell_keep hb2 x0; have hbl1 := below_lt hb2 hbl) | (refine wpList_store_rowTo rfl 86 _ _ rfl rfl (w.heap.size + 1) #[.int .i64 0, .int .u8 0, .int .i64 0, .int .i64 0, .int .i64 0, .int .i64 0, .int .i64 0, .int .i64 0] rfl rfl 86 _ h8 (by kernel_rfl) rfl (by simp [Value.oneCell']) ?_; have h9 := setRow_heap w1 (w.heap.size + 1) _ #[.int .i64 0, .int .u8 0, .int .i64 0, .int .i64 0, .int .i64 0, .int .i64 0, .int .i64 0, .int .i64 0] _ _ h8))
          have hL := run_loadVar_row (P := Tryz.prog) _ _ _ 86 _ _ _ h9 Tryz.underlying86 rfl (by kernel_rfl)
          refine bodyPost_ret (v := .tuple #[noStat, .int .i64 1]) (results_cell_tmp rfl rfl rfl hL) rfl ?_
          exact ⟨rfl, below_setRow hb2 (by omega) _⟩
        | false =>
          have hk2 : ((t.at n).kind != 0) = true := by simp [bne, hk]
          rw [hk2]
          clear hA hok hx hat HR
          go_enter Tryz.func74, Tryz.ntmps74
          go_wp2_with (first
            | (go_at_call 8; refine (check_calls t HF.out _ _ _ (HA.out.keep (below_alloc (below_alloc (Below.refl _ _) _) _))).mono ?_; rintro _ w1 ⟨rfl, hb1⟩; rw [HO.out]; have k0 := cell_keep hb1 (p := ⟨w.heap.size, 0, none⟩) (v := .slice (some ⟨b, o, none⟩) t.nodes.length c) (by simp [go_sem]); have k1 := cell_keep hb1 (p := ⟨w.heap.size, 1, none⟩) (v := .int .i64 t.now) (by simp [go_sem]); have h8 := (hb1.block (w.heap.size + 1) (by simp)).trans (heap_alloc2_new _ _ _); have hb2 := below_step (below_alloc (below_alloc (Below.refl _ _) _) _) hb1; clear hb1; replace x0 := cell_keep hb2 x0; have hbl1 := below_lt hb2 hbl)
            | (go_at_call 90; refine (of_calls t HF.out n h0 h2 _ _ _ (HA.out.keep hb2)).mono ?_; rintro _ w3 ⟨rfl, hb3⟩; replace h8 := (hb3.block _ (Array.getElem?_eq_some_iff.1 h8).1).trans h8; have hb4 := below_step hb2 hb3)
            | (refine wpList_store_rowTo rfl 86 _ _ rfl rfl (w.heap.size + 1) #[.int .i64 n, .int .u8 (t.at n).kind, .int .i64 (t.at n).mode, .int .i64 (t.at n).user, .int .i64 (t.at n).group, .int .i64 (t.at n).links, .int .i64 ((((t.at n).data.length + (t.at n).target.size : Nat) : Int) + ((t.at n).list.length : Nat)), .int .i64 (t.at n).time] rfl rfl 86 _ h8 (by kernel_rfl) rfl (by simp [Value.oneCell']) ?_; have h9 := setRow_heap w3 (w.heap.size + 1) _ #[.int .i64 n, .int .u8 (t.at n).kind, .int .i64 (t.at n).mode, .int .i64 (t.at n).user, .int .i64 (t.at n).group, .int .i64 (t.at n).links, .int .i64 ((((t.at n).data.length + (t.at n).target.size : Nat) : Int) + ((t.at n).list.length : Nat)), .int .i64 (t.at n).time] _ _ h8))
          have hL := run_loadVar_row (P := Tryz.prog) _ _ _ 86 _ _ _ h9 Tryz.underlying86 rfl (by kernel_rfl)
          refine bodyPost_ret (v := .tuple #[statV n (t.at n), .int .i64 0]) (results_cell_tmp rfl rfl rfl hL) rfl ?_
          exact ⟨rfl, below_setRow hb4 (by omega) _⟩
      · have HR : isNodeB t n = false := by unfold isNodeB; rw [decide_eq_false h2]; simp
        have h2' : (n ≥ (t.nodes.length : Int)) := by omega
        rw [HR]
        clear hA hok HR
        go_enter Tryz.func74, Tryz.ntmps74
        go_wp2_with (first | (go_at_call 8; refine (check_calls t HF.out _ _ _ (HA.out.keep (below_alloc (below_alloc (Below.refl _ _) _) _))).mono ?_; rintro _ w1 ⟨rfl, hb1⟩; rw [HO.out]; have k0 := cell_keep hb1 (p := ⟨w.heap.size, 0, none⟩) (v := .slice A t.nodes.length c) (by simp [go_sem]); have k1 := cell_keep hb1 (p := ⟨w.heap.size, 1, none⟩) (v := .int .i64 t.now) (by simp [go_sem]); have h8 := (hb1.block (w.heap.size + 1) (by simp)).trans (heap_alloc2_new _ _ _); have hb2 := below_step (below_alloc (below_alloc (Below.refl _ _) _) _) hb1; clear hb1) | (refine wpList_store_rowTo rfl 86 _ _ rfl rfl (w.heap.size + 1) #[.int .i64 0, .int .u8 0, .int .i64 0, .int .i64 0, .int .i64 0, .int .i64 0, .int .i64 0, .int .i64 0] rfl rfl 86 _ h8 (by kernel_rfl) rfl (by simp [Value.oneCell']) ?_; have h9 := setRow_heap w1 (w.heap.size + 1) _ #[.int .i64 0, .int .u8 0, .int .i64 0, .int .i64 0, .int .i64 0, .int .i64 0, .int .i64 0, .int .i64 0] _ _ h8))
        have hL := run_loadVar_row (P := Tryz.prog) _ _ _ 86 _ _ _ h9 Tryz.underlying86 rfl (by kernel_rfl)
        refine bodyPost_ret (v := .tuple #[noStat, .int .i64 1]) (results_cell_tmp rfl rfl rfl hL) rfl ?_
        exact ⟨rfl, below_setRow hb2 (by omega) _⟩
    · have HR : isNodeB t n = false := by unfold isNodeB; rw [decide_eq_false h1]; simp
      have h1' : n < 1 := by omega
      rw [HR]
      clear hA hok HR
      go_enter Tryz.func74, Tryz.ntmps74
      go_wp2_with (first | (go_at_call 8; refine (check_calls t HF.out _ _ _ (HA.out.keep (below_alloc (below_alloc (Below.refl _ _) _) _))).mono ?_; rintro _ w1 ⟨rfl, hb1⟩; rw [HO.out]; have k0 := cell_keep hb1 (p := ⟨w.heap.size, 0, none⟩) (v := .slice A t.nodes.length c) (by simp [go_sem]); have k1 := cell_keep hb1 (p := ⟨w.heap.size, 1, none⟩) (v := .int .i64 t.now) (by simp [go_sem]); have h8 := (hb1.block (w.heap.size + 1) (by simp)).trans (heap_alloc2_new _ _ _); have hb2 := below_step (below_alloc (below_alloc (Below.refl _ _) _) _) hb1; clear hb1) | (refine wpList_store_rowTo rfl 86 _ _ rfl rfl (w.heap.size + 1) #[.int .i64 0, .int .u8 0, .int .i64 0, .int .i64 0, .int .i64 0, .int .i64 0, .int .i64 0, .int .i64 0] rfl rfl 86 _ h8 (by kernel_rfl) rfl (by simp [Value.oneCell']) ?_; have h9 := setRow_heap w1 (w.heap.size + 1) _ #[.int .i64 0, .int .u8 0, .int .i64 0, .int .i64 0, .int .i64 0, .int .i64 0, .int .i64 0, .int .i64 0] _ _ h8))
      have hL := run_loadVar_row (P := Tryz.prog) _ _ _ 86 _ _ _ h9 Tryz.underlying86 rfl (by kernel_rfl)
      refine bodyPost_ret (v := .tuple #[noStat, .int .i64 1]) (results_cell_tmp rfl rfl rfl hL) rfl ?_
      exact ⟨rfl, below_setRow hb2 (by omega) _⟩
end Go.Proofs.YtdceechakocgfaaGreatDoor
