/- paths.Find: where a path leads. -/
import Derived.Test.YtbfcfjgcmideeaaGreatDoorIn
import Derived.Test.YtbfcfjgcmideeaaGreatDoorM5
namespace Go.Proofs.YtbfcfjgcmideeaaGreatDoor
open Go.RowKit
attribute [local go_sem] Later.cell_eq
set_option maxHeartbeats 2000000 in
set_option maxRecDepth 100000 in
theorem find_path_calls (t : TTree) (hF : t.Fits) (u g m d : Int) (p : ByteArray) (follow : Bool) (A : Option Addr) (c : Nat) (w : World) (hA : NodesAt w A t.nodes) :
    Calls Tryz.prog 61 #[.agg #[.slice A t.nodes.length c, .int .i64 t.now], .agg #[.int .i64 u, .int .i64 g, .int .i64 m, .int .i64 d], .string p, .bool follow] w fun e w' => e = .returned (.tuple #[(findS t u g m d p.data.toList follow).1.val, .int .i64 (findS t u g m d p.data.toList follow).2]) ∧ Below w.heap.size w w' := by
  have HF := Lib.hid hF
  have HA := Lib.hid hA
  have hb3 : Below w.heap.size w (((w.alloc (.cells #[.slice A t.nodes.length c, .int .i64 t.now] 24)).alloc (.cells #[.int .i64 u, .int .i64 g, .int .i64 m, .int .i64 d] 26)).alloc (.cells noPlace.cells 114)) := below_alloc (below_alloc (below_alloc (Below.refl _ _) _) _) _
  have h83 : (((w.alloc (.cells #[.slice A t.nodes.length c, .int .i64 t.now] 24)).alloc (.cells #[.int .i64 u, .int .i64 g, .int .i64 m, .int .i64 d] 26)).alloc (.cells noPlace.cells 114)).heap[w.heap.size + 1 + 1]? = some (.cells noPlace.cells 114 (0, 0)) := heap_alloc_at (by simp) _
  clear hF hA
  unfold findS
  cases hp : permB t u g m d with
  | false =>
    have HP := Lib.hid hp
    clear hp
    rw [if_neg (by simp)]
    go_enter Tryz.func61, Tryz.ntmps61
    go_wp2_with (first
      | (go_at_call 121; refine (permCheck_calls t HF.out u g m d _ c _ (HA.out.keep hb3)).mono ?_; rintro _ w1 ⟨rfl, hb1⟩; rw [HP.out]; have h8 := (hb1.block (w.heap.size + 1 + 1) (by simp)).trans h83; have hb4 := below_step hb3 hb1; clear hb1)
      | refine wpList_store_rowTo rfl 114 _ _ rfl rfl (w.heap.size + 1 + 1) noPlace.cells rfl rfl 114 _ h8 (by kernel_rfl) rfl (by simp [noPlace, PlaceV.cells, Value.oneCell']) ?_)
    have h9 := setRow_heap _ (w.heap.size + 1 + 1) _ noPlace.cells _ _ h8
    have hL := run_loadVar_row (P := Tryz.prog) _ _ _ 114 _ _ _ h9 Tryz.underlying114 rfl (by kernel_rfl)
    refine bodyPost_ret (v := .tuple #[noPlace.val, .int .i64 1]) (results_cell_tmp rfl rfl rfl hL) rfl ?_
    exact ⟨rfl, below_setRow hb4 (by omega) _⟩
  | true =>
    obtain ⟨hT, hD⟩ := permB_dir hp
    have HP := Lib.hid hp
    have HT := Lib.hid hT
    have HD := Lib.hid hD
    clear hp hT hD
    rw [if_pos rfl]
    obtain ⟨R, hR⟩ : ∃ x, x = inS t u g d p.data.toList follow := ⟨_, rfl⟩
    rw [← hR]
    have HR := Lib.hid hR
    clear hR
    go_enter Tryz.func61, Tryz.ntmps61
    go_wp2_with (first
      | (go_at_call 121; refine (permCheck_calls t HF.out u g m d _ c _ (HA.out.keep hb3)).mono ?_; rintro _ w1 ⟨rfl, hb1⟩; rw [HP.out]; have h8 := (hb1.block (w.heap.size + 1 + 1) (by simp)).trans h83; have k0 := cell_keep hb1 (p := ⟨w.heap.size, 0, none⟩) (v := .slice A t.nodes.length c) (by simp [go_sem]); have k1 := cell_keep hb1 (p := ⟨w.heap.size, 1, none⟩) (v := .int .i64 t.now) (by simp [go_sem]); have e0 := cell_keep hb1 (p := ⟨w.heap.size + 1, 0, none⟩) (v := .int .i64 u) (by simp [go_sem]); have e1 := cell_keep hb1 (p := ⟨w.heap.size + 1, 1, none⟩) (v := .int .i64 g) (by simp [go_sem]); have e2 := cell_keep hb1 (p := ⟨w.heap.size + 1, 2, none⟩) (v := .int .i64 m) (by simp [go_sem]); have e3 := cell_keep hb1 (p := ⟨w.heap.size + 1, 3, none⟩) (v := .int .i64 d) (by simp [go_sem]); have hb4 := below_step hb3 hb1; clear hb1)
      | (go_at_call 124; refine (in_path_calls t HF.out HT.out u g m d HD.out p follow _ c _ (HA.out.keep hb4)).mono ?_; rintro _ w2 ⟨rfl, hb2⟩; rw [← HR.out]; replace h8 := (hb2.block (w.heap.size + 1 + 1) (Array.getElem?_eq_some_iff.1 h8).1).trans h8; replace hb4 := below_step hb4 hb2; clear hb2)
      | refine wpList_store_rowTo rfl 114 _ _ rfl rfl (w.heap.size + 1 + 1) R.1.cells rfl rfl 114 _ h8 (by kernel_rfl) rfl (by simp [PlaceV.cells, Value.oneCell']) ?_)
    have h9 := setRow_heap _ (w.heap.size + 1 + 1) _ R.1.cells _ _ h8
    have hL := run_loadVar_row (P := Tryz.prog) _ _ _ 114 _ _ _ h9 Tryz.underlying114 rfl (by kernel_rfl)
    refine bodyPost_ret (v := .tuple #[R.1.val, .int .i64 R.2]) (results_cell_tmp rfl rfl rfl hL) rfl ?_
    exact ⟨rfl, below_setRow hb4 (by omega) _⟩
end Go.Proofs.YtbfcfjgcmideeaaGreatDoor
