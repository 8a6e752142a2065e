/- lives: the laws' own small tree answers as it should. -/
import Derived.Test.YtdceechakocgfaaGreatDoorTiny
namespace Go.Proofs.YtdceechakocgfaaGreatDoor
open Go.RowKit
attribute [local go_sem] Later.cell_eq
theorem new_at {W : World} {b : Nat} {ty : TypeId} (h : W.heap[b]? = some (.cells (node0 ++ nodeR (.slice none 0 0) 2) ty (0, 0))) : NodesAt W (some ⟨b, 0, none⟩) newT.nodes := by
  have hc : ∀ (k : Nat) v, (node0 ++ nodeR (.slice none 0 0) 2).toList[k]? = some v → W.cell? ⟨b, k, none⟩ = some v := fun k v hk => by
    rw [cell_of_row W b k _ _ _ h]
    rw [← Array.getElem?_toList]; exact hk
  have hs : ∀ (vs : List Value) (k : Nat), ((node0 ++ nodeR (.slice none 0 0) 2).toList.drop k).take vs.length = vs → ∀ (j : Nat) v, vs[j]? = some v → W.cell? ⟨b, k + j, none⟩ = some v :=
    fun vs k h j v hj => hc _ _ (sub_get h hj)
  intro i n hi
  match i, hi with
  | 0, hi =>
    cases hi
    exact ⟨b, 0, node0.toList, rfl, ⟨none, 0, none, 0, rfl, Nat.le_refl _, bytes_nil _ _, Nat.le_refl _, ents_nil _ _⟩, hs _ 0 rfl⟩
  | 1, hi =>
    cases hi
    exact ⟨b, 0, (nodeR (.slice none 0 0) 2).toList, rfl, ⟨none, 0, none, 0, rfl, Nat.le_refl _, bytes_nil _ _, Nat.le_refl _, ents_nil _ _⟩, hs _ 10 rfl⟩
theorem no_at {b : Nat} {w W : World} (_ : Below b w W) : NodesAt W none noT.nodes := fun i n h => by simp [noT] at h
set_option maxHeartbeats 4000000 in
set_option maxRecDepth 100000 in
theorem lives_calls (w : World) :
    Calls Tryz.prog 12 #[] w fun e w' => e = .returned (.bool true) ∧ Below w.heap.size w w' := by
  go_enter Tryz.func12, Tryz.ntmps12
  go_upto_region 2 with (go_at_call 73; refine (small_calls _).mono ?_; rintro _ w1 ⟨A, c, ⟨rfl, hA⟩, hb1⟩)
  have k0 : (w1.alloc (.cells #[.slice A smallT.nodes.length c, .int .i64 smallT.now] 38)).cell? ⟨w1.heap.size, 0, none⟩ = some (.slice A smallT.nodes.length c) := by rw [World.cell?_alloc_new]; rfl
  have k1 : (w1.alloc (.cells #[.slice A smallT.nodes.length c, .int .i64 smallT.now] 38)).cell? ⟨w1.heap.size, 1, none⟩ = some (.int .i64 smallT.now) := by rw [World.cell?_alloc_new]; rfl
  have HA := Lib.hid hA
  clear hA
  go_upto_region 3 with (go_at_call 74; refine (stat_calls smallT small_fits 2 _ _ _ (HA.out.keep (below_alloc (Below.refl _ _) _))).mono ?_; rintro _ w2 ⟨rfl, hb2⟩; rw [small_stat2, small_statE2]; replace k0 := cell_keep hb2 k0; replace k1 := cell_keep hb2 k1; have HB2 := Lib.hid (below_step (below_alloc (Below.refl _ _) _) hb2))
  have s1 : (w2.alloc (.cells #[.int .i64 2, .int .u8 2, .int .i64 493, .int .i64 0, .int .i64 0, .int .i64 2, .int .i64 1, .int .i64 0] 86)).cell? ⟨w2.heap.size, 1, none⟩ = some (.int .u8 2) := by rw [World.cell?_alloc_new]; rfl
  have s6 : (w2.alloc (.cells #[.int .i64 2, .int .u8 2, .int .i64 493, .int .i64 0, .int .i64 0, .int .i64 2, .int .i64 1, .int .i64 0] 86)).cell? ⟨w2.heap.size, 6, none⟩ = some (.int .i64 1) := by rw [World.cell?_alloc_new]; rfl
  replace k0 := cell_new k0 (.cells #[.int .i64 2, .int .u8 2, .int .i64 493, .int .i64 0, .int .i64 0, .int .i64 2, .int .i64 1, .int .i64 0] 86)
  replace k1 := cell_new k1 (.cells #[.int .i64 2, .int .u8 2, .int .i64 493, .int .i64 0, .int .i64 0, .int .i64 2, .int .i64 1, .int .i64 0] 86)
  clear hb2
  go_upto_region 4 with (go_at_call 74; refine (stat_calls smallT small_fits 9 _ _ _ (HA.out.keep (below_alloc HB2.out _))).mono ?_; rintro _ w3 ⟨rfl, hb3⟩; rw [small_stat9, small_statE9]; replace k0 := cell_keep hb3 k0; replace k1 := cell_keep hb3 k1; replace s1 := cell_keep hb3 s1; replace s6 := cell_keep hb3 s6; have HB3 := Lib.hid (below_step (below_alloc HB2.out _) hb3); clear hb3)
  replace k0 := cell_new k0 (.cells #[.int .i64 0, .int .u8 0, .int .i64 0, .int .i64 0, .int .i64 0, .int .i64 0, .int .i64 0, .int .i64 0] 86)
  replace k1 := cell_new k1 (.cells #[.int .i64 0, .int .u8 0, .int .i64 0, .int .i64 0, .int .i64 0, .int .i64 0, .int .i64 0, .int .i64 0] 86)
  replace s1 := cell_new s1 (.cells #[.int .i64 0, .int .u8 0, .int .i64 0, .int .i64 0, .int .i64 0, .int .i64 0, .int .i64 0, .int .i64 0] 86)
  replace s6 := cell_new s6 (.cells #[.int .i64 0, .int .u8 0, .int .i64 0, .int .i64 0, .int .i64 0, .int .i64 0, .int .i64 0, .int .i64 0] 86)
  go_upto_region 5 with (go_at_call 75; refine (path_calls smallT small_fits 2 _ _ _ (HA.out.keep (below_alloc HB3.out _))).mono ?_; rintro _ w4 ⟨rfl, hb4⟩; rw [small_path2, small_pathE2]; replace k0 := cell_keep hb4 k0; replace k1 := cell_keep hb4 k1; replace s1 := cell_keep hb4 s1; replace s6 := cell_keep hb4 s6; have HB4 := Lib.hid (below_step (below_alloc HB3.out _) hb4); clear hb4)
  go_upto_region 6 with (go_at_call 75; refine (path_calls smallT small_fits 3 _ _ _ (HA.out.keep HB4.out)).mono ?_; rintro _ w5 ⟨rfl, hb5⟩; rw [small_pathE3]; replace k0 := cell_keep hb5 k0; replace k1 := cell_keep hb5 k1; replace s1 := cell_keep hb5 s1; replace s6 := cell_keep hb5 s6; have HB5 := Lib.hid (below_step HB4.out hb5); clear hb5)
  go_wp2_with (first
    | (go_at_call 77; refine (depth_calls smallT small_fits 2 _ _ _ (HA.out.keep HB13.out)).mono ?_; rintro _ w14 ⟨rfl, hb14⟩; rw [small_depth2]; replace k0 := cell_keep hb14 k0; replace k1 := cell_keep hb14 k1; replace s1 := cell_keep hb14 s1; replace s6 := cell_keep hb14 s6; have HB14 := Lib.hid (below_step HB13.out hb14); clear hb14)
    | (go_at_call 76; refine (find_calls smallT small_fits 3 ⟨#[98]⟩ _ _ _ (HA.out.keep HB12.out)).mono ?_; rintro _ w13 ⟨rfl, hb13⟩; rw [small_find3]; replace k0 := cell_keep hb13 k0; replace k1 := cell_keep hb13 k1; replace s1 := cell_keep hb13 s1; replace s6 := cell_keep hb13 s6; have HB13 := Lib.hid (below_step HB12.out hb13); clear hb13)
    | (go_at_call 76; refine (find_calls smallT small_fits 2 ⟨#[98]⟩ _ _ _ (HA.out.keep HB11.out)).mono ?_; rintro _ w12 ⟨rfl, hb12⟩; rw [small_find2]; replace k0 := cell_keep hb12 k0; replace k1 := cell_keep hb12 k1; replace s1 := cell_keep hb12 s1; replace s6 := cell_keep hb12 s6; have HB12 := Lib.hid (below_step HB11.out hb12); clear hb12)
    | (go_at_call 76; refine (find_calls smallT small_fits 1 ⟨#[97]⟩ _ _ _ (HA.out.keep HB10.out)).mono ?_; rintro _ w11 ⟨rfl, hb11⟩; rw [small_find1]; replace k0 := cell_keep hb11 k0; replace k1 := cell_keep hb11 k1; replace s1 := cell_keep hb11 s1; replace s6 := cell_keep hb11 s6; have HB11 := Lib.hid (below_step HB10.out hb11); clear hb11)
    | (go_at_call 8; refine (check_calls noT no_fits none 0 _ (no_at HB9.out)).mono ?_; rintro _ w10 ⟨rfl, hb10⟩; rw [no_no]; replace k0 := cell_keep hb10 k0; replace k1 := cell_keep hb10 k1; replace s1 := cell_keep hb10 s1; replace s6 := cell_keep hb10 s6; have HB10 := Lib.hid (below_step HB9.out hb10); clear hb10)
    | (go_at_call 8; refine (check_calls newT new_fits _ 2 _ HN.out).mono ?_; rintro _ w9 ⟨rfl, hb9⟩; rw [new_yes]; replace k0 := cell_keep hb9 k0; replace k1 := cell_keep hb9 k1; replace s1 := cell_keep hb9 s1; replace s6 := cell_keep hb9 s6; have HB9 := Lib.hid (below_step HB8.out hb9); clear hb9)
    | (go_at_call 6; refine (new_calls _).mono ?_; rintro _ w8 ⟨b8, ⟨rfl, hbb8, hrow8⟩, hb8⟩; replace k0 := cell_keep hb8 k0; replace k1 := cell_keep hb8 k1; replace s1 := cell_keep hb8 s1; replace s6 := cell_keep hb8 s6; have HB8 := Lib.hid (below_step HB7.out hb8); have HN := Lib.hid (new_at hrow8); clear hrow8 hb8 hbb8)
    | (go_at_call 8; refine (check_calls smallT small_fits _ _ _ (HA.out.keep HB6.out)).mono ?_; rintro _ w7 ⟨rfl, hb7⟩; rw [small_yes]; replace k0 := cell_keep hb7 k0; replace k1 := cell_keep hb7 k1; replace s1 := cell_keep hb7 s1; replace s6 := cell_keep hb7 s6; have HB7 := Lib.hid (below_step HB6.out hb7); clear hb7)
    | (go_at_call 7; refine (sizes_calls smallT small_fits _ _ _ (HA.out.keep HB5.out)).mono ?_; rintro _ w6 ⟨rfl, hb6⟩; rw [small_files, small_bytes]; replace k0 := cell_keep hb6 k0; replace k1 := cell_keep hb6 k1; replace s1 := cell_keep hb6 s1; replace s6 := cell_keep hb6 s6; have HB6 := Lib.hid (below_step HB5.out hb6); clear hb6))
  go_ret
  exact ⟨rfl, below_step hb1 HB14.out⟩
end Go.Proofs.YtdceechakocgfaaGreatDoor
