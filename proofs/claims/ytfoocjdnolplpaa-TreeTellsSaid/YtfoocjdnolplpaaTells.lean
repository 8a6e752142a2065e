/- The law TreeTells answers true. -/
import Derived.Test.YtfoocjdnolplpaaSpoils
import Derived.Test.YtfoocjdnolplpaaRefPath
import Derived.Outline
namespace Go.Proofs.Ytfoocjdnolplpaa
open Go.RowKit
attribute [local go_sem] Later.cell_eq
theorem sizeSum_mem {l : List TNode} : ∀ {n : TNode}, n ∈ l → n.size ≤ sizeSum l l.length := by
  intro n hn
  unfold sizeSum
  rw [List.take_length]
  induction l with
  | nil => cases hn
  | cons a r ih =>
    rw [List.map_cons, List.sum_cons]
    rcases List.mem_cons.1 hn with rfl | h
    · omega
    · have := ih h; omega
theorem size_small {t : TTree} (h : t.size ≤ 100000) : t.nodes.length ≤ 1000000 ∧ ∀ n ∈ t.nodes, n.data.length ≤ 1000000 ∧ n.list.length ≤ 1000000 := by
  unfold TTree.size at h
  refine ⟨by omega, fun n hn => ?_⟩
  have := sizeSum_mem hn
  unfold TNode.size at this
  omega
theorem tStat_shape (t : TTree) (n : Int) : ∃ a0 a1 a2 a3 a4 a5 a6 a7 : Int, tStat t n = .agg #[.int .i64 a0, .int .u8 a1, .int .i64 a2, .int .i64 a3, .int .i64 a4, .int .i64 a5, .int .i64 a6, .int .i64 a7] := by
  unfold tStat
  split
  · exact ⟨_, _, _, _, _, _, _, _, rfl⟩
  · exact ⟨_, _, _, _, _, _, _, _, rfl⟩
set_option maxHeartbeats 8000000 in
set_option maxRecDepth 100000 in
theorem tells_calls (t : TTree) (hF : t.Fits) (n : Int) (s : ByteArray) (A : Option Addr) (c : Nat) (w : World) (hA : NodesAt w A t.nodes) :
    Calls Try.prog 3 #[.agg #[.slice A t.nodes.length c, .int .i64 t.now], .int .i64 n, .string s] w fun e w' => e = .returned (.bool true) ∧ Below w.heap.size w w' := by
  have HF := Lib.hid hF
  have HA := Lib.hid hA
  have hn47 := hF.nodes
  obtain ⟨a0, a1, a2, a3, a4, a5, a6, a7, hst⟩ := tStat_shape t n
  have HSA := Lib.hid hst
  clear hF hA hst
  go_enter Try.func3, Try.ntmps3
  go_upto_region 3 with (first
    | (go_at_call 6; refine (great_calls t HF.out A c _ (HA.out.keep (below_alloc (Below.refl _ _) _))).mono ?_; rintro _ w1 ⟨b, ⟨rfl, hbq⟩, hb1⟩; have HQ := Lib.hid hbq; clear hbq; cases b <;> have k0 := cell_keep hb1 (p := ⟨w.heap.size, 0, none⟩) (v := .slice A t.nodes.length c) (by rw [World.cell?_alloc_new]; rfl) <;> have k1 := cell_keep hb1 (p := ⟨w.heap.size, 1, none⟩) (v := .int .i64 t.now) (by rw [World.cell?_alloc_new]; rfl) <;> have HB1 := Lib.hid (below_step (below_alloc (Below.refl _ _) _) hb1) <;> clear hb1)
    | (go_at_call 7; refine (lives_calls _).mono ?_; rintro _ w3 ⟨rfl, hb3⟩))
  rotate_left
  · go_ret
    exact ⟨rfl, below_step HB1.out hb3⟩
  have hsz := Lib.hid (size_small (HQ.out (by first | rfl | trivial)))
  clear HQ
  have k02 := k0
  go_upto_region 4 with (go_at_call 8; refine (twinTree_calls t hsz.out.1 hsz.out.2 A c _ (HA.out.keep HB1.out)).mono ?_; rintro _ w3 ⟨g, cap, ⟨rfl, hT⟩, hb3⟩; replace k0 := cell_keep hb3 k0; replace k1 := cell_keep hb3 k1; have HB3 := Lib.hid (below_step HB1.out hb3); have HT := Lib.hid hT; clear hb3 hT)
  clear k02
  have hwl := World.block_lt_of_cell? _ _ k0
  dsimp only at hwl
  obtain ⟨w4, hw4⟩ : ∃ w4, w4 = w3.alloc (.cells #[.slice (some ⟨g, 0, none⟩) t.nodes.length cap, .int .i64 t.now] 24) := ⟨_, rfl⟩
  have hh4 : w4.heap[w3.heap.size]? = some (.cells #[.slice (some ⟨g, 0, none⟩) t.nodes.length cap, .int .i64 t.now] 24 (0, 0)) := by rw [hw4]; exact heap_alloc_new _ _
  have HB34 : Hid (Below w3.heap.size w3 w4) := Lib.hid (by rw [hw4]; exact below_alloc (Below.refl _ _) _)
  have hs4 : w4.heap.size = w3.heap.size + 1 := by rw [hw4]; simp
  rw [← hw4]
  clear hw4
  obtain ⟨⟨m0, m1⟩, -, -, hb84⟩ := row2 hh4
  replace k0 := cell_keep HB34.out k0
  replace k1 := cell_keep HB34.out k1
  have HB4 := Lib.hid (below_step HB3.out HB34.out)
  have HT4 := Lib.hid (HT.out.keep HB34.out)
  have HX4 := Lib.hid HT4.out.nodes
  have hwl4 : w.heap.size < w4.heap.size := by omega
  obtain ⟨b7, hb7⟩ : ∃ b7, w3.heap.size = b7 := ⟨_, rfl⟩
  rw [hb7] at m0 m1 hwl hb84 ⊢
  clear hb7 hh4 hs4 HB34 HT HB3 HB1
  go_upto_region 5 with (go_at_call 9; refine (stat_calls t HF.out n (some ⟨g, 0, none⟩) cap _ HX4.out).mono ?_; rintro _ v5 ⟨rfl, hv5⟩; rw [HSA.out]; replace k0 := cell_keep hv5 k0; replace k1 := cell_keep hv5 k1; replace m0 := cell_keep hv5 m0; replace m1 := cell_keep hv5 m1; have HV5 := Lib.hid hv5; clear hv5)
  obtain ⟨w5, hw5⟩ : ∃ W, W = v5.alloc (.cells #[.int .i64 a0, .int .u8 a1, .int .i64 a2, .int .i64 a3, .int .i64 a4, .int .i64 a5, .int .i64 a6, .int .i64 a7] 30) := ⟨_, rfl⟩
  have hr5 : w5.heap[v5.heap.size]? = some (.cells #[.int .i64 a0, .int .u8 a1, .int .i64 a2, .int .i64 a3, .int .i64 a4, .int .i64 a5, .int .i64 a6, .int .i64 a7] 30 (0, 0)) := by rw [hw5]; exact heap_alloc_new _ _
  have HU5 : Hid (Below v5.heap.size v5 w5) := Lib.hid (by rw [hw5]; exact below_alloc (Below.refl _ _) _)
  rw [← hw5]
  clear hw5
  replace k0 := cell_keep HU5.out k0
  replace k1 := cell_keep HU5.out k1
  replace m0 := cell_keep HU5.out m0
  replace m1 := cell_keep HU5.out m1
  have HR5 := Lib.hid hr5
  clear hr5
  obtain ⟨s5, hs5⟩ : ∃ b, v5.heap.size = b := ⟨_, rfl⟩
  rw [hs5] at HR5 ⊢
  clear hs5
  have HW5 : Hid (Below w4.heap.size w4 w5) := Lib.hid (below_step HV5.out HU5.out)
  have HB5 := Lib.hid (below_step HB4.out HW5.out)
  have HX5 := Lib.hid (HX4.out.keep HW5.out)
  have HT5 := Lib.hid (HT4.out.keep HW5.out)
  go_upto_region 6 with (go_at_call 10; refine (refStat_calls t HF.out n A c _ (HA.out.keep HB5.out)).mono ?_; rintro _ v6 ⟨rfl, hv6⟩; rw [HSA.out]; replace k0 := cell_keep hv6 k0; replace k1 := cell_keep hv6 k1; replace m0 := cell_keep hv6 m0; replace m1 := cell_keep hv6 m1; have HV6 := Lib.hid hv6; clear hv6)
  obtain ⟨w6, hw6⟩ : ∃ W, W = v6.alloc (.cells #[.int .i64 a0, .int .u8 a1, .int .i64 a2, .int .i64 a3, .int .i64 a4, .int .i64 a5, .int .i64 a6, .int .i64 a7] 30) := ⟨_, rfl⟩
  have hr6 : w6.heap[v6.heap.size]? = some (.cells #[.int .i64 a0, .int .u8 a1, .int .i64 a2, .int .i64 a3, .int .i64 a4, .int .i64 a5, .int .i64 a6, .int .i64 a7] 30 (0, 0)) := by rw [hw6]; exact heap_alloc_new _ _
  have HU6 : Hid (Below v6.heap.size v6 w6) := Lib.hid (by rw [hw6]; exact below_alloc (Below.refl _ _) _)
  rw [← hw6]
  clear hw6
  replace k0 := cell_keep HU6.out k0
  replace k1 := cell_keep HU6.out k1
  replace m0 := cell_keep HU6.out m0
  replace m1 := cell_keep HU6.out m1
  have HR6 := Lib.hid hr6
  clear hr6
  obtain ⟨s6, hs6⟩ : ∃ b, v6.heap.size = b := ⟨_, rfl⟩
  rw [hs6] at HR6 ⊢
  clear hs6
  have HW6 : Hid (Below w5.heap.size w5 w6) := Lib.hid (below_step HV6.out HU6.out)
  have HB6 := Lib.hid (below_step HB5.out HW6.out)
  have HX6 := Lib.hid (HX5.out.keep HW6.out)
  have HT6 := Lib.hid (HT5.out.keep HW6.out)
  have HR56 := Lib.hid ((HW6.out.block _ (Array.getElem?_eq_some_iff.1 HR5.out).1).trans HR5.out)
  go_upto_region 7 with (go_at_call 11; refine (path_calls t HF.out n (some ⟨g, 0, none⟩) cap _ HX6.out).mono ?_; rintro _ v7 ⟨rfl, hv7⟩; replace k0 := cell_keep hv7 k0; replace k1 := cell_keep hv7 k1; replace m0 := cell_keep hv7 m0; replace m1 := cell_keep hv7 m1; have HV7 := Lib.hid hv7; clear hv7)
  obtain ⟨w7, rfl⟩ : ∃ W, W = v7 := ⟨_, rfl⟩
  have HW7 : Hid (Below w6.heap.size w6 w7) := HV7
  have HB7 := Lib.hid (below_step HB6.out HW7.out)
  have HX7 := Lib.hid (HX6.out.keep HW7.out)
  have HT7 := Lib.hid (HT6.out.keep HW7.out)
  have HR57 := Lib.hid ((HW7.out.block _ (Array.getElem?_eq_some_iff.1 HR56.out).1).trans HR56.out)
  have HR67 := Lib.hid ((HW7.out.block _ (Array.getElem?_eq_some_iff.1 HR6.out).1).trans HR6.out)
  go_upto_region 8 with (go_at_call 12; refine (refPath_calls t HF.out n A c _ (HA.out.keep HB7.out)).mono ?_; rintro _ v8 ⟨rfl, hv8⟩; replace k0 := cell_keep hv8 k0; replace k1 := cell_keep hv8 k1; replace m0 := cell_keep hv8 m0; replace m1 := cell_keep hv8 m1; have HV8 := Lib.hid hv8; clear hv8)
  obtain ⟨w8, rfl⟩ : ∃ W, W = v8 := ⟨_, rfl⟩
  have HW8 : Hid (Below w7.heap.size w7 w8) := HV8
  have HB8 := Lib.hid (below_step HB7.out HW8.out)
  have HX8 := Lib.hid (HX7.out.keep HW8.out)
  have HT8 := Lib.hid (HT7.out.keep HW8.out)
  have HR58 := Lib.hid ((HW8.out.block _ (Array.getElem?_eq_some_iff.1 HR57.out).1).trans HR57.out)
  have HR68 := Lib.hid ((HW8.out.block _ (Array.getElem?_eq_some_iff.1 HR67.out).1).trans HR67.out)
  go_upto_region 9 with (go_at_call 13; refine (sizes_calls t HF.out (some ⟨g, 0, none⟩) cap _ HX8.out).mono ?_; rintro _ v9 ⟨rfl, hv9⟩; replace k0 := cell_keep hv9 k0; replace k1 := cell_keep hv9 k1; replace m0 := cell_keep hv9 m0; replace m1 := cell_keep hv9 m1; have HV9 := Lib.hid hv9; clear hv9)
  obtain ⟨w9, rfl⟩ : ∃ W, W = v9 := ⟨_, rfl⟩
  have HW9 : Hid (Below w8.heap.size w8 w9) := HV9
  have HB9 := Lib.hid (below_step HB8.out HW9.out)
  have HX9 := Lib.hid (HX8.out.keep HW9.out)
  have HT9 := Lib.hid (HT8.out.keep HW9.out)
  have HR59 := Lib.hid ((HW9.out.block _ (Array.getElem?_eq_some_iff.1 HR58.out).1).trans HR58.out)
  have HR69 := Lib.hid ((HW9.out.block _ (Array.getElem?_eq_some_iff.1 HR68.out).1).trans HR68.out)
  go_upto_region 10 with (go_at_call 14; refine (refSizes_calls t HF.out A c _ (HA.out.keep HB9.out)).mono ?_; rintro _ v10 ⟨rfl, hv10⟩; replace k0 := cell_keep hv10 k0; replace k1 := cell_keep hv10 k1; replace m0 := cell_keep hv10 m0; replace m1 := cell_keep hv10 m1; have HV10 := Lib.hid hv10; clear hv10)
  obtain ⟨w10, rfl⟩ : ∃ W, W = v10 := ⟨_, rfl⟩
  have HW10 : Hid (Below w9.heap.size w9 w10) := HV10
  have HB10 := Lib.hid (below_step HB9.out HW10.out)
  have HX10 := Lib.hid (HX9.out.keep HW10.out)
  have HT10 := Lib.hid (HT9.out.keep HW10.out)
  have HR510 := Lib.hid ((HW10.out.block _ (Array.getElem?_eq_some_iff.1 HR59.out).1).trans HR59.out)
  have HR610 := Lib.hid ((HW10.out.block _ (Array.getElem?_eq_some_iff.1 HR69.out).1).trans HR69.out)
  obtain ⟨⟨p0, p1, p2, p3, p4, p5, p6, p7⟩, -⟩ := row8 HR510.out
  obtain ⟨⟨q0, q1, q2, q3, q4, q5, q6, q7⟩, -⟩ := row8 HR610.out
  have hl0 := World.block_lt_of_cell? _ _ k0
  have hl1 := World.block_lt_of_cell? _ _ m0
  dsimp only at hl0 hl1
  go_upto_region 12 with fail
  clear p0 p1 p2 p3 p4 p5 p6 p7 q0 q1 q2 q3 q4 q5 q6 q7
  refine wp_region_later (by kernel_rfl) (by kernel_rfl) ?_
  repeat (go_big_quiet_step ((first | (go_at_call 15; exact Calls.later (find_calls t HF.out n s (some ⟨g, 0, none⟩) cap _ (HX10.out.keep (Later.h _)))) | (go_at_call 16; exact Calls.later (refFind_calls t HF.out n s A c _ (HA.out.keep (below_step HB10.out (Later.h _))))) | (go_at_call 17; exact Calls.later (depth_calls t HF.out n (some ⟨g, 0, none⟩) cap _ (HX10.out.keep (Later.h _)))) | (go_at_call 18; exact Calls.later (refDepth_calls t HF.out n A c _ (HA.out.keep (below_step HB10.out (Later.h _))))) | (go_at_call 19; exact Calls.later (leftTree_calls t hsz.out.1 hsz.out.2 A c _ g cap _ (HA.out.keep (below_step HB10.out (Later.h _))) (HT10.out.keep (Later.h _)))) | (go_at_call 7; exact Calls.later (lives_calls _)))))
  refine wpQuiet_nil ?_
  intro wL hbL
  go_wp2
  go_ret
  exact ⟨rfl, below_step HB10.out hbL⟩
end Go.Proofs.Ytfoocjdnolplpaa
