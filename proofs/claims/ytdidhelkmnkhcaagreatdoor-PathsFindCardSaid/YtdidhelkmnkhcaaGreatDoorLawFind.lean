/- The law of PathsFind: it answers true. -/
import Derived.Test.YtdidhelkmnkhcaaGreatDoorLives14
import Derived.Test.YtdidhelkmnkhcaaGreatDoorGreat14
import Derived.Test.YtdidhelkmnkhcaaGreatDoorRefFind
import Derived.Test.YtdidhelkmnkhcaaGreatDoorM7
import Derived.Test.YtdidhelkmnkhcaaGreatDoorM8
namespace Go.Proofs.YtdidhelkmnkhcaaGreatDoor
open Go.RowKit
attribute [local go_sem] Later.cell_eq
theorem sizeSum_mem {l : List TNode} : ∀ {n : TNode}, n ∈ l → n.size ≤ sizeSum l l.length := by
  intro n hn
  unfold sizeSum
  rw [List.take_length]
  induction l with
  | nil => cases hn
  | cons a r ih =>
    rw [List.map_cons, List.sum_cons]
    rcases List.mem_cons.1 hn with rfl | h
    · omega
    · have := ih h; omega
theorem size_small {t : TTree} (h : t.size ≤ 100000) : t.nodes.length ≤ 1000000 ∧ ∀ n ∈ t.nodes, n.data.length ≤ 1000000 ∧ n.list.length ≤ 1000000 := by
  unfold TTree.size at h
  refine ⟨by omega, fun n hn => ?_⟩
  have := sizeSum_mem hn
  unfold TNode.size at this
  omega
def lookRow (A : Option Addr) (t : TTree) (c : Nat) (u g m e : Int) (s : ByteArray) (z : Bool) : Array Value := #[.slice A t.nodes.length c, .int .i64 t.now, .int .i64 u, .int .i64 g, .int .i64 m, .int .i64 e, .string s, .bool z]
structure LookAt (w : World) (b : Nat) (A : Option Addr) (t : TTree) (c : Nat) (u g m e : Int) (s : ByteArray) (z : Bool) : Prop where
  c0 : w.cell? ⟨b, 0, none⟩ = some (.slice A t.nodes.length c)
  c1 : w.cell? ⟨b, 1, none⟩ = some (.int .i64 t.now)
  c2 : w.cell? ⟨b, 2, none⟩ = some (.int .i64 u)
  c3 : w.cell? ⟨b, 3, none⟩ = some (.int .i64 g)
  c4 : w.cell? ⟨b, 4, none⟩ = some (.int .i64 m)
  c5 : w.cell? ⟨b, 5, none⟩ = some (.int .i64 e)
  c6 : w.cell? ⟨b, 6, none⟩ = some (.string s)
  c7 : w.cell? ⟨b, 7, none⟩ = some (.bool z)
theorem lookAt_of {w : World} {b : Nat} {A : Option Addr} {t : TTree} {c : Nat} {u g m e : Int} {s : ByteArray} {z : Bool} {ty : TypeId} (h : w.heap[b]? = some (.cells (lookRow A t c u g m e s z) ty (0, 0))) : LookAt w b A t c u g m e s z :=
  ⟨cell_of_row w b 0 _ _ _ h, cell_of_row w b 1 _ _ _ h, cell_of_row w b 2 _ _ _ h, cell_of_row w b 3 _ _ _ h, cell_of_row w b 4 _ _ _ h, cell_of_row w b 5 _ _ _ h, cell_of_row w b 6 _ _ _ h, cell_of_row w b 7 _ _ _ h⟩
theorem LookAt.keep {w w' : World} {b : Nat} {A : Option Addr} {t : TTree} {c : Nat} {u g m e : Int} {s : ByteArray} {z : Bool} (h : LookAt w b A t c u g m e s z) (hb : Below w.heap.size w w') : LookAt w' b A t c u g m e s z :=
  ⟨cell_keep hb h.c0, cell_keep hb h.c1, cell_keep hb h.c2, cell_keep hb h.c3, cell_keep hb h.c4, cell_keep hb h.c5, cell_keep hb h.c6, cell_keep hb h.c7⟩
set_option maxHeartbeats 4000000 in
set_option maxRecDepth 100000 in
theorem lawFind_calls (t : TTree) (hF : t.Fits) (A : Option Addr) (c : Nat) (u g m e : Int) (p : ByteArray) (z : Bool) (hX : I64 u ∧ I64 g ∧ I64 m ∧ I64 e ∧ p.size ≤ 140737488355328) (w : World) (hA : NodesAt w A t.nodes) :
    Calls Tryz.prog 4 #[.agg #[.slice A t.nodes.length c, .int .i64 t.now, .int .i64 u, .int .i64 g, .int .i64 m, .int .i64 e, .string p, .bool z]] w fun e w' => e = .returned (.bool true) ∧ Below w.heap.size w w' := by
  have hp := hX.2.2.2.2
  have HF := Lib.hid hF
  have HA := Lib.hid hA
  clear hF hA hX
  have HR0 : Hid ((w.alloc (.cells (lookRow A t c u g m e p z) 50)).heap[w.heap.size]? = some (.cells (lookRow A t c u g m e p z) 50 (0, 0))) := Lib.hid (heap_alloc_new w _)
  obtain ⟨D, nm, nd, b, kk, hR⟩ := find_shape t u g m e p.data.toList z
  have HR := Lib.hid hR
  clear hR
  go_enter Tryz.func4, Tryz.ntmps4
  go_upto_region 3 with (first
    | (go_at_call 15; refine (lives14_calls _).mono ?_; rintro _ w7 ⟨rfl, hb7⟩; have HB7 := Lib.hid (below_step HB1.out hb7); clear hb7)
    | (go_at_call 14; refine (great14_calls t HF.out p hp A c _ (HA.out.keep (below_alloc (Below.refl _ _) _))).mono ?_; rintro _ w1 ⟨bb, ⟨rfl, hbq⟩, hb1⟩; have HQ := Lib.hid hbq; clear hbq; replace HR0 := Lib.hid (row_keep HR0.out hb1); have HB1 := Lib.hid (below_step (below_alloc (Below.refl _ _) _) hb1); clear hb1; cases bb))
  all_goals try (go_ret; exact ⟨rfl, HB7.out⟩)
  have hsz := Lib.hid (size_small (HQ.out (by first | rfl | trivial)).1)
  clear HQ
  obtain ⟨bx, hbx⟩ : ∃ x, x = w.heap.size := ⟨_, rfl⟩
  rw [← hbx] at HR0
  rw [← hbx]
  clear hbx
  have HL := Lib.hid (lookAt_of HR0.out)
  clear HR0
  have y0 := HL.out.c0
  have y1 := HL.out.c1
  have y2 := HL.out.c2
  have y3 := HL.out.c3
  have y4 := HL.out.c4
  have y5 := HL.out.c5
  have y6 := HL.out.c6
  have y7 := HL.out.c7
  go_upto_region 4 with (go_at_call 16; refine (twinTree_calls t hsz.out.1 hsz.out.2 A c _ (HA.out.keep HB1.out)).mono ?_; rintro _ w3 ⟨gt, cap, ⟨rfl, hT⟩, hb3⟩; replace HL := Lib.hid (HL.out.keep hb3); have HB := Lib.hid (below_step HB1.out hb3); have HT := Lib.hid hT; clear hb3 hT)
  clear y0 y1 y2 y3 y4 y5 y6 y7 HB1
  obtain ⟨w4, hw4⟩ : ∃ x, x = w3.alloc (.cells #[.slice (some ⟨gt, 0, none⟩) t.nodes.length cap, .int .i64 t.now] 38) := ⟨_, rfl⟩
  have hal4 : Below w3.heap.size w3 w4 := by rw [hw4]; exact below_alloc (Below.refl _ _) _
  have HM : Hid (w4.heap[w3.heap.size]? = some (.cells #[.slice (some ⟨gt, 0, none⟩) t.nodes.length cap, .int .i64 t.now] 38 (0, 0))) := Lib.hid (by rw [hw4]; exact heap_alloc_new _ _)
  rw [← hw4]
  clear hw4
  replace HL := Lib.hid (HL.out.keep hal4)
  replace HT := Lib.hid (HT.out.keep hal4)
  replace HB := Lib.hid (below_step HB.out hal4)
  obtain ⟨bm, hbm⟩ : ∃ x, x = w3.heap.size := ⟨_, rfl⟩
  rw [← hbm] at HM
  rw [← hbm]
  clear hbm hal4
  have y0 := HL.out.c0
  have y1 := HL.out.c1
  have y2 := HL.out.c2
  have y3 := HL.out.c3
  have y4 := HL.out.c4
  have y5 := HL.out.c5
  have y6 := HL.out.c6
  have y7 := HL.out.c7
  obtain ⟨⟨m0, m1⟩, -⟩ := row2 HM.out
  go_upto_region 5 with (go_at_call 17; refine (find_lit_calls t HF.out u g m e p z D nm nd b kk HR.out _ cap _ HT.out.nodes).mono ?_; rintro _ wq ⟨rfl, hbq⟩; replace HL := Lib.hid (HL.out.keep hbq); replace HM := Lib.hid (row_keep HM.out hbq); replace HT := Lib.hid (HT.out.keep hbq); replace HB := Lib.hid (below_step HB.out hbq); clear hbq)
  clear y0 y1 y2 y3 y4 y5 y6 y7 m0 m1
  obtain ⟨wn, hwn⟩ : ∃ x, x = wq.alloc (.cells #[.int .i64 D, .string nm, .int .i64 nd, .bool b] 54) := ⟨_, rfl⟩
  have hal : Below wq.heap.size wq wn := by rw [hwn]; exact below_alloc (Below.refl _ _) _
  have p1 : Hid (wn.heap[wq.heap.size]? = some (.cells #[.int .i64 D, .string nm, .int .i64 nd, .bool b] 54 (0, 0))) := Lib.hid (by rw [hwn]; exact heap_alloc_new _ _)
  rw [← hwn]
  clear hwn
  replace HL := Lib.hid (HL.out.keep hal)
  replace HM := Lib.hid (row_keep HM.out hal)
  replace HT := Lib.hid (HT.out.keep hal)
  replace HB := Lib.hid (below_step HB.out hal)
  skip
  obtain ⟨b1, hbq⟩ : ∃ x, x = wq.heap.size := ⟨_, rfl⟩
  rw [← hbq] at p1
  rw [← hbq]
  clear hbq hal
  have y0 := HL.out.c0
  have y1 := HL.out.c1
  have y2 := HL.out.c2
  have y3 := HL.out.c3
  have y4 := HL.out.c4
  have y5 := HL.out.c5
  have y6 := HL.out.c6
  have y7 := HL.out.c7
  go_upto_region 6 with (go_at_call 18; refine (refFind_lit_calls t HF.out u g m e p hp z D nm nd b kk HR.out A c _ (HA.out.keep HB.out)).mono ?_; rintro _ wq ⟨rfl, hbq⟩; replace HL := Lib.hid (HL.out.keep hbq); replace HM := Lib.hid (row_keep HM.out hbq); replace HT := Lib.hid (HT.out.keep hbq); replace p1 := Lib.hid (row_keep p1.out hbq); replace HB := Lib.hid (below_step HB.out hbq); clear hbq)
  clear y0 y1 y2 y3 y4 y5 y6 y7
  obtain ⟨wn, hwn⟩ : ∃ x, x = wq.alloc (.cells #[.int .i64 D, .string nm, .int .i64 nd, .bool b] 58) := ⟨_, rfl⟩
  have hal : Below wq.heap.size wq wn := by rw [hwn]; exact below_alloc (Below.refl _ _) _
  have p2 : Hid (wn.heap[wq.heap.size]? = some (.cells #[.int .i64 D, .string nm, .int .i64 nd, .bool b] 58 (0, 0))) := Lib.hid (by rw [hwn]; exact heap_alloc_new _ _)
  rw [← hwn]
  clear hwn
  replace HL := Lib.hid (HL.out.keep hal)
  replace HM := Lib.hid (row_keep HM.out hal)
  replace HT := Lib.hid (HT.out.keep hal)
  replace HB := Lib.hid (below_step HB.out hal)
  replace p1 := Lib.hid (row_keep p1.out hal)
  obtain ⟨b2, hbq⟩ : ∃ x, x = wq.heap.size := ⟨_, rfl⟩
  rw [← hbq] at p2
  rw [← hbq]
  clear hbq hal
  have y0 := HL.out.c0
  have y1 := HL.out.c1
  have y2 := HL.out.c2
  have y3 := HL.out.c3
  have y4 := HL.out.c4
  have y5 := HL.out.c5
  have y6 := HL.out.c6
  have y7 := HL.out.c7
  obtain ⟨⟨m0, m1⟩, -⟩ := row2 HM.out
  obtain ⟨a0, a1, a2, a3⟩ := row4 p1.out
  obtain ⟨q0, q1, q2, q3⟩ := row4 p2.out
  go_wp2_with (first
    | (go_at_call 15; refine (lives14_calls _).mono ?_; rintro _ w7 ⟨rfl, hb7⟩; have HB7 := Lib.hid (below_step HB.out hb7); clear hb7)
    | (go_at_call 19; refine (leftTree_calls t hsz.out.1 hsz.out.2 A c _ gt cap _ (HA.out.keep HB.out) HT.out).mono ?_; rintro _ w8 ⟨rfl, hb8⟩; replace HB := Lib.hid (below_step HB.out hb8); clear hb8))
  go_ret
  exact ⟨rfl, HB7.out⟩
end Go.Proofs.YtdidhelkmnkhcaaGreatDoor
