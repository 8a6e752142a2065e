/- tree.New, the laws' small tree. -/
/- The small trees of 'lives', plain. -/
import Derived.Test.YtbfcfjgcmideeaaGreatDoorS1
import Derived.Maps.AppendAt
import Derived.Lib.SlBytesConst
namespace Go.Proofs.YtbfcfjgcmideeaaGreatDoor
open Go.RowKit
attribute [local go_sem] Later.cell_eq
def node0 : Array Value := #[.int .u8 0, .int .i64 0, .int .i64 0, .int .i64 0, .int .i64 0, .int .i64 0, .slice none 0 0, .string ⟨#[]⟩, .slice none 0 0, .int .i64 0]
def nodeR (L : Value) (links : Int) : Array Value := #[.int .u8 2, .int .i64 493, .int .i64 0, .int .i64 0, .int .i64 links, .int .i64 0, .slice none 0 0, .string ⟨#[]⟩, L, .int .i64 1]
set_option maxHeartbeats 2000000 in
set_option maxRecDepth 100000 in
theorem new_calls (w : World) :
    Calls Tryz.prog 119 #[] w fun e w' => ∃ b, (e = .returned (.agg #[.slice (some ⟨b, 0, none⟩) 2 2, .int .i64 0]) ∧ w.heap.size ≤ b ∧ w'.heap[b]? = some (.cells (node0 ++ nodeR (.slice none 0 0) 2) 80 (0, 0))) ∧ Below w.heap.size w w' := by
  go_enter Tryz.func119, Tryz.ntmps119
  go_wp2
  have h1 : (((w.alloc (.cells #[.slice (some ⟨w.heap.size + 1, 0, none⟩) 2 2, .int .i64 0] 24)).alloc (.cells (node0 ++ nodeR (.slice none 0 0) 2) 80))).heap[w.heap.size]? = some (.cells #[.slice (some ⟨w.heap.size + 1, 0, none⟩) 2 2, .int .i64 0] 24 (0, 0)) := by
    exact (Below.heap_alloc _ _ _ (by simp)).trans (heap_alloc_new _ _)
  refine bodyPost_ret (results_cell rfl rfl (run_loadVar_row (P := Tryz.prog) _ _ _ 24 _ _ _ h1 Tryz.underlying24 rfl (by kernel_rfl))) rfl ?_
  exact ⟨w.heap.size + 1, ⟨rfl, by omega, heap_alloc2_new _ _ _⟩, (by repeat (first | exact Below.refl _ _ | assumption | refine Below.drew ?_ | refine below_drewN ?_ _ | refine below_alloc ?_ _ | refine below_set ?_ (by simp) _ | refine below_step ?_ (by assumption)))⟩
theorem news_row {w : World} {g : Nat} {arr : Array Value} {ty : TypeId} (h : w.heap[g]? = some (.cells arr ty (0, 0))) : ∀ (j : Nat) u, arr.toList[j]? = some u → w.cell? ((⟨g, 0, none⟩ : Addr).add j) = some u := by
  intro j u hj
  have hadd : (⟨g, 0, none⟩ : Addr).add j = ⟨g, j, none⟩ := by unfold Addr.add; split <;> simp_all
  rw [hadd, cell_of_row w g j _ _ _ h]
  simpa using hj
theorem heap_alloc_at {w : World} {g : Nat} (h : g = w.heap.size) (o : Obj) : (w.alloc o).heap[g]? = some o := h ▸ heap_alloc_new w o
theorem heap_alloc_lt {w : World} {g : Nat} {x : Obj} (h : w.heap[g]? = some x) (o : Obj) : (w.alloc o).heap[g]? = some x := (Below.heap_alloc _ _ _ (Array.getElem?_eq_some_iff.1 h).1).trans h
theorem conv_bytes (w : World) (C : Array Value) (n c g : Nat) (hg : w.heap.size = g) :
    (convert 69 69 (.slice (some ⟨g, 0, none⟩) n c)).run Tryz.prog (w.alloc (.cells C 5)) = .ok (.slice (some ⟨g, 0, none⟩) n c) (w.alloc (.cells C 5 (C.size, C.size + 1))) := hg ▸ Lib.run_convert_bytes_const (P := Tryz.prog) w 69 5 C n c Tryz.underlying69 Tryz.underlying5
theorem node_info : (Tryz.prog.info? 80).map (fun i => (i.zero, i.size, i.bytes)) = some (some (.agg node0), 10, 120) := by kernel_rfl
def node2 (L : Value) : Array Value := #[.int .u8 2, .int .i64 493, .int .i64 0, .int .i64 0, .int .i64 2, .int .i64 0, .slice none 0 0, .string ⟨#[]⟩, L, .int .i64 1]
def node3 (D : Value) : Array Value := #[.int .u8 1, .int .i64 420, .int .i64 0, .int .i64 0, .int .i64 1, .int .i64 0, D, .string ⟨#[]⟩, .slice none 0 0, .int .i64 0]
theorem owns20 {W : World} {b base : Nat} {L : Value} (h : W.heap[b]? = some (.cells (node0 ++ nodeR L 3) 80 (0, 0))) (hb : base ≤ b) :
    W.ownsRow base 80 10 (.slice (some ⟨b, 0, none⟩) 2 2) 2 (node0 ++ nodeR L 3).toList :=
  ⟨by simp [node0, nodeR], .inr ⟨b, 2, _, rfl, hb, h, Nat.le_refl _, by unfold maxLen; omega, by simp [node0, nodeR], by simp [node0, nodeR]⟩⟩
def smallT : TTree := ⟨[zNode, ⟨2, 493, 0, 0, 3, 0, [], ⟨#[]⟩, [⟨⟨#[97]⟩, 2⟩], 1⟩, ⟨2, 493, 0, 0, 2, 0, [], ⟨#[]⟩, [⟨⟨#[98]⟩, 3⟩], 1⟩, ⟨1, 420, 0, 0, 1, 0, [104, 101, 108, 108, 111], ⟨#[]⟩, [], 0⟩], 0⟩
theorem sub_get {L vs : List Value} {k j : Nat} {v : Value} (h : (L.drop k).take vs.length = vs) (hj : vs[j]? = some v) : L[k + j]? = some v := by
  rw [← h, List.getElem?_take] at hj
  split at hj
  · simpa using hj
  · cases hj
theorem ents_one {W : World} {b : Nat} {s : ByteArray} {n : Int} {ty : TypeId} (h : W.heap[b]? = some (.cells #[.string s, .int .i64 n] ty (0, 0))) : EntsAt W (some ⟨b, 0, none⟩) [⟨s, n⟩] := fun k e hk => by
  match k, hk with
  | 0, hk =>
    cases hk
    exact ⟨b, 0, rfl, (cell_of_row W b 0 _ _ (0, 0) h).trans rfl, (cell_of_row W b 1 _ _ (0, 0) h).trans rfl⟩
theorem ents_nil (W : World) (A : Option Addr) : EntsAt W A [] := fun k e hk => by simp at hk
theorem bytes_nil (W : World) (A : Option Addr) : BytesAt W A [] := fun k e hk => by simp at hk
theorem bytes_row {W : World} {b : Nat} {l : List Int} {ty : TypeId} {fr : Nat × Nat} (h : W.heap[b]? = some (.cells (l.map (Value.int .u8)).toArray ty fr)) : BytesAt W (some ⟨b, 0, none⟩) l := fun k x hk =>
  ⟨b, 0, rfl, by rw [cell_of_row W b (0 + k) _ _ _ h]; simp [hk]⟩
theorem small_at {W : World} {g b1 b2 b3 : Nat} {cur : Array Value} {ty te tb : TypeId} (hg : W.heap[g]? = some (.cells cur ty (0, 0)))
    (htk : List.take ((2 + 2) * 10) cur.toList = (node0 ++ nodeR (.slice (some ⟨b1, 0, none⟩) 1 1) 3).toList ++ (node2 (.slice (some ⟨b2, 0, none⟩) 1 1) ++ node3 (.slice (some ⟨b3, 0, none⟩) 5 5)).toList)
    (h2 : W.heap[b1]? = some (.cells #[.string ⟨#[97]⟩, .int .i64 2] te (0, 0))) (h3 : W.heap[b2]? = some (.cells #[.string ⟨#[98]⟩, .int .i64 3] te (0, 0)))
    (h4 : W.heap[b3]? = some (.cells #[.int .u8 104, .int .u8 101, .int .u8 108, .int .u8 108, .int .u8 111] tb (5, 6))) : NodesAt W (some ⟨g, 0, none⟩) smallT.nodes := by
  have hc : ∀ (k : Nat) v, (List.take ((2 + 2) * 10) cur.toList)[k]? = some v → W.cell? ⟨g, k, none⟩ = some v := fun k v h => by
    rw [cell_of_row W g k _ _ _ hg]
    rw [List.getElem?_take] at h
    split at h
    · simpa using h
    · cases h
  rw [htk] at hc
  have hs : ∀ (vs : List Value) (k : Nat), (((node0 ++ nodeR (.slice (some ⟨b1, 0, none⟩) 1 1) 3).toList ++ (node2 (.slice (some ⟨b2, 0, none⟩) 1 1) ++ node3 (.slice (some ⟨b3, 0, none⟩) 5 5)).toList).drop k).take vs.length = vs → ∀ (j : Nat) v, vs[j]? = some v → W.cell? ⟨g, k + j, none⟩ = some v :=
    fun vs k h j v hj => hc _ _ (sub_get h hj)
  intro i n hi
  match i, hi with
  | 0, hi =>
    cases hi
    exact ⟨g, 0, node0.toList, rfl, ⟨none, 0, none, 0, rfl, Nat.le_refl _, bytes_nil _ _, Nat.le_refl _, ents_nil _ _⟩, hs _ 0 rfl⟩
  | 1, hi =>
    cases hi
    exact ⟨g, 0, (nodeR (.slice (some ⟨b1, 0, none⟩) 1 1) 3).toList, rfl, ⟨none, 0, _, 1, rfl, Nat.le_refl _, bytes_nil _ _, Nat.le_refl _, ents_one h2⟩, hs _ 10 rfl⟩
  | 2, hi =>
    cases hi
    exact ⟨g, 0, (node2 (.slice (some ⟨b2, 0, none⟩) 1 1)).toList, rfl, ⟨none, 0, _, 1, rfl, Nat.le_refl _, bytes_nil _ _, Nat.le_refl _, ents_one h3⟩, hs _ 20 rfl⟩
  | 3, hi =>
    cases hi
    exact ⟨g, 0, (node3 (.slice (some ⟨b3, 0, none⟩) 5 5)).toList, rfl, ⟨_, 5, none, 0, rfl, Nat.le_refl _, bytes_row (l := [104, 101, 108, 108, 111]) h4, Nat.le_refl _, ents_nil _ _⟩, hs _ 30 rfl⟩
/-- The small tree's memory, all of it new: the nodes' block g, the two lists' blocks, the bytes' block. -/
structure SmallMem (W : World) (B g cap b1 b2 b3 : Nat) (cur : Array Value) : Prop where
  gB : B ≤ g
  hg : W.heap[g]? = some (.cells cur 80 (0, 0))
  c4 : 4 ≤ cap
  cm : cap ≤ maxLen
  cs : cur.size = cap * 10
  tk : List.take ((2 + 2) * 10) cur.toList = (node0 ++ nodeR (.slice (some ⟨b1, 0, none⟩) 1 1) 3).toList ++ (node2 (.slice (some ⟨b2, 0, none⟩) 1 1) ++ node3 (.slice (some ⟨b3, 0, none⟩) 5 5)).toList
  h1 : W.heap[b1]? = some (.cells #[.string ⟨#[97]⟩, .int .i64 2] 162 (0, 0))
  h2 : W.heap[b2]? = some (.cells #[.string ⟨#[98]⟩, .int .i64 3] 162 (0, 0))
  h3 : W.heap[b3]? = some (.cells #[.int .u8 104, .int .u8 101, .int .u8 108, .int .u8 108, .int .u8 111] 5 (5, 6))
  B1 : B ≤ b1
  B2 : B ≤ b2
  B3 : B ≤ b3
  n1 : g ≠ b1
  n2 : g ≠ b2
  n3 : g ≠ b3
  m2 : b2 ≠ b1
  m3 : b3 ≠ b1
set_option maxHeartbeats 2000000 in
set_option maxRecDepth 100000 in
theorem small_mem_calls (w : World) :
    Calls Tryz.prog 59 #[] w fun e w' => ∃ g cap b1 b2 b3 cur, (e = .returned (.agg #[.slice (some ⟨g, 0, none⟩) 4 cap, .int .i64 0]) ∧ SmallMem w' w.heap.size g cap b1 b2 b3 cur) ∧ Below w.heap.size w w' := by
  go_enter Tryz.func59, Tryz.ntmps59
  go_upto_region 4 with (go_at_call 119; refine (new_calls _).mono ?_; rintro _ w1 ⟨b, ⟨rfl, hbb, hrow⟩, hb1⟩)
  have hbl : b < w1.heap.size := (Array.getElem?_eq_some_iff.1 hrow).1
  have c14 : w1.cell? ⟨b, 14, none⟩ = some (.int .i64 2) := (cell_of_row w1 b 14 _ _ (0, 0) hrow).trans rfl
  have c18 : w1.cell? ⟨b, 18, none⟩ = some (.slice none 0 0) := (cell_of_row w1 b 18 _ _ (0, 0) hrow).trans rfl
  have f14 := frozen_of_row w1 b 14 _ _ hrow
  have f18 := frozen_of_row w1 b 18 _ _ hrow
  go_upto_region 6 with fail
  obtain ⟨wx, hwx⟩ : ∃ wx, wx = ((w1.setCell ⟨b, 18, none⟩ (.slice (some ⟨w1.heap.size + 1, 0, none⟩) 1 1)).setCell ⟨b, 14, none⟩ (.int .i64 3)) := ⟨_, rfl⟩
  rw [← hwx]
  have hsx : wx.heap.size = w1.heap.size := by rw [hwx]; simp [World.setCell]
  have hrx : wx.heap[b]? = some (.cells (node0 ++ nodeR (.slice (some ⟨w1.heap.size + 1, 0, none⟩) 1 1) 3) 80 (0, 0)) := by
    rw [hwx]; simp [World.setCell, Array.getElem?_modify, hrow, node0, nodeR]
  have hsb : w.heap.size + 1 ≤ b := by simpa using hbb
  have hr0 : w1.heap[w.heap.size]? = some (.cells #[.slice none 0 0, .int .i64 0] 24 (0, 0)) := (hb1.block _ (by simp)).trans (heap_alloc_new _ _)
  have hr0x : wx.heap[w.heap.size]? = some (.cells #[.slice none 0 0, .int .i64 0] 24 (0, 0)) := by
    rw [hwx, Below.heap_setCell _ _ _ _ (by dsimp only; omega), Below.heap_setCell _ _ _ _ (by dsimp only; omega)]; exact hr0
  have hbx : Below w.heap.size w wx := by
    rw [hwx]; exact ((below_step (below_alloc (Below.refl _ _) _) hb1).setCell (by dsimp only; omega) _).setCell (by dsimp only; omega) _
  clear hwx hr0 hrow c14 c18 f14 f18 hbb hb1
  obtain ⟨i0, hi, hz0, hz1, hz2⟩ := info_parts node_info
  have HW := Lib.hid hrx
  have kc := conv_bytes
  clear hrx
  go_upto_region 7 with (at_builtin; refine wpList_append_own_at _ rfl _ _ 22 rfl (w.heap.size + 1) 80 i0 (.agg node0) 10 120 Tryz.underlying22 hi hz0 hz1 hz2 rfl (by decide) (.slice (some ⟨b, 0, none⟩) 2 2) 2 (node0 ++ nodeR (.slice (some ⟨w1.heap.size + 1, 0, none⟩) 1 1) 3).toList rfl ?c0 ⟨w1.heap.size + 1 + 1 + 1 + 1, 0, none⟩ 2 2 (node2 (.slice (some ⟨w1.heap.size + 1 + 1, 0, none⟩) 1 1) ++ node3 (.slice (some ⟨w1.heap.size + 1 + 1 + 1, 0, none⟩) 5 5)).toList rfl rfl ?c1 ?c2 ?c3 ?c4 ?c5 ?_; (case c0 => exact owns20 (heap_alloc_lt (heap_alloc_lt (heap_alloc_lt (heap_alloc_lt (heap_alloc_lt HW.out _) _) _) _) _) hsb); (case c1 => exact news_row (heap_alloc_at (by simp [hsx]) _)); (case c2 => simp [node2, node3, Value.oneCell']); (case c3 => unfold maxLen; omega); (case c4 => omega); (case c5 => simp [hsx]; omega); intro v' w4 hown4 hgrow _ hat; obtain ⟨hl4, ⟨-, h04⟩ | ⟨g, cap, cur, rfl, hgb, hgh, hgc, hgm, hgs, htk⟩⟩ := hown4; exact absurd h04 (by decide); have hat2 : g = b ∨ g = w1.heap.size + 5 := (by simpa [Value.ownBlock, hsx] using hat); replace hgh := Lib.hid hgh; replace htk := Lib.hid htk; clear hat hl4; have h9 := Lib.hid (fun k (h : k < w1.heap.size + 5) (h2 : k ≠ b) => hgrow.block k (by simp [hsx]; omega) (by simpa [Value.ownBlock] using h2)); have hb9 := Lib.hid hgrow; clear hgrow; have q0 : w4.heap[w.heap.size]? = some (.cells #[.slice none 0 0, .int .i64 0] 24 (0, 0)) := (h9.out _ (by omega) (by omega)).trans (heap_alloc_lt (heap_alloc_lt (heap_alloc_lt (heap_alloc_lt (heap_alloc_lt hr0x _) _) _) _) _); have q1 : w4.heap[w1.heap.size]? = some (.cells #[.slice (some ⟨b, 0, none⟩) 2 2, .int .i64 0] 24 (0, 0)) := (h9.out _ (by omega) (by omega)).trans (heap_alloc_lt (heap_alloc_lt (heap_alloc_lt (heap_alloc_lt (heap_alloc_at hsx.symm _) _) _) _) _); have q2 : Hid (w4.heap[w1.heap.size + 1]? = some (.cells #[.string ⟨#[97]⟩, .int .i64 2] 162 (0, 0))) := (h9.out _ (by omega) (by omega)).trans (heap_alloc_lt (heap_alloc_lt (heap_alloc_lt (heap_alloc_at (by simp [hsx]) _) _) _) _); have q3 : Hid (w4.heap[w1.heap.size + 2]? = some (.cells #[.string ⟨#[98]⟩, .int .i64 3] 162 (0, 0))) := (h9.out _ (by omega) (by omega)).trans (heap_alloc_lt (heap_alloc_lt (heap_alloc_at (by simp [hsx]) _) _) _); have q4 : Hid (w4.heap[w1.heap.size + 3]? = some (.cells #[.int .u8 104, .int .u8 101, .int .u8 108, .int .u8 108, .int .u8 111] 5 (5, 6))) := (h9.out _ (by omega) (by omega)).trans (heap_alloc_lt (heap_alloc_at (by simp [hsx]) _) _); have hbw4 : Hid (Below w.heap.size w w4) := (below_alloc (below_alloc (below_alloc (below_alloc (below_alloc hbx _) _) _) _) _).grown hb9.out (by simp [hsx]; omega) (fun k hk => by simp [Value.ownBlock] at hk; omega); obtain ⟨⟨p0, p1⟩, pf0, pf1, pl0⟩ := row2 q0; obtain ⟨⟨r0, r1⟩, rf0, rf1, rl0⟩ := row2 q1; replace q0 := Lib.hid q0; replace q1 := Lib.hid q1)
  clear h9 hb9 HW hr0x hbx kc
  have hkn : w1.heap.size ≠ w.heap.size := by omega
  go_wp2
  have hfar : ∀ k, k ≠ w1.heap.size → k ≠ w.heap.size → (((w4.setCell ⟨w1.heap.size, 0, none⟩ (.slice (some ⟨g, 0, none⟩) 4 cap)).setCell ⟨w.heap.size, 0, none⟩ (.slice (some ⟨g, 0, none⟩) 4 cap)).setCell ⟨w.heap.size, 1, none⟩ (.int .i64 0)).heap[k]? = w4.heap[k]? := fun k h1 h2 => by
    rw [Below.heap_setCell _ _ _ _ h2, Below.heap_setCell _ _ _ _ h2, Below.heap_setCell _ _ _ _ h1]
  have hF0 : (((w4.setCell ⟨w1.heap.size, 0, none⟩ (.slice (some ⟨g, 0, none⟩) 4 cap)).setCell ⟨w.heap.size, 0, none⟩ (.slice (some ⟨g, 0, none⟩) 4 cap)).setCell ⟨w.heap.size, 1, none⟩ (.int .i64 0)).heap[w.heap.size]? = some (.cells #[.slice (some ⟨g, 0, none⟩) 4 cap, .int .i64 0] 24 (0, 0)) := by
    simp [World.setCell, Array.getElem?_modify, q0.out, hkn]
  refine bodyPost_ret (results_cell rfl rfl (run_loadVar_row (P := Tryz.prog) _ _ _ 24 _ _ _ hF0 Tryz.underlying24 rfl (by kernel_rfl))) rfl ?_
  refine ⟨g, cap, w1.heap.size + 1, w1.heap.size + 2, w1.heap.size + 3, cur, ⟨rfl, ⟨by omega, (hfar g (by omega) (by omega)).trans hgh.out, hgc, hgm, hgs, htk.out, (hfar _ (by omega) (by omega)).trans q2.out, (hfar _ (by omega) (by omega)).trans q3.out, (hfar _ (by omega) (by omega)).trans q4.out, by omega, by omega, by omega, by omega, by omega, by omega, by omega, by omega⟩⟩, ?_⟩
  exact ((hbw4.out.setCell (by dsimp only; omega) _).setCell (Nat.le_refl _) _).setCell (Nat.le_refl _) _
theorem small_calls (w : World) :
    Calls Tryz.prog 59 #[] w fun e w' => ∃ A c, (e = .returned (.agg #[.slice A smallT.nodes.length c, .int .i64 smallT.now]) ∧ NodesAt w' A smallT.nodes) ∧ Below w.heap.size w w' :=
  (small_mem_calls w).mono fun _ _ ⟨g, cap, _, _, _, _, ⟨he, h⟩, hb⟩ => ⟨some ⟨g, 0, none⟩, cap, ⟨he, small_at h.hg h.tk h.h1 h.h2 h.h3⟩, hb⟩
end Go.Proofs.YtbfcfjgcmideeaaGreatDoor
namespace Go.Proofs.YtbfcfjgcmideeaaGreatDoor
def newT : TTree := ⟨[zNode, ⟨2, 493, 0, 0, 2, 0, [], ⟨#[]⟩, [], 1⟩], 0⟩
def noT : TTree := ⟨[], 0⟩
theorem name_a : nameOK ⟨#[97]⟩ = true := by rw [nameOK, ByteArray.toList_eq]; decide
theorem name_b : nameOK ⟨#[98]⟩ = true := by rw [nameOK, ByteArray.toList_eq]; decide
theorem small_lists : ∀ i n, smallT.nodes[i]? = some n → listOK smallT i n := fun i n hi => by
  match i, hi with
  | 0, hi => cases hi; intro j e hj; exact absurd hj (Nat.not_lt_zero _)
  | 1, hi =>
    cases hi
    intro j e hj he
    match j, he with
    | 0, he => cases he; exact ⟨name_a, fun q hq => by simp at hq, by decide, by decide, by decide, fun _ => by decide⟩
  | 2, hi =>
    cases hi
    intro j e hj he
    match j, he with
    | 0, he => cases he; exact ⟨name_b, fun q hq => by simp at hq, by decide, by decide, by decide, fun h => absurd h (by decide)⟩
  | 3, hi => cases hi; intro j e hj; exact absurd hj (Nat.not_lt_zero _)
theorem small_links : ∀ i n, smallT.nodes[i]? = some n → linkOK smallT i n := fun i n hi => by
  match i, hi with
  | 0, hi => cases hi; exact ⟨fun h => absurd h (by decide), fun h => absurd h (by decide)⟩
  | 1, hi => cases hi; exact ⟨fun _ => ⟨by decide, fun h => absurd h (by decide), by decide⟩, fun h => absurd h (by decide)⟩
  | 2, hi => cases hi; exact ⟨fun _ => ⟨by decide, fun _ => by decide, by decide⟩, fun h => absurd h (by decide)⟩
  | 3, hi => cases hi; exact ⟨fun h => absurd h (by decide), fun _ => ⟨by decide, by decide⟩⟩
theorem small_ok : TreeOK smallT := ⟨⟨by decide, by decide, by decide, by decide, by decide, by decide, by decide, by decide⟩, by decide, small_lists, by decide, by decide, small_links⟩
theorem new_ok : TreeOK newT := ⟨⟨by decide, by decide, by decide, by decide, by decide, by decide, by decide, by decide⟩, by decide, fun i n hi => by
  match i, hi with
  | 0, hi => cases hi; intro j e hj; exact absurd hj (Nat.not_lt_zero _)
  | 1, hi => cases hi; intro j e hj; exact absurd hj (Nat.not_lt_zero _), by decide, by decide, fun i n hi => by
  match i, hi with
  | 0, hi => cases hi; exact ⟨fun h => absurd h (by decide), fun h => absurd h (by decide)⟩
  | 1, hi => cases hi; exact ⟨fun _ => ⟨by decide, fun h => absurd h (by decide), by decide⟩, fun h => absurd h (by decide)⟩⟩
theorem no_ok : ¬ TreeOK noT := fun h => absurd h.head.two (by decide)
theorem small_fits : smallT.Fits := by
  refine ⟨by decide, ?_, by unfold I64; decide⟩
  intro n hn
  have h : n ∈ [zNode, ⟨2, 493, 0, 0, 3, 0, [], ⟨#[]⟩, [⟨⟨#[97]⟩, 2⟩], 1⟩, ⟨2, 493, 0, 0, 2, 0, [], ⟨#[]⟩, [⟨⟨#[98]⟩, 3⟩], 1⟩, ⟨1, 420, 0, 0, 1, 0, [104, 101, 108, 108, 111], ⟨#[]⟩, [], 0⟩] := hn
  simp only [List.mem_cons, List.not_mem_nil, or_false] at h
  rcases h with rfl | rfl | rfl | rfl <;> refine ⟨by decide, by unfold I64; decide, by unfold I64; decide, by unfold I64; decide, by unfold I64; decide, by unfold I64; decide, by unfold I64; decide, by decide, by decide, by decide, fun e he => ?_⟩
  · cases he
  · rcases List.mem_singleton.1 he with rfl; exact ⟨by decide, by unfold I64; decide⟩
  · rcases List.mem_singleton.1 he with rfl; exact ⟨by decide, by unfold I64; decide⟩
  · cases he
theorem new_fits : newT.Fits := by
  refine ⟨by decide, ?_, by unfold I64; decide⟩
  intro n hn
  have h : n ∈ [zNode, ⟨2, 493, 0, 0, 2, 0, [], ⟨#[]⟩, [], 1⟩] := hn
  simp only [List.mem_cons, List.not_mem_nil, or_false] at h
  rcases h with rfl | rfl <;> refine ⟨by decide, by unfold I64; decide, by unfold I64; decide, by unfold I64; decide, by unfold I64; decide, by unfold I64; decide, by unfold I64; decide, by decide, by decide, by decide, fun e he => ?_⟩
  · cases he
  · cases he
theorem no_fits : noT.Fits := ⟨by decide, fun n hn => (by cases hn), by unfold I64; decide⟩
theorem small_yes : treeOK smallT = true := treeOK_yes small_ok
theorem new_yes : treeOK newT = true := treeOK_yes new_ok
theorem no_no : treeOK noT = false := treeOK_no no_ok
theorem small_dir2 : isDirB smallT 2 = true := by unfold isDirB; rw [small_yes]; decide
theorem small_dir3 : isDirB smallT 3 = false := by unfold isDirB; rw [small_yes]; decide
theorem small_path2 : tPath smallT 2 = ⟨#[47, 97]⟩ := by unfold tPath; rw [small_dir2, if_pos rfl]; decide
theorem small_pathE2 : tPathE smallT 2 = 0 := by unfold tPathE; rw [small_dir2, if_pos rfl]
theorem small_pathE3 : tPathE smallT 3 = 1 := by unfold tPathE; rw [small_dir3]; rfl
theorem small_depth2 : tDepth smallT 2 = 1 := by unfold tDepth; rw [small_dir2, if_pos rfl]; decide
theorem small_find1 : tFind smallT 1 ⟨#[97]⟩ = 2 := by unfold tFind; rw [small_yes, if_pos rfl]; decide
theorem small_find2 : tFind smallT 2 ⟨#[98]⟩ = 3 := by unfold tFind; rw [small_yes, if_pos rfl]; decide
theorem small_find3 : tFind smallT 3 ⟨#[98]⟩ = 0 := by unfold tFind; rw [small_yes, if_pos rfl]; decide
theorem small_files : tFiles smallT = 3 := by unfold tFiles; rw [small_yes, if_pos rfl]; decide
theorem small_bytes : tBytes smallT = 5 := by unfold tBytes; rw [small_yes, if_pos rfl]; decide
theorem small_node2 : isNodeB smallT 2 = true := by unfold isNodeB; rw [small_yes]; decide
theorem small_node9 : isNodeB smallT 9 = false := by unfold isNodeB; rw [small_yes]; decide
theorem small_stat2 : tStat smallT 2 = .agg #[.int .i64 2, .int .u8 2, .int .i64 493, .int .i64 0, .int .i64 0, .int .i64 2, .int .i64 1, .int .i64 0] := by unfold tStat; rw [small_node2, if_pos rfl]; rfl
theorem small_statE2 : tStatE smallT 2 = 0 := by unfold tStatE; rw [small_node2, if_pos rfl]
theorem small_stat9 : tStat smallT 9 = .agg #[.int .i64 0, .int .u8 0, .int .i64 0, .int .i64 0, .int .i64 0, .int .i64 0, .int .i64 0, .int .i64 0] := by unfold tStat; rw [small_node9]; rfl
theorem small_statE9 : tStatE smallT 9 = 1 := by unfold tStatE; rw [small_node9]; rfl
end Go.Proofs.YtbfcfjgcmideeaaGreatDoor
