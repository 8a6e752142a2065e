/- The document's walk: it comes to a node, and to all that is in it. -/
/- The document's walk, as it is called. -/
import Derived.Test.YtbfcfjgcmideeaaGreatDoorW6
import Derived.Test.YtbfcfjgcmideeaaGreatDoorB1
import Derived.Test.YtbfcfjgcmideeaaGreatDoorRef13
import Derived.Test.YtbfcfjgcmideeaaGreatDoorP1
import Derived.Deep.MidRow
import Derived.Outline
import Derived.StillTailTactics
import Derived.Test.YtbfcfjgcmideeaaGreatDoorRefFind
import Derived.Test.YtbfcfjgcmideeaaGreatDoorW5
namespace Go.Proofs.YtbfcfjgcmideeaaGreatDoor
open Go.RowKit
attribute [local go_sem] Later.cell_eq
/-- The walk's one box: the tree, who, how deep, the steps so far, the shut paths so far. -/
structure RW' (B bw : Nat) (T e e' : TypeId) (A : Option Addr) (N c : Nat) (now u g m d deepest : Int) (O : Nat → Prop) (o : List TStep) (s : List ByteArray) (W : World) (vo vs : Value) : Prop where
  row : W.heap[bw]? = some (.cells #[.slice A N c, .int .i64 now, .int .i64 u, .int .i64 g, .int .i64 m, .int .i64 d, .int .i64 deepest, vo, vs] T (0, 0))
  oo : Own W B e 4 vo (stepRows o)
  os : Own W B e' 1 vs (pathRows s)
  own : ∀ k, O k ↔ k = bw ∨ vo.ownBlock = some k ∨ vs.ownBlock = some k
  ne : vo.ownBlock ≠ some bw ∧ vs.ownBlock ≠ some bw ∧ ∀ k, vo.ownBlock = some k → vs.ownBlock ≠ some k
def RW (B bw : Nat) (T e e' : TypeId) (A : Option Addr) (N c : Nat) (now u g m d deepest : Int) (O : Nat → Prop) (o : List TStep) (s : List ByteArray) (W : World) : Prop := B ≤ W.heap.size ∧ ∃ vo vs, RW' B bw T e e' A N c now u g m d deepest O o s W vo vs
section
variable {B bw : Nat} {T e e' : TypeId} {A : Option Addr} {N c : Nat} {now u g m d deepest : Int} {O : Nat → Prop} {o : List TStep} {s : List ByteArray} {W W1 W' : World} {vo vs v' : Value}
theorem RW.lt (h : RW B bw T e e' A N c now u g m d deepest O o s W) : ∀ k, O k → k < W.heap.size := by
  obtain ⟨-, vo, vs, h⟩ := h
  intro k hk
  rcases (h.own k).1 hk with rfl | hk | hk
  · exact (Array.getElem?_eq_some_iff.1 h.row).1
  · exact (h.oo.lt k hk).2
  · exact (h.os.lt k hk).2
theorem RW.turned (h : RW B bw T e e' A N c now u g m d deepest O o s W) (ht : Turned (fun k => ¬ O k) W W') : RW B bw T e e' A N c now u g m d deepest O o s W' := by
  obtain ⟨hB, vo, vs, h⟩ := h
  have hn : ∀ k, O k → ¬ ¬ O k := fun k hk h => h hk
  exact ⟨Nat.le_trans hB ht.size, vo, vs, (ht.block _ (Array.getElem?_eq_some_iff.1 h.row).1 (hn _ ((h.own _).2 (.inl rfl)))).trans h.row, h.oo.turned ht fun k hk => hn k ((h.own k).2 (.inr (.inl hk))), h.os.turned ht fun k hk => hn k ((h.own k).2 (.inr (.inr hk))), h.own, h.ne⟩
theorem RW.keep (h : RW B bw T e e' A N c now u g m d deepest O o s W) (hb : Below W.heap.size W W') : RW B bw T e e' A N c now u g m d deepest O o s W' := h.turned (turned_below hb)
theorem RW'.putStep {x : TStep} (hB : B ≤ W.heap.size) (h : RW' B bw T e e' A N c now u g m d deepest O o s W vo vs) (hO : Own W1 B e 4 v' (stepRows o ++ [x.cells.toList])) (hg : W.grownBy W1 vo.ownBlock) (hv : v'.ownBlock = vo.ownBlock ∨ ∃ k, v'.ownBlock = some k ∧ W.heap.size ≤ k ∧ W.grownBy W1 none) :
    Went (RW B bw T e e' A N c now u g m d deepest) O (o ++ [x]) s W (W1.setCell ⟨bw, 7, none⟩ v') := by
  obtain ⟨n2, n4, n6⟩ := h.ne
  have lo := (Array.getElem?_eq_some_iff.1 h.row).1
  have hro := (hg.block bw lo (fun e => n2 e.symm)).trans h.row
  have hT : Turned (fun k => vo.ownBlock = some k) W W1 := turned_grown hg fun k hk => hk
  have hT1 : Turned (fun k => k = bw) W1 (W1.setCell ⟨bw, 7, none⟩ v') := turned_set W1 bw 7 v' rfl
  have hvo : v'.ownBlock ≠ some bw ∧ ∀ k, v'.ownBlock = some k → vs.ownBlock ≠ some k := by
    rcases hv with hv | ⟨k, hv, hk, -⟩
    · rw [hv]; exact ⟨n2, n6⟩
    · refine ⟨fun h => ?_, fun k' hk' h' => ?_⟩
      · rw [hv] at h; cases h; omega
      · rw [hv] at hk'; cases hk'
        have := (h.os.lt _ h').2; omega
  have hos := (h.os.turned hT fun k hk hs => n6 k hs hk).turned hT1 fun k hk e => n4 (by rw [hk, e])
  refine ⟨fun k => k = bw ∨ v'.ownBlock = some k ∨ vs.ownBlock = some k, ⟨Nat.le_trans hB (Nat.le_trans hg.size hT1.size), v', vs, ⟨?_, ?_, hos, fun k => Iff.rfl, hvo.1, n4, hvo.2⟩⟩, ?_, ?_⟩
  · have := heap_setCell_same W1 bw 7 _ _ v' hro
    simpa using this
  · have : stepRows (o ++ [x]) = stepRows o ++ [x.cells.toList] := by simp [stepRows]
    rw [this]
    exact hO.turned hT1 fun k hk e => hvo.1 (by rw [hk, e])
  · exact (hT.mono fun k hk => (h.own k).2 (.inr (.inl hk))).trans (hT1.mono fun k hk => (h.own k).2 (.inl hk)) fun k _ h => h
  · intro k hk
    rcases hk with rfl | hk | hk
    · exact .inl ((h.own _).2 (.inl rfl))
    · rcases hv with hv | ⟨k', hv, hk', -⟩
      · exact .inl ((h.own _).2 (.inr (.inl (hv ▸ hk))))
      · rw [hv] at hk; cases hk; exact .inr hk'
    · exact .inl ((h.own _).2 (.inr (.inr hk)))
theorem RW'.putPath {p : ByteArray} (hB : B ≤ W.heap.size) (h : RW' B bw T e e' A N c now u g m d deepest O o s W vo vs) (hO : Own W1 B e' 1 v' (pathRows s ++ [[.string p]])) (hg : W.grownBy W1 vs.ownBlock) (hv : v'.ownBlock = vs.ownBlock ∨ ∃ k, v'.ownBlock = some k ∧ W.heap.size ≤ k ∧ W.grownBy W1 none) :
    Went (RW B bw T e e' A N c now u g m d deepest) O o (s ++ [p]) W (W1.setCell ⟨bw, 8, none⟩ v') := by
  obtain ⟨n2, n4, n6⟩ := h.ne
  have lo := (Array.getElem?_eq_some_iff.1 h.row).1
  have hro := (hg.block bw lo (fun e => n4 e.symm)).trans h.row
  have hT : Turned (fun k => vs.ownBlock = some k) W W1 := turned_grown hg fun k hk => hk
  have hT1 : Turned (fun k => k = bw) W1 (W1.setCell ⟨bw, 8, none⟩ v') := turned_set W1 bw 8 v' rfl
  have hvo : v'.ownBlock ≠ some bw ∧ ∀ k, vo.ownBlock = some k → v'.ownBlock ≠ some k := by
    rcases hv with hv | ⟨k, hv, hk, -⟩
    · rw [hv]; exact ⟨n4, n6⟩
    · refine ⟨fun h => ?_, fun k' hk' h' => ?_⟩
      · rw [hv] at h; cases h; omega
      · rw [hv] at h'; cases h'
        have := (h.oo.lt _ hk').2; omega
  have hoo := (h.oo.turned hT fun k hk hs => n6 k hk hs).turned hT1 fun k hk e => n2 (by rw [hk, e])
  refine ⟨fun k => k = bw ∨ vo.ownBlock = some k ∨ v'.ownBlock = some k, ⟨Nat.le_trans hB (Nat.le_trans hg.size hT1.size), vo, v', ⟨?_, hoo, ?_, fun k => Iff.rfl, n2, hvo.1, hvo.2⟩⟩, ?_, ?_⟩
  · have := heap_setCell_same W1 bw 8 _ _ v' hro
    simpa using this
  · have : pathRows (s ++ [p]) = pathRows s ++ [[.string p]] := by simp [pathRows]
    rw [this]
    exact hO.turned hT1 fun k hk e => hvo.1 (by rw [hk, e])
  · exact (hT.mono fun k hk => (h.own k).2 (.inr (.inr hk))).trans (hT1.mono fun k hk => (h.own k).2 (.inl hk)) fun k _ h => h
  · intro k hk
    rcases hk with rfl | hk | hk
    · exact .inl ((h.own _).2 (.inl rfl))
    · exact .inl ((h.own _).2 (.inr (.inl hk)))
    · rcases hv with hv | ⟨k', hv, hk', -⟩
      · exact .inl ((h.own _).2 (.inr (.inr (hv ▸ hk))))
      · rw [hv] at hk; cases hk; exact .inr hk'
end
/-- Where the document's walk stands: its box, the node's box. -/
structure HereR (J : (Nat → Prop) → List TStep → List ByteArray → World → Prop) (W : World) (O : Nat → Prop) (hn : Nat) (nv : Array Value) (Tn : TypeId) (o : List TStep) (s : List ByteArray) (wr : World) (O' : Nat → Prop) : Prop where
  j : J O' o s wr
  turned : Turned O W wr
  grow : ∀ k, O' k → O k ∨ W.heap.size ≤ k
  rn : wr.heap[hn]? = some (.cells nv Tn (0, 0))
  on : ¬ O' hn
section
variable {J : (Nat → Prop) → List TStep → List ByteArray → World → Prop} {W : World} {O O' : Nat → Prop} {hn : Nat} {nv : Array Value} {Tn : TypeId} {o : List TStep} {s : List ByteArray} {wr wr' : World}
theorem HereR.keep (hJ : ∀ O o s W W', J O o s W → Below W.heap.size W W' → J O o s W') (h : HereR J W O hn nv Tn o s wr O') (hb : Below wr.heap.size wr wr') : HereR J W O hn nv Tn o s wr' O' :=
  ⟨hJ _ _ _ _ _ h.j hb, h.turned.trans (turned_below (S := O) hb) fun _ _ h => h, h.grow, (hb.block _ (Array.getElem?_eq_some_iff.1 h.rn).1).trans h.rn, h.on⟩
theorem HereR.step {o2 : List TStep} {s2 : List ByteArray} (h : HereR J W O hn nv Tn o s wr O') (hw : Went J O' o2 s2 wr wr') : ∃ O2, HereR J W O hn nv Tn o2 s2 wr' O2 := by
  obtain ⟨O2, h1, h2, h3⟩ := hw
  have ln := (Array.getElem?_eq_some_iff.1 h.rn).1
  refine ⟨O2, h1, h.turned.trans h2 fun k hk hs => (h.grow k hs).elim id fun h => absurd h (by omega), fun k hk => ?_, (h2.block _ ln h.on).trans h.rn, off_went h3 h.on ln⟩
  rcases h3 k hk with h4 | h4
  · exact h.grow k h4
  · exact .inr (Nat.le_trans h.turned.size h4)
theorem HereR.went (h : HereR J W O hn nv Tn o s wr O') : Went J O o s W wr := ⟨O', h.j, h.turned, h.grow⟩
theorem HereR.low {W0 : World} (h : HereR J W O hn nv Tn o s wr O') (hO : ∀ k, O k → W0.heap.size ≤ k) (hB : Below W0.heap.size W0 W) : (∀ k, O' k → W0.heap.size ≤ k) ∧ Below W0.heap.size W0 wr :=
  ⟨fun k hk => (h.grow k hk).elim (hO k) fun h => Nat.le_trans hB.size h, ⟨h.turned.os.trans hB.os, h.turned.tape.trans hB.tape, h.turned.output.trans hB.output, Nat.le_trans hB.size h.turned.size, fun k hk => (h.turned.block k (Nat.lt_of_lt_of_le hk hB.size) fun a => absurd (hO k a) (by omega)).trans (hB.block k hk)⟩⟩
end
theorem elem_stepR : Elem Tryz.prog 32 111 4 40 := Elem.mk' (z := .agg #[.string ⟨#[]⟩, .int .i64 0, .int .i64 0, .bool false]) Tryz.underlying32 (by kernel_rfl) rfl (by decide)
theorem elem_strR : Elem Tryz.prog 33 9 1 16 := Elem.mk' (z := .string ⟨#[]⟩) Tryz.underlying33 (by kernel_rfl) rfl (by decide)
set_option maxHeartbeats 4000000 in
set_option maxRecDepth 100000 in
theorem refCome_calls (t : TTree) (hF : t.Fits) (A : Option Addr) (cap : Nat) (deepest u g m d : Int) (B bw : Nat) (W0 : World) (hA : NodesAt W0 A t.nodes) :
    ∀ (fuel : Nat) (n : Int) (path : ByteArray) (depth : Int) (O : Nat → Prop) (o : List TStep) (s : List ByteArray) (W : World), Fuel t fuel n path.size → 0 ≤ depth → depth + fuel ≤ 100000 →
      RW B bw 127 111 9 A t.nodes.length cap t.now u g m d deepest O o s W → (∀ k, O k → W0.heap.size ≤ k) → Below W0.heap.size W0 W →
      o.length + (walkP t u g deepest fuel n path depth).1.length ≤ 1000000 → s.length + (walkP t u g deepest fuel n path depth).2.length ≤ 1000000 →
      Calls Tryz.prog 67 #[.pointer (some ⟨bw, 0, none⟩), .string path, .int .i64 n, .int .i64 depth] W fun e W' =>
        e = .returned (.tuple #[]) ∧ Went (RW B bw 127 111 9 A t.nodes.length cap t.now u g m d deepest) O (o ++ (walkP t u g deepest fuel n path depth).1) (s ++ (walkP t u g deepest fuel n path depth).2) W W' := by
  intro fuel
  induction fuel with
  | zero => intro n path depth O o s W hfu; exact hfu.elim
  | succ f ih =>
    intro n path depth O o s W hfu hd0 hd1 hj hO hB ho hs
    obtain ⟨hn0, hn1, hk, hkids⟩ := hfu
    obtain ⟨x, hx⟩ : ∃ x, t.nodes[n.toNat]? = some x := ⟨t.nodes[n.toNat]'(by omega), by simp⟩
    have hat : t.at n = x := by simp [TTree.at, hx]
    obtain ⟨bn, on, D, cd, L, cl, rfl, -, hD, -, hL, e0, e1, e2, e3, e4, e5, e6, e7, e8, e9⟩ := hA.get hx
    have HJ := Lib.hid hj
    have HO := Lib.hid hO
    have HB := Lib.hid hB
    have HIH := Lib.hid ih
    have HK := Lib.hid hkids
    have HL := Lib.hid hL
    have HS := Lib.hid (And.intro ho hs)
    have HX := Lib.hid hat
    have HXF := Lib.hid (hF.each x (List.mem_of_getElem? hx))
    have hnn : ((n.toNat : Nat) : Int) = n := by omega
    have hol : o.length < 1000000 := by
      simp only [walkP] at ho
      split at ho <;> simp at ho <;> omega
    have HJK : Hid (∀ O o s (W W' : World), RW B bw 127 111 9 (some ⟨bn, on, none⟩) t.nodes.length cap t.now u g m d deepest O o s W → Below W.heap.size W W' → RW B bw 127 111 9 (some ⟨bn, on, none⟩) t.nodes.length cap t.now u g m d deepest O o s W') := Lib.hid fun O o s W W' h hb => h.keep hb
    clear hj hO hB ih hkids hD hL ho hs hat hx
    go_enter Tryz.func67, Tryz.ntmps67
    have hpl0 : (stepRows o).length = (o).length := by simp [stepRows]
    obtain ⟨hBW0, vo0, vs0, hw0⟩ := HJ.out
    obtain ⟨Ao0, co0, hvo0⟩ := own_len hw0.oo
    rw [hpl0] at hvo0
    obtain ⟨lo0, hlo0⟩ : ∃ y, y = (o).length := ⟨_, rfl⟩
    rw [← hlo0] at hvo0 hpl0
    subst hvo0
    have k7 : W.cell? ⟨bw, 7, none⟩ = some (.slice Ao0 lo0 co0) := (cell_of_row W bw 7 _ _ _ hw0.row).trans rfl
    have HW0 := Lib.hid hw0
    have HPL0 := Lib.hid hpl0
    have hlm0 : lo0 < 1000000 := by rw [hlo0]; exact hol
    have HLO0 := Lib.hid hlo0
    clear hw0 hpl0 hlo0
    go_upto_region 1 with (at_builtin; refine wpList_append_grow rfl _ _ 32 rfl elem_stepR lo0 HPL0.out [.string path, .int .i64 n, .int .i64 depth, .bool false] rfl HW0.out.oo.x hBW0 rfl rfl (by simp [Value.oneCell']) (by unfold maxLen; omega) (by omega) ?_; rintro _ w2 hown2 hg2 hv2 ⟨A5, c5, rfl⟩; have hr2 := (hg2.block bw (Array.getElem?_eq_some_iff.1 HW0.out.row).1 (fun e => HW0.out.ne.1 e.symm)).trans HW0.out.row; have c2 : w2.cell? ⟨bw, 7, none⟩ = some (.slice Ao0 lo0 co0) := (cell_of_row w2 bw 7 _ _ _ hr2).trans rfl; have f2 := frozen_of_row w2 bw 7 _ _ hr2; have HP := Lib.hid (HW0.out.putStep (x := ⟨path, n, depth, false⟩) hBW0 hown2 hg2 hv2); clear hown2 hg2 hr2 hv2)
    obtain ⟨wx, hwx⟩ : ∃ y, y = w2.setCell ⟨bw, 7, none⟩ (.slice A5 (lo0 + 1) c5) := ⟨_, rfl⟩
    have hw1 := HP.out
    rw [← hwx] at hw1
    rw [← hwx]
    clear hwx HP
    obtain ⟨O1, hj1, hT1, hg1⟩ := hw1
    have hBx : Below W0.heap.size W0 wx := ⟨hT1.os.trans HB.out.os, hT1.tape.trans HB.out.tape, hT1.output.trans HB.out.output, Nat.le_trans HB.out.size hT1.size, fun k hk => (hT1.block k (Nat.lt_of_lt_of_le hk HB.out.size) fun a => absurd (HO.out k a) (by omega)).trans (HB.out.block k hk)⟩
    replace e0 := cell_keep hBx e0
    replace e1 := cell_keep hBx e1
    replace e2 := cell_keep hBx e2
    replace e3 := cell_keep hBx e3
    replace e4 := cell_keep hBx e4
    replace e5 := cell_keep hBx e5
    replace e6 := cell_keep hBx e6
    replace e7 := cell_keep hBx e7
    replace e8 := cell_keep hBx e8
    replace e9 := cell_keep hBx e9
    have r0 : wx.cell? ⟨bw, 0, none⟩ = some (.slice (some ⟨bn, on, none⟩) t.nodes.length cap) := by
      obtain ⟨-, vo1, vs1, hw1⟩ := hj1
      exact (cell_of_row wx bw 0 _ _ _ hw1.row).trans rfl
    go_upto_region 2 with fail
    obtain ⟨wc, hwc⟩ : ∃ y, y = wx.alloc (.cells #[.int .u8 x.kind, .int .i64 x.mode, .int .i64 x.user, .int .i64 x.group, .int .i64 x.links, .int .i64 x.time, .slice D x.data.length cd, .string x.target, .slice L x.list.length cl, .int .i64 x.parent] 80) := ⟨_, rfl⟩
    have hBc : Below wx.heap.size wx wc := by rw [hwc]; exact below_alloc (Below.refl _ _) _
    have hrn : wc.heap[wx.heap.size]? = some (.cells #[.int .u8 x.kind, .int .i64 x.mode, .int .i64 x.user, .int .i64 x.group, .int .i64 x.links, .int .i64 x.time, .slice D x.data.length cd, .string x.target, .slice L x.list.length cl, .int .i64 x.parent] 80 (0, 0)) := by rw [hwc]; exact heap_alloc_new wx _
    rw [← hwc]
    obtain ⟨hn, hhn⟩ : ∃ y, y = wx.heap.size := ⟨_, rfl⟩
    have hoff : ¬ O1 hn := fun h => by have := hj1.lt _ h; omega
    rw [← hhn] at hrn
    rw [← hhn]
    have HH2 : Hid (HereR (RW B bw 127 111 9 (some ⟨bn, on, none⟩) t.nodes.length cap t.now u g m d deepest) W O hn #[.int .u8 x.kind, .int .i64 x.mode, .int .i64 x.user, .int .i64 x.group, .int .i64 x.links, .int .i64 x.time, .slice D x.data.length cd, .string x.target, .slice L x.list.length cl, .int .i64 x.parent] 80 (o ++ [(⟨path, n, depth, false⟩ : TStep)]) s wc O1) := Lib.hid ⟨hj1.keep hBc, hT1.trans (turned_below (S := O) hBc) fun _ _ h => h, hg1, hrn, hoff⟩
    clear hwc hhn hBc hrn hoff r0 e0 e1 e2 e3 e4 e5 e6 e7 e8 e9 HJ hj1 hT1 hg1 hBx k7
    have n0 : wc.cell? ⟨hn, 0, none⟩ = some (.int .u8 x.kind) := (cell_of_row wc hn 0 _ _ _ HH2.out.rn).trans rfl
    by_cases hk2 : x.kind = 2
    · have HK2 := Lib.hid hk2
      have hkd : decide (x.kind = 2) = true := decide_eq_true hk2
      have hkb : (x.kind == 2) = true := by rw [hk2]; rfl
      have hkb3 : (x.kind != 2) = false := by rw [hk2]; rfl
      clear hk2
      obtain ⟨p1, q0, q1, q2, q3⟩ : wc.cell? ⟨bw, 6, none⟩ = some (.int .i64 deepest) ∧ wc.cell? ⟨bw, 2, none⟩ = some (.int .i64 u) ∧ wc.cell? ⟨bw, 3, none⟩ = some (.int .i64 g) ∧ wc.cell? ⟨bw, 4, none⟩ = some (.int .i64 m) ∧ wc.cell? ⟨bw, 5, none⟩ = some (.int .i64 d) := by
        obtain ⟨-, vo1, vs1, hw1⟩ := HH2.out.j
        exact ⟨(cell_of_row wc bw 6 _ _ _ hw1.row).trans rfl, (cell_of_row wc bw 2 _ _ _ hw1.row).trans rfl, (cell_of_row wc bw 3 _ _ _ hw1.row).trans rfl, (cell_of_row wc bw 4 _ _ _ hw1.row).trans rfl, (cell_of_row wc bw 5 _ _ _ hw1.row).trans rfl⟩
      by_cases hdd : depth < deepest
      · have hdb : decide (depth < deepest) = true := decide_eq_true hdd
        have n1 : wc.cell? ⟨hn, 1, none⟩ = some (.int .i64 x.mode) := (cell_of_row wc hn 1 _ _ _ HH2.out.rn).trans rfl
        have n2 : wc.cell? ⟨hn, 2, none⟩ = some (.int .i64 x.user) := (cell_of_row wc hn 2 _ _ _ HH2.out.rn).trans rfl
        have n3 : wc.cell? ⟨hn, 3, none⟩ = some (.int .i64 x.group) := (cell_of_row wc hn 3 _ _ _ HH2.out.rn).trans rfl
        have n4 : wc.cell? ⟨hn, 4, none⟩ = some (.int .i64 x.links) := (cell_of_row wc hn 4 _ _ _ HH2.out.rn).trans rfl
        have n5 : wc.cell? ⟨hn, 5, none⟩ = some (.int .i64 x.time) := (cell_of_row wc hn 5 _ _ _ HH2.out.rn).trans rfl
        have n6 : wc.cell? ⟨hn, 6, none⟩ = some (.slice D x.data.length cd) := (cell_of_row wc hn 6 _ _ _ HH2.out.rn).trans rfl
        have n7 : wc.cell? ⟨hn, 7, none⟩ = some (.string x.target) := (cell_of_row wc hn 7 _ _ _ HH2.out.rn).trans rfl
        have n8 : wc.cell? ⟨hn, 8, none⟩ = some (.slice L x.list.length cl) := (cell_of_row wc hn 8 _ _ _ HH2.out.rn).trans rfl
        have n9 : wc.cell? ⟨hn, 9, none⟩ = some (.int .i64 x.parent) := (cell_of_row wc hn 9 _ _ _ HH2.out.rn).trans rfl
        cases hmay : mayB x u g 5 with
        | false =>
          have hw : walkP t u g deepest (f + 1) n path depth = ([⟨path, n, depth, false⟩, ⟨path, n, depth, true⟩], [path]) := by
            rw [walkP, HX.out, if_pos HK2.out]
            simp [kidsOf, shutOf, if_pos hdd, hmay]
          have HW := Lib.hid hw
          have hsl : s.length < 1000000 := by
            have h1 := HS.out.2
            rw [hw] at h1
            simp at h1
            omega
          clear hw hdd
          go_upto_region 4 with fail
          have hlw : bw < wc.heap.size := World.block_lt_of_cell? _ _ p1
          have hln : hn < wc.heap.size := World.block_lt_of_cell? _ _ n0
          refine wp_region_later (by kernel_rfl) (by kernel_rfl) ?_
          repeat (go_big_quiet_step ((exact Calls.later (refMay_calls x HXF.out D L cd cl u g m d 5 (by decide) (by decide) _))))
          refine wpQuiet_nil ?_
          intro wL hbL
          rw [hmay]
          obtain ⟨w3, rfl⟩ : ∃ y : World, y = wL := ⟨_, rfl⟩
          have hh3 := HH2.out.keep HJK.out hbL
          clear hbL n0 n1 n2 n3 n4 n5 n6 n7 n8 n9 q0 q1 q2 q3 p1
          have hpl2 : (pathRows s).length = s.length := by simp [pathRows]
          obtain ⟨hBW2, vo2, vs2, hw2⟩ := hh3.j
          have HH3 := Lib.hid hh3
          obtain ⟨As2, cs2, hvs2⟩ := own_len hw2.os
          rw [hpl2] at hvs2
          obtain ⟨ls2, hls2⟩ : ∃ y, y = s.length := ⟨_, rfl⟩
          rw [← hls2] at hvs2 hpl2 hsl
          subst hvs2
          have k8 : w3.cell? ⟨bw, 8, none⟩ = some (.slice As2 ls2 cs2) := (cell_of_row w3 bw 8 _ _ _ hw2.row).trans rfl
          have HW2 := Lib.hid hw2
          have HPL2 := Lib.hid hpl2
          have HLS2 := Lib.hid hls2
          clear hw2 hpl2 hh3 hls2
          go_upto_region 10 with (at_builtin; refine wpList_append_grow rfl _ _ 33 rfl elem_strR ls2 HPL2.out [.string path] rfl HW2.out.os.x hBW2 rfl rfl (by simp [Value.oneCell']) (by unfold maxLen; omega) (by omega) ?_; rintro _ w4 hown4 hg4 hv4 ⟨A6, c6, rfl⟩; have hr4 := (hg4.block bw (Array.getElem?_eq_some_iff.1 HW2.out.row).1 (fun e => HW2.out.ne.2.1 e.symm)).trans HW2.out.row; have c4 : w4.cell? ⟨bw, 8, none⟩ = some (.slice As2 ls2 cs2) := (cell_of_row w4 bw 8 _ _ _ hr4).trans rfl; have f4 := frozen_of_row w4 bw 8 _ _ hr4; have HP4 := Lib.hid (HW2.out.putPath (p := path) hBW2 hown4 hg4 hv4); clear hown4 hg4 hr4 hv4)
          obtain ⟨wy, hwy⟩ : ∃ y, y = w4.setCell ⟨bw, 8, none⟩ (.slice A6 (ls2 + 1) c6) := ⟨_, rfl⟩
          have hw4 := HP4.out
          rw [← hwy] at hw4
          rw [← hwy]
          obtain ⟨O6, hh6⟩ := HH3.out.step hw4
          have HH6 := Lib.hid hh6
          clear hwy HP4 hw4 hh6 k8 HH3
          have hplE : (stepRows (o ++ [(⟨path, n, depth, false⟩ : TStep)])).length = ((o ++ [(⟨path, n, depth, false⟩ : TStep)])).length := by simp [stepRows]
          obtain ⟨hBWE, voE, vsE, hwE⟩ := HH6.out.j
          obtain ⟨AoE, coE, hvoE⟩ := own_len hwE.oo
          rw [hplE] at hvoE
          obtain ⟨loE, hloE⟩ : ∃ y, y = ((o ++ [(⟨path, n, depth, false⟩ : TStep)])).length := ⟨_, rfl⟩
          rw [← hloE] at hvoE hplE
          subst hvoE
          have k7 : wy.cell? ⟨bw, 7, none⟩ = some (.slice AoE loE coE) := (cell_of_row wy bw 7 _ _ _ hwE.row).trans rfl
          have HWE := Lib.hid hwE
          have HPLE := Lib.hid hplE
          have hlmE : loE < 1000000 := by rw [hloE]; exact (by have h1 := HS.out.1; rw [HW.out] at h1; simp at h1; simp; omega)
          have HLOE := Lib.hid hloE
          clear hwE hplE hloE
          go_wp2_with (at_builtin; refine wpList_append_grow rfl _ _ 32 rfl elem_stepR loE HPLE.out [.string path, .int .i64 n, .int .i64 depth, .bool true] rfl HWE.out.oo.x hBWE rfl rfl (by simp [Value.oneCell']) (by unfold maxLen; omega) (by omega) ?_; rintro _ w2 hown2 hg2 hv2 ⟨A5, c5, rfl⟩; have hr2 := (hg2.block bw (Array.getElem?_eq_some_iff.1 HWE.out.row).1 (fun e => HWE.out.ne.1 e.symm)).trans HWE.out.row; have c2 : w2.cell? ⟨bw, 7, none⟩ = some (.slice AoE loE coE) := (cell_of_row w2 bw 7 _ _ _ hr2).trans rfl; have f2 := frozen_of_row w2 bw 7 _ _ hr2; have HP := Lib.hid (HWE.out.putStep (x := ⟨path, n, depth, true⟩) hBWE hown2 hg2 hv2); clear hown2 hg2 hr2 hv2)
          refine bodyPost_end (v := .tuple #[]) (by kernel_rfl) rfl ?_
          obtain ⟨O7, hh7⟩ := HH6.out.step HP.out
          have hw7 := hh7.went
          rw [HW.out]
          rw [List.append_assoc] at hw7
          exact ⟨rfl, hw7⟩
        | true =>
          have hw : walkP t u g deepest (f + 1) n path depth = ((⟨path, n, depth, false⟩ : TStep) :: x.list.flatMap (fun e : TEnt => (walkP t u g deepest f e.node (joinB path e.name) (depth + 1)).1) ++ [⟨path, n, depth, true⟩], x.list.flatMap (fun e : TEnt => (walkP t u g deepest f e.node (joinB path e.name) (depth + 1)).2)) := by
            rw [walkP, HX.out, if_pos HK2.out]
            simp [kidsOf, shutOf, if_pos hdd, hmay]
          have HW := Lib.hid hw
          clear hw hdd
          go_upto_region 4 with fail
          have hlw : bw < wc.heap.size := World.block_lt_of_cell? _ _ p1
          have hln : hn < wc.heap.size := World.block_lt_of_cell? _ _ n0
          refine wp_region_later (by kernel_rfl) (by kernel_rfl) ?_
          repeat (go_big_quiet_step ((exact Calls.later (refMay_calls x HXF.out D L cd cl u g m d 5 (by decide) (by decide) _))))
          refine wpQuiet_nil ?_
          intro wL hbL
          rw [hmay]
          have HH3 := Lib.hid (HH2.out.keep HJK.out hbL)
          clear hbL n0 n1 n2 n3 n4 n5 n6 n7 n8 n9 q0 q1 q2 q3 p1
          have hlen := HXF.out.list
          go_wp2
          go_loopg [9] x.list.length (fun gz s9 wr => ∃ (i : Nat) (Oi : Nat → Prop), i + gz = x.list.length ∧ s9 = .int .i64 i ∧ Hid (HereR (RW B bw 127 111 9 (some ⟨bn, on, none⟩) t.nodes.length cap t.now u g m d deepest) W O hn #[.int .u8 x.kind, .int .i64 x.mode, .int .i64 x.user, .int .i64 x.group, .int .i64 x.links, .int .i64 x.time, .slice D x.data.length cd, .string x.target, .slice L x.list.length cl, .int .i64 x.parent] 80 (o ++ [(⟨path, n, depth, false⟩ : TStep)] ++ (x.list.take i).flatMap (fun e : TEnt => (walkP t u g deepest f e.node (joinB path e.name) (depth + 1)).1)) (s ++ (x.list.take i).flatMap (fun e : TEnt => (walkP t u g deepest f e.node (joinB path e.name) (depth + 1)).2)) wr Oi))
          case atStart => exact ⟨0, O1, by omega, rfl, by simpa using HH3⟩
          case round =>
            clear HH3
            obtain ⟨i, Oi, hig, rfl, HHi⟩ := hrel
            have n8 : wr.cell? ⟨hn, 8, none⟩ = some (.slice L x.list.length cl) := (cell_of_row wr hn 8 _ _ _ HHi.out.rn).trans rfl
            cases gk with
            | zero =>
              obtain rfl : i = x.list.length := by omega
              rw [List.take_of_length_le (Nat.le_refl _)] at HHi
              go_upto_region 10 with fail
              have hplE : (stepRows (o ++ [(⟨path, n, depth, false⟩ : TStep)] ++ x.list.flatMap (fun e : TEnt => (walkP t u g deepest f e.node (joinB path e.name) (depth + 1)).1))).length = ((o ++ [(⟨path, n, depth, false⟩ : TStep)] ++ x.list.flatMap (fun e : TEnt => (walkP t u g deepest f e.node (joinB path e.name) (depth + 1)).1))).length := by simp [stepRows]
              obtain ⟨hBWE, voE, vsE, hwE⟩ := HHi.out.j
              obtain ⟨AoE, coE, hvoE⟩ := own_len hwE.oo
              rw [hplE] at hvoE
              obtain ⟨loE, hloE⟩ : ∃ y, y = ((o ++ [(⟨path, n, depth, false⟩ : TStep)] ++ x.list.flatMap (fun e : TEnt => (walkP t u g deepest f e.node (joinB path e.name) (depth + 1)).1))).length := ⟨_, rfl⟩
              rw [← hloE] at hvoE hplE
              subst hvoE
              have k7 : wr.cell? ⟨bw, 7, none⟩ = some (.slice AoE loE coE) := (cell_of_row wr bw 7 _ _ _ hwE.row).trans rfl
              have HWE := Lib.hid hwE
              have HPLE := Lib.hid hplE
              have hlmE : loE < 1000000 := by rw [hloE]; exact (by have h1 := HS.out.1; rw [HW.out] at h1; simp at h1; simp; omega)
              have HLOE := Lib.hid hloE
              clear hwE hplE hloE
              go_wp2_with (at_builtin; refine wpList_append_grow rfl _ _ 32 rfl elem_stepR loE HPLE.out [.string path, .int .i64 n, .int .i64 depth, .bool true] rfl HWE.out.oo.x hBWE rfl rfl (by simp [Value.oneCell']) (by unfold maxLen; omega) (by omega) ?_; rintro _ w2 hown2 hg2 hv2 ⟨A5, c5, rfl⟩; have hr2 := (hg2.block bw (Array.getElem?_eq_some_iff.1 HWE.out.row).1 (fun e => HWE.out.ne.1 e.symm)).trans HWE.out.row; have c2 : w2.cell? ⟨bw, 7, none⟩ = some (.slice AoE loE coE) := (cell_of_row w2 bw 7 _ _ _ hr2).trans rfl; have f2 := frozen_of_row w2 bw 7 _ _ hr2; have HP := Lib.hid (HWE.out.putStep (x := ⟨path, n, depth, true⟩) hBWE hown2 hg2 hv2); clear hown2 hg2 hr2 hv2)
              refine bodyPost_end (v := .tuple #[]) (by kernel_rfl) rfl ?_
              obtain ⟨O7, hh7⟩ := HHi.out.step HP.out
              have hw7 := hh7.went
              rw [HW.out]
              rw [List.append_assoc, List.append_assoc] at hw7
              refine ⟨rfl, ?_⟩
              simpa using hw7
            | succ gz =>
              obtain ⟨e, he⟩ : ∃ e, x.list[i]? = some e := ⟨x.list[i]'(by omega), by simp⟩
              obtain ⟨bl, ol, rfl, l0, l1⟩ := (HL.out.keep (HHi.out.low HO.out HB.out).2) i e he
              have hin : i < x.list.length := by omega
              have hdi : decide (i < x.list.length) = true := decide_eq_true hin
              have hdz : decide ((i : Int) < (x.list.length : Int)) = true := decide_eq_true (by omega)
              have hkk := HK.out (by rw [HX.out]; exact HK2.out) e (by rw [HX.out]; exact List.mem_of_getElem? he)
              have HKK := Lib.hid hkk
              have hfl := take_flat (fun e : TEnt => (walkP t u g deepest f e.node (joinB path e.name) (depth + 1)).1) he
              have hfl2 := take_flat (fun e : TEnt => (walkP t u g deepest f e.node (joinB path e.name) (depth + 1)).2) he
              have hb1 := take_flat_le x.list (i + 1) (fun e : TEnt => (walkP t u g deepest f e.node (joinB path e.name) (depth + 1)).1)
              have hb2 := take_flat_le x.list (i + 1) (fun e : TEnt => (walkP t u g deepest f e.node (joinB path e.name) (depth + 1)).2)
              have HFL := Lib.hid (And.intro hfl hfl2)
              have hlen1 : (o ++ [(⟨path, n, depth, false⟩ : TStep)] ++ (x.list.take i).flatMap (fun e : TEnt => (walkP t u g deepest f e.node (joinB path e.name) (depth + 1)).1)).length + (walkP t u g deepest f e.node (joinB path e.name) (depth + 1)).1.length ≤ 1000000 := by
                have h1 := HS.out.1
                rw [HW.out] at h1
                rw [hfl] at hb1
                simp only [List.length_append, List.length_cons, List.length_nil] at h1 hb1 ⊢
                omega
              have hlen2 : (s ++ (x.list.take i).flatMap (fun e : TEnt => (walkP t u g deepest f e.node (joinB path e.name) (depth + 1)).2)).length + (walkP t u g deepest f e.node (joinB path e.name) (depth + 1)).2.length ≤ 1000000 := by
                have h1 := HS.out.2
                rw [HW.out] at h1
                rw [hfl2] at hb2
                simp only [List.length_append] at h1 hb2 ⊢
                omega
              have HLEN := Lib.hid (And.intro hlen1 hlen2)
              have hnm := HKK.out.1
              clear hkk hfl hfl2 hb1 hb2 hlen1 hlen2 he
              go_upto_region 8 with fail
              have HHd := Lib.hid (HHi.out.keep HJK.out (wr' := wr.drew) (Below.refl _ _).drew)
              refine wp_region_still_tail 17 (by kernel_rfl) (by kernel_rfl) ?_
              simp only [List.take_succ_cons, List.take_zero, List.drop_succ_cons, List.drop_zero]
              still_step
              still_step
              still_step
              still_step
              still_step
              still_step
              still_step
              still_step
              still_call (join_same _ _ path e.name _ (refJoin_calls path e.name (by omega) (by omega) _))
              still_step
              still_step
              still_step
              still_step
              still_step
              still_step
              still_step
              still_step
              refine wpStill_nil ?_
              change wpList _ _ _ _ _ wr.drew
              go_wp2_with (go_at_call 67; refine (HIH.out e.node (joinB path e.name) (depth + 1) Oi _ _ wr.drew (HKK.out.2.mono (joinB_size _ _)) (by omega) (by push_cast at hd1; omega) HHd.out.j (HHd.out.low HO.out HB.out).1 (HHd.out.low HO.out HB.out).2 HLEN.out.1 HLEN.out.2).mono ?_; rintro _ w6 ⟨rfl, hw6⟩)
              obtain ⟨O6, hh6⟩ := HHd.out.step hw6
              rw [List.append_assoc _ (List.flatMap _ _), List.append_assoc s, ← HFL.out.1, ← HFL.out.2] at hh6
              have HH6 := Lib.hid hh6
              clear hh6 hw6
              go_roundg gz
              case measure => omega
              case rel => exact ⟨i + 1, O6, by omega, by go_num, HH6⟩
      · have hdb : decide (depth < deepest) = false := decide_eq_false hdd
        have hw : walkP t u g deepest (f + 1) n path depth = ([⟨path, n, depth, false⟩, ⟨path, n, depth, true⟩], []) := by
          rw [walkP, HX.out, if_pos HK2.out]
          simp [kidsOf, shutOf, if_neg hdd]
        have HW := Lib.hid hw
        clear hw hdd
        go_upto_region 10 with fail
        have hplE : (stepRows (o ++ [(⟨path, n, depth, false⟩ : TStep)])).length = ((o ++ [(⟨path, n, depth, false⟩ : TStep)])).length := by simp [stepRows]
        obtain ⟨hBWE, voE, vsE, hwE⟩ := HH2.out.j
        obtain ⟨AoE, coE, hvoE⟩ := own_len hwE.oo
        rw [hplE] at hvoE
        obtain ⟨loE, hloE⟩ : ∃ y, y = ((o ++ [(⟨path, n, depth, false⟩ : TStep)])).length := ⟨_, rfl⟩
        rw [← hloE] at hvoE hplE
        subst hvoE
        have k7 : wc.cell? ⟨bw, 7, none⟩ = some (.slice AoE loE coE) := (cell_of_row wc bw 7 _ _ _ hwE.row).trans rfl
        have HWE := Lib.hid hwE
        have HPLE := Lib.hid hplE
        have hlmE : loE < 1000000 := by rw [hloE]; exact (by have h1 := HS.out.1; rw [HW.out] at h1; simp at h1; simp; omega)
        have HLOE := Lib.hid hloE
        clear hwE hplE hloE
        go_wp2_with (at_builtin; refine wpList_append_grow rfl _ _ 32 rfl elem_stepR loE HPLE.out [.string path, .int .i64 n, .int .i64 depth, .bool true] rfl HWE.out.oo.x hBWE rfl rfl (by simp [Value.oneCell']) (by unfold maxLen; omega) (by omega) ?_; rintro _ w2 hown2 hg2 hv2 ⟨A5, c5, rfl⟩; have hr2 := (hg2.block bw (Array.getElem?_eq_some_iff.1 HWE.out.row).1 (fun e => HWE.out.ne.1 e.symm)).trans HWE.out.row; have c2 : w2.cell? ⟨bw, 7, none⟩ = some (.slice AoE loE coE) := (cell_of_row w2 bw 7 _ _ _ hr2).trans rfl; have f2 := frozen_of_row w2 bw 7 _ _ hr2; have HP := Lib.hid (HWE.out.putStep (x := ⟨path, n, depth, true⟩) hBWE hown2 hg2 hv2); clear hown2 hg2 hr2 hv2)
        refine bodyPost_end (v := .tuple #[]) (by kernel_rfl) rfl ?_
        obtain ⟨O7, hh7⟩ := HH2.out.step HP.out
        have hw7 := hh7.went
        rw [HW.out, List.append_nil]
        rw [List.append_assoc] at hw7
        exact ⟨rfl, hw7⟩
    · have hw : walkP t u g deepest (f + 1) n path depth = ([⟨path, n, depth, false⟩], []) := by rw [walkP, HX.out, if_neg hk2]
      have HW := Lib.hid hw
      have hkd : decide (x.kind = 2) = false := decide_eq_false hk2
      have hkb : (x.kind == 2) = false := beq_eq_false_iff_ne.2 hk2
      have hkb3 : (x.kind != 2) = true := bne_iff_ne.2 hk2
      clear hw
      go_wp2
      refine bodyPost_ret (v := .tuple #[]) (by kernel_rfl) rfl ?_
      rw [HW.out, List.append_nil]
      exact ⟨rfl, HH2.out.went⟩
end Go.Proofs.YtbfcfjgcmideeaaGreatDoor
namespace Go.Proofs.YtbfcfjgcmideeaaGreatDoor
open Go.RowKit
attribute [local go_sem] Later.cell_eq
/-- What the document's walk answers: refused; nothing there; the steps, and the shut paths. -/
def RefPost (t : TTree) (u g deepest : Int) (p : ByteArray) (R : PlaceV × Int) (w : World) (e : Ending) (w' : World) : Prop :=
  (R.2 ≠ 0 ∧ e = .returned (.tuple #[.slice none 0 0, .slice none 0 0, .int .i64 R.2])) ∨
  (R.2 = 0 ∧ R.1.node = 0 ∧ e = .returned (.tuple #[.slice none 0 0, .slice none 0 0, .int .i64 6])) ∨
  (R.2 = 0 ∧ R.1.node ≠ 0 ∧ ∃ vo vs, e = .returned (.tuple #[vo, vs, .int .i64 0]) ∧ Rd w' w.heap.size 4 vo (stepRows (walkP t u g deepest 40 R.1.node p 0).1) ∧ Rd w' w.heap.size 1 vs (pathRows (walkP t u g deepest 40 R.1.node p 0).2))
set_option maxHeartbeats 4000000 in
set_option maxRecDepth 100000 in
theorem refWalk_calls (t : TTree) (hF : t.Fits) (u g m d deepest : Int) (p : ByteArray) (hp : p.size ≤ 900000) (A : Option Addr) (c : Nat) (w : World) (hA : NodesAt w A t.nodes) (R : PlaceV × Int) (hR : findS t u g m d p.data.toList false = R) :
    Calls Tryz.prog 16 #[.agg #[.slice A t.nodes.length c, .int .i64 t.now], .agg #[.int .i64 u, .int .i64 g, .int .i64 m, .int .i64 d], .string p, .int .i64 deepest] w fun e w' => RefPost t u g deepest p R w e w' ∧ Below w.heap.size w w' := by
  have hfu : R.2 = 0 → R.1.node ≠ 0 → Fuel t 40 R.1.node p.size := fun h0 _ => by
    obtain ⟨hT, h1, h2⟩ := findS_node hR h0
    exact hT.fuel40 h1 h2 hp
  have hlen : R.2 = 0 → R.1.node ≠ 0 → (walkP t u g deepest 40 R.1.node p 0).1.length ≤ 1000000 ∧ (walkP t u g deepest 40 R.1.node p 0).2.length ≤ 1000000 := fun h0 hn => by
    have := walk_lens (findS_node hR h0).1 u g deepest 40 R.1.node p.size p 0 (hfu h0 hn)
    omega
  have HA := Lib.hid hA
  have HR := Lib.hid hR
  have HFU := Lib.hid hfu
  have HLEN := Lib.hid hlen
  clear hA hR hfu hlen
  go_enter Tryz.func16, Tryz.ntmps16
  go_upto_region 1 with fail
  obtain ⟨wa, hwa⟩ : ∃ y, y = (w.alloc (.cells #[.slice A t.nodes.length c, .int .i64 t.now] 24)).alloc (.cells #[.int .i64 u, .int .i64 g, .int .i64 m, .int .i64 d] 26) := ⟨_, rfl⟩
  have hBa : Below w.heap.size w wa := by rw [hwa]; exact below_alloc (below_alloc (Below.refl _ _) _) _
  have t0 : wa.cell? ⟨w.heap.size, 0, none⟩ = some (.slice A t.nodes.length c) := by rw [hwa]; simp [go_sem]
  have t1 : wa.cell? ⟨w.heap.size, 1, none⟩ = some (.int .i64 t.now) := by rw [hwa]; simp [go_sem]
  have e0 : wa.cell? ⟨w.heap.size + 1, 0, none⟩ = some (.int .i64 u) := by rw [hwa]; simp [go_sem]
  have e1 : wa.cell? ⟨w.heap.size + 1, 1, none⟩ = some (.int .i64 g) := by rw [hwa]; simp [go_sem]
  have e2 : wa.cell? ⟨w.heap.size + 1, 2, none⟩ = some (.int .i64 m) := by rw [hwa]; simp [go_sem]
  have e3 : wa.cell? ⟨w.heap.size + 1, 3, none⟩ = some (.int .i64 d) := by rw [hwa]; simp [go_sem]
  rw [← hwa]
  clear hwa
  have HBB := Lib.hid hBa
  go_upto_region 2 with (go_at_call 66; refine (refFind14_calls t hF u g m d p (by omega) false A c _ (HA.out.keep HBB.out)).mono ?_; rintro _ w1 ⟨rfl, hb1⟩; rw [HR.out]; dsimp only [PlaceV.val, PlaceV.cells])
  obtain ⟨we, hwe⟩ : ∃ y, y = w1.alloc (.cells #[.int .i64 R.1.dir, .string ⟨R.1.name.toArray⟩, .int .i64 R.1.node, .bool R.1.dirs] 122) := ⟨_, rfl⟩
  have hBe : Below wa.heap.size wa we := by rw [hwe]; exact below_alloc hb1 _
  have p2 : we.cell? ⟨w1.heap.size, 2, none⟩ = some (.int .i64 R.1.node) := by rw [hwe, cell_of_row _ _ _ _ _ _ (heap_alloc_new w1 _)]; rfl
  rw [← hwe]
  obtain ⟨bp, hbp⟩ : ∃ y, y = w1.heap.size := ⟨_, rfl⟩
  rw [← hbp] at p2
  rw [← hbp]
  replace t0 := cell_keep hBe t0
  replace t1 := cell_keep hBe t1
  replace e0 := cell_keep hBe e0
  replace e1 := cell_keep hBe e1
  replace e2 := cell_keep hBe e2
  replace e3 := cell_keep hBe e3
  have HBE := Lib.hid (below_step HBB.out hBe)
  clear hwe hbp hBe hb1 hBa
  by_cases hz : R.2 = 0
  · have HZ := Lib.hid hz
    have hzd : decide (R.2 = 0) = true := decide_eq_true hz
    have hzb : (R.2 == 0) = true := beq_iff_eq.2 hz
    have hzn : (R.2 != 0) = false := by rw [hz]; rfl
    clear hz
    by_cases hn : R.1.node = 0
    · have HN := Lib.hid hn
      have hnd : decide (R.1.node = 0) = true := decide_eq_true hn
      have hnb2 : (R.1.node == 0) = true := beq_iff_eq.2 hn
      clear hn
      go_wp2
      refine bodyPost_ret (results_tmp3 rfl _ _ _) rfl ?_
      exact ⟨.inr (.inl ⟨HZ.out, HN.out, rfl⟩), HBE.out⟩
    · have HN := Lib.hid hn
      have hnd : decide (R.1.node = 0) = false := decide_eq_false hn
      have hnb2 : (R.1.node == 0) = false := beq_eq_false_iff_ne.2 hn
      clear hn
      go_upto_region 7 with fail
      obtain ⟨wf, hwf⟩ : ∃ y, y = we.alloc (.cells #[.slice A t.nodes.length c, .int .i64 t.now, .int .i64 u, .int .i64 g, .int .i64 m, .int .i64 d, .int .i64 deepest, .slice none 0 0, .slice none 0 0] 127) := ⟨_, rfl⟩
      have hBf : Below we.heap.size we wf := by rw [hwf]; exact below_alloc (Below.refl _ _) _
      have hrw : wf.heap[we.heap.size]? = some (.cells #[.slice A t.nodes.length c, .int .i64 t.now, .int .i64 u, .int .i64 g, .int .i64 m, .int .i64 d, .int .i64 deepest, .slice none 0 0, .slice none 0 0] 127 (0, 0)) := by rw [hwf]; exact heap_alloc_new we _
      rw [← hwf]
      obtain ⟨bw, hbw⟩ : ∃ y, y = we.heap.size := ⟨_, rfl⟩
      have hle : w.heap.size ≤ bw := by have := HBE.out.size; omega
      rw [← hbw] at hrw
      rw [← hbw]
      replace p2 := cell_keep hBf p2
      have HBF := Lib.hid (below_step HBE.out hBf)
      have hj : RW w.heap.size bw 127 111 9 A t.nodes.length c t.now u g m d deepest (fun k => k = bw) [] [] wf := ⟨HBF.out.size, _, _, hrw, Own.nil _ _ _ _, Own.nil _ _ _ _, fun k => by simp [Value.ownBlock], by simp [Value.ownBlock], by simp [Value.ownBlock], by simp [Value.ownBlock]⟩
      have HJ := Lib.hid hj
      clear hwf hbw hBf hrw hj
      go_upto_region 8 with (go_at_call 67; refine (refCome_calls t hF A c deepest u g m d w.heap.size bw w HA.out 40 R.1.node p 0 (fun k => k = bw) [] [] _ (HFU.out HZ.out HN.out) (by decide) (by decide) HJ.out (fun k hk => by rw [hk]; exact hle) HBF.out (by simpa using (HLEN.out HZ.out HN.out).1) (by simpa using (HLEN.out HZ.out HN.out).2)).mono ?_; rintro _ w2 ⟨rfl, hw2⟩)
      obtain ⟨O2, ⟨hB2, vo, vs, hr2⟩, hT2, hg2⟩ := hw2
      rw [List.nil_append, List.nil_append] at hr2
      have k7 : w2.cell? ⟨bw, 7, none⟩ = some vo := (cell_of_row w2 bw 7 _ _ _ hr2.row).trans rfl
      have k8 : w2.cell? ⟨bw, 8, none⟩ = some vs := (cell_of_row w2 bw 8 _ _ _ hr2.row).trans rfl
      have HR2 := Lib.hid hr2
      have HBW : Hid (Below w.heap.size w w2) := Lib.hid ⟨hT2.os.trans HBF.out.os, hT2.tape.trans HBF.out.tape, hT2.output.trans HBF.out.output, Nat.le_trans HBF.out.size hT2.size, fun k hk => (hT2.block k (Nat.lt_of_lt_of_le hk HBF.out.size) fun a => absurd a (by first | omega | (dsimp only; omega))).trans (HBF.out.block k hk)⟩
      obtain ⟨Ao, co, hvo⟩ := own_len hr2.oo
      obtain ⟨As, cs, hvs⟩ := own_len hr2.os
      subst hvo hvs
      have hbwl : bw < w2.heap.size := World.block_lt_of_cell? _ _ k7
      clear hr2 hT2 hg2 hB2
      refine wp_region_later (by kernel_rfl) (by kernel_rfl) ?_
      repeat (go_big_quiet_step (fail))
      refine wpQuiet_nil ?_
      intro wL hbL
      go_wp2
      refine bodyPost_ret (results_tmp3 rfl _ _ _) rfl ?_
      exact ⟨.inr (.inr ⟨HZ.out, HN.out, _, _, rfl, (HR2.out.oo.keep hbL).rd, (HR2.out.os.keep hbL).rd⟩), below_step HBW.out hbL⟩
  · have HZ := Lib.hid hz
    have hzd : decide (R.2 = 0) = false := decide_eq_false hz
    have hzb : (R.2 == 0) = false := beq_eq_false_iff_ne.2 hz
    clear hz
    go_wp2
    refine bodyPost_ret (results_tmp3 rfl _ _ _) rfl ?_
    exact ⟨.inl ⟨HZ.out, rfl⟩, HBE.out⟩
end Go.Proofs.YtbfcfjgcmideeaaGreatDoor
