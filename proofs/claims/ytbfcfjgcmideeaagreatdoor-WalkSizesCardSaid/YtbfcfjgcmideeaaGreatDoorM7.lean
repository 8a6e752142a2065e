/- Is a copy still what it was made of? -/
/- Is a copied node, list of nodes, tree still what it was made of? -/
import Derived.Test.YtbfcfjgcmideeaaGreatDoorM6
namespace Go.Proofs.YtbfcfjgcmideeaaGreatDoor
open Go.RowKit
attribute [local go_sem] Later.cell_eq
set_option maxHeartbeats 1000000 in
set_option maxRecDepth 100000 in
theorem leftBytes_calls (l : List Int) (hl : l.length ≤ 1000000) (A : Option Addr) (c g cap : Nat) (hc : l.length + 1 ≤ cap) (w : World) (hA : BytesAt w A l) (hT : BytesAt w (some ⟨g, 0, none⟩) (l ++ [77])) :
    Calls Tryz.prog 139 #[.slice (some ⟨g, 0, none⟩) l.length cap, .slice A l.length c] w fun e w' => e = .returned (.bool true) ∧ Below w.heap.size w w' := by
  have HA := Lib.hid hA
  have HT := Lib.hid hT
  have hcn : decide (cap ≤ l.length) = false := decide_eq_false (by omega)
  have hlc : l.length ≤ cap := by omega
  clear hA hT
  go_enter Tryz.func139, Tryz.ntmps139
  go_wp2
  go_loopg [5] l.length (fun g s5 wr => ∃ i : Nat, i + g = l.length ∧ s5 = .int .i64 i ∧ Below w.heap.size w wr)
  case atStart => exact ⟨0, by omega, rfl, Below.refl _ _⟩
  case round =>
    obtain ⟨i, hg, rfl, hb⟩ := hrel
    cases gk with
    | zero =>
      obtain rfl : i = l.length := by omega
      obtain ⟨b', o', hA', e0⟩ := HT.out l.length 77 (by simp)
      cases hA'
      replace e0 := cell_keep hb e0
      rw [Nat.zero_add] at e0
      go_wp2
      go_ret
      exact ⟨rfl, hb⟩
    | succ gg =>
      obtain ⟨x, hx⟩ : ∃ x, l[i]? = some x := ⟨l[i]'(by omega), by simp⟩
      obtain ⟨b, o, rfl, e0⟩ := HA.out i x hx
      obtain ⟨b', o', hA', f0⟩ := HT.out i x (by rw [List.getElem?_append_left (by omega)]; exact hx)
      cases hA'
      replace e0 := cell_keep hb e0
      replace f0 := cell_keep hb f0
      rw [Nat.zero_add] at f0
      have hbl := World.block_lt_of_cell? _ _ e0
      have hgl := World.block_lt_of_cell? _ _ f0
      dsimp only at hbl hgl
      have hi0 : (0 : Int) ≤ (i : Int) := by omega
      have hi1 : (i : Int) < (l.length : Int) := by omega
      clear hx
      go_wp2
      refine wp_region_later (by kernel_rfl) (by kernel_rfl) ?_
      repeat (go_big_quiet_step (fail))
      refine wpQuiet_nil ?_
      intro wL hbL
      go_wp2
      go_roundg gg
      case measure => omega
      case rel => exact ⟨i + 1, by omega, by go_num, below_step hb hbL⟩
set_option maxHeartbeats 1000000 in
set_option maxRecDepth 100000 in
theorem leftEntries_calls (l : List TEnt) (hl : l.length ≤ 1000000) (A : Option Addr) (c g cap : Nat) (hc : l.length + 1 ≤ cap) (w : World) (hA : EntsAt w A l) (hT : EntsAt w (some ⟨g, 0, none⟩) (l ++ [⟨⟨#[115, 112, 97, 114, 101]⟩, 0⟩])) :
    Calls Tryz.prog 219 #[.slice (some ⟨g, 0, none⟩) l.length cap, .slice A l.length c] w fun e w' => e = .returned (.bool true) ∧ Below w.heap.size w w' := by
  have HA := Lib.hid hA
  have HT := Lib.hid hT
  have hcn : decide (cap ≤ l.length) = false := decide_eq_false (by omega)
  have hlc : l.length ≤ cap := by omega
  clear hA hT
  go_enter Tryz.func219, Tryz.ntmps219
  go_wp2
  go_loopg [5] l.length (fun g s5 wr => ∃ i : Nat, i + g = l.length ∧ s5 = .int .i64 i ∧ Below w.heap.size w wr)
  case atStart => exact ⟨0, by omega, rfl, Below.refl _ _⟩
  case round =>
    obtain ⟨i, hg, rfl, hb⟩ := hrel
    cases gk with
    | zero =>
      obtain rfl : i = l.length := by omega
      obtain ⟨b', o', hA', e0, e1⟩ := HT.out l.length _ (by simp; rfl)
      cases hA'
      replace e0 := cell_keep hb e0
      replace e1 := cell_keep hb e1
      rw [Nat.zero_add] at e0 e1
      go_wp2
      go_ret
      exact ⟨rfl, below_alloc hb _⟩
    | succ gg =>
      obtain ⟨x, hx⟩ : ∃ x, l[i]? = some x := ⟨l[i]'(by omega), by simp⟩
      obtain ⟨b, o, rfl, e0, e1⟩ := HA.out i x hx
      obtain ⟨b', o', hA', f0, f1⟩ := HT.out i x (by rw [List.getElem?_append_left (by omega)]; exact hx)
      cases hA'
      replace e0 := cell_keep hb e0
      replace f0 := cell_keep hb f0
      replace e1 := cell_keep hb e1
      replace f1 := cell_keep hb f1
      rw [Nat.zero_add] at f0 f1
      have hbl := World.block_lt_of_cell? _ _ e0
      have hgl := World.block_lt_of_cell? _ _ f0
      dsimp only at hbl hgl
      have hi0 : (0 : Int) ≤ (i : Int) := by omega
      have hi1 : (i : Int) < (l.length : Int) := by omega
      clear hx
      go_wp2
      refine wp_region_later (by kernel_rfl) (by kernel_rfl) ?_
      repeat (go_big_quiet_step (fail))
      refine wpQuiet_nil ?_
      intro wL hbL
      go_wp2
      go_roundg gg
      case measure => omega
      case rel => exact ⟨i + 1, by omega, by go_num, below_step hb hbL⟩
end Go.Proofs.YtbfcfjgcmideeaaGreatDoor
namespace Go.Proofs.YtbfcfjgcmideeaaGreatDoor
open Go.RowKit
attribute [local go_sem] Later.cell_eq
theorem bcell {W w1 : World} (hb : Below W.heap.size W w1) : ∀ b o, b < W.heap.size → w1.cell? ⟨b, o, none⟩ = W.cell? ⟨b, o, none⟩ := fun b o h => hb.cell (p := ⟨b, o, none⟩) h
theorem TwinAt.get {w : World} {B g cap : Nat} {l : List TNode} (h : TwinAt w B g cap l) {i : Nat} {n : TNode} (hi : l[i]? = some n) :
    ∃ D cd L cl, n.data.length + 1 ≤ cd ∧ BytesAt w (some ⟨D, 0, none⟩) (n.data ++ [77]) ∧ n.list.length + 1 ≤ cl ∧ EntsAt w (some ⟨L, 0, none⟩) (n.list ++ [⟨⟨#[115, 112, 97, 114, 101]⟩, 0⟩]) ∧ w.cell? ⟨g, i * 10, none⟩ = some (.int .u8 n.kind) ∧ w.cell? ⟨g, i * 10 + 1, none⟩ = some (.int .i64 n.mode) ∧ w.cell? ⟨g, i * 10 + 2, none⟩ = some (.int .i64 n.user) ∧ w.cell? ⟨g, i * 10 + 3, none⟩ = some (.int .i64 n.group) ∧ w.cell? ⟨g, i * 10 + 4, none⟩ = some (.int .i64 n.links) ∧ w.cell? ⟨g, i * 10 + 5, none⟩ = some (.int .i64 n.time) ∧ w.cell? ⟨g, i * 10 + 6, none⟩ = some (.slice (some ⟨D, 0, none⟩) n.data.length cd) ∧ w.cell? ⟨g, i * 10 + 7, none⟩ = some (.string n.target) ∧ w.cell? ⟨g, i * 10 + 8, none⟩ = some (.slice (some ⟨L, 0, none⟩) n.list.length cl) ∧ w.cell? ⟨g, i * 10 + 9, none⟩ = some (.int .i64 n.parent) := by
  obtain ⟨⟨rows, tl, h1, h2⟩, h3, h4⟩ := h
  obtain ⟨vs, h5, ⟨D, cd, L, cl, rfl, e1, e2, e3, e4, -⟩, -⟩ := h2.2 i n (List.getElem?_eq_some_iff.1 hi).1 hi
  have hr : (rows ++ [spareRow])[i]? = some [.int .u8 n.kind, .int .i64 n.mode, .int .i64 n.user, .int .i64 n.group, .int .i64 n.links, .int .i64 n.time, .slice (some ⟨D, 0, none⟩) n.data.length cd, .string n.target, .slice (some ⟨L, 0, none⟩) n.list.length cl, .int .i64 n.parent] := by
    rw [List.getElem?_append_left (List.getElem?_eq_some_iff.1 h5).1]; exact h5
  have hc := fun (j : Nat) (v : Value) hj => h1.cell hr (j := j) (u := v) hj
  simp only [Nat.zero_add] at hc
  exact ⟨D, cd, L, cl, e1, bytesAt_own e2, e3, entsAt_own e4, hc 0 _ rfl, hc 1 _ rfl, hc 2 _ rfl, hc 3 _ rfl, hc 4 _ rfl, hc 5 _ rfl, hc 6 _ rfl, hc 7 _ rfl, hc 8 _ rfl, hc 9 _ rfl⟩
theorem TwinAt.spare {w : World} {B g cap : Nat} {l : List TNode} (h : TwinAt w B g cap l) : w.cell? ⟨g, l.length * 10, none⟩ = some (.int .u8 0) ∧ w.cell? ⟨g, l.length * 10 + 1, none⟩ = some (.int .i64 77) ∧ w.cell? ⟨g, l.length * 10 + 2, none⟩ = some (.int .i64 0) ∧ w.cell? ⟨g, l.length * 10 + 3, none⟩ = some (.int .i64 0) ∧ w.cell? ⟨g, l.length * 10 + 4, none⟩ = some (.int .i64 0) ∧ w.cell? ⟨g, l.length * 10 + 5, none⟩ = some (.int .i64 0) ∧ w.cell? ⟨g, l.length * 10 + 6, none⟩ = some (.slice none 0 0) ∧ w.cell? ⟨g, l.length * 10 + 7, none⟩ = some (.string ⟨#[]⟩) ∧ w.cell? ⟨g, l.length * 10 + 8, none⟩ = some (.slice none 0 0) ∧ w.cell? ⟨g, l.length * 10 + 9, none⟩ = some (.int .i64 0) := by
  obtain ⟨⟨rows, tl, h1, h2⟩, h3, h4⟩ := h
  have hr : (rows ++ [spareRow])[l.length]? = some spareRow := by
    rw [List.getElem?_append_right (by rw [h2.1]; exact Nat.le_refl _), h2.1]; simp
  have hc := fun (j : Nat) (v : Value) hj => h1.cell hr (j := j) (u := v) hj
  simp only [Nat.zero_add] at hc
  exact ⟨hc 0 _ rfl, hc 1 _ rfl, hc 2 _ rfl, hc 3 _ rfl, hc 4 _ rfl, hc 5 _ rfl, hc 6 _ rfl, hc 7 _ rfl, hc 8 _ rfl, hc 9 _ rfl⟩
set_option maxHeartbeats 2000000 in
set_option maxRecDepth 100000 in
theorem leftNode_calls (n : TNode) (hd : n.data.length ≤ 1000000) (hl : n.list.length ≤ 1000000) (D' L' cd' cl' : Nat) (D L : Option Addr) (cd cl : Nat) (hcd : n.data.length + 1 ≤ cd') (hcl : n.list.length + 1 ≤ cl') (w : World)
    (hD : BytesAt w D n.data) (hL : EntsAt w L n.list) (hD' : BytesAt w (some ⟨D', 0, none⟩) (n.data ++ [77])) (hL' : EntsAt w (some ⟨L', 0, none⟩) (n.list ++ [⟨⟨#[115, 112, 97, 114, 101]⟩, 0⟩])) :
    Calls Tryz.prog 149 #[.agg #[.int .u8 n.kind, .int .i64 n.mode, .int .i64 n.user, .int .i64 n.group, .int .i64 n.links, .int .i64 n.time, .slice (some ⟨D', 0, none⟩) n.data.length cd', .string n.target, .slice (some ⟨L', 0, none⟩) n.list.length cl', .int .i64 n.parent], .agg #[.int .u8 n.kind, .int .i64 n.mode, .int .i64 n.user, .int .i64 n.group, .int .i64 n.links, .int .i64 n.time, .slice D n.data.length cd, .string n.target, .slice L n.list.length cl, .int .i64 n.parent]] w fun e w' => e = .returned (.bool true) ∧ Below w.heap.size w w' := by
  have HD := Lib.hid hD
  have HL := Lib.hid hL
  have HD' := Lib.hid hD'
  have HL' := Lib.hid hL'
  clear hD hL hD' hL'
  have hb0 := fun (o1 o2 : Obj) => below_alloc (below_alloc (Below.refl w.heap.size w) o1) o2
  have HB0 := Lib.hid hb0
  clear hb0
  go_enter Tryz.func149, Tryz.ntmps149
  go_wp2_with (first
    | (go_at_call 139; refine (leftBytes_calls n.data hd D cd D' cd' hcd _ (HD.out.keep (HB0.out _ _)) (HD'.out.keep (HB0.out _ _))).mono ?_; rintro _ w1 ⟨rfl, hb1⟩; have hc1 := bcell hb1; have HB1 := Lib.hid (below_step (HB0.out _ _) hb1); have hs1 := hb1.size; simp only [World.size_alloc] at hs1; have hs1a : w.heap.size < w1.heap.size := (by omega); have hs1b : w.heap.size + 1 < w1.heap.size := (by omega); clear hb1 hs1)
    | (go_at_call 219; refine (leftEntries_calls n.list hl L cl L' cl' hcl _ (HL.out.keep HB1.out) (HL'.out.keep HB1.out)).mono ?_; rintro _ w2 ⟨rfl, hb2⟩; have hc2 := bcell hb2; have HB2 := Lib.hid (below_step HB1.out hb2); clear hb2))
  go_ret
  exact ⟨rfl, HB2.out⟩
set_option maxHeartbeats 2000000 in
set_option maxRecDepth 100000 in
theorem leftNodes_calls (l : List TNode) (hl : l.length ≤ 1000000) (hF : ∀ n ∈ l, n.data.length ≤ 1000000 ∧ n.list.length ≤ 1000000) (A : Option Addr) (c B g cap : Nat) (w : World) (hA : NodesAt w A l) (hT : TwinAt w B g cap l) :
    Calls Tryz.prog 68 #[.slice (some ⟨g, 0, none⟩) l.length cap, .slice A l.length c] w fun e w' => e = .returned (.bool true) ∧ Below w.heap.size w w' := by
  have hcap := hT.cap
  have HA := Lib.hid hA
  have HF := Lib.hid hF
  have HT := Lib.hid hT
  have hcn : decide (cap ≤ l.length) = false := decide_eq_false (by omega)
  have hlc : l.length ≤ cap := by omega
  clear hA hT hF
  go_enter Tryz.func68, Tryz.ntmps68
  go_wp2
  go_loopg [5] l.length (fun g s5 wr => ∃ i : Nat, i + g = l.length ∧ s5 = .int .i64 i ∧ Below w.heap.size w wr)
  case atStart => exact ⟨0, by omega, rfl, Below.refl _ _⟩
  case round =>
    obtain ⟨i, hg, rfl, hb⟩ := hrel
    cases gk with
    | zero =>
      obtain rfl : i = l.length := by omega
      obtain ⟨e0, e1, e2, e3, e4, e5, e6, e7, e8, e9⟩ := HT.out.spare
      replace e0 := cell_keep hb e0
      replace e1 := cell_keep hb e1
      replace e2 := cell_keep hb e2
      replace e3 := cell_keep hb e3
      replace e4 := cell_keep hb e4
      replace e5 := cell_keep hb e5
      replace e6 := cell_keep hb e6
      replace e7 := cell_keep hb e7
      replace e8 := cell_keep hb e8
      replace e9 := cell_keep hb e9
      go_wp2
      go_ret
      exact ⟨rfl, below_alloc hb _⟩
    | succ gg =>
      obtain ⟨n, hx⟩ : ∃ x, l[i]? = some x := ⟨l[i]'(by omega), by simp⟩
      obtain ⟨b, o, D, cd, L, cl, rfl, -, hD, -, hL, e0, e1, e2, e3, e4, e5, e6, e7, e8, e9⟩ := HA.out.get hx
      obtain ⟨D', cd', L', cl', hcd, hD', hcl, hL', f0, f1, f2, f3, f4, f5, f6, f7, f8, f9⟩ := HT.out.get hx
      replace e0 := cell_keep hb e0
      replace e1 := cell_keep hb e1
      replace e2 := cell_keep hb e2
      replace e3 := cell_keep hb e3
      replace e4 := cell_keep hb e4
      replace e5 := cell_keep hb e5
      replace e6 := cell_keep hb e6
      replace e7 := cell_keep hb e7
      replace e8 := cell_keep hb e8
      replace e9 := cell_keep hb e9
      replace f0 := cell_keep hb f0
      replace f1 := cell_keep hb f1
      replace f2 := cell_keep hb f2
      replace f3 := cell_keep hb f3
      replace f4 := cell_keep hb f4
      replace f5 := cell_keep hb f5
      replace f6 := cell_keep hb f6
      replace f7 := cell_keep hb f7
      replace f8 := cell_keep hb f8
      replace f9 := cell_keep hb f9
      have hbl := World.block_lt_of_cell? _ _ e0
      have hgl := World.block_lt_of_cell? _ _ f0
      dsimp only at hbl hgl
      have HD := Lib.hid (hD.keep hb)
      have HL := Lib.hid (hL.keep hb)
      have HD' := Lib.hid (hD'.keep hb)
      have HL' := Lib.hid (hL'.keep hb)
      have HN := Lib.hid (HF.out n (List.mem_of_getElem? hx))
      have hi0 : (0 : Int) ≤ (i : Int) := by omega
      have hi1 : (i : Int) < (l.length : Int) := by omega
      clear hx hD hL hD' hL'
      go_wp2
      refine wp_region_later (by kernel_rfl) (by kernel_rfl) ?_
      repeat (go_big_quiet_step ((exact Calls.later (leftNode_calls n HN.out.1 HN.out.2 D' L' cd' cl' D L cd cl hcd hcl _ (HD.out.keep (Later.h _)) (HL.out.keep (Later.h _)) (HD'.out.keep (Later.h _)) (HL'.out.keep (Later.h _))))))
      refine wpQuiet_nil ?_
      intro wL hbL
      go_wp2
      go_roundg gg
      case measure => omega
      case rel => exact ⟨i + 1, by omega, by go_num, below_step hb hbL⟩
set_option maxHeartbeats 2000000 in
set_option maxRecDepth 100000 in
theorem leftTree_calls (t : TTree) (hl : t.nodes.length ≤ 1000000) (hF : ∀ n ∈ t.nodes, n.data.length ≤ 1000000 ∧ n.list.length ≤ 1000000) (A : Option Addr) (c B g cap : Nat) (w : World) (hA : NodesAt w A t.nodes) (hT : TwinAt w B g cap t.nodes) :
    Calls Tryz.prog 19 #[.agg #[.slice (some ⟨g, 0, none⟩) t.nodes.length cap, .int .i64 t.now], .agg #[.slice A t.nodes.length c, .int .i64 t.now]] w fun e w' => e = .returned (.bool true) ∧ Below w.heap.size w w' := by
  have HA := Lib.hid hA
  have HF := Lib.hid hF
  have HT := Lib.hid hT
  clear hA hT hF
  have hb0 := fun (o1 o2 : Obj) => below_alloc (below_alloc (Below.refl w.heap.size w) o1) o2
  have HB0 := Lib.hid hb0
  clear hb0
  go_enter Tryz.func19, Tryz.ntmps19
  go_wp2_with (go_at_call 68; refine (leftNodes_calls t.nodes hl HF.out A c B g cap _ (HA.out.keep (HB0.out _ _)) (HT.out.keep (HB0.out _ _))).mono ?_; rintro _ w1 ⟨rfl, hb1⟩; have hc1 := bcell hb1; have HB1 := Lib.hid (below_step (HB0.out _ _) hb1); clear hb1)
  go_ret
  exact ⟨rfl, HB1.out⟩
end Go.Proofs.YtbfcfjgcmideeaaGreatDoor
