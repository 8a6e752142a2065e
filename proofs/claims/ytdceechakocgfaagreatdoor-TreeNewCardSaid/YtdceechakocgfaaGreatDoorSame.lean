/- Are two lists, nodes, trees the same? Where they are. -/
import Derived.Test.YtdceechakocgfaaGreatDoorM2
import Derived.Test.YtdceechakocgfaaGreatDoorListed
import Derived.Deep.MidRow
import Derived.Outline
namespace Go.Proofs.YtdceechakocgfaaGreatDoor
open Go.RowKit
attribute [local go_sem] Later.cell_eq
theorem bcell2 {W w1 : World} (hb : Below W.heap.size W w1) : ∀ b o, b < W.heap.size → w1.cell? ⟨b, o, none⟩ = W.cell? ⟨b, o, none⟩ := fun b o h => hb.cell (p := ⟨b, o, none⟩) h
set_option maxHeartbeats 1000000 in
set_option maxRecDepth 100000 in
theorem sameBytes_calls (l : List Int) (hl : l.length ≤ 1000000) (A A' : Option Addr) (c c' : Nat) (w : World) (hA : BytesAt w A l) (hT : BytesAt w A' l) :
    Calls Tryz.prog 154 #[.slice A l.length c, .slice A' l.length c'] w fun e w' => e = .returned (.bool true) ∧ Below w.heap.size w w' := by
  have HA := Lib.hid hA
  have HT := Lib.hid hT
  clear hA hT
  go_enter Tryz.func154, Tryz.ntmps154
  go_wp2
  go_loopg [5] l.length (fun g s5 wr => ∃ i : Nat, i + g = l.length ∧ s5 = .int .i64 i ∧ Below w.heap.size w wr)
  case atStart => exact ⟨0, by omega, rfl, Below.refl _ _⟩
  case round =>
    obtain ⟨i, hg, rfl, hb⟩ := hrel
    cases gk with
    | zero =>
      obtain rfl : i = l.length := by omega
      go_wp2
      go_ret
      exact ⟨rfl, hb⟩
    | succ gg =>
      obtain ⟨x, hx⟩ : ∃ x, l[i]? = some x := ⟨l[i]'(by omega), by simp⟩
      obtain ⟨b, o, rfl, e0⟩ := HA.out i x hx
      obtain ⟨b', o', rfl, f0⟩ := HT.out i x hx
      replace e0 := cell_keep hb e0
      replace f0 := cell_keep hb f0
      have hbl := World.block_lt_of_cell? _ _ e0
      have hgl := World.block_lt_of_cell? _ _ f0
      dsimp only at hbl hgl
      have hi0 : (0 : Int) ≤ (i : Int) := by omega
      have hi1 : (i : Int) < (l.length : Int) := by omega
      clear hx
      go_upto_region 6 with fail
      refine wp_region_later (by kernel_rfl) (by kernel_rfl) ?_
      repeat (go_big_quiet_step (fail))
      refine wpQuiet_nil ?_
      intro wL hbL
      go_wp2
      go_roundg gg
      case measure => omega
      case rel => exact ⟨i + 1, by omega, by go_num, below_step hb hbL⟩
set_option maxHeartbeats 1000000 in
set_option maxRecDepth 100000 in
theorem sameEntries_calls (l : List TEnt) (hl : l.length ≤ 1000000) (A A' : Option Addr) (c c' : Nat) (w : World) (hA : EntsAt w A l) (hT : EntsAt w A' l) :
    Calls Tryz.prog 155 #[.slice A l.length c, .slice A' l.length c'] w fun e w' => e = .returned (.bool true) ∧ Below w.heap.size w w' := by
  have HA := Lib.hid hA
  have HT := Lib.hid hT
  clear hA hT
  go_enter Tryz.func155, Tryz.ntmps155
  go_wp2
  go_loopg [5] l.length (fun g s5 wr => ∃ i : Nat, i + g = l.length ∧ s5 = .int .i64 i ∧ Below w.heap.size w wr)
  case atStart => exact ⟨0, by omega, rfl, Below.refl _ _⟩
  case round =>
    obtain ⟨i, hg, rfl, hb⟩ := hrel
    cases gk with
    | zero =>
      obtain rfl : i = l.length := by omega
      go_wp2
      go_ret
      exact ⟨rfl, hb⟩
    | succ gg =>
      obtain ⟨x, hx⟩ : ∃ x, l[i]? = some x := ⟨l[i]'(by omega), by simp⟩
      obtain ⟨b, o, rfl, e0, e1⟩ := HA.out i x hx
      obtain ⟨b', o', rfl, f0, f1⟩ := HT.out i x hx
      replace e0 := cell_keep hb e0
      replace f0 := cell_keep hb f0
      replace e1 := cell_keep hb e1
      replace f1 := cell_keep hb f1
      have hbl := World.block_lt_of_cell? _ _ e0
      have hgl := World.block_lt_of_cell? _ _ f0
      dsimp only at hbl hgl
      have hi0 : (0 : Int) ≤ (i : Int) := by omega
      have hi1 : (i : Int) < (l.length : Int) := by omega
      clear hx
      go_upto_region 6 with fail
      refine wp_region_later (by kernel_rfl) (by kernel_rfl) ?_
      repeat (go_big_quiet_step (fail))
      refine wpQuiet_nil ?_
      intro wL hbL
      go_wp2
      go_roundg gg
      case measure => omega
      case rel => exact ⟨i + 1, by omega, by go_num, below_step hb hbL⟩
set_option maxHeartbeats 2000000 in
set_option maxRecDepth 100000 in
theorem sameNode_calls (n : TNode) (hd : n.data.length ≤ 1000000) (hl : n.list.length ≤ 1000000) (D' L' : Option Addr) (cd' cl' : Nat) (D L : Option Addr) (cd cl : Nat) (w : World)
    (hD : BytesAt w D n.data) (hL : EntsAt w L n.list) (hD' : BytesAt w D' n.data) (hL' : EntsAt w L' n.list) :
    Calls Tryz.prog 101 #[.agg #[.int .u8 n.kind, .int .i64 n.mode, .int .i64 n.user, .int .i64 n.group, .int .i64 n.links, .int .i64 n.time, .slice D n.data.length cd, .string n.target, .slice L n.list.length cl, .int .i64 n.parent], .agg #[.int .u8 n.kind, .int .i64 n.mode, .int .i64 n.user, .int .i64 n.group, .int .i64 n.links, .int .i64 n.time, .slice D' n.data.length cd', .string n.target, .slice L' n.list.length cl', .int .i64 n.parent]] w fun e w' => e = .returned (.bool true) ∧ Below w.heap.size w w' := by
  have HD := Lib.hid hD
  have HL := Lib.hid hL
  have HD' := Lib.hid hD'
  have HL' := Lib.hid hL'
  clear hD hL hD' hL'
  have hb0 := fun (o1 o2 : Obj) => below_alloc (below_alloc (Below.refl w.heap.size w) o1) o2
  have HB0 := Lib.hid hb0
  clear hb0
  go_enter Tryz.func101, Tryz.ntmps101
  go_wp2_with (first
    | (go_at_call 154; refine (sameBytes_calls n.data hd D D' cd cd' _ (HD.out.keep (HB0.out _ _)) (HD'.out.keep (HB0.out _ _))).mono ?_; rintro _ w1 ⟨rfl, hb1⟩; have hc1 := bcell2 hb1; have HB1 := Lib.hid (below_step (HB0.out _ _) hb1); have hs1 := hb1.size; simp only [World.size_alloc] at hs1; have hs1a : w.heap.size < w1.heap.size := (by omega); have hs1b : w.heap.size + 1 < w1.heap.size := (by omega); clear hb1)
    | (go_at_call 155; refine (sameEntries_calls n.list hl L L' cl cl' _ (HL.out.keep HB1.out) (HL'.out.keep HB1.out)).mono ?_; rintro _ w2 ⟨rfl, hb2⟩; have hc2 := bcell2 hb2; have HB2 := Lib.hid (below_step HB1.out hb2); clear hb2))
  go_ret
  exact ⟨rfl, HB2.out⟩
set_option maxHeartbeats 2000000 in
set_option maxRecDepth 100000 in
theorem sameNodes_calls (l : List TNode) (hl : l.length ≤ 1000000) (hF : ∀ n ∈ l, n.data.length ≤ 1000000 ∧ n.list.length ≤ 1000000) (A A' : Option Addr) (c c' : Nat) (w : World) (hA : NodesAt w A l) (hT : NodesAt w A' l) :
    Calls Tryz.prog 35 #[.slice A l.length c, .slice A' l.length c'] w fun e w' => e = .returned (.bool true) ∧ Below w.heap.size w w' := by
  have HA := Lib.hid hA
  have HF := Lib.hid hF
  have HT := Lib.hid hT
  clear hA hT hF
  go_enter Tryz.func35, Tryz.ntmps35
  go_wp2
  go_loopg [5] l.length (fun g s5 wr => ∃ i : Nat, i + g = l.length ∧ s5 = .int .i64 i ∧ Below w.heap.size w wr)
  case atStart => exact ⟨0, by omega, rfl, Below.refl _ _⟩
  case round =>
    obtain ⟨i, hg, rfl, hb⟩ := hrel
    cases gk with
    | zero =>
      obtain rfl : i = l.length := by omega
      go_wp2
      go_ret
      exact ⟨rfl, hb⟩
    | succ gg =>
      obtain ⟨n, hx⟩ : ∃ x, l[i]? = some x := ⟨l[i]'(by omega), by simp⟩
      obtain ⟨b, o, D, cd, L, cl, rfl, -, hD, -, hL, e0, e1, e2, e3, e4, e5, e6, e7, e8, e9⟩ := HA.out.get hx
      obtain ⟨b', o', D', cd', L', cl', rfl, -, hD', -, hL', f0, f1, f2, f3, f4, f5, f6, f7, f8, f9⟩ := HT.out.get hx
      replace e0 := cell_keep hb e0
      replace e1 := cell_keep hb e1
      replace e2 := cell_keep hb e2
      replace e3 := cell_keep hb e3
      replace e4 := cell_keep hb e4
      replace e5 := cell_keep hb e5
      replace e6 := cell_keep hb e6
      replace e7 := cell_keep hb e7
      replace e8 := cell_keep hb e8
      replace e9 := cell_keep hb e9
      replace f0 := cell_keep hb f0
      replace f1 := cell_keep hb f1
      replace f2 := cell_keep hb f2
      replace f3 := cell_keep hb f3
      replace f4 := cell_keep hb f4
      replace f5 := cell_keep hb f5
      replace f6 := cell_keep hb f6
      replace f7 := cell_keep hb f7
      replace f8 := cell_keep hb f8
      replace f9 := cell_keep hb f9
      have hbl := World.block_lt_of_cell? _ _ e0
      have hgl := World.block_lt_of_cell? _ _ f0
      dsimp only at hbl hgl
      have HD := Lib.hid (hD.keep hb)
      have HL := Lib.hid (hL.keep hb)
      have HD' := Lib.hid (hD'.keep hb)
      have HL' := Lib.hid (hL'.keep hb)
      have HN := Lib.hid (HF.out n (List.mem_of_getElem? hx))
      have hi0 : (0 : Int) ≤ (i : Int) := by omega
      have hi1 : (i : Int) < (l.length : Int) := by omega
      clear hx hD hL hD' hL'
      go_upto_region 6 with fail
      refine wp_region_later (by kernel_rfl) (by kernel_rfl) ?_
      repeat (go_big_quiet_step ((exact Calls.later (sameNode_calls n HN.out.1 HN.out.2 D' L' cd' cl' D L cd cl _ (HD.out.keep (Later.h _)) (HL.out.keep (Later.h _)) (HD'.out.keep (Later.h _)) (HL'.out.keep (Later.h _))))))
      refine wpQuiet_nil ?_
      intro wL hbL
      go_wp2
      go_roundg gg
      case measure => omega
      case rel => exact ⟨i + 1, by omega, by go_num, below_step hb hbL⟩
set_option maxHeartbeats 2000000 in
set_option maxRecDepth 100000 in
theorem sameTree_calls (t : TTree) (hl : t.nodes.length ≤ 1000000) (hF : ∀ n ∈ t.nodes, n.data.length ≤ 1000000 ∧ n.list.length ≤ 1000000) (A A' : Option Addr) (c c' : Nat) (w : World) (hA : NodesAt w A t.nodes) (hT : NodesAt w A' t.nodes) :
    Calls Tryz.prog 9 #[.agg #[.slice A t.nodes.length c, .int .i64 t.now], .agg #[.slice A' t.nodes.length c', .int .i64 t.now]] w fun e w' => e = .returned (.bool true) ∧ Below w.heap.size w w' := by
  have HA := Lib.hid hA
  have HF := Lib.hid hF
  have HT := Lib.hid hT
  clear hA hT hF
  have hb0 := fun (o1 o2 : Obj) => below_alloc (below_alloc (Below.refl w.heap.size w) o1) o2
  have HB0 := Lib.hid hb0
  clear hb0
  go_enter Tryz.func9, Tryz.ntmps9
  go_wp2_with (go_at_call 35; refine (sameNodes_calls t.nodes hl HF.out A A' c c' _ (HA.out.keep (HB0.out _ _)) (HT.out.keep (HB0.out _ _))).mono ?_; rintro _ w1 ⟨rfl, hb1⟩; have hc1 := bcell2 hb1; have HB1 := Lib.hid (below_step (HB0.out _ _) hb1); clear hb1)
  go_ret
  exact ⟨rfl, HB1.out⟩
end Go.Proofs.YtdceechakocgfaaGreatDoor
