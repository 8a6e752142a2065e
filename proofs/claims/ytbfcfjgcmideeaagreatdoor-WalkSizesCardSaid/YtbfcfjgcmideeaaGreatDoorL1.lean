/- Are two lists, nodes, trees the same? Where they are. -/
/- Are two lists of ints, texts, steps the same? Where they are. Copies of steps. -/
import Derived.Test.YtbfcfjgcmideeaaGreatDoorM2
import Derived.Test.YtbfcfjgcmideeaaGreatDoorListed
import Derived.Deep.MidRow
import Derived.Outline
import Derived.Test.YtbfcfjgcmideeaaGreatDoorW2
import Derived.Test.YtbfcfjgcmideeaaGreatDoorW6
import Derived.Test.YtbfcfjgcmideeaaGreatDoorM7
namespace Go.Proofs.YtbfcfjgcmideeaaGreatDoor
open Go.RowKit
attribute [local go_sem] Later.cell_eq
theorem bcell2 {W w1 : World} (hb : Below W.heap.size W w1) : ∀ b o, b < W.heap.size → w1.cell? ⟨b, o, none⟩ = W.cell? ⟨b, o, none⟩ := fun b o h => hb.cell (p := ⟨b, o, none⟩) h
set_option maxHeartbeats 1000000 in
set_option maxRecDepth 100000 in
theorem sameBytes_calls (l : List Int) (hl : l.length ≤ 1000000) (A A' : Option Addr) (c c' : Nat) (w : World) (hA : BytesAt w A l) (hT : BytesAt w A' l) :
    Calls Tryz.prog 37 #[.slice A l.length c, .slice A' l.length c'] w fun e w' => e = .returned (.bool true) ∧ Below w.heap.size w w' := by
  have HA := Lib.hid hA
  have HT := Lib.hid hT
  clear hA hT
  go_enter Tryz.func37, Tryz.ntmps37
  go_wp2
  go_loopg [5] l.length (fun g s5 wr => ∃ i : Nat, i + g = l.length ∧ s5 = .int .i64 i ∧ Below w.heap.size w wr)
  case atStart => exact ⟨0, by omega, rfl, Below.refl _ _⟩
  case round =>
    obtain ⟨i, hg, rfl, hb⟩ := hrel
    cases gk with
    | zero =>
      obtain rfl : i = l.length := by omega
      go_wp2
      go_ret
      exact ⟨rfl, hb⟩
    | succ gg =>
      obtain ⟨x, hx⟩ : ∃ x, l[i]? = some x := ⟨l[i]'(by omega), by simp⟩
      obtain ⟨b, o, rfl, e0⟩ := HA.out i x hx
      obtain ⟨b', o', rfl, f0⟩ := HT.out i x hx
      replace e0 := cell_keep hb e0
      replace f0 := cell_keep hb f0
      have hbl := World.block_lt_of_cell? _ _ e0
      have hgl := World.block_lt_of_cell? _ _ f0
      dsimp only at hbl hgl
      have hi0 : (0 : Int) ≤ (i : Int) := by omega
      have hi1 : (i : Int) < (l.length : Int) := by omega
      clear hx
      go_upto_region 6 with fail
      refine wp_region_later (by kernel_rfl) (by kernel_rfl) ?_
      repeat (go_big_quiet_step (fail))
      refine wpQuiet_nil ?_
      intro wL hbL
      go_wp2
      go_roundg gg
      case measure => omega
      case rel => exact ⟨i + 1, by omega, by go_num, below_step hb hbL⟩
set_option maxHeartbeats 1000000 in
set_option maxRecDepth 100000 in
theorem sameEntries_calls (l : List TEnt) (hl : l.length ≤ 1000000) (A A' : Option Addr) (c c' : Nat) (w : World) (hA : EntsAt w A l) (hT : EntsAt w A' l) :
    Calls Tryz.prog 39 #[.slice A l.length c, .slice A' l.length c'] w fun e w' => e = .returned (.bool true) ∧ Below w.heap.size w w' := by
  have HA := Lib.hid hA
  have HT := Lib.hid hT
  clear hA hT
  go_enter Tryz.func39, Tryz.ntmps39
  go_wp2
  go_loopg [5] l.length (fun g s5 wr => ∃ i : Nat, i + g = l.length ∧ s5 = .int .i64 i ∧ Below w.heap.size w wr)
  case atStart => exact ⟨0, by omega, rfl, Below.refl _ _⟩
  case round =>
    obtain ⟨i, hg, rfl, hb⟩ := hrel
    cases gk with
    | zero =>
      obtain rfl : i = l.length := by omega
      go_wp2
      go_ret
      exact ⟨rfl, hb⟩
    | succ gg =>
      obtain ⟨x, hx⟩ : ∃ x, l[i]? = some x := ⟨l[i]'(by omega), by simp⟩
      obtain ⟨b, o, rfl, e0, e1⟩ := HA.out i x hx
      obtain ⟨b', o', rfl, f0, f1⟩ := HT.out i x hx
      replace e0 := cell_keep hb e0
      replace f0 := cell_keep hb f0
      replace e1 := cell_keep hb e1
      replace f1 := cell_keep hb f1
      have hbl := World.block_lt_of_cell? _ _ e0
      have hgl := World.block_lt_of_cell? _ _ f0
      dsimp only at hbl hgl
      have hi0 : (0 : Int) ≤ (i : Int) := by omega
      have hi1 : (i : Int) < (l.length : Int) := by omega
      clear hx
      go_upto_region 6 with fail
      refine wp_region_later (by kernel_rfl) (by kernel_rfl) ?_
      repeat (go_big_quiet_step (fail))
      refine wpQuiet_nil ?_
      intro wL hbL
      go_wp2
      go_roundg gg
      case measure => omega
      case rel => exact ⟨i + 1, by omega, by go_num, below_step hb hbL⟩
set_option maxHeartbeats 2000000 in
set_option maxRecDepth 100000 in
theorem sameNode_calls (n : TNode) (hd : n.data.length ≤ 1000000) (hl : n.list.length ≤ 1000000) (D' L' : Option Addr) (cd' cl' : Nat) (D L : Option Addr) (cd cl : Nat) (w : World)
    (hD : BytesAt w D n.data) (hL : EntsAt w L n.list) (hD' : BytesAt w D' n.data) (hL' : EntsAt w L' n.list) :
    Calls Tryz.prog 213 #[.agg #[.int .u8 n.kind, .int .i64 n.mode, .int .i64 n.user, .int .i64 n.group, .int .i64 n.links, .int .i64 n.time, .slice D n.data.length cd, .string n.target, .slice L n.list.length cl, .int .i64 n.parent], .agg #[.int .u8 n.kind, .int .i64 n.mode, .int .i64 n.user, .int .i64 n.group, .int .i64 n.links, .int .i64 n.time, .slice D' n.data.length cd', .string n.target, .slice L' n.list.length cl', .int .i64 n.parent]] w fun e w' => e = .returned (.bool true) ∧ Below w.heap.size w w' := by
  have HD := Lib.hid hD
  have HL := Lib.hid hL
  have HD' := Lib.hid hD'
  have HL' := Lib.hid hL'
  clear hD hL hD' hL'
  have hb0 := fun (o1 o2 : Obj) => below_alloc (below_alloc (Below.refl w.heap.size w) o1) o2
  have HB0 := Lib.hid hb0
  clear hb0
  go_enter Tryz.func213, Tryz.ntmps213
  go_wp2_with (first
    | (go_at_call 37; refine (sameBytes_calls n.data hd D D' cd cd' _ (HD.out.keep (HB0.out _ _)) (HD'.out.keep (HB0.out _ _))).mono ?_; rintro _ w1 ⟨rfl, hb1⟩; have hc1 := bcell2 hb1; have HB1 := Lib.hid (below_step (HB0.out _ _) hb1); have hs1 := hb1.size; simp only [World.size_alloc] at hs1; have hs1a : w.heap.size < w1.heap.size := (by omega); have hs1b : w.heap.size + 1 < w1.heap.size := (by omega); clear hb1)
    | (go_at_call 39; refine (sameEntries_calls n.list hl L L' cl cl' _ (HL.out.keep HB1.out) (HL'.out.keep HB1.out)).mono ?_; rintro _ w2 ⟨rfl, hb2⟩; have hc2 := bcell2 hb2; have HB2 := Lib.hid (below_step HB1.out hb2); clear hb2))
  go_ret
  exact ⟨rfl, HB2.out⟩
set_option maxHeartbeats 2000000 in
set_option maxRecDepth 100000 in
theorem sameNodes_calls (l : List TNode) (hl : l.length ≤ 1000000) (hF : ∀ n ∈ l, n.data.length ≤ 1000000 ∧ n.list.length ≤ 1000000) (A A' : Option Addr) (c c' : Nat) (w : World) (hA : NodesAt w A l) (hT : NodesAt w A' l) :
    Calls Tryz.prog 138 #[.slice A l.length c, .slice A' l.length c'] w fun e w' => e = .returned (.bool true) ∧ Below w.heap.size w w' := by
  have HA := Lib.hid hA
  have HF := Lib.hid hF
  have HT := Lib.hid hT
  clear hA hT hF
  go_enter Tryz.func138, Tryz.ntmps138
  go_wp2
  go_loopg [5] l.length (fun g s5 wr => ∃ i : Nat, i + g = l.length ∧ s5 = .int .i64 i ∧ Below w.heap.size w wr)
  case atStart => exact ⟨0, by omega, rfl, Below.refl _ _⟩
  case round =>
    obtain ⟨i, hg, rfl, hb⟩ := hrel
    cases gk with
    | zero =>
      obtain rfl : i = l.length := by omega
      go_wp2
      go_ret
      exact ⟨rfl, hb⟩
    | succ gg =>
      obtain ⟨n, hx⟩ : ∃ x, l[i]? = some x := ⟨l[i]'(by omega), by simp⟩
      obtain ⟨b, o, D, cd, L, cl, rfl, -, hD, -, hL, e0, e1, e2, e3, e4, e5, e6, e7, e8, e9⟩ := HA.out.get hx
      obtain ⟨b', o', D', cd', L', cl', rfl, -, hD', -, hL', f0, f1, f2, f3, f4, f5, f6, f7, f8, f9⟩ := HT.out.get hx
      replace e0 := cell_keep hb e0
      replace e1 := cell_keep hb e1
      replace e2 := cell_keep hb e2
      replace e3 := cell_keep hb e3
      replace e4 := cell_keep hb e4
      replace e5 := cell_keep hb e5
      replace e6 := cell_keep hb e6
      replace e7 := cell_keep hb e7
      replace e8 := cell_keep hb e8
      replace e9 := cell_keep hb e9
      replace f0 := cell_keep hb f0
      replace f1 := cell_keep hb f1
      replace f2 := cell_keep hb f2
      replace f3 := cell_keep hb f3
      replace f4 := cell_keep hb f4
      replace f5 := cell_keep hb f5
      replace f6 := cell_keep hb f6
      replace f7 := cell_keep hb f7
      replace f8 := cell_keep hb f8
      replace f9 := cell_keep hb f9
      have hbl := World.block_lt_of_cell? _ _ e0
      have hgl := World.block_lt_of_cell? _ _ f0
      dsimp only at hbl hgl
      have HD := Lib.hid (hD.keep hb)
      have HL := Lib.hid (hL.keep hb)
      have HD' := Lib.hid (hD'.keep hb)
      have HL' := Lib.hid (hL'.keep hb)
      have HN := Lib.hid (HF.out n (List.mem_of_getElem? hx))
      have hi0 : (0 : Int) ≤ (i : Int) := by omega
      have hi1 : (i : Int) < (l.length : Int) := by omega
      clear hx hD hL hD' hL'
      go_upto_region 6 with fail
      refine wp_region_later (by kernel_rfl) (by kernel_rfl) ?_
      repeat (go_big_quiet_step ((exact Calls.later (sameNode_calls n HN.out.1 HN.out.2 D' L' cd' cl' D L cd cl _ (HD.out.keep (Later.h _)) (HL.out.keep (Later.h _)) (HD'.out.keep (Later.h _)) (HL'.out.keep (Later.h _))))))
      refine wpQuiet_nil ?_
      intro wL hbL
      go_wp2
      go_roundg gg
      case measure => omega
      case rel => exact ⟨i + 1, by omega, by go_num, below_step hb hbL⟩
set_option maxHeartbeats 2000000 in
set_option maxRecDepth 100000 in
theorem sameTree_calls (t : TTree) (hl : t.nodes.length ≤ 1000000) (hF : ∀ n ∈ t.nodes, n.data.length ≤ 1000000 ∧ n.list.length ≤ 1000000) (A A' : Option Addr) (c c' : Nat) (w : World) (hA : NodesAt w A t.nodes) (hT : NodesAt w A' t.nodes) :
    Calls Tryz.prog 48 #[.agg #[.slice A t.nodes.length c, .int .i64 t.now], .agg #[.slice A' t.nodes.length c', .int .i64 t.now]] w fun e w' => e = .returned (.bool true) ∧ Below w.heap.size w w' := by
  have HA := Lib.hid hA
  have HF := Lib.hid hF
  have HT := Lib.hid hT
  clear hA hT hF
  have hb0 := fun (o1 o2 : Obj) => below_alloc (below_alloc (Below.refl w.heap.size w) o1) o2
  have HB0 := Lib.hid hb0
  clear hb0
  go_enter Tryz.func48, Tryz.ntmps48
  go_wp2_with (go_at_call 138; refine (sameNodes_calls t.nodes hl HF.out A A' c c' _ (HA.out.keep (HB0.out _ _)) (HT.out.keep (HB0.out _ _))).mono ?_; rintro _ w1 ⟨rfl, hb1⟩; have hc1 := bcell2 hb1; have HB1 := Lib.hid (below_step (HB0.out _ _) hb1); clear hb1)
  go_ret
  exact ⟨rfl, HB1.out⟩
end Go.Proofs.YtbfcfjgcmideeaaGreatDoor
namespace Go.Proofs.YtbfcfjgcmideeaaGreatDoor
open Go.RowKit
attribute [local go_sem] Later.cell_eq
def TextsAt (w : World) (A : Option Addr) (l : List ByteArray) : Prop := ∀ i x, l[i]? = some x → ∃ b o, A = some ⟨b, o, none⟩ ∧ w.cell? ⟨b, o + i, none⟩ = some (.string x)
theorem TextsAt.keep {w w' : World} (h : Below w.heap.size w w') {A : Option Addr} {l : List ByteArray} (he : TextsAt w A l) : TextsAt w' A l := fun i x hi => by
  obtain ⟨b, o, hA, h0⟩ := he i x hi
  exact ⟨b, o, hA, cell_keep h h0⟩
def IntsAt (w : World) (A : Option Addr) (l : List Int) : Prop := ∀ i x, l[i]? = some x → ∃ b o, A = some ⟨b, o, none⟩ ∧ w.cell? ⟨b, o + i, none⟩ = some (.int .i64 x)
theorem IntsAt.keep {w w' : World} (h : Below w.heap.size w w') {A : Option Addr} {l : List Int} (he : IntsAt w A l) : IntsAt w' A l := fun i x hi => by
  obtain ⟨b, o, hA, h0⟩ := he i x hi
  exact ⟨b, o, hA, cell_keep h h0⟩
theorem Rd.textsAt {w : World} {B : Nat} {A : Option Addr} {n c : Nat} {l : List ByteArray} (h : Rd w B 1 (.slice A n c) (pathRows l)) : n = l.length ∧ TextsAt w A l := by
  rcases h with ⟨h1, h2⟩ | ⟨g, c', h1, -, -, -, h2⟩
  · have : l = [] := by cases l with | nil => rfl | cons => simp [pathRows] at h2
    subst this
    cases h1
    exact ⟨rfl, fun i x hi => by simp at hi⟩
  · cases h1
    refine ⟨by simp [pathRows], fun i x hi => ⟨g, 0, rfl, ?_⟩⟩
    have := h2 i [.string x] (by simp [pathRows, hi]) 0 _ rfl
    simpa using this
theorem Rd.stepsAt {w : World} {B : Nat} {A : Option Addr} {n c : Nat} {l : List TStep} (h : Rd w B 4 (.slice A n c) (stepRows l)) : n = l.length ∧ StepsAt w A l := by
  rcases h with ⟨h1, h2⟩ | ⟨g, c', h1, -, -, -, h2⟩
  · have : l = [] := by cases l with | nil => rfl | cons => simp [stepRows] at h2
    subst this
    cases h1
    exact ⟨rfl, fun i x hi => by simp at hi⟩
  · cases h1
    refine ⟨by simp [stepRows], fun i x hi => ⟨g, 0, rfl, ?_⟩⟩
    have h3 := fun j u hu => h2 i x.cells.toList (by simp [stepRows, hi]) j u hu
    have h0 := h3 0 (.string x.path) rfl
    exact ⟨by simpa using h0, h3 1 _ rfl, h3 2 _ rfl, h3 3 _ rfl⟩
set_option maxHeartbeats 1000000 in
set_option maxRecDepth 100000 in
theorem sameInts_calls (l : List Int) (hl : l.length ≤ 1000000) (A A' : Option Addr) (c c' : Nat) (w : World) (hA : IntsAt w A l) (hT : IntsAt w A' l) :
    Calls Tryz.prog 30 #[.slice A l.length c, .slice A' l.length c'] w fun e w' => e = .returned (.bool true) ∧ Below w.heap.size w w' := by
  have HA := Lib.hid hA
  have HT := Lib.hid hT
  clear hA hT
  go_enter Tryz.func30, Tryz.ntmps30
  go_wp2
  go_loopg [5] l.length (fun g s5 wr => ∃ i : Nat, i + g = l.length ∧ s5 = .int .i64 i ∧ Below w.heap.size w wr)
  case atStart => exact ⟨0, by omega, rfl, Below.refl _ _⟩
  case round =>
    obtain ⟨i, hg, rfl, hb⟩ := hrel
    cases gk with
    | zero =>
      obtain rfl : i = l.length := by omega
      go_wp2
      go_ret
      exact ⟨rfl, hb⟩
    | succ gg =>
      obtain ⟨x, hx⟩ : ∃ x, l[i]? = some x := ⟨l[i]'(by omega), by simp⟩
      obtain ⟨b, o, rfl, e0⟩ := HA.out i x hx
      obtain ⟨b', o', rfl, f0⟩ := HT.out i x hx
      replace e0 := cell_keep hb e0
      replace f0 := cell_keep hb f0
      skip
      have hbl := World.block_lt_of_cell? _ _ e0
      have hgl := World.block_lt_of_cell? _ _ f0
      dsimp only at hbl hgl
      have hi0 : (0 : Int) ≤ (i : Int) := by omega
      have hi1 : (i : Int) < (l.length : Int) := by omega
      clear hx
      go_upto_region 6 with fail
      refine wp_region_later (by kernel_rfl) (by kernel_rfl) ?_
      repeat (go_big_quiet_step (fail))
      refine wpQuiet_nil ?_
      intro wL hbL
      go_wp2
      go_roundg gg
      case measure => omega
      case rel => exact ⟨i + 1, by omega, by go_num, below_step hb hbL⟩
set_option maxHeartbeats 1000000 in
set_option maxRecDepth 100000 in
theorem sameTexts_calls (l : List ByteArray) (hl : l.length ≤ 1000000) (A A' : Option Addr) (c c' : Nat) (w : World) (hA : TextsAt w A l) (hT : TextsAt w A' l) :
    Calls Tryz.prog 18 #[.slice A l.length c, .slice A' l.length c'] w fun e w' => e = .returned (.bool true) ∧ Below w.heap.size w w' := by
  have HA := Lib.hid hA
  have HT := Lib.hid hT
  clear hA hT
  go_enter Tryz.func18, Tryz.ntmps18
  go_wp2
  go_loopg [5] l.length (fun g s5 wr => ∃ i : Nat, i + g = l.length ∧ s5 = .int .i64 i ∧ Below w.heap.size w wr)
  case atStart => exact ⟨0, by omega, rfl, Below.refl _ _⟩
  case round =>
    obtain ⟨i, hg, rfl, hb⟩ := hrel
    cases gk with
    | zero =>
      obtain rfl : i = l.length := by omega
      go_wp2
      go_ret
      exact ⟨rfl, hb⟩
    | succ gg =>
      obtain ⟨x, hx⟩ : ∃ x, l[i]? = some x := ⟨l[i]'(by omega), by simp⟩
      obtain ⟨b, o, rfl, e0⟩ := HA.out i x hx
      obtain ⟨b', o', rfl, f0⟩ := HT.out i x hx
      replace e0 := cell_keep hb e0
      replace f0 := cell_keep hb f0
      skip
      have hbl := World.block_lt_of_cell? _ _ e0
      have hgl := World.block_lt_of_cell? _ _ f0
      dsimp only at hbl hgl
      have hi0 : (0 : Int) ≤ (i : Int) := by omega
      have hi1 : (i : Int) < (l.length : Int) := by omega
      clear hx
      go_upto_region 6 with fail
      refine wp_region_later (by kernel_rfl) (by kernel_rfl) ?_
      repeat (go_big_quiet_step (fail))
      refine wpQuiet_nil ?_
      intro wL hbL
      go_wp2
      go_roundg gg
      case measure => omega
      case rel => exact ⟨i + 1, by omega, by go_num, below_step hb hbL⟩
set_option maxHeartbeats 1000000 in
set_option maxRecDepth 100000 in
theorem sameSteps_calls (l : List TStep) (hl : l.length ≤ 1000000) (A A' : Option Addr) (c c' : Nat) (w : World) (hA : StepsAt w A l) (hT : StepsAt w A' l) :
    Calls Tryz.prog 17 #[.slice A l.length c, .slice A' l.length c'] w fun e w' => e = .returned (.bool true) ∧ Below w.heap.size w w' := by
  have HA := Lib.hid hA
  have HT := Lib.hid hT
  clear hA hT
  go_enter Tryz.func17, Tryz.ntmps17
  go_wp2
  go_loopg [5] l.length (fun g s5 wr => ∃ i : Nat, i + g = l.length ∧ s5 = .int .i64 i ∧ Below w.heap.size w wr)
  case atStart => exact ⟨0, by omega, rfl, Below.refl _ _⟩
  case round =>
    obtain ⟨i, hg, rfl, hb⟩ := hrel
    cases gk with
    | zero =>
      obtain rfl : i = l.length := by omega
      go_wp2
      go_ret
      exact ⟨rfl, hb⟩
    | succ gg =>
      obtain ⟨x, hx⟩ : ∃ x, l[i]? = some x := ⟨l[i]'(by omega), by simp⟩
      obtain ⟨b, o, rfl, e0, e1, e2, e3⟩ := HA.out i x hx
      obtain ⟨b', o', rfl, f0, f1, f2, f3⟩ := HT.out i x hx
      replace e0 := cell_keep hb e0
      replace f0 := cell_keep hb f0
      (replace e1 := cell_keep hb e1; replace f1 := cell_keep hb f1; replace e2 := cell_keep hb e2; replace f2 := cell_keep hb f2; replace e3 := cell_keep hb e3; replace f3 := cell_keep hb f3)
      have hbl := World.block_lt_of_cell? _ _ e0
      have hgl := World.block_lt_of_cell? _ _ f0
      dsimp only at hbl hgl
      have hi0 : (0 : Int) ≤ (i : Int) := by omega
      have hi1 : (i : Int) < (l.length : Int) := by omega
      clear hx
      go_upto_region 6 with fail
      refine wp_region_later (by kernel_rfl) (by kernel_rfl) ?_
      repeat (go_big_quiet_step (fail))
      refine wpQuiet_nil ?_
      intro wL hbL
      go_wp2
      go_roundg gg
      case measure => omega
      case rel => exact ⟨i + 1, by omega, by go_num, below_step hb hbL⟩
theorem elem_stp : Elem Tryz.prog 32 111 4 40 := Elem.mk' (z := .agg #[.string ⟨#[]⟩, .int .i64 0, .int .i64 0, .bool false]) Tryz.underlying32 (by kernel_rfl) rfl (by decide)
def spareS : TStep := ⟨⟨#[115, 112, 97, 114, 101]⟩, 0, 0, false⟩
set_option maxHeartbeats 1000000 in
set_option maxRecDepth 100000 in
theorem twinSteps_calls (l : List TStep) (hl : l.length ≤ 1000000) (A : Option Addr) (c : Nat) (w : World) (hA : StepsAt w A l) :
    Calls Tryz.prog 26 #[.slice A l.length c] w fun e w' => ∃ g cap, (e = .returned (.slice (some ⟨g, 0, none⟩) l.length cap) ∧ l.length + 1 ≤ cap ∧ w.heap.size ≤ g ∧ Own w' w.heap.size 111 4 (.slice (some ⟨g, 0, none⟩) (l.length + 1) cap) (stepRows (l ++ [spareS]))) ∧ Below w.heap.size w w' := by
  have HA := Lib.hid hA
  clear hA
  go_enter Tryz.func26, Tryz.ntmps26
  go_wp2_with (at_make; refine wpList_make_zero rfl _ _ 32 rfl elem_stp .i64 .i64 ((l.length : Int) + 1) (l.length + 1) rfl rfl ?d1 ?d2 ?d3 (Below.refl _ _) ?_; (case d1 => omega); (case d2 => omega); (case d3 => unfold maxLen; omega); intro w1 hown1 hb1 _)
  go_loopg [3, 4] l.length (fun g s3 s4 wr => ∃ (k : Nat) (rows : List (List Value)), k + g = l.length ∧ s4 = .int .i64 k ∧ Own wr w.heap.size 111 4 s3 rows ∧ Below w.heap.size w wr ∧ Hid (rows = stepRows (l.take k)))
  case atStart => exact ⟨0, [], by omega, rfl, hown1, hb1, Lib.hid rfl⟩
  case round =>
    clear hown1 hb1
    obtain ⟨k, rows, hg, rfl, hown, hb, HR⟩ := hrel
    have hn : Hid (rows.length = k) := Lib.hid (by rw [HR.out]; simp [stepRows]; omega)
    cases gk with
    | zero =>
      obtain rfl : k = l.length := by omega
      go_wp2_with (at_builtin; refine wpList_append_one rfl _ _ 32 rfl elem_stp l.length hn.out [.string ⟨#[115, 112, 97, 114, 101]⟩, .int .i64 0, .int .i64 0, .bool false] rfl hown hb rfl rfl (by simp [Value.oneCell']) (by unfold maxLen; omega) (by omega) ?_; rintro _ w2 hown2 hb2 - - ⟨g', c', rfl, hc', hg'⟩; have hc2 : l.length ≤ c' := by omega)
      go_ret
      rw [HR.out, List.take_length] at hown2
      exact ⟨g', c', ⟨rfl, hc', hg', by unfold stepRows; rw [List.map_append]; exact hown2⟩, hb2⟩
    | succ gg =>
      obtain ⟨x, hx⟩ : ∃ x, l[k]? = some x := ⟨l[k]'(by omega), by simp⟩
      obtain ⟨b, o, rfl, e0, e1, e2, e3⟩ := HA.out k x hx
      replace e0 := cell_keep hb e0
      replace e1 := cell_keep hb e1
      replace e2 := cell_keep hb e2
      replace e3 := cell_keep hb e3
      have HX := Lib.hid hx
      clear hx
      go_wp2_with (at_builtin; refine wpList_append_one rfl _ _ 32 rfl elem_stp k hn.out [.string x.path, .int .i64 x.node, .int .i64 x.depth, .bool x.after] rfl hown hb rfl rfl (by simp [Value.oneCell']) (by unfold maxLen; omega) (by omega) ?_; rintro _ w2 hown2 hb2 - - ⟨g', c', rfl, hc', hg'⟩)
      go_roundg gg
      case measure => omega
      case rel => exact ⟨k + 1, _, by omega, by go_num, hown2, hb2, Lib.hid (by unfold stepRows; rw [map_take_succ _ HX.out, HR.out]; rfl)⟩
set_option maxHeartbeats 1000000 in
set_option maxRecDepth 100000 in
theorem leftSteps_calls (l : List TStep) (hl : l.length ≤ 1000000) (A : Option Addr) (c g cap : Nat) (hc : l.length + 1 ≤ cap) (w : World) (hA : StepsAt w A l) (hT : StepsAt w (some ⟨g, 0, none⟩) (l ++ [spareS])) :
    Calls Tryz.prog 31 #[.slice (some ⟨g, 0, none⟩) l.length cap, .slice A l.length c] w fun e w' => e = .returned (.bool true) ∧ Below w.heap.size w w' := by
  have HA := Lib.hid hA
  have HT := Lib.hid hT
  have hcn : decide (cap ≤ l.length) = false := decide_eq_false (by omega)
  have hlc : l.length ≤ cap := by omega
  clear hA hT
  go_enter Tryz.func31, Tryz.ntmps31
  go_wp2
  go_loopg [5] l.length (fun g s5 wr => ∃ i : Nat, i + g = l.length ∧ s5 = .int .i64 i ∧ Below w.heap.size w wr)
  case atStart => exact ⟨0, by omega, rfl, Below.refl _ _⟩
  case round =>
    obtain ⟨i, hg, rfl, hb⟩ := hrel
    cases gk with
    | zero =>
      obtain rfl : i = l.length := by omega
      obtain ⟨b', o', hA', e0, e1, e2, e3⟩ := HT.out l.length spareS (by simp)
      cases hA'
      dsimp only [spareS] at e0 e1 e2 e3
      replace e0 := cell_keep hb e0
      replace e1 := cell_keep hb e1
      replace e2 := cell_keep hb e2
      replace e3 := cell_keep hb e3
      rw [Nat.zero_add] at e0 e1 e2 e3
      go_wp2
      go_ret
      exact ⟨rfl, below_alloc hb _⟩
    | succ gg =>
      obtain ⟨x, hx⟩ : ∃ x, l[i]? = some x := ⟨l[i]'(by omega), by simp⟩
      obtain ⟨b, o, rfl, e0, e1, e2, e3⟩ := HA.out i x hx
      obtain ⟨b', o', hA', f0, f1, f2, f3⟩ := HT.out i x (by rw [List.getElem?_append_left (by omega)]; exact hx)
      cases hA'
      replace e0 := cell_keep hb e0
      replace f0 := cell_keep hb f0
      replace e1 := cell_keep hb e1
      replace f1 := cell_keep hb f1
      replace e2 := cell_keep hb e2
      replace f2 := cell_keep hb f2
      replace e3 := cell_keep hb e3
      replace f3 := cell_keep hb f3
      rw [Nat.zero_add] at f0 f1 f2 f3
      have hbl := World.block_lt_of_cell? _ _ e0
      have hgl := World.block_lt_of_cell? _ _ f0
      dsimp only at hbl hgl
      have hi0 : (0 : Int) ≤ (i : Int) := by omega
      have hi1 : (i : Int) < (l.length : Int) := by omega
      clear hx
      go_wp2
      refine wp_region_later (by kernel_rfl) (by kernel_rfl) ?_
      repeat (go_big_quiet_step (fail))
      refine wpQuiet_nil ?_
      intro wL hbL
      go_wp2
      go_roundg gg
      case measure => omega
      case rel => exact ⟨i + 1, by omega, by go_num, below_step hb hbL⟩
end Go.Proofs.YtbfcfjgcmideeaaGreatDoor
