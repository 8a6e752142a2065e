/- The sizes that the laws ask for: great. -/
import Derived.Test.YtdceechakocgfaaDoorSizes
namespace Go.Proofs.YtdceechakocgfaaDoor
open Go.RowKit
attribute [local go_sem] Later.cell_eq
def entSum (l : List TEnt) (i : Nat) : Nat := ((l.take i).map fun e => e.name.size).sum
theorem entSum_succ {l : List TEnt} {i : Nat} {e : TEnt} (h : l[i]? = some e) : entSum l (i + 1) = entSum l i + e.name.size := by
  unfold entSum
  rw [List.take_add_one, h]
  simp
set_option maxHeartbeats 2000000 in
set_option maxRecDepth 100000 in
theorem entsSize_calls (l : List TEnt) (hl : l.length ≤ 140737488355328) (hn : ∀ e ∈ l, e.name.size ≤ 140737488355328) (A : Option Addr) (c : Nat) (w : World) (hA : EntsAt w A l) :
    Calls Tryd.prog 45 #[.slice A l.length c] w fun e w' => ∃ s : Nat, (e = .returned (.int .i64 s) ∧ s ≤ 281474977759232 ∧ (s ≤ 1048576 → s = l.length + entSum l l.length)) ∧ Below w.heap.size w w' := by
  have HA := Lib.hid hA
  have HN := Lib.hid hn
  clear hA hn
  go_enter Tryd.func45, Tryd.ntmps45
  go_wp2
  go_loopg [3, 4] l.length (fun g s3 s4 wr => ∃ i s : Nat, i + g = l.length ∧ s3 = .int .i64 s ∧ s4 = .int .i64 i ∧ s = l.length + entSum l i ∧ s ≤ 281474977759232 ∧ Below w.heap.size w wr)
  case atStart => exact ⟨0, l.length, by omega, rfl, rfl, by simp [entSum], by omega, Below.refl _ _⟩
  case round =>
    obtain ⟨i, s, hg, rfl, rfl, hs, hle, hb⟩ := hrel
    have HS := Lib.hid hs
    clear hs
    cases gk with
    | zero =>
      obtain rfl : i = l.length := by omega
      go_wp2
      go_ret
      exact ⟨s, ⟨rfl, hle, fun _ => HS.out⟩, hb⟩
    | succ g =>
      obtain ⟨e, he⟩ : ∃ e, l[i]? = some e := ⟨l[i]'(by omega), by simp⟩
      obtain ⟨b, o, rfl, e0, e1⟩ := HA.out i e he
      replace e0 := cell_keep hb e0
      have hel := HN.out e (List.mem_of_getElem? he)
      have HE := Lib.hid he
      clear he e1
      by_cases hc : s ≤ 1048576
      · have h1 : decide ((s : Int) ≤ 1048576) = true := decide_eq_true (by omega)
        have h2 : decide (s ≤ 1048576) = true := decide_eq_true hc
        go_wp2
        go_roundg g
        case measure => omega
        case rel => exact ⟨i + 1, s + e.name.size, by omega, by push_cast; rfl, by go_num, by rw [entSum_succ HE.out, HS.out]; omega, by omega, hb⟩
      · have h1 : decide ((s : Int) ≤ 1048576) = false := decide_eq_false (by omega)
        have h2 : decide (s ≤ 1048576) = false := decide_eq_false hc
        have HC := Lib.hid hc
        clear hc
        go_wp2
        go_ret
        exact ⟨s, ⟨rfl, hle, fun h => absurd h HC.out⟩, hb⟩
def TNode.size (n : TNode) : Nat := 1 + n.target.size + n.data.length + (n.list.length + entSum n.list n.list.length)
theorem bytesSize_calls (n c : Nat) (A : Option Addr) (w : World) :
    Calls Tryd.prog 44 #[.slice A n c] w fun e w' => e = .returned (.int .i64 n) ∧ Below w.heap.size w w' := by
  go_enter Tryd.func44, Tryd.ntmps44
  go_wp2
  go_ret
  exact ⟨rfl, (by repeat (first | exact Below.refl _ _ | assumption | refine Below.drew ?_ | refine below_drewN ?_ _ | refine below_alloc ?_ _ | refine below_set ?_ (by simp) _ | refine below_step ?_ (by assumption)))⟩
set_option maxHeartbeats 2000000 in
set_option maxRecDepth 100000 in
theorem nodeSize_calls (n : TNode) (hF : n.Fits) (D L : Option Addr) (cd cl : Nat) (w : World) (hL : EntsAt w L n.list) :
    Calls Tryd.prog 37 #[.agg #[.int .u8 n.kind, .int .i64 n.mode, .int .i64 n.user, .int .i64 n.group, .int .i64 n.links, .int .i64 n.time, .slice D n.data.length cd, .string n.target, .slice L n.list.length cl, .int .i64 n.parent]] w fun e w' => ∃ s : Nat, (e = .returned (.int .i64 s) ∧ s ≤ 1125899906842624 ∧ (s ≤ 1048576 → s = n.size)) ∧ Below w.heap.size w w' := by
  have ht := hF.target
  have hd := hF.data
  have HF := Lib.hid hF
  have HL := Lib.hid hL
  clear hL hF
  go_enter Tryd.func37, Tryd.ntmps37
  by_cases h1 : 1 + n.target.size ≤ 1048576
  · have g1 : decide ((1 : Int) + n.target.size ≤ 1048576) = true := decide_eq_true (by omega)
    by_cases h2 : 1 + n.target.size + n.data.length ≤ 1048576
    · have g2 : decide ((1 : Int) + n.target.size + n.data.length ≤ 1048576) = true := decide_eq_true (by omega)
      go_wp2_with (first
        | (go_at_call 44; refine (bytesSize_calls n.data.length cd D _).mono ?_; rintro _ w1 ⟨rfl, hb1⟩; have k8 := cell_keep hb1 (p := ⟨w.heap.size, 8, none⟩) (v := .slice L n.list.length cl) (by rw [World.cell?_alloc_new]; rfl); have hb2 := below_step (below_alloc (Below.refl _ _) _) hb1; clear hb1)
        | (go_at_call 45; refine (entsSize_calls n.list HF.out.list (fun e he => (HF.out.ents e he).name) L cl _ (HL.out.keep hb2)).mono ?_; rintro _ w3 ⟨s, ⟨rfl, hsl, hse⟩, hb3⟩; have HSE := Lib.hid hse; clear hse))
      go_ret
      refine ⟨1 + n.target.size + n.data.length + s, ⟨by push_cast; rfl, by omega, fun h => ?_⟩, below_step hb2 hb3⟩
      unfold TNode.size
      rw [HSE.out (by omega)]
    · have g2 : decide ((1 : Int) + n.target.size + n.data.length ≤ 1048576) = false := decide_eq_false (by omega)
      go_wp2_with (first
        | (go_at_call 44; refine (bytesSize_calls n.data.length cd D _).mono ?_; rintro _ w1 ⟨rfl, hb1⟩; have k8 := cell_keep hb1 (p := ⟨w.heap.size, 8, none⟩) (v := .slice L n.list.length cl) (by rw [World.cell?_alloc_new]; rfl); have hb2 := below_step (below_alloc (Below.refl _ _) _) hb1; clear hb1))
      go_ret
      exact ⟨1 + n.target.size + n.data.length, ⟨by push_cast; rfl, by omega, fun h => absurd h h2⟩, hb2⟩
  · have g1 : decide ((1 : Int) + n.target.size ≤ 1048576) = false := decide_eq_false (by omega)
    go_wp2
    go_ret
    exact ⟨1 + n.target.size, ⟨by push_cast; rfl, by omega, fun h => absurd h h1⟩, (by repeat (first | exact Below.refl _ _ | assumption | refine Below.drew ?_ | refine below_drewN ?_ _ | refine below_alloc ?_ _ | refine below_set ?_ (by simp) _ | refine below_step ?_ (by assumption)))⟩
def sizeSum (l : List TNode) (i : Nat) : Nat := ((l.take i).map TNode.size).sum
theorem sizeSum_succ {l : List TNode} {i : Nat} {n : TNode} (h : l[i]? = some n) : sizeSum l (i + 1) = sizeSum l i + n.size := by
  unfold sizeSum
  rw [List.take_add_one, h]
  simp
set_option maxHeartbeats 2000000 in
set_option maxRecDepth 100000 in
theorem nodesSize_calls (l : List TNode) (hl : l.length ≤ 140737488355328) (hF : ∀ n ∈ l, n.Fits) (A : Option Addr) (c : Nat) (w : World) (hA : NodesAt w A l) :
    Calls Tryd.prog 23 #[.slice A l.length c] w fun e w' => ∃ s : Nat, (e = .returned (.int .i64 s) ∧ s ≤ 2251799813685248 ∧ (s ≤ 1048576 → s = l.length + sizeSum l l.length)) ∧ Below w.heap.size w w' := by
  have HA := Lib.hid hA
  have HF := Lib.hid hF
  clear hA hF
  go_enter Tryd.func23, Tryd.ntmps23
  go_wp2
  go_loopg [3, 4] l.length (fun g s3 s4 wr => ∃ i s : Nat, i + g = l.length ∧ s3 = .int .i64 s ∧ s4 = .int .i64 i ∧ (s ≤ 1048576 → s = l.length + sizeSum l i) ∧ s ≤ 2251799813685248 ∧ Below w.heap.size w wr)
  case atStart => exact ⟨0, l.length, by omega, rfl, rfl, by simp [sizeSum], by omega, Below.refl _ _⟩
  case round =>
    obtain ⟨i, s, hg, rfl, rfl, hs, hle, hb⟩ := hrel
    have HS := Lib.hid hs
    clear hs
    cases gk with
    | zero =>
      obtain rfl : i = l.length := by omega
      go_wp2
      go_ret
      exact ⟨s, ⟨rfl, hle, HS.out⟩, hb⟩
    | succ g =>
      obtain ⟨n, hni⟩ : ∃ n, l[i]? = some n := ⟨l[i]'(by omega), by simp⟩
      obtain ⟨b, o, D, cd, L, cl, rfl, -, -, -, hL, c0, c1, c2, c3, c4, c5, c6, c7, c8, c9⟩ := HA.out.get hni
      replace c0 := cell_keep hb c0
      replace c1 := cell_keep hb c1
      replace c2 := cell_keep hb c2
      replace c3 := cell_keep hb c3
      replace c4 := cell_keep hb c4
      replace c5 := cell_keep hb c5
      replace c6 := cell_keep hb c6
      replace c7 := cell_keep hb c7
      replace c8 := cell_keep hb c8
      replace c9 := cell_keep hb c9
      have HL := Lib.hid (hL.keep hb)
      have HE := Lib.hid hni
      clear hni hL
      by_cases hc : s ≤ 1048576
      · have h1 : decide ((s : Int) ≤ 1048576) = true := decide_eq_true (by omega)
        have h2 : decide (s ≤ 1048576) = true := decide_eq_true hc
        go_wp2_with (go_at_call 37; refine (nodeSize_calls n (HF.out n (List.mem_of_getElem? HE.out)) D L cd cl _ HL.out).mono ?_; rintro _ w1 ⟨q, ⟨rfl, hq1, hq2⟩, hb1⟩; have HQ := Lib.hid hq2; clear hq2)
        go_roundg g
        case measure => omega
        case rel => exact ⟨i + 1, s + q, by omega, by push_cast; rfl, by go_num, fun h => by rw [sizeSum_succ HE.out, ← HQ.out (by omega)]; have := HS.out hc; omega, by omega, below_step hb hb1⟩
      · have h1 : decide ((s : Int) ≤ 1048576) = false := decide_eq_false (by omega)
        have h2 : decide (s ≤ 1048576) = false := decide_eq_false hc
        have HC := Lib.hid hc
        clear hc
        go_wp2
        go_ret
        exact ⟨s, ⟨rfl, hle, fun h => absurd h HC.out⟩, hb⟩
def TTree.size (t : TTree) : Nat := 1 + (t.nodes.length + sizeSum t.nodes t.nodes.length)
set_option maxHeartbeats 2000000 in
theorem treeSize_calls (t : TTree) (hF : t.Fits) (A : Option Addr) (c : Nat) (w : World) (hA : NodesAt w A t.nodes) :
    Calls Tryd.prog 11 #[.agg #[.slice A t.nodes.length c, .int .i64 t.now]] w fun e w' => ∃ s : Nat, (e = .returned (.int .i64 s) ∧ (s ≤ 1048576 → s = t.size)) ∧ Below w.heap.size w w' := by
  have HF := Lib.hid hF
  have HA := Lib.hid hA
  clear hF hA
  go_enter Tryd.func11, Tryd.ntmps11
  go_wp2_with (go_at_call 23; refine (nodesSize_calls t.nodes HF.out.nodes HF.out.each A c _ (HA.out.keep (below_alloc (Below.refl _ _) _))).mono ?_; rintro _ w1 ⟨q, ⟨rfl, hq1, hq2⟩, hb1⟩; have HQ := Lib.hid hq2; clear hq2)
  go_ret
  exact ⟨1 + q, ⟨by push_cast; rfl, fun h => by unfold TTree.size; rw [← HQ.out (by omega)]⟩, below_step (below_alloc (Below.refl _ _) _) hb1⟩
end Go.Proofs.YtdceechakocgfaaDoor
