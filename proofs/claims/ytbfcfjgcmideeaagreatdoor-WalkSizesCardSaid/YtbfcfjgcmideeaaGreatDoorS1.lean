/- tree.Path: a directory's path. -/
/- tree.Of, tree.Stat, tree.Sizes. -/
/- tree.Sizes. -/
/- The sizes that the laws ask for: great. -/
import Derived.Test.YtbfcfjgcmideeaaGreatDoorM4
import Derived.Test.YtbfcfjgcmideeaaGreatDoorShelf
import Derived.OwnWalk
import Derived.Maps.AppendAt
import Derived.Lib.RowBridge
import Derived.Lib.EndianMore
import Derived.Laws.IdiomCopy
import Derived.Test.YtbfcfjgcmideeaaGreatDoorM2
import Derived.Great.BuildSlice
import Derived.Laws.CopyOwn
namespace Go.Proofs.YtbfcfjgcmideeaaGreatDoor
open Go.RowKit
attribute [local go_sem] Later.cell_eq
theorem own_below {w w1 : World} {base : Nat} {e : TypeId} {size n : Nat} {v : Value} {xs : List Value} (h : w.ownsRow base e size v n xs) (hb : Below w.heap.size w w1) : w1.ownsRow base e size v n xs :=
  h.kept (row := none) ⟨hb.os, hb.tape, hb.output, hb.size, fun i hi _ => hb.block i hi⟩ (by cases v.ownBlock <;> simp)
theorem own_row_ge {w : World} {base : Nat} {e : TypeId} {size n : Nat} {v : Value} {xs : List Value} (h : w.ownsRow base e size v n xs) : ∀ k, v.ownBlock = some k → base ≤ k := fun k hk => (h.lt k hk).1
theorem str_info : (Tryz.prog.info? 9).map (fun i => (i.zero, i.size, i.bytes)) = some (some (.string ⟨#[]⟩), 1, 16) := by kernel_rfl
theorem bytes_cons (x : UInt8) (l : List UInt8) : (⟨#[x]⟩ ++ ⟨l.toArray⟩ : ByteArray) = ⟨(x :: l).toArray⟩ := by
  apply ByteArray.ext
  simp
theorem sz_setCells (b : Nat) : ∀ (vs : List Value) (o : Nat) (w : World), (w.setCells b o vs).heap.size = w.heap.size
  | [], _, _ => rfl
  | v :: vs, o, w => by rw [World.setCells, sz_setCells b vs]; simp [World.setCell]
end Go.Proofs.YtbfcfjgcmideeaaGreatDoor
namespace Go.Proofs.YtbfcfjgcmideeaaGreatDoor
open Go.RowKit
attribute [local go_sem] Later.cell_eq
def statV (n : Int) (x : TNode) : Value := .agg #[.int .i64 n, .int .u8 x.kind, .int .i64 x.mode, .int .i64 x.user, .int .i64 x.group, .int .i64 x.links, .int .i64 (((x.data.length + x.target.size : Nat) : Int) + (x.list.length : Nat)), .int .i64 x.time]
def noStat : Value := .agg #[.int .i64 0, .int .u8 0, .int .i64 0, .int .i64 0, .int .i64 0, .int .i64 0, .int .i64 0, .int .i64 0]
set_option maxHeartbeats 1000000 in
theorem of_calls (t : TTree) (hF : t.Fits) (n : Int) (h0 : 0 ≤ n) (h1 : n < t.nodes.length) (A : Option Addr) (c : Nat) (w : World) (hA : NodesAt w A t.nodes) :
    Calls Tryz.prog 109 #[.agg #[.slice A t.nodes.length c, .int .i64 t.now], .int .i64 n] w fun e w' => e = .returned (statV n (t.at n)) ∧ Below w.heap.size w w' := by
  obtain ⟨x, hx⟩ : ∃ x, t.nodes[n.toNat]? = some x := ⟨t.nodes[n.toNat]'(by omega), by simp⟩
  rw [at_eq hx]
  have hf := hF.each x (List.mem_of_getElem? hx)
  obtain ⟨b, o, D, cd, L, cl, rfl, -, -, -, -, x0, x1, x2, x3, x4, x5, x6, x7, x8, x9⟩ := hA.get hx
  have hd := hf.data
  have ht := hf.target
  have hl := hf.list
  have hbl := World.block_lt_of_cell? _ _ x0
  dsimp only at hbl
  clear hA hx hF hf
  go_enter Tryz.func109, Tryz.ntmps109
  go_wp2
  refine bodyPost_ret (by simp [results, Tryz.results109, go_sem]; rfl) rfl ?_
  exact ⟨rfl, (by repeat (first | exact Below.refl _ _ | assumption | refine Below.drew ?_ | refine below_drewN ?_ _ | refine below_alloc ?_ _ | refine below_set ?_ (by simp) _ | refine below_step ?_ (by assumption)))⟩
noncomputable def isNodeB (t : TTree) (n : Int) : Bool := treeOK t && (decide (1 ≤ n) && decide (n < t.nodes.length) && (t.at n).kind != 0)
noncomputable def tStat (t : TTree) (n : Int) : Value := if isNodeB t n = true then statV n (t.at n) else noStat
noncomputable def tStatE (t : TTree) (n : Int) : Int := if isNodeB t n = true then 0 else 1
end Go.Proofs.YtbfcfjgcmideeaaGreatDoor
namespace Go.Proofs.YtbfcfjgcmideeaaGreatDoor
open Go.RowKit
attribute [local go_sem] Later.cell_eq
def TTree.files (t : TTree) (i : Nat) : Nat := ((t.nodes.take i).filter fun n => n.kind != 0).length
theorem files_succ {t : TTree} {i : Nat} {n : TNode} (hn : t.nodes[i]? = some n) : t.files (i + 1) = t.files i + if n.kind != 0 then 1 else 0 := by
  unfold TTree.files
  have hi := (List.getElem?_eq_some_iff.1 hn).1
  rw [List.take_add_one, hn, List.filter_append, List.length_append]
  congr 1
  simp only [Option.toList_some, List.filter_cons, List.filter_nil]
  split <;> rfl
noncomputable def tFiles (t : TTree) : Int := if treeOK t = true then (t.files t.nodes.length : Nat) else 0
noncomputable def tBytes (t : TTree) : Int := if treeOK t = true then (t.bytes t.nodes.length : Nat) else 0
set_option maxHeartbeats 2000000 in
set_option maxRecDepth 100000 in
theorem sizes_calls (t : TTree) (hF : t.Fits) (A : Option Addr) (c : Nat) (w : World) (hA : NodesAt w A t.nodes) :
    Calls Tryz.prog 45 #[.agg #[.slice A t.nodes.length c, .int .i64 t.now]] w fun e w' => e = .returned (.tuple #[.int .i64 (tFiles t), .int .i64 (tBytes t)]) ∧ Below w.heap.size w w' := by
  have hn47 := hF.nodes
  have HF := Lib.hid hF
  have HA := Lib.hid hA
  clear hF
  unfold tFiles tBytes
  cases hok : treeOK t with
  | false =>
    have HO := Lib.hid hok
    clear hok hA
    go_enter Tryz.func45, Tryz.ntmps45
    go_wp2_with (go_at_call 33; refine (check_calls t HF.out _ _ _ (HA.out.keep (below_alloc (Below.refl _ _) _))).mono ?_; rintro _ w1 ⟨rfl, hb1⟩; rw [HO.out])
    go_ret2
    exact ⟨rfl, (by repeat (first | exact Below.refl _ _ | assumption | refine Below.drew ?_ | refine below_drewN ?_ _ | refine below_alloc ?_ _ | refine below_set ?_ (by simp) _ | refine below_step ?_ (by assumption)))⟩
  | true =>
    have HO := Lib.hid hok
    have HOK := Lib.hid (TreeOK.of hok)
    have h513 := HOK.out.head.most
    clear hok
    obtain ⟨x1, hx1⟩ : ∃ x, t.nodes[1]? = some x := ⟨t.nodes[1]'(by have := HOK.out.head.two; omega), by simp⟩
    obtain ⟨b, o, D1, cd1, L1, cl1, rfl, -, -, -, -, -, -, -, -, -, -, -, -, -, -⟩ := hA.get hx1
    clear hx1 hA
    go_enter Tryz.func45, Tryz.ntmps45
    go_wp2_with (go_at_call 33; refine (check_calls t HF.out _ _ _ (HA.out.keep (below_alloc (Below.refl _ _) _))).mono ?_; rintro _ w1 ⟨rfl, hb1⟩; rw [HO.out]; have k0 := cell_keep hb1 (p := ⟨w.heap.size, 0, none⟩) (v := .slice (some ⟨b, o, none⟩) t.nodes.length c) (by simp [go_sem]); have hb2 := below_step (below_alloc (Below.refl _ _) _) hb1; clear hb1)
    go_loopg [2, 3, 12] t.nodes.length (fun g s2 s3 s12 wr => ∃ i : Nat, i + g = t.nodes.length ∧ s2 = .int .i64 (t.files i : Nat) ∧ s3 = .int .i64 (t.bytes i : Nat) ∧ s12 = .int .i64 i ∧ t.files i ≤ i ∧ t.bytes i ≤ i * 140737488355328 ∧ Below w.heap.size w wr)
    case atStart => exact ⟨0, by omega, rfl, rfl, rfl, by simp [TTree.files], by simp [TTree.bytes], hb2⟩
    case round =>
      clear k0 hb2
      obtain ⟨i, hg, rfl, rfl, rfl, hfi, hby, hb⟩ := hrel
      cases gk with
      | zero =>
        obtain rfl : i = t.nodes.length := by omega
        go_wp2
        go_ret2
        exact ⟨rfl, hb⟩
      | succ g =>
        obtain ⟨n, hni⟩ : ∃ n, t.nodes[i]? = some n := ⟨t.nodes[i]'(by omega), by simp⟩
        obtain ⟨b', o', Da, cd, L, cl, hA', hcd, hD, hcl, hL, c0, c1, c2, c3, c4, c5, c6, c7, c8, c9⟩ := HA.out.get hni
        cases hA'
        have hdl := (HF.out.each n (List.mem_of_getElem? hni)).data
        replace c0 := cell_keep hb c0
        replace c1 := cell_keep hb c1
        replace c2 := cell_keep hb c2
        replace c3 := cell_keep hb c3
        replace c4 := cell_keep hb c4
        replace c5 := cell_keep hb c5
        replace c6 := cell_keep hb c6
        replace c7 := cell_keep hb c7
        replace c8 := cell_keep hb c8
        replace c9 := cell_keep hb c9
        have HNI := Lib.hid hni
        clear hni hD hL
        cases hk : (n.kind != 0) with
        | true =>
          have hf1 : t.files (i + 1) = t.files i + 1 := by rw [files_succ HNI.out, hk]; rfl
          have HF1 := Lib.hid hf1
          clear hf1
          go_wp2
          go_roundg g
          case measure => omega
          case rel =>
            refine ⟨i + 1, by omega, by rw [HF1.out]; push_cast; rfl, by rw [bytes_succ HNI.out]; push_cast; rfl, by go_num, by rw [HF1.out]; omega, by rw [bytes_succ HNI.out]; omega, below_alloc hb _⟩
        | false =>
          have hf1 : t.files (i + 1) = t.files i := by rw [files_succ HNI.out, hk]; rfl
          have HF1 := Lib.hid hf1
          clear hf1
          go_wp2
          go_roundg g
          case measure => omega
          case rel =>
            refine ⟨i + 1, by omega, by rw [HF1.out], by rw [bytes_succ HNI.out]; push_cast; rfl, by go_num, by rw [HF1.out]; omega, by rw [bytes_succ HNI.out]; omega, below_alloc hb _⟩
end Go.Proofs.YtbfcfjgcmideeaaGreatDoor
namespace Go.Proofs.YtbfcfjgcmideeaaGreatDoor
open Go.RowKit
attribute [local go_sem] Later.cell_eq
def entSum (l : List TEnt) (i : Nat) : Nat := ((l.take i).map fun e => e.name.size).sum
theorem entSum_succ {l : List TEnt} {i : Nat} {e : TEnt} (h : l[i]? = some e) : entSum l (i + 1) = entSum l i + e.name.size := by
  unfold entSum
  rw [List.take_add_one, h]
  simp
set_option maxHeartbeats 2000000 in
set_option maxRecDepth 100000 in
theorem entsSize_calls (l : List TEnt) (hl : l.length ≤ 140737488355328) (hn : ∀ e ∈ l, e.name.size ≤ 140737488355328) (A : Option Addr) (c : Nat) (w : World) (hA : EntsAt w A l) :
    Calls Tryz.prog 223 #[.slice A l.length c] w fun e w' => ∃ s : Nat, (e = .returned (.int .i64 s) ∧ s ≤ 281474977759232 ∧ (s ≤ 1048576 → s = l.length + entSum l l.length)) ∧ Below w.heap.size w w' := by
  have HA := Lib.hid hA
  have HN := Lib.hid hn
  clear hA hn
  go_enter Tryz.func223, Tryz.ntmps223
  go_wp2
  go_loopg [3, 4] l.length (fun g s3 s4 wr => ∃ i s : Nat, i + g = l.length ∧ s3 = .int .i64 s ∧ s4 = .int .i64 i ∧ s = l.length + entSum l i ∧ s ≤ 281474977759232 ∧ Below w.heap.size w wr)
  case atStart => exact ⟨0, l.length, by omega, rfl, rfl, by simp [entSum], by omega, Below.refl _ _⟩
  case round =>
    obtain ⟨i, s, hg, rfl, rfl, hs, hle, hb⟩ := hrel
    have HS := Lib.hid hs
    clear hs
    cases gk with
    | zero =>
      obtain rfl : i = l.length := by omega
      go_wp2
      go_ret
      exact ⟨s, ⟨rfl, hle, fun _ => HS.out⟩, hb⟩
    | succ g =>
      obtain ⟨e, he⟩ : ∃ e, l[i]? = some e := ⟨l[i]'(by omega), by simp⟩
      obtain ⟨b, o, rfl, e0, e1⟩ := HA.out i e he
      replace e0 := cell_keep hb e0
      have hel := HN.out e (List.mem_of_getElem? he)
      have HE := Lib.hid he
      clear he e1
      by_cases hc : s ≤ 1048576
      · have h1 : decide ((s : Int) ≤ 1048576) = true := decide_eq_true (by omega)
        have h2 : decide (s ≤ 1048576) = true := decide_eq_true hc
        go_wp2
        go_roundg g
        case measure => omega
        case rel => exact ⟨i + 1, s + e.name.size, by omega, by push_cast; rfl, by go_num, by rw [entSum_succ HE.out, HS.out]; omega, by omega, hb⟩
      · have h1 : decide ((s : Int) ≤ 1048576) = false := decide_eq_false (by omega)
        have h2 : decide (s ≤ 1048576) = false := decide_eq_false hc
        have HC := Lib.hid hc
        clear hc
        go_wp2
        go_ret
        exact ⟨s, ⟨rfl, hle, fun h => absurd h HC.out⟩, hb⟩
def TNode.size (n : TNode) : Nat := 1 + n.target.size + n.data.length + (n.list.length + entSum n.list n.list.length)
theorem bytesSize_calls (n c : Nat) (A : Option Addr) (w : World) :
    Calls Tryz.prog 222 #[.slice A n c] w fun e w' => e = .returned (.int .i64 n) ∧ Below w.heap.size w w' := by
  go_enter Tryz.func222, Tryz.ntmps222
  go_wp2
  go_ret
  exact ⟨rfl, (by repeat (first | exact Below.refl _ _ | assumption | refine Below.drew ?_ | refine below_drewN ?_ _ | refine below_alloc ?_ _ | refine below_set ?_ (by simp) _ | refine below_step ?_ (by assumption)))⟩
set_option maxHeartbeats 2000000 in
set_option maxRecDepth 100000 in
theorem nodeSize_calls (n : TNode) (hF : n.Fits) (D L : Option Addr) (cd cl : Nat) (w : World) (hL : EntsAt w L n.list) :
    Calls Tryz.prog 176 #[.agg #[.int .u8 n.kind, .int .i64 n.mode, .int .i64 n.user, .int .i64 n.group, .int .i64 n.links, .int .i64 n.time, .slice D n.data.length cd, .string n.target, .slice L n.list.length cl, .int .i64 n.parent]] w fun e w' => ∃ s : Nat, (e = .returned (.int .i64 s) ∧ s ≤ 1125899906842624 ∧ (s ≤ 1048576 → s = n.size)) ∧ Below w.heap.size w w' := by
  have ht := hF.target
  have hd := hF.data
  have HF := Lib.hid hF
  have HL := Lib.hid hL
  clear hL hF
  go_enter Tryz.func176, Tryz.ntmps176
  by_cases h1 : 1 + n.target.size ≤ 1048576
  · have g1 : decide ((1 : Int) + n.target.size ≤ 1048576) = true := decide_eq_true (by omega)
    by_cases h2 : 1 + n.target.size + n.data.length ≤ 1048576
    · have g2 : decide ((1 : Int) + n.target.size + n.data.length ≤ 1048576) = true := decide_eq_true (by omega)
      go_wp2_with (first
        | (go_at_call 222; refine (bytesSize_calls n.data.length cd D _).mono ?_; rintro _ w1 ⟨rfl, hb1⟩; have k8 := cell_keep hb1 (p := ⟨w.heap.size, 8, none⟩) (v := .slice L n.list.length cl) (by rw [World.cell?_alloc_new]; rfl); have hb2 := below_step (below_alloc (Below.refl _ _) _) hb1; clear hb1)
        | (go_at_call 223; refine (entsSize_calls n.list HF.out.list (fun e he => (HF.out.ents e he).name) L cl _ (HL.out.keep hb2)).mono ?_; rintro _ w3 ⟨s, ⟨rfl, hsl, hse⟩, hb3⟩; have HSE := Lib.hid hse; clear hse))
      go_ret
      refine ⟨1 + n.target.size + n.data.length + s, ⟨by push_cast; rfl, by omega, fun h => ?_⟩, below_step hb2 hb3⟩
      unfold TNode.size
      rw [HSE.out (by omega)]
    · have g2 : decide ((1 : Int) + n.target.size + n.data.length ≤ 1048576) = false := decide_eq_false (by omega)
      go_wp2_with (first
        | (go_at_call 222; refine (bytesSize_calls n.data.length cd D _).mono ?_; rintro _ w1 ⟨rfl, hb1⟩; have k8 := cell_keep hb1 (p := ⟨w.heap.size, 8, none⟩) (v := .slice L n.list.length cl) (by rw [World.cell?_alloc_new]; rfl); have hb2 := below_step (below_alloc (Below.refl _ _) _) hb1; clear hb1))
      go_ret
      exact ⟨1 + n.target.size + n.data.length, ⟨by push_cast; rfl, by omega, fun h => absurd h h2⟩, hb2⟩
  · have g1 : decide ((1 : Int) + n.target.size ≤ 1048576) = false := decide_eq_false (by omega)
    go_wp2
    go_ret
    exact ⟨1 + n.target.size, ⟨by push_cast; rfl, by omega, fun h => absurd h h1⟩, (by repeat (first | exact Below.refl _ _ | assumption | refine Below.drew ?_ | refine below_drewN ?_ _ | refine below_alloc ?_ _ | refine below_set ?_ (by simp) _ | refine below_step ?_ (by assumption)))⟩
def sizeSum (l : List TNode) (i : Nat) : Nat := ((l.take i).map TNode.size).sum
theorem sizeSum_succ {l : List TNode} {i : Nat} {n : TNode} (h : l[i]? = some n) : sizeSum l (i + 1) = sizeSum l i + n.size := by
  unfold sizeSum
  rw [List.take_add_one, h]
  simp
set_option maxHeartbeats 2000000 in
set_option maxRecDepth 100000 in
theorem nodesSize_calls (l : List TNode) (hl : l.length ≤ 140737488355328) (hF : ∀ n ∈ l, n.Fits) (A : Option Addr) (c : Nat) (w : World) (hA : NodesAt w A l) :
    Calls Tryz.prog 108 #[.slice A l.length c] w fun e w' => ∃ s : Nat, (e = .returned (.int .i64 s) ∧ s ≤ 2251799813685248 ∧ (s ≤ 1048576 → s = l.length + sizeSum l l.length)) ∧ Below w.heap.size w w' := by
  have HA := Lib.hid hA
  have HF := Lib.hid hF
  clear hA hF
  go_enter Tryz.func108, Tryz.ntmps108
  go_wp2
  go_loopg [3, 4] l.length (fun g s3 s4 wr => ∃ i s : Nat, i + g = l.length ∧ s3 = .int .i64 s ∧ s4 = .int .i64 i ∧ (s ≤ 1048576 → s = l.length + sizeSum l i) ∧ s ≤ 2251799813685248 ∧ Below w.heap.size w wr)
  case atStart => exact ⟨0, l.length, by omega, rfl, rfl, by simp [sizeSum], by omega, Below.refl _ _⟩
  case round =>
    obtain ⟨i, s, hg, rfl, rfl, hs, hle, hb⟩ := hrel
    have HS := Lib.hid hs
    clear hs
    cases gk with
    | zero =>
      obtain rfl : i = l.length := by omega
      go_wp2
      go_ret
      exact ⟨s, ⟨rfl, hle, HS.out⟩, hb⟩
    | succ g =>
      obtain ⟨n, hni⟩ : ∃ n, l[i]? = some n := ⟨l[i]'(by omega), by simp⟩
      obtain ⟨b, o, D, cd, L, cl, rfl, -, -, -, hL, c0, c1, c2, c3, c4, c5, c6, c7, c8, c9⟩ := HA.out.get hni
      replace c0 := cell_keep hb c0
      replace c1 := cell_keep hb c1
      replace c2 := cell_keep hb c2
      replace c3 := cell_keep hb c3
      replace c4 := cell_keep hb c4
      replace c5 := cell_keep hb c5
      replace c6 := cell_keep hb c6
      replace c7 := cell_keep hb c7
      replace c8 := cell_keep hb c8
      replace c9 := cell_keep hb c9
      have HL := Lib.hid (hL.keep hb)
      have HE := Lib.hid hni
      clear hni hL
      by_cases hc : s ≤ 1048576
      · have h1 : decide ((s : Int) ≤ 1048576) = true := decide_eq_true (by omega)
        have h2 : decide (s ≤ 1048576) = true := decide_eq_true hc
        go_wp2_with (go_at_call 176; refine (nodeSize_calls n (HF.out n (List.mem_of_getElem? HE.out)) D L cd cl _ HL.out).mono ?_; rintro _ w1 ⟨q, ⟨rfl, hq1, hq2⟩, hb1⟩; have HQ := Lib.hid hq2; clear hq2)
        go_roundg g
        case measure => omega
        case rel => exact ⟨i + 1, s + q, by omega, by push_cast; rfl, by go_num, fun h => by rw [sizeSum_succ HE.out, ← HQ.out (by omega)]; have := HS.out hc; omega, by omega, below_step hb hb1⟩
      · have h1 : decide ((s : Int) ≤ 1048576) = false := decide_eq_false (by omega)
        have h2 : decide (s ≤ 1048576) = false := decide_eq_false hc
        have HC := Lib.hid hc
        clear hc
        go_wp2
        go_ret
        exact ⟨s, ⟨rfl, hle, fun h => absurd h HC.out⟩, hb⟩
def TTree.size (t : TTree) : Nat := 1 + (t.nodes.length + sizeSum t.nodes t.nodes.length)
set_option maxHeartbeats 2000000 in
theorem treeSize_calls (t : TTree) (hF : t.Fits) (A : Option Addr) (c : Nat) (w : World) (hA : NodesAt w A t.nodes) :
    Calls Tryz.prog 24 #[.agg #[.slice A t.nodes.length c, .int .i64 t.now]] w fun e w' => ∃ s : Nat, (e = .returned (.int .i64 s) ∧ (s ≤ 1048576 → s = t.size)) ∧ Below w.heap.size w w' := by
  have HF := Lib.hid hF
  have HA := Lib.hid hA
  clear hF hA
  go_enter Tryz.func24, Tryz.ntmps24
  go_wp2_with (go_at_call 108; refine (nodesSize_calls t.nodes HF.out.nodes HF.out.each A c _ (HA.out.keep (below_alloc (Below.refl _ _) _))).mono ?_; rintro _ w1 ⟨q, ⟨rfl, hq1, hq2⟩, hb1⟩; have HQ := Lib.hid hq2; clear hq2)
  go_ret
  exact ⟨1 + q, ⟨by push_cast; rfl, fun h => by unfold TTree.size; rw [← HQ.out (by omega)]⟩, below_step (below_alloc (Below.refl _ _) _) hb1⟩
end Go.Proofs.YtbfcfjgcmideeaaGreatDoor
