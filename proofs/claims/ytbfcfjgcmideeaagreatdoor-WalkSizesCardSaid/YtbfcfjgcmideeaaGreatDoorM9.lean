/- The reference of layer 12: names, free nodes, nodes by themselves, the way up. -/
/- The reference of layer 12: the way up. -/
import Derived.Test.YtbfcfjgcmideeaaGreatDoorSearch
import Derived.Test.YtbfcfjgcmideeaaGreatDoorM4
import Derived.Test.YtbfcfjgcmideeaaGreatDoorM2
import Derived.Outline
namespace Go.Proofs.YtbfcfjgcmideeaaGreatDoor
open Go.RowKit
attribute [local go_sem] Later.cell_eq
def badB (b : UInt8) : Bool := b == 0 || b == 47
theorem take_any_succ (s : ByteArray) (i : Nat) (h : i < s.size) : (s.data.toList.take (i + 1)).any badB = ((s.data.toList.take i).any badB || badB s[i]) := by
  rw [List.take_add_one, List.any_append]
  have : s.data.toList[i]? = some s[i] := by
    rw [Array.getElem?_toList]; exact Array.getElem?_eq_getElem (by simpa using h)
  rw [this]; simp
theorem badB_iff (b : UInt8) : badB b = true ↔ (b.toNat : Int) = 0 ∨ (b.toNat : Int) = 47 := by
  unfold badB
  rw [Bool.or_eq_true, beq_iff_eq, beq_iff_eq, ← UInt8.toNat_inj, ← UInt8.toNat_inj]
  simp; omega
theorem nameOK_bad {s : ByteArray} {i : Nat} (h : i < s.size) (hb : badB s[i] = true) : nameOK s = false := by
  unfold nameOK
  rw [decide_eq_false_iff_not]
  rintro ⟨-, -, -, -, h5⟩
  have h6 : hasBad s = true := by
    unfold hasBad
    rw [List.any_eq_true]
    exact ⟨s[i], by rw [show s[i] = s.data.toList[i]'(by simpa using h) from by simp; rfl]; exact List.getElem_mem _, hb⟩
  rw [h5] at h6; cases h6
set_option maxHeartbeats 1000000 in
theorem refName_calls (s : ByteArray) (hs : s.size ≤ 140737488355328) (w : World) :
    Calls Tryz.prog 179 #[.string s] w fun e w' => e = .returned (.bool (nameOK s)) ∧ Below w.heap.size w w' := by
  go_enter Tryz.func179, Tryz.ntmps179
  go_wp2
  go_loopg [3] s.size (fun g s3 wr => ∃ i : Nat, i + g = s.size ∧ s3 = .int .i64 i ∧ (s.data.toList.take i).any badB = false ∧ Below w.heap.size w wr)
  case atStart => exact ⟨0, by omega, rfl, rfl, Below.refl _ _⟩
  case round =>
    obtain ⟨i, hg, rfl, hany, hb⟩ := hrel
    have HAN := Lib.hid hany
    clear hany
    cases gk with
    | zero =>
      obtain rfl : i = s.size := by omega
      have HB : Hid (hasBad s = false) := Lib.hid (by
        have h := HAN.out
        rw [List.take_of_length_le (by show s.data.toList.length ≤ _; rw [Array.length_toList]; exact Nat.le_refl _)] at h
        exact h)
      go_wp2
      all_goals go_ret
      · exact ⟨ret_bool (by symm; rw [nameOK, decide_eq_false_iff_not]; exact fun h => h.2.2.1 ‹_›), hb⟩
      · refine ⟨ret_bool ?_, hb⟩
        have h1 : (1 : Int) ≤ (s.size : Int) := by assumption
        have h2 := toList_nil s
        have h3 : ¬ s.toList = [] := fun h => by have := h2.mp h; omega
        rw [Bool.eq_iff_iff, nameOK]
        simp only [Bool.and_eq_true, Bool.not_eq_true', beq_eq_false_iff_ne, decide_eq_true_iff, ne_eq]
        constructor
        · rintro ⟨a, b⟩; exact ⟨h3, by omega, a, b, HB.out⟩
        · rintro ⟨_, _, a, b, _⟩; exact ⟨a, b⟩
      · exact ⟨ret_bool (by symm; rw [nameOK, decide_eq_false_iff_not]; intro h; have := h.2.1; omega), hb⟩
      · refine ⟨ret_bool ?_, hb⟩
        have h1 : (s.size : Int) < 1 := by assumption
        symm; rw [nameOK, decide_eq_false_iff_not]; intro h; exact h.1 ((toList_nil s).mpr (by omega))
    | succ g =>
      have hi : i < s.size := by omega
      have hts := take_any_succ s i hi
      have hbi := badB_iff s[i]
      have hbd := fun h => nameOK_bad (s := s) hi h
      have HTS := Lib.hid hts
      have HBI := Lib.hid hbi
      have HBD := Lib.hid hbd
      clear hts hbi hbd
      go_wp2
      · have hz : s[i].toNat = 0 := by assumption
        go_ret
        exact ⟨ret_bool (HBD.out (HBI.out.mpr (by omega))).symm, hb⟩
      · go_ret
        have hz : ((s[i].toNat : Int) == 0) = true ∨ ((s[i].toNat : Int) == 47) = true := by assumption
        simp only [beq_iff_eq] at hz
        exact ⟨ret_bool (HBD.out (HBI.out.mpr hz)).symm, hb⟩
      · have hz : ((s[i].toNat : Int) == 0) = false ∧ ((s[i].toNat : Int) == 47) = false := by assumption
        have HZ := Lib.hid hz
        go_roundg g
        case measure => omega
        case rel =>
          refine ⟨i + 1, by omega, by go_num, ?_, hb⟩
          rw [HTS.out, HAN.out, Bool.false_or, Bool.eq_false_iff]
          intro h
          have := HBI.out.mp h
          have h2 := HZ.out
          simp only [beq_eq_false_iff_ne] at h2
          omega

def zeroB (n : TNode) : Bool := decide (n.kind = 0 ∧ n.mode = 0 ∧ n.user = 0 ∧ n.group = 0 ∧ n.links = 0 ∧ n.time = 0 ∧ n.data.length = 0 ∧ n.target.size = 0 ∧ n.list.length = 0 ∧ n.parent = 0)
theorem zeroB_ok {n : TNode} (h : zeroB n = true) : n.ok = true ∧ n.kind = 0 ∧ n.list = [] := by
  unfold zeroB at h
  rw [decide_eq_true_iff] at h
  obtain ⟨a, b, c, d, e, f, g, h1, i, j⟩ := h
  refine ⟨?_, a, List.eq_nil_of_length_eq_zero i⟩
  rw [TNode.ok, Bool.and_eq_true]
  refine ⟨by rw [TNode.nums, decide_eq_true_iff]; omega, ?_⟩
  unfold TNode.byKind
  rw [if_pos a, TNode.k0, decide_eq_true_iff]
  omega
theorem zeroB_no {n : TNode} (h : zeroB n = false) (hk : n.kind = 0) : n.ok = false := by
  rw [Bool.eq_false_iff]
  intro hok
  rw [TNode.ok, Bool.and_eq_true] at hok
  have h2 := hok.2
  unfold TNode.byKind at h2
  rw [if_pos hk, TNode.k0, decide_eq_true_iff] at h2
  unfold zeroB at h
  rw [decide_eq_false_iff_not] at h
  exact h ⟨hk, h2.1, h2.2.1, h2.2.2.1, h2.2.2.2.1, h2.2.2.2.2.1, h2.2.2.2.2.2.2.1, h2.2.2.2.2.2.2.2.2, h2.2.2.2.2.2.2.2.1, h2.2.2.2.2.2.1⟩
set_option maxHeartbeats 1000000 in
theorem refZero_calls (n : TNode) (hF : n.Fits) (D L : Option Addr) (cd cl : Nat) (w : World) :
    Calls Tryz.prog 177 #[.agg #[.int .u8 n.kind, .int .i64 n.mode, .int .i64 n.user, .int .i64 n.group, .int .i64 n.links, .int .i64 n.time, .slice D n.data.length cd, .string n.target, .slice L n.list.length cl, .int .i64 n.parent]] w fun e w' => e = .returned (.bool (zeroB n)) ∧ Below w.heap.size w w' := by
  have hz := Lib.hid (toList_nil n.target)
  have hdl := Lib.hid (@List.length_eq_zero_iff _ n.data).symm
  have hll := Lib.hid (@List.length_eq_zero_iff _ n.list).symm
  obtain ⟨_, i1, i2, i3, i4, i5, i6, b1, b2, b3, _⟩ := hF
  clear i1 i2 i3 i4 i5 i6
  go_enter Tryz.func177, Tryz.ntmps177
  go_wp2
  all_goals go_ret
  all_goals refine ⟨ret_bool ?_, (by repeat (first | exact Below.refl _ _ | assumption | refine Below.drew ?_ | refine below_drewN ?_ _ | refine below_alloc ?_ _ | refine below_set ?_ (by simp) _ | refine below_step ?_ (by assumption)))⟩
  all_goals have e1 := hz.out
  all_goals have e2 := hdl.out
  all_goals have e3 := hll.out
  all_goals try have q1 := e1.mp (by assumption)
  all_goals try have q1' : n.target.size ≠ 0 := fun h => absurd (e1.mpr h) (by assumption)
  all_goals try have q2 := e2.mp (by assumption)
  all_goals try have q2' : n.data.length ≠ 0 := fun h => absurd (e2.mpr h) (by assumption)
  all_goals try have q3 := e3.mp (by assumption)
  all_goals try have q3' : n.list.length ≠ 0 := fun h => absurd (e3.mpr h) (by assumption)
  all_goals rw [Bool.eq_iff_iff, zeroB]
  all_goals simp only [Bool.false_eq_true, beq_iff_eq, decide_eq_true_iff, false_iff]
  all_goals omega
theorem no0_take (s : ByteArray) (i : Nat) (h : i < s.size) (hp : (s.data.toList.take i).contains 0 = false) (hn : ¬ s[i].toNat = 0) : (s.data.toList.take (i + 1)).contains 0 = false := by
  have : s.data.toList[i]? = some s[i] := by
    rw [Array.getElem?_toList]; exact Array.getElem?_eq_getElem (by simpa using h)
  rw [Bool.eq_false_iff, ne_eq, List.contains_iff_mem] at hp ⊢
  rw [List.take_add_one, this, List.mem_append]
  rintro (hm | hm)
  · exact hp hm
  · simp at hm
    exact hn (by rw [← hm]; rfl)
theorem no0_hit (s : ByteArray) (i : Nat) (h : i < s.size) (hn : s[i].toNat = 0) : no0 s = false := by
  unfold no0
  rw [Bool.not_eq_false', List.contains_iff_mem]
  have : s[i] = 0 := UInt8.toNat_inj.1 (by rw [hn]; rfl)
  rw [← this, show s[i] = s.data.toList[i]'(by simpa using h) from by simp; rfl]
  exact List.getElem_mem _
set_option maxHeartbeats 1000000 in
theorem refAlone_calls (n : TNode) (hF : n.Fits) (hk0 : n.kind ≠ 0) (D L : Option Addr) (cd cl : Nat) (w : World) :
    Calls Tryz.prog 178 #[.agg #[.int .u8 n.kind, .int .i64 n.mode, .int .i64 n.user, .int .i64 n.group, .int .i64 n.links, .int .i64 n.time, .slice D n.data.length cd, .string n.target, .slice L n.list.length cl, .int .i64 n.parent]] w fun e w' => e = .returned (.bool n.ok) ∧ Below w.heap.size w w' := by
  have hz := Lib.hid (toList_nil n.target)
  have hdl := Lib.hid (@List.length_eq_zero_iff _ n.data).symm
  have hll := Lib.hid (@List.length_eq_zero_iff _ n.list).symm
  have hk := hF.kind
  obtain ⟨_, i1, i2, i3, i4, i5, i6, b1, b2, b3, _⟩ := hF
  clear i1 i2 i3 i4 i5 i6
  by_cases hnums : n.nums = true
  · have hn' := hnums
    rw [TNode.nums, decide_eq_true_iff] at hn'
    obtain ⟨a1, a2, a3, a4, a5, a6, a7, a8, a9⟩ := hn'
    have HN := Lib.hid hnums
    clear hnums
    have hc : n.kind = 1 ∨ n.kind = 2 ∨ n.kind = 3 := by omega
    rcases hc with h1 | h1 | h1
    · have e1 : (n.kind == 1) = true := beq_iff_eq.2 h1
      have K := Lib.hid h1
      clear h1
      go_enter Tryz.func178, Tryz.ntmps178
      go_wp2
      all_goals go_ret
      all_goals refine ⟨ret_bool ?_, (by repeat (first | exact Below.refl _ _ | assumption | refine Below.drew ?_ | refine below_drewN ?_ _ | refine below_alloc ?_ _ | refine below_set ?_ (by simp) _ | refine below_step ?_ (by assumption)))⟩
      all_goals have e1 := hz.out
      all_goals have e2 := hdl.out
      all_goals have e3 := hll.out
      all_goals try have q1 := e1.mp (by assumption)
      all_goals try have q1' : n.target.size ≠ 0 := fun h => absurd (e1.mpr h) (by assumption)
      all_goals try have q2 := e2.mp (by assumption)
      all_goals try have q2' : n.data.length ≠ 0 := fun h => absurd (e2.mpr h) (by assumption)
      all_goals try have q3 := e3.mp (by assumption)
      all_goals try have q3' : n.list.length ≠ 0 := fun h => absurd (e3.mpr h) (by assumption)
      all_goals unfold TNode.ok TNode.byKind
      all_goals rw [HN.out, Bool.true_and, if_neg (by have := K.out; omega), if_pos K.out, Bool.eq_iff_iff, TNode.k1]
      all_goals simp only [Bool.false_eq_true, beq_iff_eq, decide_eq_true_iff, false_iff]
      all_goals omega
    · have e1 : (n.kind == 1) = false := beq_eq_false_iff_ne.2 (by omega)
      have e2 : (n.kind == 3) = false := beq_eq_false_iff_ne.2 (by omega)
      have e3 : (n.kind == 2) = true := beq_iff_eq.2 h1
      have K := Lib.hid h1
      clear h1
      go_enter Tryz.func178, Tryz.ntmps178
      go_wp2
      all_goals go_ret
      all_goals refine ⟨ret_bool ?_, (by repeat (first | exact Below.refl _ _ | assumption | refine Below.drew ?_ | refine below_drewN ?_ _ | refine below_alloc ?_ _ | refine below_set ?_ (by simp) _ | refine below_step ?_ (by assumption)))⟩
      all_goals have e1 := hz.out
      all_goals have e2 := hdl.out
      all_goals have e3 := hll.out
      all_goals try have q1 := e1.mp (by assumption)
      all_goals try have q1' : n.target.size ≠ 0 := fun h => absurd (e1.mpr h) (by assumption)
      all_goals try have q2 := e2.mp (by assumption)
      all_goals try have q2' : n.data.length ≠ 0 := fun h => absurd (e2.mpr h) (by assumption)
      all_goals try have q3 := e3.mp (by assumption)
      all_goals try have q3' : n.list.length ≠ 0 := fun h => absurd (e3.mpr h) (by assumption)
      all_goals unfold TNode.ok TNode.byKind
      all_goals rw [HN.out, Bool.true_and, if_neg (by have := K.out; omega), if_neg (by have := K.out; omega), if_pos K.out, Bool.eq_iff_iff, TNode.k2]
      all_goals simp only [Bool.false_eq_true, decide_eq_true_iff, false_iff]
      all_goals omega
    · have e1 : (n.kind == 1) = false := beq_eq_false_iff_ne.2 (by omega)
      have e2 : (n.kind == 3) = true := beq_iff_eq.2 h1
      have K := Lib.hid h1
      clear h1
      go_enter Tryz.func178, Tryz.ntmps178
      go_wp2
      go_loopg [3] n.target.size (fun g s3 wr => ∃ i : Nat, i + g = n.target.size ∧ s3 = .int .i64 i ∧ (n.target.data.toList.take i).contains 0 = false ∧ Below w.heap.size w wr ∧ wr.cell? ⟨w.heap.size, 0, none⟩ = some (.int .u8 n.kind) ∧ wr.cell? ⟨w.heap.size, 1, none⟩ = some (.int .i64 n.mode) ∧ wr.cell? ⟨w.heap.size, 2, none⟩ = some (.int .i64 n.user) ∧ wr.cell? ⟨w.heap.size, 3, none⟩ = some (.int .i64 n.group) ∧ wr.cell? ⟨w.heap.size, 4, none⟩ = some (.int .i64 n.links) ∧ wr.cell? ⟨w.heap.size, 5, none⟩ = some (.int .i64 n.time) ∧ wr.cell? ⟨w.heap.size, 6, none⟩ = some (.slice D n.data.length cd) ∧ wr.cell? ⟨w.heap.size, 7, none⟩ = some (.string n.target) ∧ wr.cell? ⟨w.heap.size, 8, none⟩ = some (.slice L n.list.length cl) ∧ wr.cell? ⟨w.heap.size, 9, none⟩ = some (.int .i64 n.parent))
      case atStart =>
        refine ⟨0, by omega, rfl, rfl, (by repeat (first | exact Below.refl _ _ | assumption | refine Below.drew ?_ | refine below_drewN ?_ _ | refine below_alloc ?_ _ | refine below_set ?_ (by simp) _ | refine below_step ?_ (by assumption))), ?_⟩
        obtain ⟨⟨a0, a1, a2, a3, a4, a5, a6, a7, a8, a9⟩, -⟩ := row10 (heap_alloc_new w (.cells #[.int .u8 n.kind, .int .i64 n.mode, .int .i64 n.user, .int .i64 n.group, .int .i64 n.links, .int .i64 n.time, .slice D n.data.length cd, .string n.target, .slice L n.list.length cl, .int .i64 n.parent] 80))
        exact ⟨a0, a1, a2, a3, a4, a5, a6, a7, a8, a9⟩
      case round =>
        obtain ⟨i, hg, rfl, hc, hb, c0, c1, c2, c3, c4, c5, c6, c7, c8, c9⟩ := hrel
        have HC := Lib.hid hc
        clear hc
        cases gk with
        | zero =>
          obtain rfl : i = n.target.size := by omega
          have HNO : Hid (no0 n.target = true) := Lib.hid (by
            have h := HC.out
            rw [List.take_of_length_le (by show n.target.data.toList.length ≤ _; rw [Array.length_toList]; exact Nat.le_refl _)] at h
            unfold no0; rw [h]; rfl)
          go_wp2
          all_goals go_ret
          all_goals refine ⟨ret_bool ?_, hb⟩
          all_goals have e1 := hz.out
          all_goals have e2 := hdl.out
          all_goals have e3 := hll.out
          all_goals try have q1 := e1.mp (by assumption)
          all_goals try have q1' : n.target.size ≠ 0 := fun h => absurd (e1.mpr h) (by assumption)
          all_goals try have q2 := e2.mp (by assumption)
          all_goals try have q2' : n.data.length ≠ 0 := fun h => absurd (e2.mpr h) (by assumption)
          all_goals try have q3 := e3.mp (by assumption)
          all_goals try have q3' : n.list.length ≠ 0 := fun h => absurd (e3.mpr h) (by assumption)
          all_goals unfold TNode.ok TNode.byKind
          all_goals rw [HN.out, Bool.true_and, if_neg (by have := K.out; omega), if_neg (by have := K.out; omega), if_neg (by have := K.out; omega), Bool.eq_iff_iff, TNode.k3, HNO.out]
          all_goals simp only [Bool.false_eq_true, beq_iff_eq, decide_eq_true_iff, false_iff, true_and]
          all_goals omega
        | succ g =>
          have hi : i < n.target.size := by omega
          by_cases hz0 : n.target[i].toNat = 0
          · have HF0 := Lib.hid (no0_hit n.target i hi hz0)
            go_wp2
            go_ret
            refine ⟨ret_bool ?_, hb⟩
            unfold TNode.ok TNode.byKind
            rw [HN.out, Bool.true_and, if_neg (by have := K.out; omega), if_neg (by have := K.out; omega), if_neg (by have := K.out; omega), TNode.k3, HF0.out]
            simp
          · have HS := Lib.hid (no0_take n.target i hi HC.out hz0)
            go_wp2
            go_roundg g
            case measure => omega
            case rel => exact ⟨i + 1, by omega, by go_num, HS.out, hb, c0, c1, c2, c3, c4, c5, c6, c7, c8, c9⟩
  · have hneg : ¬ (n.kind ≤ 3 ∧ 0 ≤ n.mode ∧ n.mode ≤ 511 ∧ 0 ≤ n.user ∧ n.user ≤ 65535 ∧ 0 ≤ n.group ∧ n.group ≤ 65535 ∧ 0 ≤ n.time ∧ n.time ≤ 1099511627775) := by
      rw [TNode.nums, decide_eq_true_iff] at hnums; exact hnums
    have hok : n.ok = false := by rw [TNode.ok, Bool.eq_false_iff.mpr hnums]; rfl
    have HN := Lib.hid hneg
    have HO := Lib.hid hok
    clear hneg hok hnums
    by_cases h1 : n.kind ≤ 3
    · go_enter Tryz.func178, Tryz.ntmps178
      go_upto_region 4 with fail
      all_goals first
        | (exfalso; have := HN.out; omega)
        | (go_ret; exact ⟨ret_bool HO.out.symm, (by repeat (first | exact Below.refl _ _ | assumption | refine Below.drew ?_ | refine below_drewN ?_ _ | refine below_alloc ?_ _ | refine below_set ?_ (by simp) _ | refine below_step ?_ (by assumption)))⟩)
    · have e1 : (n.kind == 1) = false := beq_eq_false_iff_ne.2 (by omega)
      have e2 : (n.kind == 3) = false := beq_eq_false_iff_ne.2 (by omega)
      have e3 : (n.kind == 2) = false := beq_eq_false_iff_ne.2 (by omega)
      go_enter Tryz.func178, Tryz.ntmps178
      go_wp2
      all_goals (go_ret; exact ⟨ret_bool HO.out.symm, (by repeat (first | exact Below.refl _ _ | assumption | refine Below.drew ?_ | refine below_drewN ?_ _ | refine below_alloc ?_ _ | refine below_set ?_ (by simp) _ | refine below_step ?_ (by assumption)))⟩)
end Go.Proofs.YtbfcfjgcmideeaaGreatDoor
namespace Go.Proofs.YtbfcfjgcmideeaaGreatDoor
open Go.RowKit
attribute [local go_sem] Later.cell_eq
def upZ (t : TTree) : Nat → Int → Int → Int
  | 0, _, _ => -1
  | k + 1, n, i => if i = 1 then n else if i < 1 ∨ (t.nodes.length : Int) ≤ i ∨ (t.at i).kind ≠ 2 then -1 else upZ t k (n + 1) (t.at i).parent
theorem upZ_iff (t : TTree) (k : Nat) : ∀ (n i : Int), 0 ≤ n → (0 ≤ upZ t (k + 1) n i ↔ upB t k i = true) := by
  induction k with
  | zero =>
    intro n i hn
    unfold upZ
    by_cases h1 : i = 1
    · subst h1; simp [upB, hn]
    · rw [if_neg h1, upB_zero t i h1]
      split
      · simp
      · simp [upZ]
  | succ k ih =>
    intro n i hn
    unfold upZ
    by_cases h1 : i = 1
    · subst h1; simp [upB, hn]
    · rw [if_neg h1]
      by_cases h2 : i < 1 ∨ (t.nodes.length : Int) ≤ i ∨ (t.at i).kind ≠ 2
      · rw [if_pos h2]
        have : upB t (k + 1) i = false := by
          rcases h2 with h | h | h
          · exact upB_low t _ _ h
          · exact upB_high t _ _ h1 h
          · exact upB_kind t _ _ h1 h
        rw [this]; simp
      · rw [if_neg h2, ih _ _ (by omega), upB_step t k i (by omega) (by omega) (by omega)]
theorem upZ_deep (t : TTree) (k : Nat) : ∀ (n i : Int), 0 ≤ n → upB t k i = true → upZ t (k + 1) n i = n + (deepN t k i : Nat) := by
  induction k with
  | zero =>
    intro n i hn hu
    have h1 : i = 1 := by simpa [upB] using hu
    subst h1
    unfold upZ; simp [deepN]
  | succ k ih =>
    intro n i hn hu
    unfold upZ
    by_cases h1 : i = 1
    · subst h1; simp [deepN]
    · rw [if_neg h1]
      obtain ⟨j, hj, a, b, c, d⟩ := upB_next hu h1
      obtain rfl : j = k := by omega
      rw [if_neg (by omega), ih _ _ (by omega) d]
      conv => rhs; unfold deepN
      rw [if_neg h1]
      push_cast; omega
def refUp (t : TTree) (i : Int) : Int := upZ t 33 0 i
theorem refUp_iff (t : TTree) (i : Int) : 0 ≤ refUp t i ↔ upB t 32 i = true := upZ_iff t 32 0 i (by omega)
set_option maxHeartbeats 2000000 in
set_option maxRecDepth 100000 in
theorem refUp_calls (t : TTree) (hF : t.Fits) (i0 : Int) (A : Option Addr) (c : Nat) (w : World) (hA : NodesAt w A t.nodes) :
    Calls Tryz.prog 180 #[.agg #[.slice A t.nodes.length c, .int .i64 t.now], .int .i64 i0] w fun e w' => e = .returned (.int .i64 (refUp t i0)) ∧ Below w.heap.size w w' := by
  have HA := Lib.hid hA
  have hn47 := hF.nodes
  clear hA hF
  go_enter Tryz.func180, Tryz.ntmps180
  go_wp2
  have hb0 : Below w.heap.size w (w.alloc (.cells #[.slice A t.nodes.length c, .int .i64 t.now] 24)) := below_alloc (Below.refl _ _) _
  have k0 : (w.alloc (.cells #[.slice A t.nodes.length c, .int .i64 t.now] 24)).cell? ⟨w.heap.size, 0, none⟩ = some (.slice A t.nodes.length c) := by rw [World.cell?_alloc_new]; rfl
  go_loopg [1, 5] 33 (fun g s1 s5 wr => ∃ (i : Int) (n : Nat), n + g = 33 ∧ s1 = .int .i64 i ∧ s5 = .int .i64 n ∧ Hid (upZ t g n i = refUp t i0) ∧ Below w.heap.size w wr ∧ wr.cell? ⟨w.heap.size, 0, none⟩ = some (.slice A t.nodes.length c))
  case atStart => exact ⟨i0, 0, by omega, rfl, rfl, Lib.hid rfl, hb0, k0⟩
  case round =>
    clear hb0 k0
    obtain ⟨i, n, hg, rfl, rfl, HU, hb, k0⟩ := hrel
    cases gk with
    | zero =>
      obtain rfl : n = 33 := by omega
      go_wp2
      go_ret
      exact ⟨ret_int (by rw [← HU.out]; rfl), hb⟩
    | succ g =>
      have hn : n ≤ 32 := by omega
      by_cases h1 : i = 1
      · have HV := Lib.hid (show upZ t (g + 1) n i = n by unfold upZ; rw [if_pos h1])
        have e1 : (i == 1) = true := beq_iff_eq.2 h1
        clear h1
        go_wp2
        go_ret
        exact ⟨ret_int (by rw [← HU.out, HV.out]), hb⟩
      · have e1 : (i == 1) = false := beq_eq_false_iff_ne.2 h1
        by_cases h2 : i < 1
        · have HV := Lib.hid (show upZ t (g + 1) n i = -1 by unfold upZ; rw [if_neg h1, if_pos (Or.inl h2)])
          clear h1
          go_wp2
          go_ret
          exact ⟨ret_int (by rw [← HU.out, HV.out]), hb⟩
        · have e2 : decide (i < 1) = false := decide_eq_false h2
          by_cases h3 : (t.nodes.length : Int) ≤ i
          · have HV := Lib.hid (show upZ t (g + 1) n i = -1 by unfold upZ; rw [if_neg h1, if_pos (Or.inr (Or.inl h3))])
            clear h1
            go_wp2
            go_ret
            exact ⟨ret_int (by rw [← HU.out, HV.out]), hb⟩
          · have e3 : decide ((t.nodes.length : Int) ≤ i) = false := decide_eq_false h3
            obtain ⟨x, hx⟩ : ∃ x, t.nodes[i.toNat]? = some x := ⟨t.nodes[i.toNat]'(by omega), by simp⟩
            obtain ⟨b, o, Dx, cdx, Lx, clx, rfl, _, _, _, _, x0, x1, x2, x3, x4, x5, x6, x7, x8, x9⟩ := HA.out.get hx
            have hat : t.at i = x := by simp [TTree.at, hx]
            replace x0 := cell_keep hb x0
            replace x9 := cell_keep hb x9
            have hi0 : 0 ≤ i := by omega
            have hi1 : i < (t.nodes.length : Int) := by omega
            clear x1 x2 x3 x4 x5 x6 x7 x8 hx
            by_cases h4 : x.kind = 2
            · have e4 : (x.kind != 2) = false := by simp [h4]
              have HV := Lib.hid (show upZ t (g + 1) n i = upZ t g (n + 1) x.parent by
                conv => lhs; unfold upZ
                rw [if_neg h1, hat, if_neg (by omega)])
              clear h1 h4 hat
              go_wp2
              go_roundg g
              case measure => omega
              case rel => exact ⟨x.parent, n + 1, by omega, rfl, by go_num, Lib.hid (by rw [← HU.out, HV.out]; push_cast; rfl), hb, k0⟩
            · have e4 : (x.kind != 2) = true := by simp [h4]
              have HV := Lib.hid (show upZ t (g + 1) n i = -1 by unfold upZ; rw [if_neg h1, hat, if_pos (Or.inr (Or.inr h4))])
              clear h1 h4 hat
              go_wp2
              go_ret
              exact ⟨ret_int (by rw [← HU.out, HV.out]), hb⟩
end Go.Proofs.YtbfcfjgcmideeaaGreatDoor
