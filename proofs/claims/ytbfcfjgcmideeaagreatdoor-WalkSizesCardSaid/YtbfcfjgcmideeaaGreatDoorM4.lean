/- tree.isDir, tree.Deep, tree.Depth. -/
/- The names on the way from a directory up to the root: plain. -/
import Derived.Test.YtbfcfjgcmideeaaGreatDoorSearch
import Derived.Lib.Join
namespace Go.Proofs.YtbfcfjgcmideeaaGreatDoor
open Go.RowKit
attribute [local go_sem] Later.cell_eq
noncomputable def isDirB (t : TTree) (n : Int) : Bool := treeOK t && (decide (1 ≤ n) && decide (n < t.nodes.length) && (t.at n).kind == 2)
theorem isDirB_iff (t : TTree) (n : Int) : isDirB t n = true ↔ TreeOK t ∧ 1 ≤ n ∧ n < t.nodes.length ∧ (t.at n).kind = 2 := by
  unfold isDirB
  simp only [Bool.and_eq_true, decide_eq_true_iff, beq_iff_eq, treeOK_iff]
  constructor
  · rintro ⟨a, ⟨b, c⟩, d⟩; exact ⟨a, b, c, d⟩
  · rintro ⟨a, b, c, d⟩; exact ⟨a, ⟨b, c⟩, d⟩
/-- How many directories one is within. -/
def deepN (t : TTree) : Nat → Int → Nat
  | 0, _ => 0
  | k + 1, n => if n = 1 then 0 else 1 + deepN t k (t.at n).parent
theorem deepN_one (t : TTree) (k : Nat) : deepN t k 1 = 0 := by cases k <;> simp [deepN]
theorem deepN_le (t : TTree) (k : Nat) : ∀ n, deepN t k n ≤ k := by
  induction k with
  | zero => intro n; simp [deepN]
  | succ k ih => intro n; unfold deepN; split <;> have := ih (t.at n).parent <;> omega
theorem upB_next {t : TTree} {k : Nat} {n : Int} (h : upB t k n = true) (hn : n ≠ 1) : ∃ j, k = j + 1 ∧ 1 < n ∧ n < t.nodes.length ∧ (t.at n).kind = 2 ∧ upB t j (t.at n).parent = true := by
  have h1 : (n == 1) = false := beq_eq_false_iff_ne.2 hn
  cases k with
  | zero => simp [upB, hn] at h
  | succ j =>
    simp only [upB, h1, Bool.false_or, Bool.and_eq_true, decide_eq_true_iff, beq_iff_eq] at h
    exact ⟨j, rfl, h.1.1.1, h.1.1.2, h.1.2, h.2⟩
set_option maxHeartbeats 2000000 in
set_option maxRecDepth 100000 in
theorem deep_calls (t : TTree) (d : Int) (K : Nat) (hK : K ≤ 1000) (hu : upB t K d = true) (A : Option Addr) (c : Nat) (w : World) (hA : NodesAt w A t.nodes) :
    Calls Tryz.prog 235 #[.agg #[.slice A t.nodes.length c, .int .i64 t.now], .int .i64 d] w fun e w' => e = .returned (.int .i64 (deepN t K d : Nat)) ∧ Below w.heap.size w w' := by
  have HA := Lib.hid hA
  have HU := Lib.hid hu
  clear hA hu
  go_enter Tryz.func235, Tryz.ntmps235
  go_wp2
  go_loopg [1, 4] K (fun g s1 s4 wr => ∃ x : Int, ∃ m : Nat, s1 = .int .i64 x ∧ s4 = .int .i64 m ∧ Hid (upB t g x = true) ∧ Hid (m + deepN t g x = deepN t K d) ∧ m + g ≤ K ∧ Below w.heap.size w wr ∧ wr.cell? ⟨w.heap.size, 0, none⟩ = some (.slice A t.nodes.length c))
  case atStart => exact ⟨d, 0, rfl, rfl, HU.out, by show _ + _ = _; omega, by omega, (by repeat (first | exact Below.refl _ _ | assumption | refine Below.drew ?_ | refine below_drewN ?_ _ | refine below_alloc ?_ _ | refine below_set ?_ (by simp) _ | refine below_step ?_ (by assumption))), by rw [World.cell?_alloc_new]; rfl⟩
  case round =>
    obtain ⟨x, m, rfl, rfl, hx, hm, hmg, hb, hb0⟩ := hrel
    by_cases h1 : x = 1
    · subst h1
      go_wp2
      go_ret
      exact ⟨ret_int (by have := hm.out; rw [deepN_one] at this; omega), hb⟩
    · obtain ⟨j, hj, hx1, hx2, hxk, hxu⟩ := upB_next hx.out h1
      subst hj
      have g1 : (x != 1) = true := by simp [h1]
      obtain ⟨y, hy⟩ : ∃ y, t.nodes[x.toNat]? = some y := ⟨t.nodes[x.toNat]'(by omega), by simp⟩
      have hat : t.at x = y := by simp [TTree.at, hy]
      obtain ⟨b, o, Dx, cdx, Lx, clx, rfl, -, -, -, -, -, -, -, -, -, -, -, -, -, y9⟩ := HA.out.get hy
      replace y9 := cell_keep hb y9
      have h0 : 0 ≤ x := by omega
      have HX := Lib.hid hxu
      have HM : Hid (m + 1 + deepN t j y.parent = deepN t K d) := by
        have := hm.out
        rw [deepN, if_neg h1, hat] at this
        show _ + _ = _
        omega
      have HT := Lib.hid hat
      clear hxu hat hy h1 hxk
      go_wp2
      go_roundg j
      case measure => omega
      case rel => exact ⟨_, m + 1, rfl, by go_num, by rw [← HT.out]; exact HX.out, HM.out, by omega, hb, hb0⟩
theorem TreeOK.up {t : TTree} (h : TreeOK t) {n : Int} (h1 : 1 ≤ n) (h2 : n < t.nodes.length) (hk : (t.at n).kind = 2) : upB t 32 n = true := by
  obtain ⟨x, hx⟩ : ∃ x, t.nodes[n.toNat]? = some x := ⟨t.nodes[n.toNat]'(by omega), by simp⟩
  have hat : t.at n = x := by simp [TTree.at, hx]
  have := ((h.link _ _ hx).1 (by rw [← hat]; exact hk)).2.2
  rwa [show ((n.toNat : Nat) : Int) = n by omega] at this
noncomputable def tDepth (t : TTree) (n : Int) : Int := if isDirB t n = true then (deepN t 32 n : Nat) else 0
end Go.Proofs.YtbfcfjgcmideeaaGreatDoor
namespace Go.Proofs.YtbfcfjgcmideeaaGreatDoor
theorem mem_refs {t : TTree} {j : Nat} (h : j ∈ t.refs t.nodes.length) : ∃ (i : Nat) (n : TNode) (e : TEnt), t.nodes[i]? = some n ∧ e ∈ n.list ∧ e.node.toNat = j := by
  unfold TTree.refs at h
  rw [List.take_length, List.mem_flatMap] at h
  obtain ⟨n, hn, hj⟩ := h
  unfold refsOf at hj
  rw [List.mem_map] at hj
  obtain ⟨e, he, rfl⟩ := hj
  obtain ⟨i, hi⟩ := List.getElem?_of_mem hn
  exact ⟨i, n, e, hi, he, rfl⟩
theorem at_eq {t : TTree} {n : Int} {x : TNode} (hx : t.nodes[n.toNat]? = some x) : t.at n = x := by simp [TTree.at, hx]
/-- Where a directory is listed. -/
theorem TreeOK.listing {t : TTree} (h : TreeOK t) {x : Int} (h1 : 1 < x) (h2 : x < t.nodes.length) (hk : (t.at x).kind = 2) :
    ∃ (i : Nat) (n : TNode) (e : TEnt), t.nodes[i]? = some n ∧ e ∈ n.list ∧ e.node = x ∧ (t.at x).parent = i := by
  obtain ⟨y, hy⟩ : ∃ y, t.nodes[x.toNat]? = some y := ⟨t.nodes[x.toNat]'(by omega), by simp⟩
  have hat := at_eq hy
  have ht := ((h.link _ _ hy).1 (by rw [← hat]; exact hk)).2.1 (by omega)
  have hm : x.toNat ∈ t.refs t.nodes.length := by
    unfold TTree.times at ht
    exact List.count_pos_iff.mp (by omega)
  obtain ⟨i, n, e, hn, he, hex⟩ := mem_refs hm
  obtain ⟨k, hke⟩ := List.getElem?_of_mem he
  have ho := h.lists i n hn k e (List.getElem?_eq_some_iff.1 hke).1 hke
  have hen : e.node = x := by have := ho.2.2.1; omega
  exact ⟨i, n, e, hn, he, hen, by rw [← hen]; exact ho.2.2.2.2.2 (by rw [hen]; exact hk)⟩
def nameOf (t : TTree) (d : Int) : ByteArray := match (t.at (t.at d).parent).list.find? (fun e => e.node == d) with | some e => e.name | none => ⟨#[]⟩
def climb (t : TTree) : Nat → Int → List ByteArray
  | 0, _ => []
  | k + 1, d => if d = 1 then [] else nameOf t d :: climb t k (t.at d).parent
theorem climb_one (t : TTree) (k : Nat) : climb t k 1 = [] := by cases k <;> simp [climb]
theorem climb_length (t : TTree) (k : Nat) : ∀ d, (climb t k d).length = deepN t k d := by
  induction k with
  | zero => intro d; rfl
  | succ k ih =>
    intro d
    unfold climb deepN
    split
    · rfl
    · simp [ih]; omega
def pathOf (l : List ByteArray) : List UInt8 := 47 :: Go.Lib.join (l.reverse.map (·.data.toList)) [47]
noncomputable def tPath (t : TTree) (d : Int) : ByteArray := if isDirB t d = true then ⟨(pathOf (climb t 32 d)).toArray⟩ else ⟨#[]⟩
noncomputable def tPathE (t : TTree) (d : Int) : Int := if isDirB t d = true then 0 else 1
/-- A name that stands in a tree. -/
theorem TreeOK.name_le {t : TTree} (h : TreeOK t) {i : Nat} {n : TNode} {e : TEnt} (hn : t.nodes[i]? = some n) (he : e ∈ n.list) : nameOK e.name = true := by
  obtain ⟨k, hke⟩ := List.getElem?_of_mem he
  exact (h.lists i n hn k e (List.getElem?_eq_some_iff.1 hke).1 hke).1
theorem nameOf_spec {t : TTree} (h : TreeOK t) {x : Int} (h1 : 1 < x) (h2 : x < t.nodes.length) (hk : (t.at x).kind = 2) :
    ∃ (i : Nat) (n : TNode) (e : TEnt), t.nodes[i]? = some n ∧ e ∈ n.list ∧ e.node = x ∧ (t.at x).parent = i ∧ nameOf t x = e.name ∧ n.list.find? (fun e => e.node == x) = some e := by
  obtain ⟨i, n, e, hn, he, hex, hp⟩ := h.listing h1 h2 hk
  have hf : ∃ f, n.list.find? (fun e => e.node == x) = some f := by
    cases hc : n.list.find? (fun e => e.node == x) with
    | some f => exact ⟨f, rfl⟩
    | none => rw [List.find?_eq_none] at hc; exact absurd (beq_iff_eq.2 hex) (hc e he)
  obtain ⟨f, hf⟩ := hf
  refine ⟨i, n, f, hn, List.mem_of_find?_eq_some hf, beq_iff_eq.1 (List.find?_some (p := fun e : TEnt => e.node == x) hf), hp, ?_, hf⟩
  unfold nameOf
  rw [hp, at_of hn, hf]
theorem climb_small {t : TTree} (h : TreeOK t) (k : Nat) : ∀ d, upB t k d = true → ∀ s ∈ climb t k d, nameOK s = true := by
  induction k with
  | zero => intro d _ s hs; simp [climb] at hs
  | succ k ih =>
    intro d hu s hs
    by_cases h1 : d = 1
    · subst h1; rw [climb_one] at hs; cases hs
    · obtain ⟨j, hj, a, b, c, e⟩ := upB_next hu h1
      obtain rfl : k = j := by omega
      rw [climb, if_neg h1] at hs
      rcases List.mem_cons.mp hs with rfl | hs
      · obtain ⟨i, n, f, hn, hf, _, _, hnm, _⟩ := nameOf_spec h a b c
        rw [hnm]; exact h.name_le hn hf
      · exact ih _ e s hs
theorem join_le (xs : List (List UInt8)) (m : Nat) (hx : ∀ x ∈ xs, x.length ≤ m) : (Go.Lib.join xs [47]).length ≤ xs.length * (m + 1) := by
  unfold Go.Lib.join
  induction xs with
  | nil => simp
  | cons x xs ih =>
    cases xs with
    | nil =>
      have := hx x (by simp)
      simp [List.intercalate]; omega
    | cons y ys =>
      have h1 := hx x (by simp)
      have h2 := ih fun z hz => hx z (List.mem_cons_of_mem _ hz)
      have e : ([47] : List UInt8).intercalate (x :: y :: ys) = x ++ ([47] ++ ([47] : List UInt8).intercalate (y :: ys)) := by simp [List.intercalate]
      rw [e]
      simp only [List.length_append, List.length_cons, List.length_nil] at h2 ⊢
      rw [Nat.add_mul, Nat.one_mul]
      omega
theorem nameOK_size {s : ByteArray} (h : nameOK s = true) : 1 ≤ s.size ∧ s.size ≤ 64 := by
  rw [nameOK, decide_eq_true_iff] at h
  refine ⟨?_, h.2.1⟩
  rcases Nat.eq_zero_or_pos s.size with h0 | h0
  · exact absurd ((toList_nil s).mpr h0) h.1
  · exact h0
end Go.Proofs.YtbfcfjgcmideeaaGreatDoor
