/- Where a path leads: the plain part. -/
import Derived.Test.YtdidhelkmnkhcaaDoorGoes
import Derived.Test.YtdidhelkmnkhcaaDoorPerms
import Derived.Test.YtdidhelkmnkhcaaDoorClimb
namespace Go.Proofs.YtdidhelkmnkhcaaDoor
structure PlaceV where
  dir : Int
  name : List UInt8
  node : Int
  dirs : Bool
def noPlace : PlaceV := ⟨0, [], 0, false⟩
def PlaceV.cells (p : PlaceV) : Array Value := #[.int .i64 p.dir, .string ⟨p.name.toArray⟩, .int .i64 p.node, .bool p.dirs]
def PlaceV.val (p : PlaceV) : Value := .agg p.cells
def inGo (t : TTree) (u g : Int) (follow : Bool) : Nat → Int → List (List UInt8) → Bool → Nat → PlaceV × Int
  | 0, _, _, _, _ => (noPlace, 0)
  | _ + 1, a, [], dirs, _ => (⟨a, [], a, dirs⟩, 0)
  | f + 1, a, s :: rest, dirs, hops =>
    if mayB (t.at a) u g 1 = false then (noPlace, 10)
    else if 64 < s.length then (noPlace, 13)
    else if s = [46] then inGo t u g follow f a rest dirs hops
    else if s = [46, 46] then inGo t u g follow f (t.at a).parent rest dirs hops
    else if tIn t a ⟨s.toArray⟩ = 0 then (if rest = [] then (⟨a, s, 0, dirs⟩, 0) else (noPlace, 6))
    else if (t.at (tIn t a ⟨s.toArray⟩)).kind = 3 ∧ (rest ≠ [] ∨ follow = true ∨ dirs = true) then
      (if 16 < hops + 1 then (noPlace, 12)
      else inGo t u g follow f (if (t.at (tIn t a ⟨s.toArray⟩)).target.data.toList.head? = some 47 then 1 else a) (partsOf (t.at (tIn t a ⟨s.toArray⟩)).target.data.toList ++ rest) (dirs || rest.isEmpty && slashEnd (t.at (tIn t a ⟨s.toArray⟩)).target.data.toList) (hops + 1))
    else if rest = [] ∧ ((t.at (tIn t a ⟨s.toArray⟩)).kind ≠ 1 ∨ dirs = false) then (⟨a, s, tIn t a ⟨s.toArray⟩, dirs⟩, 0)
    else if (t.at (tIn t a ⟨s.toArray⟩)).kind ≠ 2 then (noPlace, 9)
    else inGo t u g follow f (tIn t a ⟨s.toArray⟩) rest dirs hops
def inS (t : TTree) (u g d : Int) (p : List UInt8) (follow : Bool) : PlaceV × Int :=
  if p = [] then (noPlace, 6)
  else if badS p = true then (noPlace, 13)
  else inGo t u g follow 20000 (if p.head? = some 47 then 1 else d) (partsOf p) (slashEnd p) 0
def DirAt (t : TTree) (a : Int) : Prop := 1 ≤ a ∧ a < t.nodes.length ∧ (t.at a).kind = 2
theorem dirAt_root {t : TTree} (h : TreeOK t) : DirAt t 1 := ⟨by omega, by have := h.head.two; omega, h.head.root⟩
theorem dirAt_parent {t : TTree} (h : TreeOK t) {a : Int} (ha : DirAt t a) : DirAt t (t.at a).parent := by
  by_cases h1 : a = 1
  · subst h1; rw [h.head.rootp]; exact dirAt_root h
  · obtain ⟨j, -, -, -, -, hu⟩ := upB_next (h.up ha.1 ha.2.1 ha.2.2) h1
    by_cases h2 : (t.at a).parent = 1
    · rw [h2]; exact dirAt_root h
    · obtain ⟨_, _, h3, h4, h5, _⟩ := upB_next hu h2
      exact ⟨by omega, h4, h5⟩
theorem inList_mem {l : List TEnt} {s : ByteArray} (h : inList l s ≠ 0) : ∃ e ∈ l, e.node = inList l s := by
  unfold inList at h ⊢
  cases hf : l.find? (fun e => sameB e.name s) with
  | none => rw [hf] at h; exact absurd rfl h
  | some e => exact ⟨e, List.mem_of_find?_eq_some hf, rfl⟩
theorem tIn_in {t : TTree} (h : TreeOK t) (a : Int) (s : ByteArray) : tIn t a s = 0 ∨ 2 ≤ tIn t a s ∧ tIn t a s < t.nodes.length := by
  by_cases h0 : tIn t a s = 0
  · exact .inl h0
  · unfold tIn at h0 ⊢
    by_cases hr : a < 1 ∨ (t.nodes.length : Int) ≤ a
    · rw [if_pos hr] at h0; exact absurd rfl h0
    · rw [if_neg hr] at h0 ⊢
      obtain ⟨e, he, h1⟩ := inList_mem h0
      obtain ⟨x, hx⟩ : ∃ x, t.nodes[a.toNat]? = some x := ⟨t.nodes[a.toNat]'(by omega), by simp⟩
      rw [at_eq hx] at he h1 ⊢
      obtain ⟨k, hk⟩ := List.mem_iff_getElem?.1 he
      have := h.lists _ x hx k e ((List.getElem?_eq_some_iff.1 hk).1) hk
      rw [← h1]
      exact .inr ⟨this.2.2.1, this.2.2.2.1⟩
theorem tIn_range {t : TTree} (h : TreeOK t) (a : Int) (s : ByteArray) : 0 ≤ tIn t a s ∧ tIn t a s < t.nodes.length := by
  have := h.head.two
  rcases tIn_in h a s with h | h <;> omega
theorem bytes_back (x : ByteArray) : (⟨x.data.toList.toArray⟩ : ByteArray) = x := by cases x; simp
theorem parts_len (p : ByteArray) : (partsOf p.data.toList).length ≤ p.size + 1 := by
  unfold partsOf
  refine Nat.le_trans (List.length_filter_le _ _) ?_
  have := count_le_size p
  rw [pieces_length]; omega
theorem link_bd {t : TTree} (h : TreeOK t) {n : Int} (h1 : 0 ≤ n) (h2 : n < t.nodes.length) (hk : (t.at n).kind = 3) : 0 < (t.at n).target.size ∧ (t.at n).target.size ≤ 1024 := by
  obtain ⟨x, hx⟩ : ∃ x, t.nodes[n.toNat]? = some x := ⟨t.nodes[n.toNat]'(by omega), by simp⟩
  rw [at_eq hx] at hk ⊢
  have := h.each x (List.mem_of_getElem? hx)
  unfold TNode.ok at this
  rw [Bool.and_eq_true] at this
  have h3 := this.2
  unfold TNode.byKind at h3
  rw [if_neg (by omega), if_neg (by omega), if_neg (by omega)] at h3
  have := of_decide_eq_true h3
  exact ⟨this.2.1, this.2.2.1⟩
end Go.Proofs.YtdidhelkmnkhcaaDoor
