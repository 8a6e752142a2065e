/- From the root down by names: plain. -/
import Derived.Test.YtdidhelkmnkhcaaDoorPath
namespace Go.Proofs.YtdidhelkmnkhcaaDoor
def down (t : TTree) : Int → List ByteArray → Int
  | a, [] => a
  | a, x :: xs => down t (tIn t a x) xs
theorem down_append (t : TTree) (xs ys : List ByteArray) : ∀ a, down t a (xs ++ ys) = down t (down t a xs) ys := by
  induction xs with
  | nil => intro a; rfl
  | cons x xs ih => intro a; exact ih _
theorem tIn_name {t : TTree} (h : TreeOK t) {x : Int} (h1 : 1 < x) (h2 : x < t.nodes.length) (hk : (t.at x).kind = 2) : tIn t (t.at x).parent (nameOf t x) = x := by
  obtain ⟨i, n, e, hn, he, hex, hp, hnm, hf⟩ := nameOf_spec h h1 h2 hk
  rw [hp, hnm]
  have hi : i < t.nodes.length := (List.getElem?_eq_some_iff.1 hn).1
  have hi1 : 1 ≤ i := by
    rcases Nat.eq_zero_or_pos i with h0 | h0
    · exfalso
      subst h0
      have hk0 := h.head.zero
      rw [show t.at 0 = n from at_of hn] at hk0
      have ho := h.each n (List.mem_of_getElem? hn)
      rw [TNode.ok, Bool.and_eq_true, TNode.byKind, if_pos hk0, TNode.k0, decide_eq_true_iff] at ho
      have := ho.2.2.2.2.2.2.2.2.1
      rw [List.length_eq_zero_iff] at this
      rw [this] at he
      cases he
    · exact h0
  unfold tIn
  rw [if_neg (by omega), show t.at (i : Int) = n from at_of hn]
  obtain ⟨k, hke⟩ := List.getElem?_of_mem he
  exact (inList_hit (h.listed i n hn).1 hke).trans hex
theorem down_climb {t : TTree} (h : TreeOK t) (k : Nat) : ∀ d, upB t k d = true → down t 1 (climb t k d).reverse = d := by
  induction k with
  | zero => intro d hu; simp [upB] at hu; subst hu; rfl
  | succ k ih =>
    intro d hu
    by_cases h1 : d = 1
    · subst h1; rw [climb_one]; rfl
    · obtain ⟨j, hj, a, b, c, e⟩ := upB_next hu h1
      obtain rfl : k = j := by omega
      rw [climb, if_neg h1, List.reverse_cons, down_append, ih _ e]
      exact tIn_name h a b c
theorem byte_at {p : ByteArray} {l : List UInt8} (h : p.data.toList = l) (k : Nat) (hk : k < p.size) : l[k]? = some p[k] := by
  subst h
  show p.data.toList[k]? = some (p.data[k])
  simp
theorem join_cons2 (x y : List UInt8) (ys : List (List UInt8)) : Go.Lib.join (x :: y :: ys) [47] = x ++ (47 :: Go.Lib.join (y :: ys) [47]) := by
  simp [Go.Lib.join, List.intercalate]
theorem join_cons1 (x : List UInt8) : Go.Lib.join [x] [47] = x := by simp [Go.Lib.join, List.intercalate]
theorem nameOK_no47 {s : ByteArray} (h : nameOK s = true) : ∀ c ∈ s.data.toList, c ≠ 47 := by
  rw [nameOK, decide_eq_true_iff] at h
  have hb := h.2.2.2.2
  unfold hasBad at hb
  rw [List.any_eq_false] at hb
  intro c hc h47
  have := hb c hc
  subst h47
  simp at this
def PRel (t : TTree) (i : Int) (B : List UInt8) (dep : Nat) (a : Int) (many fr z : Nat) : Prop :=
  (∃ (x : ByteArray) (xs : List ByteArray), fr ≤ z ∧ z ≤ fr + x.size ∧ B.drop fr = Go.Lib.join ((x :: xs).map (·.data.toList)) [47] ∧ fr ≤ B.length ∧ down t a (x :: xs) = i ∧ many + (x :: xs).length = dep ∧ ∀ s ∈ x :: xs, nameOK s = true) ∨
  (z = B.length + 1 ∧ a = i ∧ many = dep)
theorem PRel_end {t : TTree} {i : Int} {B : List UInt8} {dep : Nat} {a : Int} {many fr z : Nat} (h : PRel t i B dep a many fr z) (hz : B.length < z) : a = i ∧ many = dep := by
  rcases h with ⟨x, xs, h1, h2, h3, h4, -⟩ | ⟨-, h⟩
  · exfalso
    have hl := congrArg List.length h3
    rw [List.length_drop] at hl
    have hx : x.size ≤ (Go.Lib.join ((x :: xs).map (·.data.toList)) [47]).length := by
      cases xs with
      | nil => rw [List.map_cons, List.map_nil, join_cons1]; exact Nat.le_refl _
      | cons y ys => rw [List.map_cons, List.map_cons, join_cons2, List.length_append]; exact Nat.le_add_right _ _
    omega
  · exact h
theorem PRel_step {t : TTree} {i : Int} {B : List UInt8} {dep : Nat} {a : Int} {many fr z : Nat} (h : PRel t i B dep a many fr z) (hz : z ≤ B.length) :
    (∃ c, B[z]? = some c ∧ c ≠ 47 ∧ PRel t i B dep a many fr (z + 1)) ∨
    ((z = B.length ∨ B[z]? = some 47) ∧ fr ≤ z ∧ ∃ x : ByteArray, (B.drop fr).take (z - fr) = x.data.toList ∧ PRel t i B dep (tIn t a x) (many + 1) (z + 1) (z + 1)) := by
  rcases h with ⟨x, xs, h1, h2, h3, h4, h5, h6, h7⟩ | ⟨h, -⟩
  · have hg : ∀ k, B[fr + k]? = (Go.Lib.join ((x :: xs).map (·.data.toList)) [47])[k]? := fun k => by rw [← h3, List.getElem?_drop]
    have hxs : x.data.toList.length = x.size := Array.length_toList
    have hpre : ∀ k, k < x.size → (Go.Lib.join ((x :: xs).map (·.data.toList)) [47])[k]? = x.data.toList[k]? := fun k hk => by
      cases xs with
      | nil => rw [List.map_cons, List.map_nil, join_cons1]
      | cons y ys => rw [List.map_cons, List.map_cons, join_cons2, List.getElem?_append_left (by omega)]
    by_cases hlt : z < fr + x.size
    · refine Or.inl ⟨x.data.toList[z - fr]'(by omega), ?_, nameOK_no47 (h7 x (by simp)) _ (List.getElem_mem _), Or.inl ⟨x, xs, by omega, by omega, h3, h4, h5, h6, h7⟩⟩
      have := hg (z - fr)
      rw [show fr + (z - fr) = z by omega, hpre _ (by omega)] at this
      rw [this, List.getElem?_eq_getElem]
    · have hze : z = fr + x.size := by omega
      refine Or.inr ⟨?_, h1, x, ?_, ?_⟩
      · cases xs with
        | nil =>
          left
          have hl := congrArg List.length h3
          rw [List.length_drop, List.map_cons, List.map_nil, join_cons1, hxs] at hl
          omega
        | cons y ys =>
          right
          have := hg x.size
          rw [List.map_cons, List.map_cons, join_cons2, List.getElem?_append_right (by omega)] at this
          rw [hze, this, show x.size - x.data.toList.length = 0 by omega]
          rfl
      · rw [h3, hze, show fr + x.size - fr = x.data.toList.length by omega]
        cases xs with
        | nil => rw [List.map_cons, List.map_nil, join_cons1, List.take_length]
        | cons y ys => rw [List.map_cons, List.map_cons, join_cons2, List.take_left]
      · cases xs with
        | nil =>
          right
          have hl := congrArg List.length h3
          rw [List.length_drop, List.map_cons, List.map_nil, join_cons1, hxs] at hl
          exact ⟨by omega, h5, h6⟩
        | cons y ys =>
          left
          have hl := congrArg List.length h3
          rw [List.length_drop, List.map_cons, List.map_cons, join_cons2, List.length_append, List.length_cons, hxs] at hl
          refine ⟨y, ys, Nat.le_refl _, Nat.le_add_right _ _, ?_, by omega, h5, by rw [List.length_cons] at h6; omega, fun s hs => h7 s (List.mem_cons_of_mem _ hs)⟩
          have : B.drop (z + 1) = (B.drop fr).drop (x.size + 1) := by rw [List.drop_drop]; congr 1; omega
          rw [this, h3, List.map_cons, List.map_cons, join_cons2, ← List.drop_drop, ← hxs, List.drop_left]
          rfl
  · omega
theorem PRel_start {t : TTree} (h : TreeOK t) {i : Int} (hu : upB t 32 i = true) {p : ByteArray} (hp : p.data.toList = pathOf (climb t 32 i)) (h1 : p.size ≠ 1) : PRel t i p.data.toList (deepN t 32 i) 1 0 1 1 := by
  left
  have hd := down_climb h 32 i hu
  have hs := climb_small h 32 i hu
  have hl := climb_length t 32 i
  rw [hp]
  unfold pathOf
  cases hr : (climb t 32 i).reverse with
  | nil =>
    exfalso
    apply h1
    have := congrArg List.length hp
    rw [Array.length_toList, pathOf, hr] at this
    show p.data.size = 1
    rw [this]; rfl
  | cons x xs =>
    refine ⟨x, xs, Nat.le_refl _, Nat.le_add_right _ _, rfl, by simp, by rw [← hr]; exact hd, ?_, fun s hs' => hs s (by rw [← List.mem_reverse, hr]; exact hs')⟩
    rw [← hr, List.length_reverse, hl]; omega
theorem PRel_root {t : TTree} (h : TreeOK t) {i : Int} (hu : upB t 32 i = true) {p : ByteArray} (hp : p.data.toList = pathOf (climb t 32 i)) (h1 : p.size = 1) : (1 : Int) = i ∧ 0 = deepN t 32 i := by
  have hd := down_climb h 32 i hu
  have hl := climb_length t 32 i
  have hs := climb_small h 32 i hu
  have hlen := congrArg List.length hp
  rw [Array.length_toList, pathOf, List.length_cons] at hlen
  have h0 : (Go.Lib.join ((climb t 32 i).reverse.map (·.data.toList)) [47]).length = 0 := by have : p.data.size = 1 := h1; omega
  cases hr : (climb t 32 i).reverse with
  | nil =>
    rw [hr] at hd
    have h00 : climb t 32 i = [] := List.reverse_eq_nil_iff.1 hr
    rw [h00] at hl
    exact ⟨hd, by simpa using hl⟩
  | cons x xs =>
    exfalso
    have hx := (nameOK_size (hs x (by rw [← List.mem_reverse, hr]; simp))).1
    have hxs : x.data.toList.length = x.size := Array.length_toList
    rw [hr] at h0
    cases xs with
    | nil => rw [List.map_cons, List.map_nil, join_cons1] at h0; omega
    | cons y ys => rw [List.map_cons, List.map_cons, join_cons2, List.length_append] at h0; omega
end Go.Proofs.YtdidhelkmnkhcaaDoor
