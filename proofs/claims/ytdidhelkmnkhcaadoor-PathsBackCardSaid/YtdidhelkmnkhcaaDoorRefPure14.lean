/- The reference of layer 14, plain: a path's parts found one behind the other; a path without the slashes at its end. -/
import Derived.Test.YtdidhelkmnkhcaaDoorSplitPure
namespace Go.Proofs.YtdidhelkmnkhcaaDoor
theorem pieces_split (a b : List UInt8) : pieces (a ++ 47 :: b) = pieces a ++ pieces b := by
  induction a with
  | nil => simp [pieces]
  | cons c r ih =>
    rw [List.cons_append, pieces, pieces]
    by_cases hc : c = 47
    · rw [if_pos hc, if_pos hc, ih]; rfl
    · rw [if_neg hc, if_neg hc, ih]
      cases h : pieces r with
      | nil => exact absurd h (pieces_ne r)
      | cons p ps => rfl
theorem partsOf_split (a b : List UInt8) : partsOf (a ++ 47 :: b) = partsOf a ++ partsOf b := by unfold partsOf; rw [pieces_split, List.filter_append]
theorem partsOf_none (p : List UInt8) (h : 47 ∉ p) : partsOf p = if p = [] then [] else [p] := by
  unfold partsOf
  rw [pieces_none p h]
  cases p with
  | nil => rfl
  | cons c r => rfl
/-- What has been found of s's parts: those ahead of place f, where a part begins. -/
def PartsTo (s : List UInt8) (f : Nat) (l : List (List UInt8)) : Prop := ∀ x, partsOf (s.take f ++ x) = l ++ partsOf x
theorem partsTo_start (s : List UInt8) : PartsTo s 0 [] := fun _ => rfl
theorem take_mid (s : List UInt8) {f i : Nat} (h : f ≤ i) : s.take i = s.take f ++ (s.take i).drop f := by
  have h1 := (List.take_append_drop f (s.take i)).symm
  rwa [List.take_take, Nat.min_eq_left h] at h1
theorem partsTo_next {s : List UInt8} {f i : Nat} {l : List (List UInt8)} (h : f ≤ i) (hi : s[i]? = some 47) (hm : 47 ∉ (s.take i).drop f) (hP : PartsTo s f l) :
    PartsTo s (i + 1) (l ++ if (s.take i).drop f = [] then [] else [(s.take i).drop f]) := fun x => by
  have e : s.take (i + 1) ++ x = s.take f ++ ((s.take i).drop f ++ 47 :: x) := by
    rw [List.take_add_one, hi]
    conv => lhs; rw [take_mid s h]
    simp
  rw [e, hP, partsOf_split, partsOf_none _ hm, List.append_assoc]
theorem partsTo_end {s : List UInt8} {f : Nat} {l : List (List UInt8)} (h : f ≤ s.length) (hm : 47 ∉ (s.take s.length).drop f) (hP : PartsTo s f l) :
    partsOf s = l ++ if (s.take s.length).drop f = [] then [] else [(s.take s.length).drop f] := by
  have := hP ((s.take s.length).drop f)
  rw [← take_mid s h, partsOf_none _ hm, List.take_length] at this
  rw [this, List.take_length]
theorem mid_nil {s : List UInt8} {f i : Nat} (hi : i ≤ s.length) : (s.take i).drop f = [] ↔ i ≤ f := by
  rw [← List.length_eq_zero_iff, List.length_drop, List.length_take]; omega
theorem mid_step {s : List UInt8} {f i : Nat} {b : UInt8} (h : f ≤ i) (hi : s[i]? = some b) : (s.take (i + 1)).drop f = (s.take i).drop f ++ [b] := by
  rw [List.take_add_one, hi, List.drop_append_of_le_length]
  · rfl
  · rw [List.length_take]; have := (List.getElem?_eq_some_iff.1 hi).1; omega
theorem mid_self (s : List UInt8) (f : Nat) : (s.take f).drop f = [] := by simp
theorem takeWhile_all {p : UInt8 → Bool} : ∀ {l : List UInt8}, (∀ x ∈ l, p x = true) → l.takeWhile p = l
  | [], _ => rfl
  | a :: r, h => by rw [List.takeWhile_cons, if_pos (h a (by simp)), takeWhile_all fun x hx => h x (by simp [hx])]
/-- Without the slashes at its end. -/
def bareS (s : List UInt8) : List UInt8 := (s.reverse.dropWhile (· == 47)).reverse
theorem bareS_nil : bareS [] = [] := rfl
theorem bareS_hit (s : List UInt8) : bareS (s ++ [47]) = bareS s := by unfold bareS; rw [List.reverse_append]; simp
theorem bareS_stop (s : List UInt8) {b : UInt8} (h : b ≠ 47) : bareS (s ++ [b]) = s ++ [b] := by
  unfold bareS; rw [List.reverse_append]; simp [h]
/-- The place behind the last slash. -/
def lastS (s : List UInt8) : Nat := s.length - (s.reverse.takeWhile (· != 47)).length
theorem lastS_nil : lastS [] = 0 := rfl
theorem lastS_hit (s : List UInt8) : lastS (s ++ [47]) = s.length + 1 := by unfold lastS; rw [List.reverse_append]; simp
theorem lastS_go (s : List UInt8) {b : UInt8} (h : b ≠ 47) : lastS (s ++ [b]) = lastS s := by
  unfold lastS; rw [List.reverse_append]; simp [h]
theorem lastS_le (s : List UInt8) : lastS s ≤ s.length := by unfold lastS; omega
def baseS (s : List UInt8) : List UInt8 := if s = [] then [46] else if bareS s = [] then [47] else (bareS s).drop (lastS (bareS s))
def dirS (s : List UInt8) : List UInt8 :=
  if bareS ((bareS s).take (lastS (bareS s))) ≠ [] then bareS ((bareS s).take (lastS (bareS s))) else if s.head? = some 47 then [47] else [46]
/-- Every text ends without a slash, or is one slash longer than another. -/
theorem end_cases (s : List UInt8) : s = [] ∨ (∃ r, s = r ++ [47]) ∨ ∃ r b, b ≠ 47 ∧ s = r ++ [b] := by
  rcases List.eq_nil_or_concat s with h | ⟨r, b, h⟩
  · exact .inl h
  · by_cases hb : b = 47
    · exact .inr (.inl ⟨r, by rw [h, hb, List.concat_eq_append]⟩)
    · exact .inr (.inr ⟨r, b, hb, by rw [h, List.concat_eq_append]⟩)
theorem bareS_len (s : List UInt8) : (bareS s).length ≤ s.length := by
  unfold bareS; rw [List.length_reverse]; exact Nat.le_trans (List.dropWhile_sublist _).length_le (by simp)
theorem partsOf_hit (s : List UInt8) : partsOf (s ++ [47]) = partsOf s := by rw [partsOf_split]; simp [partsOf, pieces]
theorem partsOf_bare : ∀ (n : Nat) (s : List UInt8), s.length = n → partsOf (bareS s) = partsOf s := by
  intro n
  induction n with
  | zero => intro s h; rw [List.eq_nil_of_length_eq_zero h]; rfl
  | succ n ih =>
    intro s h
    rcases end_cases s with rfl | ⟨r, rfl⟩ | ⟨r, b, hb, rfl⟩
    · rfl
    · rw [bareS_hit, partsOf_hit]; exact ih r (by simpa using h)
    · rw [bareS_stop r hb]
/-- A text that does not end with a slash ends with its last part. -/
theorem parts_last (s : List UInt8) (b : UInt8) (hb : b ≠ 47) : ∃ l, partsOf (s ++ [b]) = l ++ [(s ++ [b]).drop (lastS (s ++ [b]))] ∧ 47 ∉ (s ++ [b]).drop (lastS (s ++ [b])) := by
  generalize hn : s.length = n
  have key : ∀ (t : List UInt8), 47 ∉ t → t ≠ [] → ∀ (s : List UInt8), ∃ l, partsOf (s ++ t) = l ++ [(s ++ t).drop (lastS (s ++ t))] ∧ 47 ∉ (s ++ t).drop (lastS (s ++ t)) := by
    intro t ht hne s
    induction hk : s.length generalizing s t with
    | zero =>
      have : s = [] := List.eq_nil_of_length_eq_zero hk
      subst this
      have h0 : lastS t = 0 := by
        unfold lastS
        have : t.reverse.takeWhile (· != 47) = t.reverse := takeWhile_all fun x hx => by
          have : x ≠ 47 := fun e => ht (by rw [← e]; simpa using hx)
          simpa using this
        rw [this]; simp
      exact ⟨[], by simp [h0, partsOf_none t ht, hne], by simpa [h0] using ht⟩
    | succ k ih =>
      rcases end_cases s with rfl | ⟨r, rfl⟩ | ⟨r, c, hc, rfl⟩
      · simp at hk
      · have h0 : lastS (r ++ [47] ++ t) = r.length + 1 := by
          unfold lastS
          have : (r ++ [47] ++ t).reverse.takeWhile (· != 47) = t.reverse := by
            rw [List.reverse_append, List.takeWhile_append_of_pos]
            · simp
            · intro x hx
              have : x ≠ 47 := fun e => ht (by rw [← e]; simpa using hx)
              simpa using this
          rw [this]; simp; omega
        have h1 : (r ++ [47] ++ t).drop (r.length + 1) = t := by
          rw [show r.length + 1 = (r ++ [47]).length by simp, List.drop_left]
        refine ⟨partsOf r, ?_, by rw [h0, h1]; exact ht⟩
        rw [h0, h1, show r ++ [47] ++ t = r ++ 47 :: t by simp, partsOf_split, partsOf_none t ht, if_neg hne]
      · have := ih (c :: t) (by simp [ht, Ne.symm hc]) (by simp) r (by simpa using hk)
        rwa [show r ++ [c] ++ t = r ++ c :: t by simp]
  exact key [b] (by simpa using Ne.symm hb) (by simp) s
/-- The last part is the base. -/
theorem base_parts (s : List UInt8) : baseS s = if s = [] then [46] else if partsOf s = [] then [47] else (partsOf s).getLastD [] := by
  unfold baseS
  by_cases h0 : s = []
  · rw [if_pos h0, if_pos h0]
  · rw [if_neg h0, if_neg h0, ← partsOf_bare _ s rfl]
    have hbs : bareS s = [] ∨ ∃ r b, b ≠ 47 ∧ bareS s = r ++ [b] := by
      generalize hn : s.length = n
      clear h0
      induction n generalizing s with
      | zero => rw [List.eq_nil_of_length_eq_zero hn]; exact .inl rfl
      | succ n ih =>
        rcases end_cases s with rfl | ⟨r, rfl⟩ | ⟨r, b, hb, rfl⟩
        · exact .inl rfl
        · rw [bareS_hit]; exact ih r (by simpa using hn)
        · exact .inr ⟨r, b, hb, bareS_stop r hb⟩
    rcases hbs with h | ⟨r, b, hb, h⟩
    · rw [if_pos h, if_pos (by rw [h]; rfl)]
    · obtain ⟨l, h1, -⟩ := parts_last r b hb
      rw [h, if_neg (by simp), h1, if_neg (by simp)]
      simp
end Go.Proofs.YtdidhelkmnkhcaaDoor
