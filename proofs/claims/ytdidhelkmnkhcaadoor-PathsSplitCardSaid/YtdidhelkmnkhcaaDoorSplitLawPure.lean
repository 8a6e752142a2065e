/- PathsSplit, plain: what Dir and Base tell of a path is told again of both joined; joined to a name, the name is the base. -/
import Derived.Test.YtdidhelkmnkhcaaDoorBase
namespace Go.Proofs.YtdidhelkmnkhcaaDoor
theorem bareS_idem (s : List UInt8) : bareS (bareS s) = bareS s := by
  generalize hn : s.length = n
  induction n generalizing s with
  | zero => rw [List.eq_nil_of_length_eq_zero hn]; rfl
  | succ n ih =>
    rcases end_cases s with rfl | ⟨r, rfl⟩ | ⟨r, b, hb, rfl⟩
    · rfl
    · rw [bareS_hit]; exact ih r (by simpa using hn)
    · rw [bareS_stop r hb, bareS_stop r hb]
theorem bareS_end (s : List UInt8) : bareS s = [] ∨ ∃ r b, b ≠ 47 ∧ bareS s = r ++ [b] := by
  generalize hn : s.length = n
  induction n generalizing s with
  | zero => rw [List.eq_nil_of_length_eq_zero hn]; exact .inl rfl
  | succ n ih =>
    rcases end_cases s with rfl | ⟨r, rfl⟩ | ⟨r, b, hb, rfl⟩
    · exact .inl rfl
    · rw [bareS_hit]; exact ih r (by simpa using hn)
    · exact .inr ⟨r, b, hb, bareS_stop r hb⟩
theorem last_of (n : List UInt8) (hn : n ≠ []) (h47 : 47 ∉ n) : ∃ r b, b ≠ 47 ∧ n = r ++ [b] := by
  rcases end_cases n with rfl | ⟨r, rfl⟩ | ⟨r, b, hb, rfl⟩
  · exact absurd rfl hn
  · exact absurd (by simp) h47
  · exact ⟨r, b, hb, rfl⟩
theorem bareS_name (x n : List UInt8) (hn : n ≠ []) (h47 : 47 ∉ n) : bareS (x ++ n) = x ++ n := by
  obtain ⟨r, b, hb, rfl⟩ := last_of n hn h47
  rw [← List.append_assoc, bareS_stop _ hb]
theorem lastS_name : ∀ (n : List UInt8), 47 ∉ n → ∀ (x : List UInt8), lastS (x ++ n) = lastS x := by
  intro n
  generalize hl : n.length = k
  induction k generalizing n with
  | zero => intro _ x; rw [List.eq_nil_of_length_eq_zero hl, List.append_nil]
  | succ k ih =>
    intro h47 x
    obtain ⟨r, b, hb, rfl⟩ := last_of n (by intro e; rw [e] at hl; simp at hl) h47
    rw [← List.append_assoc, lastS_go _ hb]
    exact ih r (by simpa using hl) (fun h => h47 (by simp [h])) x
theorem lastS_split (x n : List UInt8) (h47 : 47 ∉ n) : lastS (x ++ 47 :: n) = x.length + 1 := by
  rw [show x ++ 47 :: n = (x ++ [47]) ++ n by simp, lastS_name n h47, lastS_hit]
theorem base_split (x n : List UInt8) (hn : n ≠ []) (h47 : 47 ∉ n) : baseS (x ++ 47 :: n) = n := by
  have hb : bareS (x ++ 47 :: n) = x ++ 47 :: n := by rw [show x ++ 47 :: n = (x ++ [47]) ++ n by simp]; exact bareS_name _ n hn h47
  unfold baseS
  rw [if_neg (by simp), hb, if_neg (by simp), lastS_split x n h47, show x ++ 47 :: n = (x ++ [47]) ++ n by simp, show x.length + 1 = (x ++ [47]).length by simp, List.drop_left]
theorem base_name (n : List UInt8) (hn : n ≠ []) (h47 : 47 ∉ n) : baseS n = n := by
  unfold baseS
  rw [if_neg hn, show bareS n = n from bareS_name [] n hn h47, if_neg hn, show lastS n = 0 from lastS_name n h47 [], List.drop_zero]
theorem dir_split (x n : List UInt8) (hn : n ≠ []) (h47 : 47 ∉ n) : dirS (x ++ 47 :: n) = if bareS x ≠ [] then bareS x else if (x ++ 47 :: n).head? = some 47 then [47] else [46] := by
  have hb : bareS (x ++ 47 :: n) = x ++ 47 :: n := by rw [show x ++ 47 :: n = (x ++ [47]) ++ n by simp]; exact bareS_name _ n hn h47
  unfold dirS
  rw [hb, lastS_split x n h47, show List.take (x.length + 1) (x ++ 47 :: n) = x ++ [47] by
    rw [show x ++ 47 :: n = (x ++ [47]) ++ n by simp, show x.length + 1 = (x ++ [47]).length by simp, List.take_left], bareS_hit]
/-- The base of a path that is not all slashes is a name. -/
theorem base_is_name (p : List UInt8) (h : baseS p ≠ [47]) : baseS p ≠ [] ∧ 47 ∉ baseS p := by
  by_cases h0 : p = []
  · subst h0; exact ⟨by decide, by decide⟩
  · rcases bareS_end p with hb | ⟨r, b, hb, he⟩
    · exact absurd (by unfold baseS; rw [if_neg h0, if_pos hb]) h
    · have e : baseS p = (r ++ [b]).drop (lastS (r ++ [b])) := by unfold baseS; rw [if_neg h0, he, if_neg (by simp)]
      obtain ⟨l, -, h2⟩ := parts_last r b hb
      rw [e]
      refine ⟨?_, h2⟩
      have := lastS_le r
      rw [lastS_go r hb, ← List.length_pos_iff, List.length_drop, List.length_append, List.length_singleton]
      omega
theorem dir_shape (p : List UInt8) : ∃ x, (∀ n, joinS (dirS p) n = x ++ 47 :: n) ∧ ∀ n, n ≠ [] → 47 ∉ n → dirS (x ++ 47 :: n) = dirS p := by
  by_cases h : bareS ((bareS p).take (lastS (bareS p))) ≠ []
  · have e : dirS p = bareS ((bareS p).take (lastS (bareS p))) := by unfold dirS; rw [if_pos h]
    refine ⟨dirS p, fun n => ?_, fun n hn h47 => ?_⟩
    · rcases bareS_end ((bareS p).take (lastS (bareS p))) with hb | ⟨r, b, hb, he⟩
      · exact absurd hb h
      · unfold joinS
        rw [if_neg]
        rintro (h1 | h1)
        · exact h (e ▸ h1)
        · rw [e, he, slashEnd_snoc] at h1; exact hb (by simpa using h1)
    · rw [dir_split _ n hn h47, e, bareS_idem, if_pos h]
  · by_cases h2 : p.head? = some 47
    · have e : dirS p = [47] := by unfold dirS; rw [if_neg h, if_pos h2]
      refine ⟨[], fun n => by rw [e]; unfold joinS; rw [if_pos (.inr (by decide))]; rfl, fun n hn h47 => ?_⟩
      rw [dir_split _ n hn h47, e, if_neg (by rw [bareS_nil]; simp), if_pos (by simp)]
    · have e : dirS p = [46] := by unfold dirS; rw [if_neg h, if_neg h2]
      refine ⟨[46], fun n => by rw [e]; unfold joinS; rw [if_neg (by decide)], fun n hn h47 => ?_⟩
      rw [dir_split _ n hn h47, e, if_pos (by decide)]; decide
theorem split_law (p : List UInt8) (h : baseS p ≠ [47]) : baseS (joinS (dirS p) (baseS p)) = baseS p ∧ dirS (joinS (dirS p) (baseS p)) = dirS p := by
  obtain ⟨x, h1, h2⟩ := dir_shape p
  obtain ⟨h3, h4⟩ := base_is_name p h
  rw [h1]
  exact ⟨base_split x _ h3 h4, h2 _ h3 h4⟩
theorem join_base (p n : List UInt8) (hn : n ≠ []) (h47 : 47 ∉ n) : baseS (joinS p n) = n := by
  unfold joinS
  split
  · rename_i h
    rcases end_cases p with rfl | ⟨r, rfl⟩ | ⟨r, b, hb, rfl⟩
    · exact base_name n hn h47
    · rw [show r ++ [47] ++ n = r ++ 47 :: n by simp]; exact base_split r n hn h47
    · rcases h with h | h
      · simp at h
      · rw [slashEnd_snoc] at h; exact absurd (by simpa using h) hb
  · exact base_split p n hn h47
theorem baseS_len (p : List UInt8) : (baseS p).length ≤ p.length + 1 := by
  unfold baseS
  split
  · simp
  · split
    · simp
    · rw [List.length_drop]; have := bareS_len p; omega
theorem dirS_len (p : List UInt8) : (dirS p).length ≤ p.length + 1 := by
  unfold dirS
  split
  · have h1 := bareS_len ((bareS p).take (lastS (bareS p)))
    have h2 := bareS_len p
    rw [List.length_take] at h1
    omega
  · split <;> simp
theorem joinS_len (p n : List UInt8) : (joinS p n).length ≤ p.length + n.length + 1 := by
  unfold joinS
  split <;> simp <;> omega
end Go.Proofs.YtdidhelkmnkhcaaDoor
