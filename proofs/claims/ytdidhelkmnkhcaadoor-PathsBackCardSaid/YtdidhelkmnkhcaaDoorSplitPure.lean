/- A path's parts: plain. -/
import Derived.Lib.Bytealg
import Derived.Lib.Strings
import Derived.Lib.IndexBytes
namespace Go.Proofs.YtdidhelkmnkhcaaDoor
/-- What stands between slashes. -/
def pieces : List UInt8 → List (List UInt8)
  | [] => [[]]
  | c :: r => if c = 47 then [] :: pieces r else match pieces r with
    | [] => [[c]]
    | p :: ps => (c :: p) :: ps
theorem pieces_ne (l : List UInt8) : pieces l ≠ [] := by
  cases l with
  | nil => simp [pieces]
  | cons c r =>
    unfold pieces
    split
    · simp
    · split <;> simp
theorem pieces_hit : ∀ (p q : List UInt8), 47 ∉ p → pieces (p ++ 47 :: q) = p :: pieces q
  | [], q, _ => by simp [pieces]
  | c :: p, q, h => by
    have hc : c ≠ 47 := fun e => h (by simp [e])
    rw [List.cons_append, pieces, if_neg hc, pieces_hit p q fun e => h (by simp [e])]
theorem pieces_none : ∀ (p : List UInt8), 47 ∉ p → pieces p = [p]
  | [], _ => rfl
  | c :: p, h => by
    have hc : c ≠ 47 := fun e => h (by simp [e])
    unfold pieces
    rw [if_neg hc, pieces_none p fun e => h (by simp [e])]
theorem index_hit : ∀ (l : List UInt8) (n : Nat), Go.Lib.countByte l 47 = n + 1 → ∃ p q, l = p ++ 47 :: q ∧ 47 ∉ p ∧ Go.Lib.indexByte l 47 = (p.length : Nat) ∧ Go.Lib.countByte q 47 = n
  | [], n, h => by simp [Go.Lib.countByte] at h
  | c :: r, n, h => by
    by_cases hc : c = 47
    · subst hc
      refine ⟨[], r, rfl, by simp, by simp [Go.Lib.indexByte], ?_⟩
      unfold Go.Lib.countByte at h ⊢
      rw [List.count_cons_self] at h
      omega
    · have hc' : (c == 47) = false := beq_eq_false_iff_ne.2 hc
      have h' : Go.Lib.countByte r 47 = n + 1 := by
        unfold Go.Lib.countByte at h ⊢
        rw [List.count_cons_of_ne hc] at h
        exact h
      obtain ⟨p, q, h1, h2, h3, h4⟩ := index_hit r n h'
      refine ⟨c :: p, q, by rw [h1]; rfl, by simp [h2, Ne.symm hc], ?_, h4⟩
      unfold Go.Lib.indexByte
      rw [hc', h3, if_neg (by simp), if_neg (by rw [beq_iff_eq]; omega)]
      simp
theorem count_none {l : List UInt8} (h : Go.Lib.countByte l 47 = 0) : 47 ∉ l := by
  unfold Go.Lib.countByte at h
  exact List.count_eq_zero.1 h
/-- A path's parts. -/
def partsOf (l : List UInt8) : List (List UInt8) := (pieces l).filter fun p => !p.isEmpty
theorem pieces_length (l : List UInt8) : (pieces l).length = Go.Lib.countByte l 47 + 1 := by
  unfold Go.Lib.countByte
  induction l with
  | nil => rfl
  | cons c r ih =>
    unfold pieces
    by_cases hc : c = 47
    · subst hc; rw [if_pos rfl, List.count_cons_self, List.length_cons, ih]
    · rw [if_neg hc, List.count_cons_of_ne hc, ← ih]
      have := pieces_ne r
      split
      · rename_i h; exact absurd h this
      · rename_i h; rw [h]; rfl
end Go.Proofs.YtdidhelkmnkhcaaDoor
