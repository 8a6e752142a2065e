/- A row of a slice that is owned is laid anew; any program. -/
import Derived.Test.YtdceechakocgfaaDoorHold
import Derived.Deep.MidRow
namespace Go.Proofs.YtdceechakocgfaaDoor
open Go.RowKit
def setsFrom : List Value → Nat → List Value → List Value
  | xs, _, [] => xs
  | xs, o, v :: r => setsFrom (xs.set o v) (o + 1) r
theorem setsFrom_eq : ∀ (vs xs : List Value) (o : Nat), o + vs.length ≤ xs.length → setsFrom xs o vs = xs.take o ++ vs ++ xs.drop (o + vs.length)
  | [], xs, o, _ => by simp [setsFrom]
  | v :: r, xs, o, h => by
    simp only [List.length_cons] at h
    have ho : o < xs.length := by omega
    have hm : min o xs.length = o := by omega
    rw [setsFrom, setsFrom_eq r (xs.set o v) (o + 1) (by simp; omega), List.set_eq_take_append_cons_drop, if_pos ho]
    have h1 : o + 1 - o = 1 := by omega
    have h2 : o + 1 + r.length - o = r.length + 1 := by omega
    simp [List.take_append, List.drop_append, List.drop_drop, hm, h1, h2]
    rw [List.drop_eq_nil_of_le (by simp; omega)]
    simp
    rw [List.take_of_length_le (by simp; omega), show o + (r.length + 1) = o + 1 + r.length by omega]
theorem sets_flatten : ∀ {rows : List (List Value)} {z k : Nat} {row : List Value}, (∀ r ∈ rows, r.length = z) → k < rows.length → row.length = z → setsFrom rows.flatten (k * z) row = (rows.set k row).flatten := by
  intro rows
  induction rows with
  | nil => intro z k row _ hk; simp at hk
  | cons a l ih =>
    intro z k row h hk hr
    have ha : a.length = z := h a (by simp)
    have hl : l.flatten.length = l.length * z := by
      have : ∀ {l : List (List Value)}, (∀ r ∈ l, r.length = z) → l.flatten.length = l.length * z := by
        intro l
        induction l with
        | nil => intro _; simp
        | cons b m ih => intro h; rw [List.flatten_cons, List.length_append, ih (fun r hr => h r (by simp [hr])), h b (by simp), List.length_cons, Nat.succ_mul]; omega
      exact this fun r hr => h r (by simp [hr])
    cases k with
    | zero =>
      rw [setsFrom_eq _ _ _ (by rw [List.flatten_cons, List.length_append]; omega)]
      simp [ha, hr]
    | succ k =>
      have hk' : k < l.length := by simpa using hk
      have h3 : (k + 1) * z ≤ l.length * z := Nat.mul_le_mul_right z hk'
      have h4 : (k + 1) * z = k * z + z := Nat.succ_mul k z
      have h2 := ih (z := z) (k := k) (row := row) (fun r hr => h r (by simp [hr])) hk' hr
      rw [setsFrom_eq _ _ _ (by rw [hl]; omega)] at h2
      rw [setsFrom_eq _ _ _ (by rw [List.flatten_cons, List.length_append, hl]; omega), List.set_cons_succ, List.flatten_cons, List.flatten_cons, ← h2]
      have h5 : (k + 1) * z - z = k * z := by omega
      have h6 : (k + 1) * z + z - z = k * z + z := by omega
      simp only [List.take_append, List.drop_append, ha, hr, h5, h6, List.append_assoc]
      rw [List.take_of_length_le (by omega), List.drop_eq_nil_of_le (by omega)]
      simp
theorem owns_sets {base : Nat} {e : TypeId} {size g n cap : Nat} : ∀ (vs : List Value) (o : Nat) {w : World} {xs : List Value}, w.ownsRow base e size (.slice (some ⟨g, 0, none⟩) n cap) n xs → (w.setCells g o vs).ownsRow base e size (.slice (some ⟨g, 0, none⟩) n cap) n (setsFrom xs o vs)
  | [], _, _, _, h => h
  | v :: r, o, _, _, h => owns_sets r (o + 1) (h.stored o v).1
theorem turned_cells {S : Nat → Prop} {g : Nat} (hs : S g) : ∀ (vs : List Value) (o : Nat) (w : World), Turned S w (w.setCells g o vs)
  | [], _, w => Turned.refl S w
  | v :: r, o, w => (turned_set w g o v hs).trans (turned_cells hs r (o + 1) _) fun _ _ h => h
theorem Own.put {w : World} {B : Nat} {e : TypeId} {z g c : Nat} {rows : List (List Value)} (h : Own w B e z (.slice (some ⟨g, 0, none⟩) rows.length c) rows) {k : Nat} (hk : k < rows.length) {row : List Value} (hr : row.length = z) :
    Own (w.setCells g (k * z) row) B e z (.slice (some ⟨g, 0, none⟩) rows.length c) (rows.set k row) := by
  refine ⟨?_, fun r hr' => ?_⟩
  · have := owns_sets row (k * z) h.own
    rw [sets_flatten h.each hk hr] at this
    rw [List.length_set]; exact this
  · rcases List.mem_or_eq_of_mem_set hr' with h1 | h1
    · exact h.each r h1
    · rw [h1]; exact hr
/-- A row of one of a kind's lists. -/
theorem Kind.put {w : World} {B : Nat} {lab : Lab} {j : Nat} {H e : TypeId} {z : Nat} {s : KS} (h : Kind w B lab j H e z s) (h0 : s.d = 0) {i : Nat} (hi : i < s.N) {g n c : Nat} (hv : s.V i = .slice (some ⟨g, 0, none⟩) n c) {k : Nat} (hk : k < n) {row : List Value} (hr : row.length = z) :
    Kind (w.setCells g (k * z) row) B lab j H e z { s with R := upd s.R i ((s.R i).set k row) } ∧ Turned (fun b => lab b = (j, i + 1)) w (w.setCells g (k * z) row) := by
  obtain ⟨ho, hL⟩ := h.todo i (by omega) hi
  have hg : lab g = (j, i + 1) := h.vL i hi g (by rw [hv]; rfl)
  have hT : Turned (fun b => b = g) w (w.setCells g (k * z) row) := turned_cells (S := fun b => b = g) rfl row _ w
  have hn : n = (s.R i).length := by
    rcases ho.shape with ⟨h1, -⟩ | ⟨g', c', h1, -⟩
    · rw [hv] at h1; cases h1
    · rw [hv] at h1; cases h1; rfl
  subst hn
  rw [hv] at ho
  refine ⟨⟨h.held.turned hT fun b hb e => ?_, h.heldL, h.vL, fun x hx hN => ?_, fun x hx => ?_⟩, hT.mono fun b hb => by rw [hb]; exact hg⟩
  · rw [e, ] at hb
    have := h.heldL g hb
    rw [hg] at this; simp at this
  · change Own _ B e z (s.V x) (upd s.R i _ x) ∧ _
    by_cases hxi : x = i
    · subst hxi
      rw [upd_same, hv]
      exact ⟨ho.put hk hr, hL⟩
    · rw [upd_ne _ _ hxi]
      obtain ⟨h1, h2⟩ := h.todo x (by omega) hN
      refine ⟨h1.turned hT fun b hb e => ?_, h2⟩
      rw [e] at hb
      have := h.vL x hN g hb
      rw [hg] at this; simp at this; omega
  · change x < s.d at hx
    omega
theorem Kind.congr {w : World} {B : Nat} {lab : Lab} {j : Nat} {H e : TypeId} {z : Nat} {s : KS} {R' : Nat → List (List Value)} (h : Kind w B lab j H e z { s with R := R' }) (hR : ∀ x, x < s.N → R' x = s.R x) : Kind w B lab j H e z s := by
  refine ⟨h.held, h.heldL, h.vL, fun x hx hN => ?_, fun x hx hN => ?_⟩
  · have := h.todo x hx hN
    rwa [show ({ s with R := R' } : KS).R x = s.R x from hR x hN] at this
  · have := h.done x hx hN
    rwa [show ({ s with R := R' } : KS).R x = s.R x from hR x hN] at this
end Go.Proofs.YtdceechakocgfaaDoor
