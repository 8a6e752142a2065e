/- tree.Name: may a name be? -/
import Derived.Test.YtdceechakocgfaaDoorLib
import Derived.Test.YtdceechakocgfaaDoorM1
import Derived.Test.YtdceechakocgfaaDoorKinds
namespace Go.Proofs.YtdceechakocgfaaDoor
open Go.RowKit
theorem contains_hasBad (s : ByteArray) : Lib.containsAny s.data.toList [0, 47] = hasBad s := by
  unfold hasBad Lib.containsAny
  generalize s.data.toList = l
  induction l with
  | nil => rfl
  | cons b l ih =>
    have hge := Lib.indexAny_ge [0, 47] l
    rw [Lib.indexAny, List.any_cons, ← ih]
    have hc : ([0, 47] : List UInt8).contains b = (b == 0 || b == 47) := by simp; rfl
    rw [hc]
    cases h : (b == 0 || b == 47)
    · simp only [Bool.false_eq_true, if_false, Bool.false_or]
      by_cases hm : Lib.indexAny l [0, 47] = -1
      · rw [hm]; rfl
      · rw [if_neg (by simpa using hm)]
        exact decide_eq_decide.2 (by omega)
    · simp
set_option maxHeartbeats 400000 in
theorem name_calls (s : ByteArray) (w : World) :
    Calls Tryd.prog 36 #[.string s] w fun e w' => e = .returned (.bool (nameOK s)) ∧ Below w.heap.size w w' := by
  go_enter Tryd.func36, Tryd.ntmps36
  go_wp2_with (go_at_call 43; refine (containsAny_calls _ _ (by omega)).mono ?_; rintro e w' ⟨rfl, hb⟩)
  all_goals go_ret
  · exact ⟨ret_bool (by symm; rw [nameOK, decide_eq_false_iff_not]; exact fun h => h.1 ‹_›), (by repeat (first | exact Below.refl _ _ | assumption | refine Below.drew ?_ | refine below_drewN ?_ _ | refine below_alloc ?_ _ | refine below_set ?_ (by simp) _ | refine below_step ?_ (by assumption)))⟩
  · exact ⟨ret_bool (by symm; rw [nameOK, decide_eq_false_iff_not]; exact fun h => h.2.2.1 ‹_›), (by repeat (first | exact Below.refl _ _ | assumption | refine Below.drew ?_ | refine below_drewN ?_ _ | refine below_alloc ?_ _ | refine below_set ?_ (by simp) _ | refine below_step ?_ (by assumption)))⟩
  · exact ⟨ret_bool (by symm; rw [nameOK, decide_eq_false_iff_not]; exact fun h => h.2.2.2.1 ‹_›), (by repeat (first | exact Below.refl _ _ | assumption | refine Below.drew ?_ | refine below_drewN ?_ _ | refine below_alloc ?_ _ | refine below_set ?_ (by simp) _ | refine below_step ?_ (by assumption)))⟩
  · refine ⟨ret_bool ?_, (by repeat (first | exact Below.refl _ _ | assumption | refine Below.drew ?_ | refine below_drewN ?_ _ | refine below_alloc ?_ _ | refine below_set ?_ (by simp) _ | refine below_step ?_ (by assumption)))⟩
    rw [Bool.eq_iff_iff, nameOK, contains_hasBad]
    simp only [Bool.and_eq_true, Bool.not_eq_true', beq_eq_false_iff_ne, List.isEmpty_eq_false_iff, decide_eq_true_iff, ne_eq]
    constructor
    · rintro ⟨⟨⟨a, b⟩, c⟩, d⟩; exact ⟨a, by omega, b, c, d⟩
    · rintro ⟨a, _, b, c, d⟩; exact ⟨⟨⟨a, b⟩, c⟩, d⟩
  · exact ⟨ret_bool (by symm; rw [nameOK, decide_eq_false_iff_not]; intro h; have := h.2.1; omega), (by repeat (first | exact Below.refl _ _ | assumption | refine Below.drew ?_ | refine below_drewN ?_ _ | refine below_alloc ?_ _ | refine below_set ?_ (by simp) _ | refine below_step ?_ (by assumption)))⟩
end Go.Proofs.YtdceechakocgfaaDoor
