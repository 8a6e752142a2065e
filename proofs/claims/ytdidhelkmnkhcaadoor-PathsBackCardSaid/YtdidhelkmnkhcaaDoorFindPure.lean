/- Where a path leads somebody: the plain part. -/
import Derived.Test.YtdidhelkmnkhcaaDoorInPure
namespace Go.Proofs.YtdidhelkmnkhcaaDoor
noncomputable def findS (t : TTree) (u g m d : Int) (p : List UInt8) (follow : Bool) : PlaceV × Int := if permB t u g m d = true then inS t u g d p follow else (noPlace, 1)
theorem permB_dir {t : TTree} {u g m d : Int} (h : permB t u g m d = true) : TreeOK t ∧ DirAt t d := by
  unfold permB at h
  simp only [Bool.and_eq_true, decide_eq_true_eq, beq_iff_eq] at h
  exact ⟨TreeOK.of h.1, h.2.2.1.1, h.2.2.1.2, h.2.2.2⟩
end Go.Proofs.YtdidhelkmnkhcaaDoor
