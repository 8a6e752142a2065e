/- Bits of whole numbers: when an 'or' is nothing. -/
import Derived.Test.YtdceechakocgfaaDoorM1
import Derived.Laws.BitsAllLaws
import Derived.Laws.BitsLemmas
import Derived.WalkKit
namespace Go.Proofs.YtdceechakocgfaaDoor
open Go.RowKit
theorem wrap_range (x : Int) : I64 (IntKind.i64.wrap x) := by
  rw [IntKind.wrap_i64]; unfold I64; omega
theorem or_i64 (a b : Int) : I64 (bits .or .i64 a b) := wrap_range _
theorem ofInt_zero (a : Int) (ha : I64 a) : BitVec.ofInt 64 a = 0#64 ↔ a = 0 := by
  unfold I64 at ha
  constructor
  · intro h
    have := congrArg BitVec.toInt h
    rw [BitVec.toInt_ofInt] at this
    simp only [BitVec.toInt_zero] at this
    rw [Int.bmod_def] at this
    omega
  · rintro rfl; rfl
theorem or_zero (a b : Int) (ha : I64 a) (hb : I64 b) : bits .or .i64 a b = 0 ↔ a = 0 ∧ b = 0 := by
  show IntKind.i64.wrap ((BitVec.ofInt 64 a ||| BitVec.ofInt 64 b).toNat : Int) = 0 ↔ _
  rw [← ofInt_zero a ha, ← ofInt_zero b hb, ← BitVec.or_eq_zero_iff]
  generalize BitVec.ofInt 64 a ||| BitVec.ofInt 64 b = x
  rw [IntKind.wrap_i64]
  have hx := x.isLt
  constructor
  · intro h
    apply BitVec.eq_of_toNat_eq
    rw [BitVec.toNat_zero]
    omega
  · rintro rfl; rw [BitVec.toNat_zero]; omega
end Go.Proofs.YtdceechakocgfaaDoor
