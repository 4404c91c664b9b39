import Derived.Test.YtcljaeknhmpecaaApexA45
set_option linter.all false
set_option linter.unusedVariables false
set_option linter.unusedSimpArgs false
set_option linter.unusedSectionVars false
/- Words for proofs over printed texts. -/
namespace Go.Apex
open Go
theorem iLt_iff {a b : Int} : iLt a b = true ↔ a < b := by simp [iLt]
theorem iLe_iff {a b : Int} : iLe a b = true ↔ a ≤ b := by simp [iLe]
theorem iEq_iff {a b : Int} : iEq a b = true ↔ a = b := by simp [iEq]
theorem bNot_iff {a : Bool} : bNot a = true ↔ ¬ a = true := by cases a <;> simp [bNot]
theorem bEq_iff {a b : Bool} : bEq a b = true ↔ a = b := by simp [bEq]
theorem bAnd_iff {a b : Bool} : bAnd a b = true ↔ a = true ∧ b = true := by simp [bAnd]
theorem sEq_iff {a b : List UInt8} : sEq a b = true ↔ a = b := by simp [sEq]
theorem natEq_iff {a b : Nat} : natEq a b = true ↔ a = b := by simp [natEq]
theorem iAdd_i64 {a b : Int} (h1 : -9223372036854775808 ≤ a + b) (h2 : a + b < 9223372036854775808) : iAdd .i64 a b = a + b := by
  show IntKind.wrap .i64 (a + b) = a + b
  unfold IntKind.wrap
  have e1 : ((2 : Int) ^ IntKind.i64.bits) = 18446744073709551616 := rfl
  have e2 : ((2 : Int) ^ (IntKind.i64.bits - 1)) = 9223372036854775808 := rfl
  have e3 : IntKind.i64.signed = true := rfl
  simp only [e1, e2, e3, Bool.true_and, decide_eq_true_eq]
  split <;> omega
theorem byteAt_eq {s : List UInt8} {i : Nat} (h : i < s.length) : byteAt s i = some ((s[i]'h).toNat : Int) := by simp [byteAt, h]
end Go.Apex
