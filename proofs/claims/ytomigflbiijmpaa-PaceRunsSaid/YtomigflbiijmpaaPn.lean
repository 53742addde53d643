/- What the laws' arguments are, in the walk's words. -/
import Derived.Test.YtomigflbiijmpaaRows
import Derived.Test.YtomigflbiijmpaaAmt
import Derived.Test.YtomigflbiijmpaaPf
namespace Go.Proofs.Ytomigflbiijmpaa
open Am Go.Proofs.Try Go.ChangeShapes Go.WideShapes Go.ChangeAt Go.RowKit
set_option linter.unusedVariables false

theorem own : ownKnob Try.prog.godebug = none := by kernel_rfl
theorem laid : laidOutB Try.prog = true := by kernel_rfl
theorem ty_i {x : AV} (h : TyA prog 8 3 x) : ∃ z, x = .raw (.int .i64 z) ∧ -9223372036854775808 ≤ z ∧ z < 9223372036854775808 := by
  have h' : ∃ z, [x] = [AV.raw (.int .i64 z)] ∧ IntKind.i64.min ≤ z ∧ z ≤ IntKind.i64.max := h
  obtain ⟨z, e, h1, h2⟩ := h'
  have m1 : IntKind.i64.min = -9223372036854775808 := by decide
  have m2 : IntKind.i64.max = 9223372036854775807 := by decide
  rw [m1] at h1
  rw [m2] at h2
  exact ⟨z, by simpa using e, h1, by omega⟩
theorem ty_u {x : AV} (h : TyA prog 8 34 x) : ∃ z, x = .raw (.int .u64 z) := by
  have h' : ∃ z, [x] = [AV.raw (.int .u64 z)] ∧ IntKind.u64.min ≤ z ∧ z ≤ IntKind.u64.max := h
  obtain ⟨z, e, _⟩ := h'
  exact ⟨z, by simpa using e⟩
end Go.Proofs.Ytomigflbiijmpaa
