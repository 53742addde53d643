/- PaceRuns: for every input, failing again and again goes on ten times and gives up the next, with waits that double; no conditions. -/
import Derived.Test.YtomigflbiijmpaaPn
import Derived.Test.YtomigflbiijmpaaPk
namespace Go.Proofs.Ytomigflbiijmpaa
open Am Go.Proofs.Try Go.ChangeShapes Go.WideShapes Go.ChangeAt Go.RowKit
set_option linter.unusedVariables false

theorem runs_row {xs : List AV} (h : TyAs prog 8 [3] xs) : AFn prog K0 4 xs [] (fun o m' => o = .ret (.raw (.bool true)) ∧ m' = []) := by
  obtain ⟨x0, r0, rfl, h0, g0⟩ := TyAs.cons h
  obtain rfl := TyAs.nil g0
  obtain ⟨a, rfl, a1, a2⟩ := ty_i h0
  exact runs_c K0 [] a a1 a2

/-! ### PaceRuns -/
set_option maxRecDepth 100000 in
theorem runs_lifted (os : Os) (started : os.Started) (H : Type) (enc : TypeId × Value → H) :
    ReturnsInHanded {} Try.checked os 4 .any (Rows.paceRunsSpec.pre6 enc Try.prog Try.f4 Rows.paceRunsRow.domain false) (Rows.paceRunsSpec.post enc Try.prog Try.f4 false true false false) := by
  refine returnsInHanded_of_change (C := Try.checked) own started (by kernel_rfl) Try.func4
    (ChangeSpec.witness6 (enc := enc) (C := Try.checked) false ⟨#[], #[.int .i64 0], []⟩ 8 (by kernel_rfl) (by kernel_rfl) (by kernel_rfl) (by kernel_rfl)) ?_
  intro W base args ds gs before hval0 hW hcnd _
  exact law_core (ts := [3]) (bt := 4) (n := 8) rfl rfl Try.underlying4 laid (by decide +kernel) (by decide +kernel) rfl (fun l hl => match l, hl with | [d1], _ => rfl) hval0 hW (K0_ok _ _) (fun xs h => runs_row h)
theorem runs_over : Rows.paceRunsRow.holds Try.pinned (OpenSpec.ofChange Rows.paceRunsSpec) :=
  OpenClaim.holds_of_wide 4 Try.f4 rfl rfl rfl rfl rfl rfl rfl ⟨rfl, rfl, rfl, rfl, rfl⟩ rfl rfl rfl rfl rfl (by kernel_rfl) Try.func4 (by kernel_rfl)
    (of_decide_eq_true (by kernel_rfl)) (by unfold Func.isWrapper; first | (rw [if_pos (by decide +kernel)]; kernel_rfl) | (rw [if_neg (by decide +kernel)]; exact ⟨rfl, rfl⟩))
    (fun os started H enc _ => runs_lifted os started H enc)
theorem runs_proved : Rows.PaceRunsSaid := runs_over
#print axioms runs_proved

end Go.Proofs.Ytomigflbiijmpaa
