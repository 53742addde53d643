/- PaceEdges: for every input a wait is one at least, the greatest at most, never less for more tries, and the edges of progress and of what is left are as told; no conditions. -/
import Derived.Test.YtomigflbiijmpaaPn
import Derived.Test.YtomigflbiijmpaaPj
namespace Go.Proofs.Ytomigflbiijmpaa
open Am Go.Proofs.Try Go.ChangeShapes Go.WideShapes Go.ChangeAt Go.RowKit
set_option linter.unusedVariables false

theorem edges_row {xs : List AV} (h : TyAs prog 8 [3, 3, 3] xs) : AFn prog K0 6 xs [] (fun o m' => o = .ret (.raw (.bool true)) ∧ m' = []) := by
  obtain ⟨x0, r0, rfl, h0, g0⟩ := TyAs.cons h
  obtain ⟨x1, r1, rfl, h1, g1⟩ := TyAs.cons g0
  obtain ⟨x2, r2, rfl, h2, g2⟩ := TyAs.cons g1
  obtain rfl := TyAs.nil g2
  obtain ⟨a, rfl, a1, a2⟩ := ty_i h0
  obtain ⟨b, rfl, b1, b2⟩ := ty_i h1
  obtain ⟨c, rfl, c1, c2⟩ := ty_i h2
  exact edges_c K0 [] a b c c1 c2

/-! ### PaceEdges -/
set_option maxRecDepth 100000 in
theorem edges_lifted (os : Os) (started : os.Started) (H : Type) (enc : TypeId × Value → H) :
    ReturnsInHanded {} Try.checked os 6 .any (Rows.paceEdgesSpec.pre6 enc Try.prog Try.f6 Rows.paceEdgesRow.domain false) (Rows.paceEdgesSpec.post enc Try.prog Try.f6 false true false false) := by
  refine returnsInHanded_of_change (C := Try.checked) own started (by kernel_rfl) Try.func6
    (ChangeSpec.witness6 (enc := enc) (C := Try.checked) false ⟨#[], #[.int .i64 0, .int .i64 0, .int .i64 0], []⟩ 8 (by kernel_rfl) (by kernel_rfl) (by kernel_rfl) (by kernel_rfl)) ?_
  intro W base args ds gs before hval0 hW hcnd _
  exact law_core (ts := [3, 3, 3]) (bt := 4) (n := 8) rfl rfl Try.underlying4 laid (by decide +kernel) (by decide +kernel) rfl (fun l hl => match l, hl with | [d1, d2, d3], _ => rfl) hval0 hW (K0_ok _ _) (fun xs h => edges_row h)
theorem edges_over : Rows.paceEdgesRow.holds Try.pinned (OpenSpec.ofChange Rows.paceEdgesSpec) :=
  OpenClaim.holds_of_wide 6 Try.f6 rfl rfl rfl rfl rfl rfl rfl ⟨rfl, rfl, rfl, rfl, rfl⟩ rfl rfl rfl rfl rfl (by kernel_rfl) Try.func6 (by kernel_rfl)
    (of_decide_eq_true (by kernel_rfl)) (by unfold Func.isWrapper; first | (rw [if_pos (by decide +kernel)]; kernel_rfl) | (rw [if_neg (by decide +kernel)]; exact ⟨rfl, rfl⟩))
    (fun os started H enc _ => edges_lifted os started H enc)
theorem edges_proved : Rows.PaceEdgesSaid := edges_over
#print axioms edges_proved

end Go.Proofs.Ytomigflbiijmpaa
