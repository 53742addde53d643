/- PacePlays: for every pace and every list of things, how often and how long to wait are what the document says; no conditions. -/
import Derived.Test.YtomigflbiijmpaaPn
import Derived.Test.YtomigflbiijmpaaPm
namespace Go.Proofs.Ytomigflbiijmpaa
open Am Go.Proofs.Try Go.ChangeShapes Go.WideShapes Go.ChangeAt Go.RowKit
set_option linter.unusedVariables false

theorem ty_do {r : List AV} (h : Ty prog 7 31 r) : ∃ z, r = [.raw (.int .i64 z)] ∧ -9223372036854775808 ≤ z ∧ z < 9223372036854775808 := by
  unfold Ty at h
  simp only [Try.underlying31] at h
  obtain ⟨rows, rfl, hl, hf⟩ := h
  match rows, hl with
  | [q], _ =>
    have h0 := (hf 0 _ q rfl rfl).2
    have h' : ∃ z, q = [AV.raw (.int .i64 z)] ∧ IntKind.i64.min ≤ z ∧ z ≤ IntKind.i64.max := h0
    obtain ⟨z, rfl, h1, h2⟩ := h'
    have m1 : IntKind.i64.min = -9223372036854775808 := by decide
    have m2 : IntKind.i64.max = 9223372036854775807 := by decide
    rw [m1] at h1
    rw [m2] at h2
    exact ⟨z, by simp, h1, by omega⟩
theorem ty_dos {x : AV} (h : TyA prog 8 22 x) : ∃ ks : List Int, x = .lst 1 (cellsK ks) ∧ ∀ k ∈ ks, -9223372036854775808 ≤ k ∧ k < 9223372036854775808 := by
  have h' : ∃ rows : List (List AV), [x] = [AV.lst (prog.cellsOf 31) rows.flatten] ∧ ∀ r ∈ rows, r.length = prog.cellsOf 31 ∧ Ty prog 7 31 r := h
  obtain ⟨rows, e, hr⟩ := h'
  have hc : prog.cellsOf 31 = 1 := by kernel_rfl
  rw [hc] at e
  have hx : x = .lst 1 rows.flatten := by simpa using e
  subst hx
  clear e h
  induction rows with
  | nil => exact ⟨[], rfl, by simp⟩
  | cons r rows ih =>
    obtain ⟨ks, h1, h2⟩ := ih (fun r hr' => hr r (List.mem_cons_of_mem _ hr')) 
    obtain ⟨z, rfl, z1, z2⟩ := ty_do (hr r List.mem_cons_self).2
    refine ⟨z :: ks, ?_, ?_⟩
    · simp only [AV.lst.injEq, true_and] at h1
      simp only [List.flatten_cons, h1, cellsK, List.map_cons, List.cons_append, List.nil_append]
    · intro k hk
      rcases List.mem_cons.1 hk with rfl | hk
      · exact ⟨z1, z2⟩
      · exact h2 k hk

theorem plays_row {xs : List AV} (h : TyAs prog 8 [3, 3, 22] xs) : AFn prog K0 3 xs [] (fun o m' => o = .ret (.raw (.bool true)) ∧ m' = []) := by
  obtain ⟨x0, r0, rfl, h0, g0⟩ := TyAs.cons h
  obtain ⟨x1, r1, rfl, h1, g1⟩ := TyAs.cons g0
  obtain ⟨x2, r2, rfl, h2, g2⟩ := TyAs.cons g1
  obtain rfl := TyAs.nil g2
  obtain ⟨a, rfl, a1, a2⟩ := ty_i h0
  obtain ⟨b, rfl, b1, b2⟩ := ty_i h1
  obtain ⟨ks, rfl, hk⟩ := ty_dos h2
  exact plays_c K0 [] a b ks a1 a2 b1 b2 hk


/-! ### PacePlays -/
set_option maxRecDepth 100000 in
theorem plays_lifted (os : Os) (started : os.Started) (H : Type) (enc : TypeId × Value → H) :
    ReturnsInHanded {} Try.checked os 3 .any (Rows.pacePlaysSpec.pre6 enc Try.prog Try.f3 Rows.pacePlaysRow.domain false) (Rows.pacePlaysSpec.post enc Try.prog Try.f3 false true false false) := by
  refine returnsInHanded_of_change (C := Try.checked) own started (by kernel_rfl) Try.func3
    (ChangeSpec.witness6 (enc := enc) (C := Try.checked) false ⟨#[], #[.int .i64 0, .int .i64 0, .slice none 0 0], []⟩ 8 (by kernel_rfl) (by kernel_rfl) (by kernel_rfl) (by kernel_rfl)) ?_
  intro W base args ds gs before hval0 hW hcnd _
  exact law_core (ts := [3, 3, 22]) (bt := 4) (n := 8) rfl rfl Try.underlying4 laid (by decide +kernel) (by decide +kernel) rfl (fun l hl => match l, hl with | [d1, d2, d3], _ => rfl) hval0 hW (K0_ok _ _) (fun xs h => plays_row h)
theorem plays_over : Rows.pacePlaysRow.holds Try.pinned (OpenSpec.ofChange Rows.pacePlaysSpec) :=
  OpenClaim.holds_of_wide 3 Try.f3 rfl rfl rfl rfl rfl rfl rfl ⟨rfl, rfl, rfl, rfl, rfl⟩ rfl rfl rfl rfl rfl (by kernel_rfl) Try.func3 (by kernel_rfl)
    (of_decide_eq_true (by kernel_rfl)) (by unfold Func.isWrapper; first | (rw [if_pos (by decide +kernel)]; kernel_rfl) | (rw [if_neg (by decide +kernel)]; exact ⟨rfl, rfl⟩))
    (fun os started H enc _ => plays_lifted os started H enc)
theorem plays_proved : Rows.PacePlaysSaid := plays_over
#print axioms plays_proved
end Go.Proofs.Ytomigflbiijmpaa
