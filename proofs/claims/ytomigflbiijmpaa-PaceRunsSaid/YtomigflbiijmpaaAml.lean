/- THE ABSTRACT MEMORY: a block that nobody writes any more. -/
import Derived.Test.YtomigflbiijmpaaAmk
namespace Go.Proofs.Ytomigflbiijmpaa.Am

mutual
/-- Handles of the block 'b' become what is in it. -/
def frz (m : Mem) (b : Nat) : AV → AV
  | .any => .any
  | .raw v => .raw v
  | .lst sz cs => .lst sz (frzL m b cs)
  | .zs => .zs
  | .sl c tag off len sz => if c = b then (match m.get b with
      | some B => if tag = B.length ∧ 0 < sz then .lst sz ((B.drop off).take (len * sz)) else .any
      | none => .any) else .sl c tag off len sz
  | .ptr c tag off => if c = b then (match m.get b with
      | some B => if tag = B.length ∧ off < B.length then .ip (B.drop off) else .any
      | none => .any) else .ptr c tag off
  | .ip cs => .ip (frzL m b cs)
  | .agg cs => .agg (frzL m b cs)
  | .ifc t x => .ifc t (frz m b x)
  | .fn f a c => .fn f (frzL m b a) (frzL m b c)
  | .tup vs => .tup (frzL m b vs)
def frzL (m : Mem) (b : Nat) : List AV → List AV
  | [] => []
  | c :: r => frz m b c :: frzL m b r
end
theorem frzL_map (m : Mem) (b : Nat) : (l : List AV) → frzL m b l = l.map (frz m b)
  | [] => by simp [frzL]
  | c :: r => by simp [frzL, frzL_map m b r]

structure FOK (m : Mem) (b : Nat) (m2 : Mem) : Prop where
  len : m2.length = m.length
  get : ∀ c B2, m2.get c = some B2 → c ≠ b ∧ ∃ B, m.get c = some B ∧ (B2 = B ∨ B2 = frzL m b B)

theorem FOK.drop (m : Mem) (b : Nat) : FOK m b (m.set b none) := by
  refine ⟨by simp, fun c B2 h => ?_⟩
  by_cases hc : c = b
  · subst hc
    have hlt := Mem.get_lt h
    rw [get_set_same _ (by simpa using hlt)] at h; simp at h
  · rw [get_set_ne _ hc] at h
    exact ⟨hc, B2, h, .inl rfl⟩
theorem FOK.also {m m2 : Mem} {b : Nat} (h : FOK m b m2) {t : Nat} {B : List AV} (ht : t ≠ b) (hB : m.get t = some B) : FOK m b (m2.set t (some (frzL m b B))) := by
  refine ⟨by simp [h.len], fun c B2 h2 => ?_⟩
  by_cases hc : c = t
  · subst hc
    have hlt := Mem.get_lt h2
    rw [get_set_same _ (by simpa using hlt)] at h2
    injection h2 with h2
    exact ⟨ht, B, hB, .inr h2.symm⟩
  · rw [get_set_ne _ hc] at h2
    exact h.get c B2 h2

section
variable {w0 : World} {κ : Ctx} {b : Nat} {m2 : Mem}
theorem FOK.fr (h : FOK κ.m b m2) : Fr κ ⟨κ.ρ, m2, κ.w⟩ := by
  have hg : ∀ c B2, m2.get c = some B2 → ∃ B, κ.m.get c = some B ∧ B2.length = B.length := fun c B2 h2 => by
    obtain ⟨_, B, h3, h4⟩ := h.get c B2 h2
    refine ⟨B, h3, ?_⟩
    rcases h4 with rfl | rfl
    · rfl
    · rw [frzL_map]; simp
  refine ⟨Nat.le_refl _, fun _ _ _ => rfl, by show _ ≤ m2.length; rw [h.len]; exact Nat.le_refl _, fun c _ B2 h2 => ?_, fun c B2 h2 h0 => ?_, Kept.refl _⟩
  · obtain ⟨B, h3, h4⟩ := hg c B2 h2
    exact ⟨B, h3, by omega, fun _ => rfl⟩
  · obtain ⟨B, h3, h4⟩ := hg c B2 h2
    exact .inl ⟨B, h3, h0, rfl⟩
theorem FOK.gone (hS : Sat w0 κ) (h : FOK κ.m b m2) {B : List AV} (hb : κ.m.get b = some B) (h0 : (κ.ρ b).size ≠ 0) : (⟨κ.ρ, m2, κ.w⟩ : Ctx).still (κ.ρ b).blk := by
  refine ⟨hS.lt hb h0, fun c B2 h2 h0' => ?_⟩
  obtain ⟨h3, C, h4, _⟩ := h.get c B2 h2
  exact hS.ne c b C B h3 h4 hb h0' h0

mutual
theorem E.frz (hS : Sat w0 κ) (h : FOK κ.m b m2) : (x : AV) → {v : Value} → E κ x v → E ⟨κ.ρ, m2, κ.w⟩ (frz κ.m b x) v
  | .any, _, _ => by simp [E, Am.frz]
  | .raw u, _, e => by simpa [E, Am.frz] using e
  | .zs, _, e => by simpa [E, Am.frz] using e
  | .lst sz cs, v, e => by
    simp only [E, Am.frz] at e ⊢
    rcases e with ⟨e, rfl⟩ | ⟨k, i, len, cap, e1, e2, e3, e4, e5⟩
    · exact .inl ⟨e, rfl⟩
    · exact .inr ⟨k, i, len, cap, e1, by rw [frzL_map]; simpa using e2, e3, h.fr.still e4, ECells.frz hS h cs e5⟩
  | .sl c tag off len sz, v, e => by
    simp only [Am.frz]
    by_cases hc : c = b
    · subst hc
      rw [if_pos rfl]
      cases hB : κ.m.get c with
      | none => simp [E]
      | some B =>
        simp only
        split
        · rename_i ht
          simp only [E] at e
          obtain ⟨_, e⟩ := (e.2 B hB).2 ht.1
          simp only [E]
          rcases e with ⟨rfl, a, rfl⟩ | ⟨cap, rfl, e1, e2, e3, e4⟩
          · exact .inl ⟨⟨a, 0, rfl⟩, by simp⟩
          · rename_i hle
            have hp : 0 < cap * sz := Nat.mul_pos e3 ht.2
            refine .inr ⟨_, _, len, cap, rfl, by rw [List.length_take, List.length_drop]; omega, e2, h.gone hS hB (by omega), ?_⟩
            refine ECells.of_get fun j x hx => ?_
            have hx' : B[off + j]? = some x := by
              rw [List.getElem?_take] at hx
              split at hx
              · rwa [List.getElem?_drop] at hx
              · simp at hx
            obtain ⟨u, h1, h2, h3⟩ := hS.cell hB (off := off + j) (by omega) hx'
            refine ⟨u, ?_, h2, E.mono h.fr x h3⟩
            rw [← h1]
            simp only [Ctx.at]
            congr 2
            omega
        · simp [E]
    · rw [if_neg hc]
      exact E.mono h.fr _ e
  | .ptr c tag off, v, e => by
    simp only [Am.frz]
    by_cases hc : c = b
    · subst hc
      rw [if_pos rfl]
      cases hB : κ.m.get c with
      | none => simp [E]
      | some B =>
        simp only
        split
        · rename_i ht
          simp only [E] at e
          obtain ⟨rfl, e1⟩ := (e.2 B hB).2 ht.1
          simp only [E]
          have h0 : (κ.ρ c).size ≠ 0 := by
            rcases hS.blk c B hB with ⟨_, rfl⟩ | ⟨h0, _⟩
            · have := ht.2; simp at this
            · exact h0
          refine ⟨_, _, rfl, h.gone hS hB h0, ECells.of_get fun j x hx => ?_⟩
          rw [List.getElem?_drop] at hx
          obtain ⟨u, h1, h2, h3⟩ := hS.cell hB (off := off + j) (by omega) hx
          refine ⟨u, ?_, h2, E.mono h.fr x h3⟩
          rw [← h1]
          simp only [Ctx.at]
          congr 2
          omega
        · simp [E]
    · rw [if_neg hc]
      exact E.mono h.fr _ e
  | .ip cs, v, e => by
    simp only [E, Am.frz] at e ⊢
    obtain ⟨k, i, e1, e2, e3⟩ := e
    exact ⟨k, i, e1, h.fr.still e2, ECells.frz hS h cs e3⟩
  | .agg cs, v, e => by
    simp only [E, Am.frz] at e ⊢
    obtain ⟨vs, e1, e2, e3⟩ := e
    exact ⟨vs, e1, e2, EList.frz hS h cs e3⟩
  | .ifc t x, v, e => by
    simp only [E, Am.frz] at e ⊢
    obtain ⟨y, e1, e2⟩ := e
    exact ⟨y, e1, E.frz hS h x e2⟩
  | .fn f a c, v, e => by
    simp only [E, Am.frz] at e ⊢
    obtain ⟨xs, ys, e1, e2, e3⟩ := e
    exact ⟨xs, ys, e1, EList.frz hS h a e2, EList.frz hS h c e3⟩
  | .tup cs, v, e => by
    simp only [E, Am.frz] at e ⊢
    obtain ⟨vs, e1, e3⟩ := e
    exact ⟨vs, e1, EList.frz hS h cs e3⟩
theorem ECells.frz (hS : Sat w0 κ) (h : FOK κ.m b m2) {k : Nat} : (cs : List AV) → {i : Nat} → ECells κ k i cs → ECells ⟨κ.ρ, m2, κ.w⟩ k i (frzL κ.m b cs)
  | [], _, _ => by simp [ECells, frzL]
  | c :: r, i, e => by
    simp only [ECells, frzL] at e ⊢
    obtain ⟨⟨x, e1, e2, e3⟩, e4⟩ := e
    exact ⟨⟨x, e1, e2, E.frz hS h c e3⟩, ECells.frz hS h r e4⟩
theorem EList.frz (hS : Sat w0 κ) (h : FOK κ.m b m2) : (cs : List AV) → {l : List Value} → EList κ cs l → EList ⟨κ.ρ, m2, κ.w⟩ (frzL κ.m b cs) l
  | [], _, e => by simpa [EList, frzL] using e
  | c :: r, l, e => by
    simp only [EList, frzL] at e ⊢
    obtain ⟨x, s, e1, e2, e3⟩ := e
    exact ⟨x, s, e1, E.frz hS h c e2, EList.frz hS h r e3⟩
end

theorem freeze_ok (hS : Sat w0 κ) (h : FOK κ.m b m2) : Fr κ ⟨κ.ρ, m2, κ.w⟩ ∧ Sat w0 ⟨κ.ρ, m2, κ.w⟩ := by
  refine ⟨h.fr, hS.old, hS.same, fun c B2 h2 => ?_, fun c c' B1 B2 hcc h1 h2 h3 h4 => ?_⟩
  · obtain ⟨_, B, hB, hBB⟩ := h.get c B2 h2
    rcases hS.blk c B hB with ⟨e, rfl⟩ | ⟨e0, e1, c', t, e2, e3, e4, e5⟩
    · refine .inl ⟨e, ?_⟩
      rcases hBB with rfl | rfl <;> simp [frzL]
    · refine .inr ⟨e0, e1, c', t, e2, e3, ?_, fun i x hi hx => ?_⟩
      · rcases hBB with rfl | rfl
        · exact e4
        · rw [frzL_map]; simpa using e4
      · rcases hBB with rfl | rfl
        · obtain ⟨v, g1, g2, g3⟩ := e5 i x hi hx
          exact ⟨v, g1, g2, E.mono h.fr x g3⟩
        · rw [frzL_map, List.getElem?_map] at hx
          simp only [Option.map_eq_some_iff] at hx
          obtain ⟨y, hy, rfl⟩ := hx
          obtain ⟨v, g1, g2, g3⟩ := e5 i y hi hy
          exact ⟨v, g1, g2, E.frz hS h y g3⟩
  · obtain ⟨_, C1, g1, _⟩ := h.get c B1 h1
    obtain ⟨_, C2, g2, _⟩ := h.get c' B2 h2
    exact hS.ne c c' C1 C2 hcc g1 g2 h3 h4
end
end Go.Proofs.Ytomigflbiijmpaa.Am
