/- THE ABSTRACT MEMORY: other views of it: blocks told by other numbers, or no longer; blocks that nobody writes any more. -/
import Derived.Test.YtomigflbiijmpaaAmj
namespace Go.Proofs.Ytomigflbiijmpaa.Am

def renI (n : Nat) (σ : List Nat) (b : Nat) : Option Nat := if b < n then some b else (σ[b - n]?).map (n + ·)
mutual
/-- From the new view's numbers to the old one's. -/
def ren (n : Nat) (σ : List Nat) : AV → AV
  | .any => .any
  | .raw v => .raw v
  | .lst sz cs => .lst sz (renL n σ cs)
  | .zs => .zs
  | .sl b tag off len sz => (match renI n σ b with | some c => .sl c tag off len sz | none => .lst 0 [.any])
  | .ptr b tag off => (match renI n σ b with | some c => .ptr c tag off | none => .lst 0 [.any])
  | .ip cs => .ip (renL n σ cs)
  | .agg cs => .agg (renL n σ cs)
  | .ifc t x => .ifc t (ren n σ x)
  | .fn f a c => .fn f (renL n σ a) (renL n σ c)
  | .tup vs => .tup (renL n σ vs)
def renL (n : Nat) (σ : List Nat) : List AV → List AV
  | [] => []
  | c :: r => ren n σ c :: renL n σ r
end
theorem renL_map (n : Nat) (σ : List Nat) : (l : List AV) → renL n σ l = l.map (ren n σ)
  | [] => by simp [renL]
  | c :: r => by simp [renL, renL_map n σ r]

mutual
/-- All that it leads to is below 'n'. -/
def sc (n : Nat) : AV → Prop
  | .sl b _ _ _ _ | .ptr b _ _ => b < n
  | .lst _ cs | .ip cs | .agg cs | .tup cs => scL n cs
  | .ifc _ x => sc n x
  | .fn _ a c => scL n a ∧ scL n c
  | _ => True
def scL (n : Nat) : List AV → Prop
  | [] => True
  | c :: r => sc n c ∧ scL n r
end
mutual
theorem E.sc {κ : Ctx} : (x : AV) → {v : Value} → E κ x v → sc κ.m.length x
  | .any, _, _ => by simp [Am.sc]
  | .raw _, _, _ => by simp [Am.sc]
  | .zs, _, _ => by simp [Am.sc]
  | .sl .., _, e => by simp only [E] at e; simp only [Am.sc]; exact e.1
  | .ptr .., _, e => by simp only [E] at e; simp only [Am.sc]; exact e.1
  | .lst sz cs, v, e => by
    simp only [E] at e; simp only [Am.sc]
    rcases e with ⟨_, rfl⟩ | ⟨k, i, _, _, _, _, _, _, e⟩
    · simp [scL]
    · exact ECells.sc cs e
  | .ip cs, v, e => by
    simp only [E] at e; simp only [Am.sc]
    obtain ⟨k, i, _, _, e⟩ := e
    exact ECells.sc cs e
  | .agg cs, v, e => by
    simp only [E] at e; simp only [Am.sc]
    obtain ⟨vs, _, _, e⟩ := e
    exact EList.sc cs e
  | .ifc t x, v, e => by
    simp only [E] at e; simp only [Am.sc]
    obtain ⟨y, _, e⟩ := e
    exact E.sc x e
  | .fn f a c, v, e => by
    simp only [E] at e; simp only [Am.sc]
    obtain ⟨xs, ys, _, e1, e2⟩ := e
    exact ⟨EList.sc a e1, EList.sc c e2⟩
  | .tup cs, v, e => by
    simp only [E] at e; simp only [Am.sc]
    obtain ⟨vs, _, e⟩ := e
    exact EList.sc cs e
theorem ECells.sc {κ : Ctx} {k : Nat} : (cs : List AV) → {i : Nat} → ECells κ k i cs → scL κ.m.length cs
  | [], _, _ => by simp [scL]
  | c :: r, i, e => by
    simp only [ECells] at e; simp only [scL]
    obtain ⟨⟨x, _, _, e1⟩, e2⟩ := e
    exact ⟨E.sc c e1, ECells.sc r e2⟩
theorem EList.sc {κ : Ctx} : (cs : List AV) → {l : List Value} → EList κ cs l → scL κ.m.length cs
  | [], _, _ => by simp [scL]
  | c :: r, l, e => by
    simp only [EList] at e; simp only [scL]
    obtain ⟨x, s, _, e1, e2⟩ := e
    exact ⟨E.sc c e1, EList.sc r e2⟩
end
mutual
theorem ren_sc {n : Nat} (σ : List Nat) : (x : AV) → sc n x → ren n σ x = x
  | .any, _ => rfl
  | .raw _, _ => rfl
  | .zs, _ => rfl
  | .sl b .., h => by simp only [sc] at h; simp [ren, renI, h]
  | .ptr b .., h => by simp only [sc] at h; simp [ren, renI, h]
  | .lst _ cs, h => by simp only [sc] at h; simp [ren, renL_sc σ cs h]
  | .ip cs, h => by simp only [sc] at h; simp [ren, renL_sc σ cs h]
  | .agg cs, h => by simp only [sc] at h; simp [ren, renL_sc σ cs h]
  | .tup cs, h => by simp only [sc] at h; simp [ren, renL_sc σ cs h]
  | .ifc _ x, h => by simp only [sc] at h; simp [ren, ren_sc σ x h]
  | .fn _ a c, h => by simp only [sc] at h; simp [ren, renL_sc σ a h.1, renL_sc σ c h.2]
theorem renL_sc {n : Nat} (σ : List Nat) : (l : List AV) → scL n l → renL n σ l = l
  | [], _ => rfl
  | c :: r, h => by simp only [scL] at h; simp [renL, ren_sc σ c h.1, renL_sc σ r h.2]
end

/-- The new view's memory, from the old one's. 'n' is how long the memory was at the call's entry, 'm0' that memory. -/
structure VOK (m0 m : Mem) (σ : List Nat) (m2 : Mem) : Prop where
  len : m2.length = m0.length + σ.length
  nodup : σ.Nodup
  get : ∀ b B2, m2.get b = some B2 → (b < m0.length ∧ m.get b = some B2 ∧ m0.get b = some B2) ∨ ∃ c, renI m0.length σ b = some c ∧ m.get c = some (renL m0.length σ B2)

def Ctx.view (κ : Ctx) (n : Nat) (σ : List Nat) (m2 : Mem) : Ctx := ⟨fun b => κ.ρ ((renI n σ b).getD b), m2, κ.w⟩

theorem renI_inj {n : Nat} {σ : List Nat} (hσ : σ.Nodup) {b b' c : Nat} (h : renI n σ b = some c) (h' : renI n σ b' = some c) : b = b' := by
  unfold renI at h h'
  split at h <;> split at h'
  · simp_all
  · simp only [Option.some.injEq] at h
    simp only [Option.map_eq_some_iff] at h'
    obtain ⟨j, _, hj⟩ := h'
    omega
  · simp only [Option.some.injEq] at h'
    simp only [Option.map_eq_some_iff] at h
    obtain ⟨j, _, hj⟩ := h
    omega
  · simp only [Option.map_eq_some_iff] at h h'
    obtain ⟨j, h1, hj⟩ := h
    obtain ⟨j', h1', hj'⟩ := h'
    have : j = j' := by omega
    subst this
    have hl := List.getElem?_eq_some_iff.1 h1
    have hl' := List.getElem?_eq_some_iff.1 h1'
    obtain ⟨l1, e1⟩ := hl
    obtain ⟨l2, e2⟩ := hl'
    rcases Nat.lt_trichotomy (b - n) (b' - n) with hlt | heq | hlt
    · exact absurd (e1.trans e2.symm) (List.pairwise_iff_getElem.1 hσ _ _ l1 l2 hlt)
    · omega
    · exact absurd (e2.trans e1.symm) (List.pairwise_iff_getElem.1 hσ _ _ l2 l1 hlt)

section
variable {κ0 κ : Ctx} {σ : List Nat} {m2 : Mem}
theorem VOK.src (hv : VOK κ0.m κ.m σ m2) {b : Nat} {B2 : List AV} (h : m2.get b = some B2) : ∃ c B, renI κ0.m.length σ b = some c ∧ κ.m.get c = some B ∧ B.length = B2.length := by
  rcases hv.get b B2 h with ⟨h1, h2, _⟩ | ⟨c, h1, h2⟩
  · exact ⟨b, B2, by simp [renI, h1], h2, rfl⟩
  · exact ⟨c, _, h1, h2, by rw [renL_map]; simp⟩

theorem VOK.still (hv : VOK κ0.m κ.m σ m2) {k : Nat} (h : κ.still k) : (κ.view κ0.m.length σ m2).still k := by
  refine ⟨h.1, fun b B2 hB2 h0 => ?_⟩
  obtain ⟨c, B, h1, h2, h3⟩ := hv.src hB2
  simp only [Ctx.view, h1, Option.getD_some] at h0 ⊢
  exact h.2 c B h2 h0

theorem bad_no (v : Value) : ¬ E κ (.lst 0 [.any]) v := by
  simp only [E]
  rintro (⟨_, h⟩ | ⟨k, i, len, cap, _, h, _⟩) <;> simp at h

theorem renI_lt {n : Nat} {b c : Nat} (h : renI n σ b = some c) : b < n + σ.length := by
  unfold renI at h
  split at h
  · omega
  · simp only [Option.map_eq_some_iff] at h
    obtain ⟨j, h1, _⟩ := h
    have := (List.getElem?_eq_some_iff.1 h1).1
    omega

mutual
theorem E.view (hv : VOK κ0.m κ.m σ m2) : (x : AV) → {v : Value} → E κ (ren κ0.m.length σ x) v → E (κ.view κ0.m.length σ m2) x v
  | .any, _, _ => by simp [E]
  | .raw u, _, e => by simpa [E, ren] using e
  | .zs, _, e => by simpa [E, ren] using e
  | .lst sz cs, v, e => by
    simp only [E, ren] at e ⊢
    rcases e with ⟨e, e'⟩ | ⟨k, i, len, cap, e1, e2, e3, e4, e5⟩
    · refine .inl ⟨e, ?_⟩
      cases cs with
      | nil => rfl
      | cons c r => simp [renL] at e'
    · exact .inr ⟨k, i, len, cap, e1, by rw [renL_map] at e2; simpa using e2, e3, hv.still e4, ECells.view hv cs e5⟩
  | .sl b tag off len sz, v, e => by
    simp only [ren] at e
    cases hb : renI κ0.m.length σ b with
    | none => rw [hb] at e; exact absurd e (bad_no v)
    | some c =>
      rw [hb] at e
      simp only [E] at e ⊢
      refine ⟨by show b < m2.length; rw [hv.len]; exact renI_lt hb, fun B2 hB2 => ?_⟩
      obtain ⟨c', B, h1, h2, h3⟩ := hv.src hB2
      rw [hb] at h1; injection h1 with h1; subst h1
      have := e.2 B h2
      rw [h3] at this
      simp only [Ctx.at, Ctx.view, hb, Option.getD_some] at this ⊢
      exact this
  | .ptr b tag off, v, e => by
    simp only [ren] at e
    cases hb : renI κ0.m.length σ b with
    | none => rw [hb] at e; exact absurd e (bad_no v)
    | some c =>
      rw [hb] at e
      simp only [E] at e ⊢
      refine ⟨by show b < m2.length; rw [hv.len]; exact renI_lt hb, fun B2 hB2 => ?_⟩
      obtain ⟨c', B, h1, h2, h3⟩ := hv.src hB2
      rw [hb] at h1; injection h1 with h1; subst h1
      have := e.2 B h2
      rw [h3] at this
      simp only [Ctx.at, Ctx.view, hb, Option.getD_some] at this ⊢
      exact this
  | .ip cs, v, e => by
    simp only [E, ren] at e ⊢
    obtain ⟨k, i, e1, e2, e3⟩ := e
    exact ⟨k, i, e1, hv.still e2, ECells.view hv cs e3⟩
  | .agg cs, v, e => by
    simp only [E, ren] at e ⊢
    obtain ⟨vs, e1, e2, e3⟩ := e
    exact ⟨vs, e1, e2, EList.view hv cs e3⟩
  | .ifc t x, v, e => by
    simp only [E, ren] at e ⊢
    obtain ⟨y, e1, e2⟩ := e
    exact ⟨y, e1, E.view hv x e2⟩
  | .fn f a c, v, e => by
    simp only [E, ren] at e ⊢
    obtain ⟨xs, ys, e1, e2, e3⟩ := e
    exact ⟨xs, ys, e1, EList.view hv a e2, EList.view hv c e3⟩
  | .tup cs, v, e => by
    simp only [E, ren] at e ⊢
    obtain ⟨vs, e1, e3⟩ := e
    exact ⟨vs, e1, EList.view hv cs e3⟩
theorem ECells.view (hv : VOK κ0.m κ.m σ m2) {k : Nat} : (cs : List AV) → {i : Nat} → ECells κ k i (renL κ0.m.length σ cs) → ECells (κ.view κ0.m.length σ m2) k i cs
  | [], _, _ => by simp [ECells]
  | c :: r, i, e => by
    simp only [ECells, renL] at e ⊢
    obtain ⟨⟨x, e1, e2, e3⟩, e4⟩ := e
    exact ⟨⟨x, e1, e2, E.view hv c e3⟩, ECells.view hv r e4⟩
theorem EList.view (hv : VOK κ0.m κ.m σ m2) : (cs : List AV) → {l : List Value} → EList κ (renL κ0.m.length σ cs) l → EList (κ.view κ0.m.length σ m2) cs l
  | [], _, e => by simpa [EList, renL] using e
  | c :: r, l, e => by
    simp only [EList, renL] at e ⊢
    obtain ⟨x, s, e1, e2, e3⟩ := e
    exact ⟨x, s, e1, E.view hv c e2, EList.view hv r e3⟩
end

/-- The world holds the new view's memory, too. -/
theorem view_ok {w0 : World} (h0 : Sat w0 κ0) (hf : Fr κ0 κ) (h : Sat w0 κ) (hv : VOK κ0.m κ.m σ m2) : Fr κ0 (κ.view κ0.m.length σ m2) ∧ Sat w0 (κ.view κ0.m.length σ m2) := by
  constructor
  · refine ⟨hf.size, hf.same, by show κ0.m.length ≤ m2.length; rw [hv.len]; omega, fun b hb B2 hB2 => ?_, fun b B2 hB2 hs => ?_, hf.kept⟩
    · obtain ⟨c, B, h1, h2, h3⟩ := hv.src hB2
      have : c = b := by simp [renI, hb] at h1; exact h1.symm
      subst this
      obtain ⟨B0, g1, g2, g3⟩ := hf.blk c hb B h2
      refine ⟨B0, g1, by omega, fun e => ?_⟩
      simp only [Ctx.view, h1, Option.getD_some]
      exact g3 (by omega)
    · obtain ⟨c, B, h1, h2, h3⟩ := hv.src hB2
      simp only [Ctx.view, h1, Option.getD_some] at hs ⊢
      rcases hf.src c B h2 hs with ⟨B0, g1, g2, g3⟩ | hge
      · have hc : c < κ0.m.length := Mem.get_lt g1
        have : b = c := renI_inj hv.nodup h1 (by simp [renI, hc])
        subst this
        exact .inl ⟨B0, g1, g2, g3⟩
      · exact .inr hge
  · refine ⟨h.old, h.same, fun b B2 hB2 => ?_, fun b b' B1 B2 hbb h1 h2 hs1 hs2 => ?_⟩
    · rcases hv.get b B2 hB2 with ⟨h1, h2, h3⟩ | ⟨c, h1, h2⟩
      · have hr : renI κ0.m.length σ b = some b := by simp [renI, h1]
        have hρ : (κ.view κ0.m.length σ m2).ρ b = κ.ρ b := by simp [Ctx.view, hr]
        rw [hρ]
        have hρ0 : κ.ρ b = κ0.ρ b := by
          obtain ⟨B0, g1, g2, g3⟩ := hf.blk b h1 B2 h2
          rw [h3] at g1; injection g1 with g1
          exact g3 (by rw [g1])
        rcases h.blk b B2 h2 with e | ⟨e0, e1, c, t, e2, e3, e4, e5⟩
        · exact .inl e
        · refine .inr ⟨e0, e1, c, t, e2, e3, e4, fun i x hi hx => ?_⟩
          obtain ⟨v, g1, g2, g3⟩ := e5 i x hi hx
          refine ⟨v, g1, g2, E.view hv x ?_⟩
          have hsc : sc κ0.m.length x := by
            have e0' := e0
            rw [hρ0] at e0' hi
            obtain ⟨_, c', t', k2, k3, k4, k5⟩ := h0.real h3 e0'
            obtain ⟨v', _, _, q⟩ := k5 i x hi hx
            exact E.sc x q
          rw [ren_sc σ x hsc]
          exact g3
      · have hρ : (κ.view κ0.m.length σ m2).ρ b = κ.ρ c := by simp [Ctx.view, h1]
        rw [hρ]
        rcases h.blk c _ h2 with ⟨e, e'⟩ | ⟨e0, e1, c', t, e2, e3, e4, e5⟩
        · refine .inl ⟨e, ?_⟩
          cases B2 with
          | nil => rfl
          | cons x r => simp [renL] at e'
        · refine .inr ⟨e0, e1, c', t, e2, e3, by rw [renL_map] at e4; simpa using e4, fun i x hi hx => ?_⟩
          obtain ⟨v, g1, g2, g3⟩ := e5 i (ren κ0.m.length σ x) hi (by rw [renL_map, List.getElem?_map, hx]; rfl)
          exact ⟨v, g1, g2, E.view hv x g3⟩
    · obtain ⟨c1, C1, g1, g2, _⟩ := hv.src h1
      obtain ⟨c2, C2, g1', g2', _⟩ := hv.src h2
      simp only [Ctx.view, g1, g1', Option.getD_some] at hs1 hs2 ⊢
      refine h.ne c1 c2 C1 C2 (fun e => hbb ?_) g2 g2' hs1 hs2
      subst e
      exact renI_inj hv.nodup g1 g1'

/-! ### How a new view's memory is shown to be one -/
/-- The blocks that were there: unchanged, or told anew. -/
structure Outer (m0 : Mem) (σ : List Nat) (M M2 : Mem) : Prop where
  len : M.length = m0.length
  len2 : M2.length = m0.length
  get : ∀ b B2, M2.get b = some B2 → M.get b = some B2 ∧ (m0.get b = some B2 ∨ renL m0.length σ B2 = B2)
theorem Outer.refl (m0 : Mem) (σ : List Nat) : Outer m0 σ m0 m0 := ⟨rfl, rfl, fun _ _ h => ⟨h, .inl h⟩⟩
theorem Outer.set {m0 : Mem} {σ : List Nat} {M M2 : Mem} (h : Outer m0 σ M M2) (b : Nat) {B : List AV} (hB : renL m0.length σ B = B) : Outer m0 σ (M.set b (some B)) (M2.set b (some B)) := by
  refine ⟨by simp [h.len], by simp [h.len2], fun c C hC => ?_⟩
  by_cases hcb : c = b
  · subst hcb
    have hlt := Mem.get_lt hC
    rw [get_set_same _ (by simpa using hlt)] at hC
    injection hC with hC; subst hC
    exact ⟨get_set_same _ (by simp [h.len2] at hlt; rw [h.len]; exact hlt), .inr hB⟩
  · rw [get_set_ne _ hcb] at hC ⊢
    exact h.get c C hC
theorem Outer.gone {m0 : Mem} {σ : List Nat} {M M2 : Mem} (h : Outer m0 σ M M2) (b : Nat) (x : Option (List AV)) : Outer m0 σ (M.set b x) (M2.set b none) := by
  refine ⟨by simp [h.len], by simp [h.len2], fun c C hC => ?_⟩
  by_cases hcb : c = b
  · subst hcb
    have hlt := Mem.get_lt hC
    rw [get_set_same _ (by simpa using hlt)] at hC
    simp at hC
  · rw [get_set_ne _ hcb] at hC ⊢
    exact h.get c C hC

def VL (n : Nat) (σ : List Nat) (L : Mem) : Mem → List Nat → Prop
  | [], [] => True
  | none :: r, _ :: s => VL n σ L r s
  | some B :: r, j :: s => L[j]? = some (some (renL n σ B)) ∧ VL n σ L r s
  | _, _ => False
theorem VL.len {n : Nat} {σ : List Nat} {L : Mem} : ∀ {L2 : Mem} {s : List Nat}, VL n σ L L2 s → L2.length = s.length
  | [], [], _ => rfl
  | [], _ :: _, h => by simp [VL] at h
  | none :: r, [], h => by simp [VL] at h
  | some _ :: r, [], h => by simp [VL] at h
  | none :: r, _ :: s, h => by simp only [VL] at h; simp [VL.len h]
  | some B :: r, j :: s, h => by simp only [VL] at h; simp [VL.len h.2]
theorem VL.get {n : Nat} {σ : List Nat} {L : Mem} : ∀ {L2 : Mem} {s : List Nat}, VL n σ L L2 s → ∀ {i : Nat} {B : List AV}, L2[i]? = some (some B) → ∃ j, s[i]? = some j ∧ L[j]? = some (some (renL n σ B))
  | [], [], _, i, B, h => by simp at h
  | [], _ :: _, h, _, _, _ => by simp [VL] at h
  | none :: r, [], h, _, _, _ => by simp [VL] at h
  | some _ :: r, [], h, _, _, _ => by simp [VL] at h
  | none :: r, _ :: s, h, i, B, hi => by
    simp only [VL] at h
    cases i with
    | zero => simp at hi
    | succ i => simpa using VL.get h (i := i) (by simpa using hi)
  | some B' :: r, j :: s, h, i, B, hi => by
    simp only [VL] at h
    cases i with
    | zero => simp at hi; subst hi; exact ⟨j, rfl, h.1⟩
    | succ i => simpa using VL.get h.2 (i := i) (by simpa using hi)

theorem VOK.of {m0 M M2 L L2 : Mem} {σ : List Nat} (ho : Outer m0 σ M M2) (hσ : σ.Nodup) (hL : VL m0.length σ L L2 σ) : VOK m0 (M ++ L) σ (M2 ++ L2) := by
  refine ⟨by simp [ho.len2, hL.len], hσ, fun b B2 hB2 => ?_⟩
  by_cases hb : b < m0.length
  · rw [get_append_lt _ (by rw [ho.len2]; exact hb)] at hB2
    obtain ⟨h1, h2⟩ := ho.get b B2 hB2
    have h1' : Mem.get (M ++ L) b = some B2 := by rw [get_append_lt _ (by rw [ho.len]; exact hb)]; exact h1
    rcases h2 with h2 | h2
    · exact .inl ⟨hb, h1', h2⟩
    · exact .inr ⟨b, by simp [renI, hb], by rw [h2]; exact h1'⟩
  · obtain ⟨i, rfl⟩ : ∃ i, b = m0.length + i := ⟨b - m0.length, by omega⟩
    unfold Mem.get at hB2
    rw [List.getElem?_append_right (by rw [ho.len2]; omega), ho.len2, Nat.add_sub_cancel_left] at hB2
    cases hi : L2[i]? with
    | none => rw [hi] at hB2; simp at hB2
    | some x =>
      rw [hi] at hB2
      simp only [Option.getD_some] at hB2
      subst hB2
      obtain ⟨j, h1, h2⟩ := hL.get hi
      refine .inr ⟨m0.length + j, by simp only [renI, if_neg hb, Nat.add_sub_cancel_left, h1, Option.map_some], ?_⟩
      unfold Mem.get
      rw [List.getElem?_append_right (by rw [ho.len]; omega), ho.len, Nat.add_sub_cancel_left, h2]
      rfl
end
end Go.Proofs.Ytomigflbiijmpaa.Am
