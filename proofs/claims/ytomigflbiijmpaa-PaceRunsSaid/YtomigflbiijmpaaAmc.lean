/- THE ABSTRACT MEMORY: cells read and written in the world as in the abstract memory. -/
import Derived.Laws.CopyRow
import Derived.Test.YtomigflbiijmpaaAmb
namespace Go.Proofs.Ytomigflbiijmpaa.Am

/-- Cells written from a place on. -/
def setAt (B : List AV) (off : Nat) (xs : List AV) : List AV := B.take off ++ xs ++ B.drop (off + xs.length)

theorem setAt_length {B : List AV} {off : Nat} {xs : List AV} (h : off + xs.length ≤ B.length) : (setAt B off xs).length = B.length := by
  simp [setAt]; omega

theorem setAt_get {B : List AV} {off : Nat} {xs : List AV} (h : off + xs.length ≤ B.length) (i : Nat) :
    (setAt B off xs)[i]? = if i < off then B[i]? else if i < off + xs.length then xs[i - off]? else B[i]? := by
  unfold setAt
  by_cases h1 : i < off
  · rw [if_pos h1, List.append_assoc, List.getElem?_append_left (by simp; omega), List.getElem?_take_of_lt h1]
  · rw [if_neg h1]
    by_cases h2 : i < off + xs.length
    · rw [if_pos h2, List.append_assoc, List.getElem?_append_right (by simp; omega), List.getElem?_append_left (by simp; omega)]
      congr 1; simp; omega
    · rw [if_neg h2, List.getElem?_append_right (by simp; omega), List.getElem?_drop]
      congr 1; simp; omega

theorem setAt_one {B : List AV} {off : Nat} (x : AV) (h : off < B.length) : setAt B off [x] = B.set off x := by
  apply List.ext_getElem?
  intro i
  rw [setAt_get (by simp; omega), List.getElem?_set]
  simp only [List.length_singleton]
  by_cases h1 : i < off
  · rw [if_pos h1, if_neg (by omega)]
  · rw [if_neg h1]
    by_cases h2 : off = i
    · subst h2; simp [h]
    · rw [if_neg (by omega), if_neg h2]

theorem EList.length {κ : Ctx} : ∀ {cs : List AV} {l : List Value}, EList κ cs l → l.length = cs.length
  | [], l, h => by simp only [EList] at h; simp [h]
  | c :: r, l, h => by
    simp only [EList] at h
    obtain ⟨x, s, rfl, _, h2⟩ := h
    simp [EList.length h2]

theorem EList.get {κ : Ctx} : ∀ {cs : List AV} {l : List Value}, EList κ cs l → ∀ {i : Nat} {c : AV}, cs[i]? = some c → ∃ x, l[i]? = some x ∧ E κ c x
  | [], _, _, i, c, hc => by simp at hc
  | c0 :: r, l, h, i, c, hc => by
    simp only [EList] at h
    obtain ⟨x, s, rfl, h1, h2⟩ := h
    cases i with
    | zero => simp at hc; subst hc; exact ⟨x, by simp, h1⟩
    | succ i => simpa using EList.get h2 (by simpa using hc)

theorem EList.of_get {κ : Ctx} : ∀ {cs : List AV} {l : List Value}, l.length = cs.length → (∀ (i : Nat) (c : AV) (x : Value), cs[i]? = some c → l[i]? = some x → E κ c x) → EList κ cs l
  | [], l, h, _ => by simp only [EList]; exact List.length_eq_zero_iff.1 h
  | c :: r, [], h, _ => by simp at h
  | c :: r, x :: s, h, hE => by
    simp only [EList]
    exact ⟨x, s, rfl, hE 0 c x rfl rfl, EList.of_get (by simpa using h) fun i c' x' hc hx => hE (i + 1) c' x' (by simpa using hc) (by simpa using hx)⟩

theorem EList.append {κ : Ctx} : ∀ {cs ds : List AV} {l k : List Value}, EList κ cs l → EList κ ds k → EList κ (cs ++ ds) (l ++ k)
  | [], ds, l, k, h, h' => by simp only [EList] at h; subst h; simpa using h'
  | c :: r, ds, l, k, h, h' => by
    simp only [EList] at h
    obtain ⟨x, s, rfl, h1, h2⟩ := h
    simp only [List.cons_append, EList]
    exact ⟨x, s ++ k, rfl, h1, EList.append h2 h'⟩

theorem EList.take {κ : Ctx} (n : Nat) {cs : List AV} {l : List Value} (h : EList κ cs l) : EList κ (cs.take n) (l.take n) := by
  refine EList.of_get (by simp [h.length]) fun i c x hc hx => ?_
  rw [List.getElem?_take] at hc hx
  split at hc
  · rename_i hlt
    rw [if_pos hlt] at hx
    obtain ⟨y, hy, he⟩ := h.get hc
    rw [hy] at hx; injection hx with hx; exact hx ▸ he
  · simp at hc

theorem EList.drop {κ : Ctx} (n : Nat) {cs : List AV} {l : List Value} (h : EList κ cs l) : EList κ (cs.drop n) (l.drop n) := by
  refine EList.of_get (by simp [h.length]) fun i c x hc hx => ?_
  rw [List.getElem?_drop] at hc hx
  obtain ⟨y, hy, he⟩ := h.get hc
  rw [hy] at hx; injection hx with hx; exact hx ▸ he

theorem ECells.get {κ : Ctx} {k : Nat} : ∀ {cs : List AV} {i : Nat}, ECells κ k i cs → ∀ {j : Nat} {c : AV}, cs[j]? = some c → ∃ x, κ.w.cell? ⟨k, i + j, none⟩ = some x ∧ x.oneCell' = true ∧ E κ c x
  | [], _, _, j, c, hc => by simp at hc
  | c0 :: r, i, h, j, c, hc => by
    simp only [ECells] at h
    cases j with
    | zero => simp at hc; subst hc; simpa using h.1
    | succ j =>
      have := ECells.get h.2 (j := j) (c := c) (by simpa using hc)
      rwa [show i + 1 + j = i + (j + 1) by omega] at this

theorem ECells.of_get {κ : Ctx} {k : Nat} : ∀ {cs : List AV} {i : Nat}, (∀ (j : Nat) (c : AV), cs[j]? = some c → ∃ x, κ.w.cell? ⟨k, i + j, none⟩ = some x ∧ x.oneCell' = true ∧ E κ c x) → ECells κ k i cs
  | [], _, _ => by simp [ECells]
  | c :: r, i, h => by
    simp only [ECells]
    refine ⟨by simpa using h 0 c rfl, ECells.of_get fun j c' hc => ?_⟩
    have := h (j + 1) c' (by simpa using hc)
    rwa [show i + (j + 1) = i + 1 + j by omega] at this

theorem add_at (k i j : Nat) : (⟨k, i, none⟩ : Addr).add j = ⟨k, i + j, none⟩ := by unfold Addr.add; split <;> simp_all

theorem ECells.drop {κ : Ctx} {k i : Nat} {cs : List AV} (h : ECells κ k i cs) (n : Nat) : ECells κ k (i + n) (cs.drop n) :=
  ECells.of_get fun j c hc => by
    rw [List.getElem?_drop] at hc
    simpa [Nat.add_assoc] using h.get hc

theorem ECells.take {κ : Ctx} {k i : Nat} {cs : List AV} (h : ECells κ k i cs) (n : Nat) : ECells κ k i (cs.take n) :=
  ECells.of_get fun j c hc => by
    rw [List.getElem?_take] at hc
    split at hc
    · exact h.get hc
    · simp at hc

section
variable {w0 : World} {κ : Ctx} {P : Program}

/-- What the cells at an address hold. -/
theorem cells_at {a : Addr} (cs : List AV) (h : ∀ (j : Nat) (c : AV), cs[j]? = some c → ∃ x, κ.w.cell? (a.add j) = some x ∧ x.oneCell' = true ∧ E κ c x) :
    ∃ vs : List Value, (∀ (j : Nat) (v : Value), vs[j]? = some v → κ.w.cell? (a.add j) = some v) ∧ vs.length = cs.length ∧ (∀ x ∈ vs, x.oneCell' = true) ∧ EList κ cs vs := by
  let vs : List Value := (List.range cs.length).map fun j => (κ.w.cell? (a.add j)).getD undef
  have hlen : vs.length = cs.length := by simp [vs]
  have hget : ∀ (j : Nat) (x : Value), vs[j]? = some x → κ.w.cell? (a.add j) = some x ∧ x.oneCell' = true ∧ ∃ c, cs[j]? = some c ∧ E κ c x := by
    intro j x hx
    have hj : j < cs.length := by
      rcases Nat.lt_or_ge j cs.length with h' | h'
      · exact h'
      · rw [List.getElem?_eq_none (by omega)] at hx; simp at hx
    obtain ⟨y, hy, ho, he⟩ := h j cs[j] (by simp [hj])
    have : x = y := by simp [vs, hj, hy] at hx; exact hx.symm
    subst this
    exact ⟨hy, ho, cs[j], by simp [hj], he⟩
  refine ⟨vs, fun j v hv => (hget j v hv).1, hlen, fun x hx => ?_, EList.of_get hlen fun i c x hc hx => ?_⟩
  · obtain ⟨j, hj⟩ := List.getElem?_of_mem hx
    exact (hget j x hj).2.1
  · obtain ⟨_, _, c', hc', he⟩ := hget i x hx
    rw [hc] at hc'; injection hc' with hc'; exact hc' ▸ he

theorem loads {a : Addr} (cs : List AV) (h : ∀ (j : Nat) (c : AV), cs[j]? = some c → ∃ x, κ.w.cell? (a.add j) = some x ∧ x.oneCell' = true ∧ E κ c x) :
    ∃ vs, (loadCells a cs.length).run P κ.w = .ok vs.toArray κ.w ∧ (∀ x ∈ vs, x.oneCell' = true) ∧ EList κ cs vs := by
  obtain ⟨vs, h1, h2, h3, h4⟩ := cells_at cs h
  exact ⟨vs, by rw [← h2]; exact run_loadCells_list κ.w a vs h1, h3, h4⟩

theorem Sat.cell (h : Sat w0 κ) {b off : Nat} {B : List AV} {x : AV} (hb : κ.m.get b = some B) (ho : (κ.ρ b).shift ≤ off) (hx : B[off]? = some x) :
    ∃ v, κ.w.cell? (κ.at b off) = some v ∧ v.oneCell' = true ∧ E κ x v := by
  rcases h.blk b B hb with ⟨_, rfl⟩ | ⟨_, _, c, e, h1, _, _, h2⟩
  · simp at hx
  obtain ⟨v, hv, ho', he⟩ := h2 off x ho hx
  exact ⟨v, by simp [World.cell?, Ctx.at, h1, hv], ho', he⟩

theorem Sat.cells (h : Sat w0 κ) {b off n : Nat} {B : List AV} (hb : κ.m.get b = some B) (ho : (κ.ρ b).shift ≤ off) (hn : off + n ≤ B.length) :
    ∃ vs : List Value, (∀ (j : Nat) (v : Value), vs[j]? = some v → κ.w.cell? ((κ.at b off).add j) = some v) ∧ vs.length = n ∧ (∀ x ∈ vs, x.oneCell' = true) ∧ EList κ ((B.drop off).take n) vs := by
  have hl : ((B.drop off).take n).length = n := by simp; omega
  have := Am.cells_at (κ := κ) (a := κ.at b off) ((B.drop off).take n) (fun j c hc => by
    rw [List.getElem?_take] at hc
    split at hc
    · rw [List.getElem?_drop] at hc
      obtain ⟨v, hv, r⟩ := h.cell hb (by omega) hc
      refine ⟨v, ?_, r⟩
      rw [← hv]
      simp only [Ctx.at, add_at]
      congr 2; omega
    · simp at hc)
  rwa [hl] at this

theorem Sat.loads (h : Sat w0 κ) {b off n : Nat} {B : List AV} (hb : κ.m.get b = some B) (ho : (κ.ρ b).shift ≤ off) (hn : off + n ≤ B.length) :
    ∃ vs, (loadCells (κ.at b off) n).run P κ.w = .ok vs.toArray κ.w ∧ (∀ x ∈ vs, x.oneCell' = true) ∧ EList κ ((B.drop off).take n) vs := by
  obtain ⟨vs, h1, h2, h3, h4⟩ := h.cells hb ho hn
  exact ⟨vs, by rw [← h2]; exact run_loadCells_list κ.w _ vs h1, h3, h4⟩

theorem set_same {m : Mem} {b : Nat} {B : List AV} (hb : m.get b = some B) : m.set b (some B) = m := by
  have hlt := Mem.get_lt hb
  apply List.ext_getElem?
  intro i
  rw [List.getElem?_set]
  split
  · rename_i h; subst h
    unfold Mem.get at hb
    rw [List.getElem?_eq_getElem hlt] at hb ⊢
    simpa [hlt] using hb.symm
  · rfl

/-- Cells written. -/
theorem Sat.stores (h : Sat w0 κ) {b off : Nat} {B xs : List AV} {vs : List Value} (hb : κ.m.get b = some B) (ho : (κ.ρ b).shift ≤ off) (hn : off + xs.length ≤ B.length)
    (hone : ∀ x ∈ vs, x.oneCell' = true) (hE : EList κ xs vs) :
    ∃ w', (storeCells (κ.at b off) vs).run P κ.w = .ok () w' ∧ Fr κ ⟨κ.ρ, κ.m.set b (some (setAt B off xs)), w'⟩ ∧ Sat w0 ⟨κ.ρ, κ.m.set b (some (setAt B off xs)), w'⟩ := by
  have hlen := hE.length
  rcases h.blk b B hb with ⟨h0, rfl⟩ | ⟨h0, _, c, e, h1, h2, h3, h4⟩
  · have hx : xs = [] := List.length_eq_zero_iff.1 (by simp only [List.length_nil] at hn; omega)
    subst hx
    simp only [EList] at hE
    subst hE
    refine ⟨κ.w, by simp [storeCells], ?_⟩
    have : setAt [] off [] = [] := by simp [setAt]
    rw [this, set_same hb]
    exact ⟨Fr.refl κ, h⟩
  · have hlt := h.lt hb h0
    have hrun := run_storeCells_at (P := P) (κ.ρ b).blk (off - (κ.ρ b).shift) e vs 0 c κ.w h1 (by omega) hone
    refine ⟨_, hrun, ?_⟩
    simp only [Nat.add_zero]
    have hs : ∀ (c' : Array Value), (κ.w.setRow (κ.ρ b).blk c').heap[(κ.ρ b).blk]? = some (.cells c' e (0, 0)) := fun c' => setRow_heap _ _ c c' e _ h1
    refine step_set h hb h0 (c' := (c.toList.take (off - (κ.ρ b).shift) ++ vs ++ c.toList.drop (off - (κ.ρ b).shift + vs.length)).toArray) (e' := e) ⟨rfl, rfl⟩ (by rw [setAt_length hn]; exact Nat.le_refl _) ?_ (hs _) ?_ ?_ ?_ ?_
    · simp [World.setRow]
    · intro i hi
      simp [World.setRow, Array.getElem?_modify, Ne.symm hi]
    · simp; omega
    · rw [setAt_length hn]; simp; omega
    · intro i x hi hx
      rw [setAt_get hn] at hx
      have hcs : c.size = c.toList.length := by simp
      by_cases c1 : i < off
      · rw [if_pos c1] at hx
        obtain ⟨v, hv, r⟩ := h4 i x hi hx
        refine ⟨v, ?_, r⟩
        rw [List.getElem?_toArray, List.append_assoc, List.getElem?_append_left (by simp; omega), List.getElem?_take_of_lt (by omega)]
        simpa using hv
      · rw [if_neg c1] at hx
        by_cases c2 : i < off + xs.length
        · rw [if_pos c2] at hx
          obtain ⟨v, hv, he⟩ := hE.get hx
          refine ⟨v, ?_, hone v (List.mem_of_getElem? hv), he⟩
          rw [List.getElem?_toArray, List.append_assoc, List.getElem?_append_right (by simp; omega), List.getElem?_append_left (by simp; omega), ← hv]
          congr 1; simp; omega
        · rw [if_neg c2] at hx
          obtain ⟨v, hv, r⟩ := h4 i x hi hx
          refine ⟨v, ?_, r⟩
          rw [List.getElem?_toArray, List.getElem?_append_right (by simp; omega), List.getElem?_drop]
          simp only [List.length_append, List.length_take]
          rw [show off - (κ.ρ b).shift + vs.length + (i - (κ.ρ b).shift - (min (off - (κ.ρ b).shift) c.toList.length + vs.length)) = i - (κ.ρ b).shift by omega]
          simpa using hv
end
end Go.Proofs.Ytomigflbiijmpaa.Am
