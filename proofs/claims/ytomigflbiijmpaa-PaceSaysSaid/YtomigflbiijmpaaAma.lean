/- THE ABSTRACT MEMORY: abstract values and blocks, what it is for a world to hold them, and that this lasts while other memory is made or written. Plain definitions and lemmas over any program; nothing is assumed. -/
import Derived.Calls
import Derived.Laws.Sem
import Derived.Laws.World
namespace Go.Proofs.Ytomigflbiijmpaa.Am

/-- An abstract value. 'any': nothing is known of it. 'lst': a slice whose cells nobody writes any more, by its cells ('sz': how many an element has). 'zs': a slice of length and capacity 0. 'sl', 'ptr': into a block of the abstract memory; 'tag' is how many cells the block had when it was made. 'ip': a pointer to cells that nobody writes any more. -/
inductive AV where
  | any
  | raw (v : Value)
  | lst (sz : Nat) (cs : List AV)
  | zs
  | sl (b tag off len sz : Nat)
  | ptr (b tag off : Nat)
  | ip (cs : List AV)
  | agg (cs : List AV)
  | ifc (t : TypeId) (v : AV)
  | fn (f : Fn) (first caps : List AV)
  | tup (vs : List AV)
  deriving Inhabited

/-- A block is its cells; 'none': one that is no longer spoken of, or not yet. -/
abbrev Mem := List (Option (List AV))

def Mem.get (m : Mem) (b : Nat) : Option (List AV) := (m[b]?).getD none

/-- Where a block is: its number in the world; the abstract cell 'shift' is its first one; how many cells it has there (0: it is nowhere, and has none). -/
structure Rep where
  blk : Nat
  shift : Nat
  size : Nat

structure Ctx where
  ρ : Nat → Rep
  m : Mem
  w : World

/-- Nobody writes this block of the world. -/
def Ctx.still (κ : Ctx) (k : Nat) : Prop := k < κ.w.heap.size ∧ ∀ b B, κ.m.get b = some B → (κ.ρ b).size ≠ 0 → (κ.ρ b).blk ≠ k

def Ctx.at (κ : Ctx) (b off : Nat) : Addr := ⟨(κ.ρ b).blk, off - (κ.ρ b).shift, none⟩

mutual
def E (κ : Ctx) : AV → Value → Prop
  | .any, _ => True
  | .raw u, v => v = u
  | .lst sz cs, v => ((∃ a c, v = .slice a 0 c) ∧ cs = []) ∨ ∃ k i len cap, v = .slice (some ⟨k, i, none⟩) len cap ∧ len * sz = cs.length ∧ len ≤ cap ∧ κ.still k ∧ ECells κ k i cs
  | .zs, v => ∃ a, v = .slice a 0 0
  | .sl b tag off len sz, v => b < κ.m.length ∧ ∀ B, κ.m.get b = some B → tag ≤ B.length ∧ (tag = B.length → off + len * sz ≤ B.length ∧
      ((len = 0 ∧ ∃ a, v = .slice a 0 0) ∨ ∃ cap, v = .slice (some (κ.at b off)) len cap ∧ (κ.ρ b).shift ≤ off ∧ len ≤ cap ∧ 0 < cap ∧ off - (κ.ρ b).shift + cap * sz ≤ (κ.ρ b).size))
  | .ptr b tag off, v => b < κ.m.length ∧ ∀ B, κ.m.get b = some B → tag ≤ B.length ∧ (tag = B.length → v = .pointer (some (κ.at b off)) ∧ (κ.ρ b).shift ≤ off)
  | .ip cs, v => ∃ k i, v = .pointer (some ⟨k, i, none⟩) ∧ κ.still k ∧ ECells κ k i cs
  | .agg cs, v => ∃ vs : List Value, v = .agg vs.toArray ∧ (∀ x ∈ vs, x.oneCell' = true) ∧ EList κ cs vs
  | .ifc t x, v => ∃ y, v = .iface t y ∧ E κ x y
  | .fn f a c, v => ∃ xs ys : List Value, v = .func f xs.toArray ys.toArray ∧ EList κ a xs ∧ EList κ c ys
  | .tup cs, v => ∃ vs : List Value, v = .tuple vs.toArray ∧ EList κ cs vs
def ECells (κ : Ctx) (k : Nat) : Nat → List AV → Prop
  | _, [] => True
  | i, c :: r => (∃ x, κ.w.cell? ⟨k, i, none⟩ = some x ∧ x.oneCell' = true ∧ E κ c x) ∧ ECells κ k (i + 1) r
def EList (κ : Ctx) : List AV → List Value → Prop
  | [], l => l = []
  | c :: r, l => ∃ x s, l = x :: s ∧ E κ c x ∧ EList κ r s
end

/-- What no step of ours turns. -/
structure Kept (w w' : World) : Prop where
  os : w'.os = w.os
  out : w'.output = w.output
  frz : ∀ a, w'.frozen? a = w.frozen? a
def Side (w w' : World) : Prop := w'.os = w.os ∧ w'.output = w.output
theorem Kept.refl (w : World) : Kept w w := ⟨rfl, rfl, fun _ => rfl⟩
theorem Kept.trans {w w' w'' : World} (h : Kept w w') (h' : Kept w' w'') : Kept w w'' := ⟨h'.os.trans h.os, h'.out.trans h.out, fun a => (h'.frz a).trans (h.frz a)⟩
theorem Kept.heap {w w' : World} (hw : w'.heap = w.heap) (h : Side w w') : Kept w w' := ⟨h.1, h.2, fun a => by simp only [World.frozen?, hw]⟩
theorem Kept.push {w w' : World} {c : Array Value} {e : TypeId} (hw : w'.heap = w.heap.push (.cells c e (0, 0))) (h : Side w w') : Kept w w' := by
  refine ⟨h.1, h.2, fun a => ?_⟩
  simp only [World.frozen?, hw]
  rcases Nat.lt_trichotomy a.block w.heap.size with hl | hl | hl
  · rw [Array.getElem?_push_lt hl, Array.getElem?_eq_getElem hl]
  · rw [hl]; simp
  · rw [Array.getElem?_eq_none (by simp; omega), Array.getElem?_eq_none (by omega)]
theorem Kept.set {w w' : World} {k : Nat} {c c' : Array Value} {e e' : TypeId} (h0 : w.heap[k]? = some (.cells c e (0, 0))) (h1 : w'.heap[k]? = some (.cells c' e' (0, 0))) (ho : ∀ i, i ≠ k → w'.heap[i]? = w.heap[i]?) (h : Side w w') : Kept w w' := by
  refine ⟨h.1, h.2, fun a => ?_⟩
  simp only [World.frozen?]
  by_cases ha : a.block = k
  · rw [ha, h0, h1]
  · rw [ho _ ha]

/-- What may have become of the memory: what was spoken of is as it was, or is spoken of no more. -/
structure Fr (κ κ' : Ctx) : Prop where
  size : κ.w.heap.size ≤ κ'.w.heap.size
  same : ∀ i, i < κ.w.heap.size → (∀ b B, κ.m.get b = some B → (κ.ρ b).size ≠ 0 → (κ.ρ b).blk ≠ i) → κ'.w.heap[i]? = κ.w.heap[i]?
  len : κ.m.length ≤ κ'.m.length
  blk : ∀ b, b < κ.m.length → ∀ B', κ'.m.get b = some B' → ∃ B, κ.m.get b = some B ∧ B.length ≤ B'.length ∧ (B'.length = B.length → κ'.ρ b = κ.ρ b)
  src : ∀ b B', κ'.m.get b = some B' → (κ'.ρ b).size ≠ 0 → (∃ B, κ.m.get b = some B ∧ (κ.ρ b).size ≠ 0 ∧ (κ'.ρ b).blk = (κ.ρ b).blk) ∨ κ.w.heap.size ≤ (κ'.ρ b).blk
  kept : Kept κ.w κ'.w

theorem Mem.get_lt {m : Mem} {b : Nat} {B : List AV} (h : m.get b = some B) : b < m.length := by
  unfold Mem.get at h
  rcases Nat.lt_or_ge b m.length with h' | h'
  · exact h'
  · rw [List.getElem?_eq_none h'] at h; simp at h

theorem Fr.refl (κ : Ctx) : Fr κ κ where
  size := Nat.le_refl _
  same := fun _ _ _ => rfl
  len := Nat.le_refl _
  blk := fun _ _ B h => ⟨B, h, Nat.le_refl _, fun _ => rfl⟩
  src := fun _ B h h0 => .inl ⟨B, h, h0, rfl⟩
  kept := Kept.refl _

theorem Fr.trans {κ κ' κ'' : Ctx} (h : Fr κ κ') (h' : Fr κ' κ'') : Fr κ κ'' where
  size := Nat.le_trans h.size h'.size
  same := fun i hi hn => by
    rw [h'.same i (Nat.lt_of_lt_of_le hi h.size), h.same i hi hn]
    intro b B hb h0 hbi
    rcases h.src b B hb h0 with ⟨B0, hB0, h00, e⟩ | hge
    · exact hn b B0 hB0 h00 (e ▸ hbi)
    · omega
  len := Nat.le_trans h.len h'.len
  blk := fun b hb B'' hB'' => by
    obtain ⟨B', hB', l1, r1⟩ := h'.blk b (Nat.lt_of_lt_of_le hb h.len) B'' hB''
    obtain ⟨B, hB, l2, r2⟩ := h.blk b hb B' hB'
    exact ⟨B, hB, Nat.le_trans l2 l1, fun e => (r1 (by omega)).trans (r2 (by omega))⟩
  src := fun b B'' hB'' h0 => by
    rcases h'.src b B'' hB'' h0 with ⟨B', hB', h0', e⟩ | hge
    · rcases h.src b B' hB' h0' with ⟨B, hB, h00, e'⟩ | hge'
      · exact .inl ⟨B, hB, h00, e.trans e'⟩
      · exact .inr (e ▸ hge')
    · exact .inr (Nat.le_trans h.size hge)
  kept := h.kept.trans h'.kept

theorem Fr.still {κ κ' : Ctx} (h : Fr κ κ') {k : Nat} (hs : κ.still k) : κ'.still k := by
  refine ⟨Nat.lt_of_lt_of_le hs.1 h.size, fun b B hB h0 e => ?_⟩
  rcases h.src b B hB h0 with ⟨B0, hB0, h00, e'⟩ | hge
  · exact hs.2 b B0 hB0 h00 (e' ▸ e)
  · have := hs.1; omega

theorem cell_of_heap {w w' : World} {k : Nat} (h : w'.heap[k]? = w.heap[k]?) (i : Nat) : w'.cell? ⟨k, i, none⟩ = w.cell? ⟨k, i, none⟩ := by
  simp only [World.cell?, h]

mutual
theorem E.mono {κ κ' : Ctx} (h : Fr κ κ') : (x : AV) → {v : Value} → E κ x v → E κ' x v
  | .any, _, _ => by simp [E]
  | .raw u, _, e => by simpa [E] using e
  | .lst sz cs, v, e => by
    simp only [E] at e ⊢
    rcases e with e | ⟨k, i, len, cap, e1, e2, e3, e4, e5⟩
    · exact .inl e
    · exact .inr ⟨k, i, len, cap, e1, e2, e3, h.still e4, ECells.mono h e4 cs i e5⟩
  | .zs, _, e => by simpa [E] using e
  | .sl b tag off len sz, v, e => by
    simp only [E] at e ⊢
    refine ⟨Nat.lt_of_lt_of_le e.1 h.len, fun B' hB' => ?_⟩
    obtain ⟨B, hB, l1, r1⟩ := h.blk b e.1 B' hB'
    obtain ⟨t1, t2⟩ := e.2 B hB
    refine ⟨by omega, fun ht => ?_⟩
    have hr := r1 (by omega)
    obtain ⟨a0, t2⟩ := t2 (by omega)
    refine ⟨by omega, ?_⟩
    rcases t2 with t2 | ⟨cap, a1, a2, a3, a4, a5⟩
    · exact .inl t2
    · exact .inr ⟨cap, by rw [a1]; simp [Ctx.at, hr], by rw [hr]; exact a2, a3, a4, by rw [hr]; exact a5⟩
  | .ptr b tag off, v, e => by
    simp only [E] at e ⊢
    refine ⟨Nat.lt_of_lt_of_le e.1 h.len, fun B' hB' => ?_⟩
    obtain ⟨B, hB, l1, r1⟩ := h.blk b e.1 B' hB'
    obtain ⟨t1, t2⟩ := e.2 B hB
    refine ⟨by omega, fun ht => ?_⟩
    have hr := r1 (by omega)
    obtain ⟨a1, a2⟩ := t2 (by omega)
    refine ⟨?_, ?_⟩
    · rw [a1]; simp [Ctx.at, hr]
    · rw [hr]; exact a2
  | .ip cs, v, e => by
    simp only [E] at e ⊢
    obtain ⟨k, i, e1, e2, e3⟩ := e
    exact ⟨k, i, e1, h.still e2, ECells.mono h e2 cs i e3⟩
  | .agg cs, v, e => by
    simp only [E] at e ⊢
    obtain ⟨vs, e1, e0, e2⟩ := e
    exact ⟨vs, e1, e0, EList.mono h cs e2⟩
  | .ifc t x, v, e => by
    simp only [E] at e ⊢
    obtain ⟨y, e1, e2⟩ := e
    exact ⟨y, e1, E.mono h x e2⟩
  | .fn f a c, v, e => by
    simp only [E] at e ⊢
    obtain ⟨xs, ys, e1, e2, e3⟩ := e
    exact ⟨xs, ys, e1, EList.mono h a e2, EList.mono h c e3⟩
  | .tup cs, v, e => by
    simp only [E] at e ⊢
    obtain ⟨vs, e1, e2⟩ := e
    exact ⟨vs, e1, EList.mono h cs e2⟩
theorem ECells.mono {κ κ' : Ctx} (h : Fr κ κ') {k : Nat} (hs : κ.still k) : (cs : List AV) → (i : Nat) → ECells κ k i cs → ECells κ' k i cs
  | [], _, _ => by simp [ECells]
  | c :: r, i, e => by
    simp only [ECells] at e ⊢
    obtain ⟨⟨x, e1, e0, e2⟩, e3⟩ := e
    exact ⟨⟨x, (cell_of_heap (h.same k hs.1 hs.2) i).trans e1, e0, E.mono h c e2⟩, ECells.mono h hs r (i + 1) e3⟩
theorem EList.mono {κ κ' : Ctx} (h : Fr κ κ') : (cs : List AV) → {l : List Value} → EList κ cs l → EList κ' cs l
  | [], _, e => by simpa [EList] using e
  | c :: r, l, e => by
    simp only [EList] at e ⊢
    obtain ⟨x, s, e1, e2, e3⟩ := e
    exact ⟨x, s, e1, E.mono h c e2, EList.mono h r e3⟩
end

/-- The world holds the abstract memory; what was there at the beginning ('w0') is as it was. -/
structure Sat (w0 : World) (κ : Ctx) : Prop where
  old : w0.heap.size ≤ κ.w.heap.size
  same : ∀ i, i < w0.heap.size → κ.w.heap[i]? = w0.heap[i]?
  blk : ∀ b B, κ.m.get b = some B → ((κ.ρ b).size = 0 ∧ B = []) ∨ (κ.ρ b).size ≠ 0 ∧ w0.heap.size ≤ (κ.ρ b).blk ∧ ∃ c e, κ.w.heap[(κ.ρ b).blk]? = some (.cells c e (0, 0)) ∧ c.size = (κ.ρ b).size ∧ B.length ≤ (κ.ρ b).shift + c.size ∧
    ∀ i x, (κ.ρ b).shift ≤ i → B[i]? = some x → ∃ v, c[i - (κ.ρ b).shift]? = some v ∧ v.oneCell' = true ∧ E κ x v
  ne : ∀ b b' B B', b ≠ b' → κ.m.get b = some B → κ.m.get b' = some B' → (κ.ρ b).size ≠ 0 → (κ.ρ b').size ≠ 0 → (κ.ρ b).blk ≠ (κ.ρ b').blk

theorem Sat.real {w0 : World} {κ : Ctx} (h : Sat w0 κ) {b : Nat} {B : List AV} (hb : κ.m.get b = some B) (h0 : (κ.ρ b).size ≠ 0) : w0.heap.size ≤ (κ.ρ b).blk ∧ ∃ c e, κ.w.heap[(κ.ρ b).blk]? = some (.cells c e (0, 0)) ∧ c.size = (κ.ρ b).size ∧ B.length ≤ (κ.ρ b).shift + c.size ∧
    ∀ i x, (κ.ρ b).shift ≤ i → B[i]? = some x → ∃ v, c[i - (κ.ρ b).shift]? = some v ∧ v.oneCell' = true ∧ E κ x v := by
  rcases h.blk b B hb with h' | h'
  · exact absurd h'.1 h0
  · exact h'.2

theorem Sat.lt {w0 : World} {κ : Ctx} (h : Sat w0 κ) {b : Nat} {B : List AV} (hb : κ.m.get b = some B) (h0 : (κ.ρ b).size ≠ 0) : (κ.ρ b).blk < κ.w.heap.size := by
  obtain ⟨_, c, e, h1, _⟩ := h.real hb h0
  rcases Nat.lt_or_ge (κ.ρ b).blk κ.w.heap.size with h' | h'
  · exact h'
  · rw [Array.getElem?_eq_none h'] at h1; simp at h1

end Go.Proofs.Ytomigflbiijmpaa.Am
