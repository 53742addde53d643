/- THE ABSTRACT MEMORY: aggregates and slices that are made: what each operation gives, and that the model's operation gives it. -/
import Derived.Test.YtomigflbiijmpaaAmg
namespace Go.Proofs.Ytomigflbiijmpaa.Am

theorem fold_get (off : Nat) : ∀ (vs : List Value) (k : Nat) (cs : Array Value), off + k + vs.length ≤ cs.size →
    ((vs.zipIdx k).foldl (fun (cs : Array Value) (p : Value × Nat) => cs.setIfInBounds (off + p.2) p.1) cs).size = cs.size ∧
    ∀ i : Nat, ((vs.zipIdx k).foldl (fun (cs : Array Value) (p : Value × Nat) => cs.setIfInBounds (off + p.2) p.1) cs)[i]? = if off + k ≤ i ∧ i < off + k + vs.length then vs[i - (off + k)]? else cs[i]?
  | [], k, cs, _ => by
    refine ⟨rfl, fun i => ?_⟩
    rw [if_neg (by simp only [List.length_nil]; omega)]; rfl
  | v :: r, k, cs, h => by
    simp only [List.length_cons] at h
    have ih := fold_get off r (k + 1) (cs.setIfInBounds (off + k) v) (by simp; omega)
    simp only [List.zipIdx_cons, List.foldl_cons]
    refine ⟨by rw [ih.1]; simp, fun i => ?_⟩
    rw [ih.2 i]
    simp only [List.length_cons]
    by_cases h1 : off + (k + 1) ≤ i ∧ i < off + (k + 1) + r.length
    · rw [if_pos h1, if_pos (by omega)]
      rw [show i - (off + k) = (i - (off + (k + 1))) + 1 by omega]
      simp
    · rw [if_neg h1]
      by_cases h2 : i = off + k
      · subst h2
        rw [if_pos (by omega)]
        simp [Array.getElem?_setIfInBounds_self_of_lt (show off + k < cs.size by omega)]
      · rw [if_neg (by omega), Array.getElem?_setIfInBounds_ne (by omega)]

theorem fold_setAt {κ : Ctx} {B xs : List AV} {cs : Array Value} {v : Value} {off : Nat} (hB : EList κ B cs.toList) (hx : EList κ xs v.cells.toList) (h : off + xs.length ≤ B.length) :
    EList κ (setAt B off xs) (v.cells.zipIdx.foldl (fun cs (c, j) => cs.setIfInBounds (off + j) c) cs).toList := by
  have h1 := hB.length
  have h2 := hx.length
  have hf := fold_get off v.cells.toList 0 cs (by simp at h1 h2 ⊢; omega)
  have he : v.cells.zipIdx.foldl (fun (cs : Array Value) (p : Value × Nat) => cs.setIfInBounds (off + p.2) p.1) cs = (v.cells.toList.zipIdx 0).foldl (fun (cs : Array Value) (p : Value × Nat) => cs.setIfInBounds (off + p.2) p.1) cs := by
    rw [← Array.foldl_toList]; simp
  show EList κ _ (v.cells.zipIdx.foldl (fun (cs : Array Value) (p : Value × Nat) => cs.setIfInBounds (off + p.2) p.1) cs).toList
  rw [he]
  refine EList.of_get ?_ fun i c x hc hx' => ?_
  · rw [setAt_length h]; simp only [Array.length_toList]; rw [hf.1]; simpa using h1
  · rw [setAt_get h] at hc
    rw [Array.getElem?_toList, hf.2 i] at hx'
    simp only [Nat.add_zero] at hx'
    by_cases c1 : i < off
    · rw [if_pos c1] at hc
      rw [if_neg (by omega)] at hx'
      obtain ⟨y, hy, he⟩ := hB.get hc
      rw [Array.getElem?_toList, hx'] at hy; injection hy with hy; exact hy ▸ he
    · rw [if_neg c1] at hc
      by_cases c2 : i < off + xs.length
      · rw [if_pos c2] at hc
        rw [if_pos (by omega)] at hx'
        obtain ⟨y, hy, he⟩ := hx.get hc
        rw [hx'] at hy; injection hy with hy; exact hy ▸ he
      · rw [if_neg c2] at hc
        rw [if_neg (by omega)] at hx'
        obtain ⟨y, hy, he⟩ := hB.get hc
        rw [Array.getElem?_toList, hx'] at hy; injection hy with hy; exact hy ▸ he

theorem fold_one {cs : Array Value} {v : Value} {off : Nat} (h1 : ∀ x ∈ cs, x.oneCell' = true) (h2 : ∀ x ∈ v.cells, x.oneCell' = true) (h : off + v.cells.size ≤ cs.size) :
    ∀ x ∈ v.cells.zipIdx.foldl (fun cs (c, j) => cs.setIfInBounds (off + j) c) cs, x.oneCell' = true := by
  have hf := fold_get off v.cells.toList 0 cs (by simp; omega)
  have he : v.cells.zipIdx.foldl (fun (cs : Array Value) (p : Value × Nat) => cs.setIfInBounds (off + p.2) p.1) cs = (v.cells.toList.zipIdx 0).foldl (fun (cs : Array Value) (p : Value × Nat) => cs.setIfInBounds (off + p.2) p.1) cs := by
    rw [← Array.foldl_toList]; simp
  show ∀ x ∈ v.cells.zipIdx.foldl (fun (cs : Array Value) (p : Value × Nat) => cs.setIfInBounds (off + p.2) p.1) cs, x.oneCell' = true
  rw [he]
  intro x hx
  obtain ⟨i, hi⟩ := Array.getElem?_of_mem hx
  rw [hf.2 i] at hi
  split at hi
  · exact h2 x (by simpa using List.mem_of_getElem? hi)
  · exact h1 x (Array.mem_of_getElem? hi)

section
variable (P : Program) (K : Kn)

/-- Parts laid into cells. -/
def rFill (m : Mem) (place : Nat → Option (Nat × Nat)) : List AV → List (Nat × AV) → (List AV → Prop) → Prop
  | B, [], c => c B
  | B, (i, v) :: r, c => match place i with
    | some (off, size) => (match v with
      | .agg xs => xs.length = size ∧ off + size ≤ B.length ∧ rFill m place (setAt B off xs) r c
      | v => single v = true ∧ fresh m v ∧ size = 1 ∧ off < B.length ∧ rFill m place (B.set off v) r c)
    | none => False

def EParts (κ : Ctx) : List (Nat × AV) → List (Nat × Value) → Prop
  | [], l => l = []
  | (i, v) :: r, l => ∃ x s, l = (i, x) :: s ∧ E κ v x ∧ EParts κ r s

theorem rFill_ok {κ : Ctx} {place : Nat → Option (Nat × Nat)} {c : List AV → Prop} : ∀ {parts : List (Nat × AV)} {B : List AV} {ps : List (Nat × Value)} {cs : Array Value}, EParts κ parts ps → EList κ B cs.toList → (∀ x ∈ cs, x.oneCell' = true) → rFill κ.m place B parts c →
    ∃ B' cs', Instr.fill place cs ps = some cs' ∧ EList κ B' cs'.toList ∧ (∀ x ∈ cs', x.oneCell' = true) ∧ B'.length = B.length ∧ c B'
  | [], B, ps, cs, hp, hB, ho, h => by
    simp only [EParts] at hp; subst hp
    exact ⟨B, cs, rfl, hB, ho, rfl, h⟩
  | (i, v) :: r, B, ps, cs, hp, hB, ho, h => by
    simp only [EParts] at hp
    obtain ⟨x, s, rfl, hv, hr⟩ := hp
    simp only [rFill] at h
    have hlen := hB.length
    simp only [Array.length_toList] at hlen
    cases hpl : place i with
    | none => simp [hpl] at h
    | some os =>
      obtain ⟨off, size⟩ := os
      simp only [hpl] at h
      have go : ∀ xs : List AV, EList κ xs x.cells.toList → (∀ z ∈ x.cells, z.oneCell' = true) → xs.length = size → off + size ≤ B.length → rFill κ.m place (setAt B off xs) r c →
          ∃ B' cs', Instr.fill place cs ((i, x) :: s) = some cs' ∧ EList κ B' cs'.toList ∧ (∀ x ∈ cs', x.oneCell' = true) ∧ B'.length = B.length ∧ c B' := by
        intro xs hxs hone h1 h2 h3
        have hl := hxs.length
        simp only [Array.length_toList] at hl
        obtain ⟨B', cs', e1, e2, e3, e4, e5⟩ := rFill_ok hr (fold_setAt hB hxs (by omega)) (fold_one ho hone (by omega)) h3
        refine ⟨B', cs', ?_, e2, e3, by rw [e4, setAt_length (by omega)], e5⟩
        have hc : (decide (x.cells.size ≠ size) || decide (off + x.cells.size > cs.size)) = false := by simp; omega
        simp only [Instr.fill, hpl]
        rw [if_neg (by simpa using hc)]
        exact e1
      have one : (single v = true ∧ fresh κ.m v ∧ size = 1 ∧ off < B.length ∧ rFill κ.m place (B.set off v) r c) → ∃ B' cs', Instr.fill place cs ((i, x) :: s) = some cs' ∧ EList κ B' cs'.toList ∧ (∀ x ∈ cs', x.oneCell' = true) ∧ B'.length = B.length ∧ c B' := by
        rintro ⟨h1, h2, h3, h4, h5⟩
        obtain ⟨o1, o2⟩ := h2.single h1 hv
        refine go [v] ?_ ?_ (by simp [h3]) (by omega) (by rw [setAt_one v h4]; exact h5)
        · rw [o2]; simp only [EList]; exact ⟨x, [], rfl, hv, rfl⟩
        · rw [o2]; simpa using o1
      cases v with
      | agg xs =>
        simp only [E] at hv
        obtain ⟨vs, rfl, hone, hE⟩ := hv
        exact go xs (by simpa [Value.cells] using hE) (by simpa [Value.cells] using hone) h.1 h.2.1 h.2.2
      | _ => exact one h

def placeT (t : TypeId) (i : Nat) : Option (Nat × Nat) := match P.underlying t with
  | some (.struct fs) => (fs[i]?).bind fun f => (szT P f.type).map fun n => (f.offset, n)
  | some (.array _ e) => (szT P e).map fun n => (i * n, n)
  | _ => none
def fieldsOk (t : TypeId) : Bool := match P.underlying t with
  | some (.struct fs) => fs.toList.all fun f => (szT P f.type).isSome
  | some (.array _ e) => (szT P e).isSome
  | _ => false
def rBuild (t : TypeId) (m : Mem) (parts : List (Nat × AV)) (c : AV → Prop) : Prop := fieldsOk P t = true ∧ (match zeroA P t with
  | some zs => rFill m (placeT P t) zs parts fun B => c (.agg B)
  | none => False)
variable {P}

theorem fill_congr {p q : Nat → Option (Nat × Nat)} (h : ∀ i, p i = q i) (cs : Array Value) (ps : List (Nat × Value)) : Instr.fill p cs ps = Instr.fill q cs ps := by
  rw [show p = q from funext h]

theorem mapM_sizes {fs : List Field} (h : fs.all (fun f => (szT P f.type).isSome) = true) (w : World) :
    ∃ l : List (Nat × Nat), (fs.mapM fun f => (do pure (f.offset, ← sizeOf f.type) : Sem (Nat × Nat))).run P w = .ok l w ∧ ∀ i : Nat, l[i]? = (fs[i]?).bind fun f => (szT P f.type).map fun n => (f.offset, n) := by
  induction fs with
  | nil => exact ⟨[], rfl, fun i => by simp⟩
  | cons f r ih =>
    simp only [List.all_cons, Bool.and_eq_true] at h
    obtain ⟨n, hn⟩ := Option.isSome_iff_exists.1 h.1
    obtain ⟨l, hl, hg⟩ := ih h.2
    refine ⟨(f.offset, n) :: l, ?_, fun i => ?_⟩
    · simp only [List.mapM_cons, Sem.run_bind, run_sizeOf' hn, Result.andThen_ok, Sem.run_pure, hl]
    · cases i with
      | zero => simp [hn]
      | succ i => simpa using hg i

theorem rBuild_ok {κ : Ctx} {t : TypeId} {parts : List (Nat × AV)} {ps : List (Nat × Value)} {c : AV → Prop} (hp : EParts κ parts ps) (h : rBuild P t κ.m parts c) : Gives (P := P) κ (Instr.build t ps.toArray) c := by
  obtain ⟨hf, h⟩ := h
  cases hz : zeroA P t with
  | none => simp [hz] at h
  | some zs =>
    simp only [hz] at h
    obtain ⟨z, hr0, hone, rfl⟩ := run_zero hz κ.w
    obtain ⟨B', cs', e1, e2, e3, _, e5⟩ := rFill_ok (cs := z.cells) hp (EList_raw κ _) (fun x hx => hone x (by simpa using hx)) h
    refine ⟨.agg B', .agg cs', ?_, by simp only [E]; exact ⟨cs'.toList, rfl, fun x hx => e3 x (by simpa using hx), e2⟩, e5⟩
    unfold Instr.build
    rw [Sem.run_bind, hr0, Result.andThen_ok]
    cases hu : P.underlying t with
    | none => simp [fieldsOk, hu] at hf
    | some d =>
      cases d with
      | struct fs =>
        simp only [fieldsOk, hu] at hf
        obtain ⟨l, hl, hg⟩ := mapM_sizes (P := P) hf κ.w
        have hm : (fs.mapM fun f => (do pure (f.offset, ← sizeOf f.type) : Sem (Nat × Nat))).run P κ.w = .ok l.toArray κ.w := by
          rw [Array.mapM_eq_mapM_toList]
          simp only [Sem.run_map, hl, Result.andThen_ok]
        rw [Sem.run_bind, run_underlying hu, Result.andThen_ok]
        simp only [Sem.run_bind, hm, Result.andThen_ok]
        have : Instr.fill (fun i => l.toArray[i]?) z.cells ps = some cs' := by
          rw [← e1]; refine fill_congr (fun i => ?_) _ _
          rw [List.getElem?_toArray, hg i]
          simp [placeT, hu]
        rw [this]; rfl
      | array n e =>
        simp only [fieldsOk, hu] at hf
        obtain ⟨sz, hsz⟩ := Option.isSome_iff_exists.1 hf
        rw [Sem.run_bind, run_underlying hu, Result.andThen_ok]
        simp only [Sem.run_bind, run_sizeOf' hsz, Result.andThen_ok]
        have : Instr.fill (fun i => some (i * sz, sz)) z.cells ps = some cs' := by
          rw [← e1]; refine fill_congr (fun i => ?_) _ _
          simp [placeT, hu, hsz]
        rw [this]; rfl
      | _ => simp [fieldsOk, hu] at hf

/-! ### New slices -/
/-- So many zero cells. -/
def zrow (z : List AV) (n : Nat) : List AV := (List.range n).map fun i => z.getD (i % z.length) .any
theorem zrow_length (z : List AV) (n : Nat) : (zrow z n).length = n := by simp [zrow]
theorem zrow_one (a : AV) (n : Nat) : zrow [a] n = List.replicate n a := by
  apply List.ext_getElem (by simp [zrow])
  intro i h1 h2
  simp [zrow, Nat.mod_one]

theorem zrow_ok {κ : Ctx} {zs : Array Value} (hz : 0 < zs.size) (n : Nat) : EList κ (zrow (zs.toList.map .raw) n) ((Array.range n).map (zs[· % zs.size]!)).toList := by
  refine EList.of_get (by simp [zrow]) fun i c x hc hx => ?_
  simp only [zrow, List.getElem?_map] at hc
  simp only [Array.toList_map, Array.toList_range, List.getElem?_map] at hx
  cases hi : (List.range n)[i]? with
  | none => simp [hi] at hc
  | some j =>
    rw [hi] at hc hx
    simp only [Option.map_some, Option.some.injEq, List.length_map, Array.length_toList] at hc hx
    have hj : j % zs.size < zs.size := Nat.mod_lt _ hz
    subst hc; subst hx
    simp [List.getD, hj, E]
theorem zrow_all {zs : Array Value} (hone : ∀ x ∈ zs.toList, x.oneCell' = true) (hz : 0 < zs.size) (n : Nat) : ∀ x ∈ (Array.range n).map (zs[· % zs.size]!), x.oneCell' = true := by
  intro x hx
  simp only [Array.mem_map] at hx
  obtain ⟨j, _, rfl⟩ := hx
  have hj : j % zs.size < zs.size := Nat.mod_lt _ hz
  simp only [hj, getElem!_pos]
  exact hone _ (by simp)

/-- Memory that nobody speaks of. -/
theorem step_junk {w0 : World} {κ : Ctx} (h : Sat w0 κ) {w' : World} {c0 : Array Value} {e0 : TypeId} (hw : w'.heap = κ.w.heap.push (.cells c0 e0 (0, 0))) (hsd : Side κ.w w') : Fr κ ⟨κ.ρ, κ.m, w'⟩ ∧ Sat w0 ⟨κ.ρ, κ.m, w'⟩ := by
  have hold : ∀ i, i < κ.w.heap.size → w'.heap[i]? = κ.w.heap[i]? := fun i hi => by rw [hw, Array.getElem?_push_lt hi, Array.getElem?_eq_getElem hi]
  have hf : Fr κ ⟨κ.ρ, κ.m, w'⟩ := ⟨by simp [hw], fun i hi _ => hold i hi, Nat.le_refl _, fun b _ B hB => ⟨B, hB, Nat.le_refl _, fun _ => rfl⟩, fun b B hB h0 => .inl ⟨B, hB, h0, rfl⟩, Kept.push hw hsd⟩
  refine ⟨hf, by have := h.old; simp [hw]; omega, fun i hi => (hold i (by have := h.old; omega)).trans (h.same i hi), fun b B hB => ?_, h.ne⟩
  rcases h.blk b B hB with h0 | ⟨h0, h1, c, e, h2, h3, h4, h5⟩
  · exact .inl h0
  refine .inr ⟨h0, h1, c, e, (hold _ (h.lt hB h0)).trans h2, h3, h4, fun i x hi hx => ?_⟩
  obtain ⟨v, hv, ho, he⟩ := h5 i x hi hx
  exact ⟨v, hv, ho, E.mono hf x he⟩

/-- The model's operation gives a value and a memory of which 'k' holds. -/
def Makes {P : Program} (w0 : World) (κ : Ctx) (s : Sem Value) (k : AV → Mem → Prop) : Prop := ∃ κ' y u, s.run P κ.w = .ok u κ'.w ∧ Fr κ κ' ∧ Sat w0 κ' ∧ E κ' y u ∧ k y κ'.m

theorem Gives.makes {w0 : World} {κ : Ctx} (hS : Sat w0 κ) {s : Sem Value} {c : AV → Mem → Prop} (h : Gives (P := P) κ s fun v => c v κ.m) : Makes (P := P) w0 κ s c := by
  obtain ⟨y, u, hr, he, hc⟩ := h
  exact ⟨κ, y, u, hr, Fr.refl κ, hS, he, hc⟩

variable (P)
/-- A literal slice: as one that nobody writes, or ('own') as a block. -/
def rBuildSlice (t : TypeId) (own : Bool) (len : Nat) (m : Mem) (parts : List (Nat × AV)) (c : AV → Mem → Prop) : Prop := match P.underlying t with
  | some (.slice e) => (match szT P e, zeroA P e with
    | some sz, some z => z.length = sz ∧ 0 < sz ∧ len * sz ≤ 16777216 ∧ rFill m (fun i => some (i * sz, sz)) (zrow z (len * sz)) parts fun B =>
      if len = 0 then c .zs m else if own then c (.sl m.length B.length 0 len sz) (m ++ [some B]) else c (.lst sz B) m
    | _, _ => False)
  | _ => False
variable {P}

theorem new_slice {w0 : World} {κ : Ctx} (hS : Sat w0 κ) {w' : World} {cs : Array Value} {e : TypeId} {B : List AV} {len cap sz : Nat} (hw : w'.heap = κ.w.heap.push (.cells cs e (0, 0))) (hsd : Side κ.w w') (hE : EList κ B (cs.toList.take B.length)) (hone : ∀ x ∈ cs.toList.take B.length, x.oneCell' = true)
    (hB : B.length = len * sz) (hl : len ≤ cap) (hc : 0 < cap) (hcs : cs.size = cap * sz) :
    ∃ κ', κ'.w = w' ∧ κ'.m = κ.m ++ [some B] ∧ Fr κ κ' ∧ Sat w0 κ' ∧ E κ' (.sl κ.m.length B.length 0 len sz) (.slice (some ⟨κ.w.heap.size, 0, none⟩) len cap) := by
  have hle : B.length ≤ cs.size := by rw [hB, hcs]; exact Nat.mul_le_mul_right _ hl
  obtain ⟨hf, hs⟩ := step_new hS (w' := w') (c := cs) (e := e) B hw hsd hle (fun i x hx => by
    obtain ⟨v, hv, he⟩ := hE.get hx
    refine ⟨v, ?_, hone v (List.mem_of_getElem? hv), he⟩
    rw [List.getElem?_take] at hv
    split at hv
    · simpa using hv
    · simp at hv)
  refine ⟨_, rfl, rfl, hf, hs, ?_⟩
  simp only [E, Ctx.at, upd_same]
  refine ⟨by simp, fun B' hB' => ?_⟩
  rw [get_append_at] at hB'
  injection hB' with hB'; subst hB'
  refine ⟨Nat.le_refl _, fun _ => ⟨by omega, .inr ⟨cap, rfl, Nat.le_refl _, hl, hc, by omega⟩⟩⟩

theorem new_still {w0 : World} {κ : Ctx} (hS : Sat w0 κ) {w' : World} {o : Obj} (hw : w'.heap = κ.w.heap.push o) : Ctx.still ⟨κ.ρ, κ.m, w'⟩ κ.w.heap.size := by
  refine ⟨by simp [hw], fun b B hB h0 e => ?_⟩
  have := hS.lt hB h0
  have e' : (κ.ρ b).blk = κ.w.heap.size := e
  omega

theorem rBuildSlice_ok {w0 : World} {κ : Ctx} (hS : Sat w0 κ) {t : TypeId} {own : Bool} {len : Nat} {parts : List (Nat × AV)} {ps : List (Nat × Value)} {c : AV → Mem → Prop} (hp : EParts κ parts ps)
    (h : rBuildSlice P t own len κ.m parts c) : Makes (P := P) w0 κ (Instr.buildSlice t len ps.toArray) c := by
  unfold rBuildSlice at h
  split at h
  · rename_i e hu
    split at h
    · rename_i sz z hsz hz
      obtain ⟨hzl, hpos, hbig, h⟩ := h
      obtain ⟨zv, hr0, hone, rfl⟩ := run_zero hz κ.w
      simp only [List.length_map, Array.length_toList] at hzl
      obtain ⟨B, cs, e1, e2, e3, e4, e5⟩ := rFill_ok (cs := (Array.range (len * sz)).map (zv.cells[· % zv.cells.size]!)) hp (zrow_ok (κ := κ) (by omega) _) (zrow_all hone (by omega) _) h
      rw [zrow_length] at e4
      have hsize : cs.size = B.length := by simpa using e2.length
      have run : (Instr.buildSlice t len ps.toArray).run P κ.w = .ok (.slice (some ⟨κ.w.heap.size, 0, none⟩) len len) (κ.w.alloc (.cells cs e)) := by
        unfold Instr.buildSlice
        rw [Sem.run_bind, run_underlying hu, Result.andThen_ok]
        simp only [Sem.run_bind, run_sizeOf' hsz, Result.andThen_ok]
        rw [if_neg (by omega)]
        by_cases h0 : len * sz = 0
        · rw [if_pos h0]
          simp only [Sem.run_bind, Sem.run_pure, Result.andThen_ok]
          have : (Array.range (len * sz)).map ((#[] : Array Value)[· % (#[] : Array Value).size]!) = (Array.range (len * sz)).map (zv.cells[· % zv.cells.size]!) := by rw [h0]; simp
          rw [this, e1]
          simp [newRow]
        · rw [if_neg h0]
          simp only [Sem.run_bind, hr0, Result.andThen_ok, Sem.run_pure, e1]
          simp [newRow]
      split at e5
      · rename_i h0; subst h0
        obtain ⟨hf, hs⟩ := step_junk hS (w' := κ.w.alloc (.cells cs e)) (c0 := cs) (e0 := e) rfl ⟨rfl, rfl⟩
        exact ⟨_, _, _, run, hf, hs, by simp [E], e5⟩
      · rename_i h0
        have hl0 : 0 < len := Nat.pos_of_ne_zero h0
        split at e5
        · obtain ⟨κ', hw', hm', hf, hs, he⟩ := new_slice hS (w' := κ.w.alloc (.cells cs e)) (cs := cs) (e := e) (B := B) (len := len) (cap := len) (sz := sz) rfl ⟨rfl, rfl⟩
            (by rw [List.take_of_length_le (by simp; omega)]; exact e2) (by rw [List.take_of_length_le (by simp; omega)]; exact fun x hx => e3 x (by simpa using hx)) e4 (Nat.le_refl _) hl0 (by omega)
          exact ⟨κ', _, _, by rw [hw']; exact run, hf, hs, he, by rw [hm']; exact e5⟩
        · obtain ⟨hf, hs⟩ := step_junk hS (w' := κ.w.alloc (.cells cs e)) (c0 := cs) (e0 := e) rfl ⟨rfl, rfl⟩
          refine ⟨_, _, _, run, hf, hs, ?_, e5⟩
          simp only [E]
          refine .inr ⟨_, 0, len, len, rfl, e4.symm, Nat.le_refl _, new_still hS rfl, ECells.of_get fun j x hx => ?_⟩
          obtain ⟨v, hv, he⟩ := e2.get hx
          refine ⟨v, ?_, e3 v (by simpa using List.mem_of_getElem? hv), E.mono hf x he⟩
          rw [Nat.zero_add]
          simpa using hv
    · exact h.elim
  · exact h.elim

theorem i64_wrap {n : Int} (h : -9223372036854775808 ≤ n) (h' : n < 9223372036854775808) : IntKind.i64.wrap n = n := by
  unfold IntKind.wrap
  simp only [IntKind.bits, IntKind.signed, Bool.true_and]
  split <;> rename_i hc <;> simp at hc <;> omega

variable (P)
def bytesT (t : TypeId) : Option Nat := (P.info? t).map (·.bytes)
def rMake (t : TypeId) (m : Mem) (l cp : AV) (c : AV → Mem → Prop) : Prop := match P.underlying t, l, cp with
  | some (.slice e), .raw (.int _ n), .raw (.int _ cn) => (match szT P e, zeroA P e, bytesT P e with
    | some sz, some z, some by_ => z.length = sz ∧ 0 < sz ∧ 0 ≤ n ∧ n ≤ cn ∧ cn < 1099511627776 ∧ (by_ : Int) * cn ≤ 281474976710656 ∧ c (.sl m.length (n.toNat * sz) 0 n.toNat sz) (m ++ [some (zrow z (n.toNat * sz))])
    | _, _, _ => False)
  | _, _, _ => False
variable {P}

theorem rMake_ok {w0 : World} {κ : Ctx} (hS : Sat w0 κ) {t : TypeId} {l cp : AV} {vl vc : Value} {c : AV → Mem → Prop} (hl : E κ l vl) (hc : E κ cp vc) (h : rMake P t κ.m l cp c) :
    Makes (P := P) w0 κ (Instr.makeSlice t vl vc) c := by
  unfold rMake at h
  split at h
  · rename_i e k n k' cn hu
    split at h
    · rename_i sz z by_ hsz hz hby
      obtain ⟨hzl, hpos, h0, h1, h2, h3, hk⟩ := h
      simp only [E] at hl hc; subst hl; subst hc
      obtain ⟨zv, hr0, hone, rfl⟩ := run_zero hz κ.w
      simp only [List.length_map, Array.length_toList] at hzl
      obtain ⟨i, hi, rfl⟩ := Option.map_eq_some_iff.1 hby
      have w1 : IntKind.i64.wrap n = n := i64_wrap (by omega) (by omega)
      have w2 : IntKind.i64.wrap cn = cn := i64_wrap (by omega) (by omega)
      have run : (Instr.makeSlice t (.int k n) (.int k' cn)).run P κ.w = .ok (.slice (some ⟨κ.w.heap.size, 0, none⟩) n.toNat cn.toNat) (κ.w.alloc (.cells ((Array.range (cn.toNat * sz)).map (zv.cells[· % zv.cells.size]!)) e)) := by
        unfold Instr.makeSlice
        rw [Sem.run_bind, run_underlying hu, Result.andThen_ok]
        simp only [Sem.run_bind, asInt, asIntOf, Sem.run_pure, Result.andThen_ok, typeInfo, run_program, hi, w1, w2]
        have c1 : (decide (cn < 0) || decide ((i.bytes : Int) * cn > 2 ^ 48)) = false := by simp; omega
        have c2 : (n < 0) = False := by simp; omega
        have c3 : (n > cn) = False := by simp; omega
        simp only [c1, c2, c3, decide_false, Bool.or_self, Bool.false_eq_true, if_false]
        simp only [Sem.run_bind, run_askRoom, Result.andThen_ok, run_sizeOf' hsz]
        by_cases hcn : cn.toNat * sz = 0
        · rw [if_pos hcn]
          have e0 : ∀ g : Nat → Value, (Array.range (cn.toNat * sz)).map g = #[] := fun g => by rw [hcn]; simp
          simp only [Sem.run_pure, Result.andThen_ok, newRow, Sem.run_bind, run_newObj, World.alloc_eq, e0]
        · rw [if_neg hcn]
          simp [newRow, hr0]
      by_cases hcn : cn = 0
      · have hn : n = 0 := by omega
        subst hcn; subst hn
        obtain ⟨hf, hs⟩ := step_junk hS (w' := κ.w.alloc (.cells ((Array.range (Int.toNat 0 * sz)).map (zv.cells[· % zv.cells.size]!)) e)) (c0 := (Array.range (Int.toNat 0 * sz)).map (zv.cells[· % zv.cells.size]!)) (e0 := e) rfl ⟨rfl, rfl⟩
        obtain ⟨hf', hs'⟩ := step_none hs
        refine ⟨_, _, _, run, hf.trans hf', hs', ?_, by simpa [zrow] using hk⟩
        simp only [E]
        refine ⟨by simp, fun B' hB' => ?_⟩
        rw [get_append_at] at hB'
        injection hB' with hB'; subst hB'
        refine ⟨by simp, fun _ => ⟨by simp, .inl ⟨by simp, some ⟨κ.w.heap.size, 0, none⟩, by simp⟩⟩⟩
      · have hE := zrow_ok (κ := κ) (zs := zv.cells) (by omega) (cn.toNat * sz)
        have hle : n.toNat * sz ≤ cn.toNat * sz := Nat.mul_le_mul_right _ (by omega)
        have htake : (zrow (zv.cells.toList.map .raw) (cn.toNat * sz)).take (n.toNat * sz) = zrow (zv.cells.toList.map .raw) (n.toNat * sz) := by
          unfold zrow
          rw [← List.map_take, List.take_range, Nat.min_eq_left hle]
        obtain ⟨κ', hw', hm', hf, hs, he⟩ := new_slice hS (w' := κ.w.alloc (.cells ((Array.range (cn.toNat * sz)).map (zv.cells[· % zv.cells.size]!)) e)) (cs := (Array.range (cn.toNat * sz)).map (zv.cells[· % zv.cells.size]!)) (e := e)
          (B := zrow (zv.cells.toList.map .raw) (n.toNat * sz)) (len := n.toNat) (cap := cn.toNat) (sz := sz) rfl ⟨rfl, rfl⟩
          (by rw [zrow_length, ← htake]; exact hE.take _) (fun x hx => zrow_all hone (by omega) _ x (by simpa using List.mem_of_mem_take hx)) (zrow_length _ _) (by omega) (by omega) (by simp)
        exact ⟨κ', _, _, by rw [hw']; exact run, hf, hs, by rw [zrow_length] at he; exact he, by rw [hm']; exact hk⟩
    · exact h.elim
  · exact h.elim
end
end Go.Proofs.Ytomigflbiijmpaa.Am
