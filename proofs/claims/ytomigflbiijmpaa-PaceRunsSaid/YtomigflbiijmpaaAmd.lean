/- THE ABSTRACT MEMORY: frames, what is known from the beginning, contracts; the operations that make or read values: what each one gives, and that the model's operation gives it. -/
import Derived.Tactics
import Derived.Laws.Build
import Derived.Test.YtomigflbiijmpaaAmc
namespace Go.Proofs.Ytomigflbiijmpaa.Am

abbrev Fm := List (Nat × AV)
def Fm.get : Fm → Nat → AV
  | [], _ => .any
  | (s, v) :: r, t => if s = t then v else Fm.get r t
def Fm.put : Fm → Nat → AV → Fm
  | [], t, v => [(t, v)]
  | (s, u) :: r, t, v => if s = t then (s, v) :: r else (s, u) :: Fm.put r t v

def ev (fr : Fm) : Operand → AV
  | .tmp t => fr.get t
  | .const v => .raw v
  | .global g => .raw (.pointer (some ⟨g, 0, none⟩))
  | .func f => .fn (.func f) [] []

def FRel (κ : Ctx) (fr : Fm) (t : Array Value) : Prop := ∀ i, E κ (fr.get i) (t.getD i undef)

theorem FRel.mono {κ κ' : Ctx} (h : Fr κ κ') {fr : Fm} {t : Array Value} (hr : FRel κ fr t) : FRel κ' fr t := fun i => E.mono h _ (hr i)

theorem get_put (fr : Fm) (t i : Nat) (v : AV) : (fr.put t v).get i = if i = t then v else fr.get i := by
  induction fr with
  | nil => simp [Fm.put, Fm.get, eq_comm]
  | cons p r ih =>
    obtain ⟨s, u⟩ := p
    simp only [Fm.put]
    split
    · rename_i h; subst h
      simp only [Fm.get]
      split
      · rename_i h; subst h; simp
      · rename_i h; rw [if_neg (Ne.symm h)]
    · rename_i h
      simp only [Fm.get, ih]
      split
      · rename_i h'; subst h'; rw [if_neg h]
      · rfl

theorem FRel.put {κ : Ctx} {fr : Fm} {t : Array Value} (hr : FRel κ fr t) {d : Nat} (hd : d < t.size) {v : AV} {x : Value} (hv : E κ v x) : FRel κ (fr.put d v) (t.setIfInBounds d x) := by
  intro i
  rw [get_put]
  by_cases h : i = d
  · subst h; simp [hd, hv]
  · rw [if_neg h]
    simpa [Array.getElem?_setIfInBounds_ne (Ne.symm h)] using hr i

theorem ev_ok {κ : Ctx} {fr : Fm} {a : Act} (h : FRel κ fr a.tmps) : (o : Operand) → E κ (ev fr o) (a.eval o)
  | .tmp t => h t
  | .const v => by simp [ev, E, Act.eval]
  | .global g => by simp [ev, E, Act.eval]
  | .func f => by simp [ev, E, EList, Act.eval]

/-- What is known of the memory from the beginning: cells; whether two pointers are the same. -/
structure Kn where
  cell : Addr → Option Value
  same : Addr → Addr → Option Bool

structure Kn.ok (K : Kn) (P : Program) (w0 : World) : Prop where
  cell : ∀ a v, K.cell a = some v → w0.cell? a = some v ∧ v.oneCell' = true
  same : ∀ a b r, K.same a b = some r → ∀ w : World, w0.heap.size ≤ w.heap.size → (∀ i, i < w0.heap.size → w.heap[i]? = w0.heap[i]?) → (sameAddr a b).run P w = .ok r w

inductive Out where
  | ret (v : AV)
  | pan (v : AV)

def Out.is (κ : Ctx) : Out → Ending → Prop
  | .ret v, e => ∃ x, e = .returned x ∧ E κ v x
  | .pan v, e => ∃ x, e = .panicked [{ v := x, recovered := false }] ∧ E κ v x

/-- THE CONTRACT OF A FUNCTION: called with these values over this memory it comes to an end that 'R' tells, and the memory that was there is not touched but where the abstract memory says so. -/
def AFn (P : Program) (K : Kn) (f : FuncId) (args : List AV) (m : Mem) (R : Out → Mem → Prop) : Prop :=
  ∀ (w0 : World) (κ : Ctx) (cargs : List Value), K.ok P w0 → Sat w0 κ → κ.m = m → EList κ args cargs →
    Calls P f cargs.toArray κ.w fun e w' => ∃ κ' o, κ'.w = w' ∧ R o κ'.m ∧ Fr κ κ' ∧ Sat w0 κ' ∧ o.is κ' e

theorem AFn.mono {P : Program} {K : Kn} {f : FuncId} {args : List AV} {m : Mem} {R R' : Out → Mem → Prop} (h : AFn P K f args m R) (hr : ∀ o m', R o m' → R' o m') : AFn P K f args m R' :=
  fun w0 κ cargs h1 h2 h3 h4 => (h w0 κ cargs h1 h2 h3 h4).mono fun _ _ ⟨κ', o, e1, r, x⟩ => ⟨κ', o, e1, hr _ _ r, x⟩

section
variable (P : Program) (K : Kn)

/-! ### Types -/
def aggT (t : TypeId) : Option Bool := match P.underlying t with
  | some (.struct _) | some (.array _ _) => some true
  | some _ => some false
  | none => none
def szT (t : TypeId) : Option Nat := (P.info? t).map (·.size)
def zeroA (t : TypeId) : Option (List AV) := match (P.info? t).bind (·.zero) with
  | some z => if z.cells.toList.all (·.oneCell') then some (z.cells.toList.map .raw) else none
  | none => none

variable {P}
theorem run_isAgg {t : TypeId} {b : Bool} (h : aggT P t = some b) (w : World) : (isAgg t).run P w = .ok b w := by
  unfold aggT at h
  cases hd : P.underlying t with
  | none => simp [hd] at h
  | some d => cases d <;> simp_all [isAgg, run_underlying hd]
theorem run_sizeOf' {t : TypeId} {n : Nat} (h : szT P t = some n) (w : World) : (sizeOf t).run P w = .ok n w := by
  unfold szT at h
  cases hi : P.info? t with
  | none => simp [hi] at h
  | some i => simp only [hi, Option.map_some, Option.some.injEq] at h; simp [sizeOf, typeInfo, hi, h]
theorem run_zero {t : TypeId} {zs : List AV} (h : zeroA P t = some zs) (w : World) : ∃ z : Value, (zeroValue t).run P w = .ok z w ∧ (∀ x ∈ z.cells.toList, x.oneCell' = true) ∧ zs = z.cells.toList.map .raw := by
  unfold zeroA at h
  cases hi : P.info? t with
  | none => simp [hi] at h
  | some i =>
    cases hz : i.zero with
    | none => simp [hi, hz] at h
    | some z =>
      simp only [hi, hz, Option.bind_some] at h
      split at h
      · rename_i hall
        injection h with h
        exact ⟨z, by simp [zeroValue, typeInfo, hi, hz], fun x hx => List.all_eq_true.1 hall x hx, h.symm⟩
      · simp at h
theorem EList_raw (κ : Ctx) : ∀ l : List Value, EList κ (l.map .raw) l
  | [] => by simp [EList]
  | x :: r => by simp only [List.map_cons, EList]; exact ⟨x, r, rfl, by simp [E], EList_raw κ r⟩

/-- A value of one cell. -/
def single : AV → Bool
  | .any | .agg _ | .tup _ => false
  | .raw v => v.oneCell'
  | _ => true
theorem single_ok {κ : Ctx} {x : AV} {v : Value} (hs : single x = true) (hE : E κ x v) (htag : ∀ b tag off B, x = .ptr b tag off → κ.m.get b = some B → tag = B.length)
    (htag2 : ∀ b tag off len sz B, x = .sl b tag off len sz → κ.m.get b = some B → tag = B.length) (hl : ∀ b tag off, x = .ptr b tag off → ∃ B, κ.m.get b = some B) (hl2 : ∀ b tag off len sz, x = .sl b tag off len sz → ∃ B, κ.m.get b = some B) :
    v.oneCell' = true ∧ v.cells = #[v] := by
  cases x with
  | any => simp [single] at hs
  | raw u => simp only [E] at hE; subst hE; refine ⟨hs, ?_⟩; cases v <;> simp_all [single, Value.oneCell', Value.cells]
  | lst sz cs => simp only [E] at hE; rcases hE with ⟨⟨a0, c0, rfl⟩, _⟩ | ⟨k, i, len, cap, rfl, _⟩ <;> exact ⟨rfl, rfl⟩
  | zs => simp only [E] at hE; obtain ⟨a, rfl⟩ := hE; exact ⟨rfl, rfl⟩
  | sl b tag off len sz =>
    obtain ⟨B, hB⟩ := hl2 _ _ _ _ _ rfl
    simp only [E] at hE
    rcases ((hE.2 B hB).2 (htag2 _ _ _ _ _ _ rfl hB)).2 with ⟨_, a, rfl⟩ | ⟨cap, rfl, _⟩ <;> exact ⟨rfl, rfl⟩
  | ptr b tag off =>
    obtain ⟨B, hB⟩ := hl _ _ _ rfl
    simp only [E] at hE
    obtain ⟨rfl, _⟩ := (hE.2 B hB).2 (htag _ _ _ _ rfl hB)
    exact ⟨rfl, rfl⟩
  | ip cs => simp only [E] at hE; obtain ⟨k, i, rfl, _⟩ := hE; exact ⟨rfl, rfl⟩
  | agg cs => simp [single] at hs
  | ifc t x => simp only [E] at hE; obtain ⟨y, rfl, _⟩ := hE; exact ⟨rfl, rfl⟩
  | fn f a c => simp only [E] at hE; obtain ⟨xs, ys, rfl, _⟩ := hE; exact ⟨rfl, rfl⟩
  | tup vs => simp [single] at hs

/-- It is as it is told: a handle's block is there, and as long as it was. -/
def fresh (m : Mem) : AV → Prop
  | .sl b tag _ _ _ | .ptr b tag _ => ∃ B, m.get b = some B ∧ tag = B.length
  | _ => True
theorem fresh.single {κ : Ctx} {x : AV} {v : Value} (hf : fresh κ.m x) (hs : single x = true) (hE : E κ x v) : v.oneCell' = true ∧ v.cells = #[v] := by
  refine single_ok hs hE ?_ ?_ ?_ ?_
  · rintro b tag off B rfl hB; obtain ⟨B', hB', ht⟩ := hf; rw [hB] at hB'; injection hB' with e; rw [ht, e]
  · rintro b tag off len sz B rfl hB; obtain ⟨B', hB', ht⟩ := hf; rw [hB] at hB'; injection hB' with e; rw [ht, e]
  · rintro b tag off rfl; obtain ⟨B', hB', _⟩ := hf; exact ⟨B', hB'⟩
  · rintro b tag off len sz rfl; obtain ⟨B', hB', _⟩ := hf; exact ⟨B', hB'⟩

/-! ### Load -/
variable (P)
def rLoad (t : TypeId) (m : Mem) (x : AV) (k : AV → Prop) : Prop := match x with
  | .ptr b tag off => match m.get b with
    | some B => tag = B.length ∧ (match aggT P t, szT P t with
      | some true, some n => off + n ≤ B.length ∧ k (.agg ((B.drop off).take n))
      | some false, _ => (match B[off]? with | some v => k v | none => False)
      | _, _ => False)
    | none => False
  | .ip cs => match aggT P t, szT P t with
    | some true, some n => n ≤ cs.length ∧ k (.agg (cs.take n))
    | some false, _ => (match cs with | v :: _ => k v | [] => False)
    | _, _ => False
  | .raw (.pointer (some a)) => aggT P t = some false ∧ (match K.cell a with | some v => k (.raw v) | none => False)
  | _ => False

variable {P K}
theorem Kn.ok.at {w0 w : World} (hK : K.ok P w0) (hsame : ∀ i, i < w0.heap.size → w.heap[i]? = w0.heap[i]?) {a : Addr} {v : Value} (h : K.cell a = some v) : w.cell? a = some v := by
  have h1 := (hK.cell a v h).1
  have hlt := World.block_lt_of_cell? w0 a h1
  rw [← h1]
  simp only [World.cell?, hsame _ hlt]

theorem rLoad_ok {w0 : World} {κ : Ctx} (hK : K.ok P w0) (hS : Sat w0 κ) {t : TypeId} {x : AV} {v : Value} {k : AV → Prop} (hE : E κ x v) (h : rLoad P K t κ.m x k) :
    ∃ y u, (Instr.loadAt t v).run P κ.w = .ok u κ.w ∧ E κ y u ∧ k y := by
  cases x with
  | ptr b tag off =>
    simp only [rLoad] at h
    cases hB : κ.m.get b with
    | none => simp [hB] at h
    | some B =>
      simp only [hB] at h
      obtain ⟨ht, h⟩ := h
      simp only [E] at hE
      obtain ⟨rfl, hsh⟩ := (hE.2 B hB).2 ht
      cases ha : aggT P t with
      | none => simp [ha] at h
      | some g =>
        cases g with
        | true =>
          cases hn : szT P t with
          | none => simp [ha, hn] at h
          | some n =>
            simp only [ha, hn] at h
            obtain ⟨vs, hl, ho, he⟩ := hS.loads (P := P) hB hsh h.1
            refine ⟨_, .agg vs.toArray, ?_, ?_, h.2⟩
            · simp [Instr.loadAt, Instr.sureAddr, loadVar, run_isAgg ha, run_sizeOf' hn, hl]
            · simp only [E]; exact ⟨vs, rfl, ho, he⟩
        | false =>
          simp only [ha] at h
          cases hx : B[off]? with
          | none => simp [hx] at h
          | some y =>
            simp only [hx] at h
            obtain ⟨u, hu, _, he⟩ := hS.cell hB hsh hx
            exact ⟨y, u, by simp [Instr.loadAt, Instr.sureAddr, loadVar, run_isAgg ha, hu], he, h⟩
  | ip cs =>
    simp only [E] at hE
    obtain ⟨kb, i, rfl, hst, hcs⟩ := hE
    simp only [rLoad] at h
    cases ha : aggT P t with
    | none => simp [ha] at h
    | some g =>
      cases g with
      | true =>
        cases hn : szT P t with
        | none => simp [ha, hn] at h
        | some n =>
          simp only [ha, hn] at h
          have hl : (cs.take n).length = n := by simp; omega
          obtain ⟨vs, hr, ho, he⟩ := Am.loads (P := P) (κ := κ) (a := ⟨kb, i, none⟩) (cs.take n) (fun j c hc => by rw [add_at]; exact (hcs.take n).get hc)
          rw [hl] at hr
          refine ⟨_, .agg vs.toArray, ?_, ?_, h.2⟩
          · simp [Instr.loadAt, Instr.sureAddr, loadVar, run_isAgg ha, run_sizeOf' hn, hr]
          · simp only [E]; exact ⟨vs, rfl, ho, he⟩
      | false =>
        simp only [ha] at h
        cases cs with
        | nil => simp at h
        | cons y r =>
          simp only [ECells] at hcs
          obtain ⟨⟨u, hu, _, he⟩, _⟩ := hcs
          exact ⟨y, u, by simp [Instr.loadAt, Instr.sureAddr, loadVar, run_isAgg ha, hu], he, h⟩
  | raw u =>
    simp only [E] at hE
    subst hE
    cases v with
    | pointer a =>
      cases a with
      | none => simp [rLoad] at h
      | some a =>
        simp only [rLoad] at h
        obtain ⟨ha, h⟩ := h
        cases hc : K.cell a with
        | none => simp [hc] at h
        | some u =>
          simp only [hc] at h
          exact ⟨.raw u, u, by simp [Instr.loadAt, Instr.sureAddr, loadVar, run_isAgg ha, hK.at hS.same hc], by simp [E], h⟩
    | _ => simp [rLoad] at h
  | _ => simp [rLoad] at h

/-! ### Store, box, alloc -/
variable (P)
def rStore (t : TypeId) (m : Mem) (x v : AV) (k : Mem → Prop) : Prop := match x with
  | .ptr b tag off => match m.get b with
    | some B => tag = B.length ∧ (match v with
      | .agg xs => szT P t = some xs.length ∧ off + xs.length ≤ B.length ∧ k (m.set b (some (setAt B off xs)))
      | v => single v = true ∧ fresh m v ∧ szT P t = some 1 ∧ off < B.length ∧ k (m.set b (some (B.set off v))))
    | none => False
  | _ => False
def rBox (m : Mem) (v : AV) (k : AV → Mem → Prop) : Prop := match v with
  | .agg xs => k (.ptr m.length xs.length 0) (m ++ [some xs])
  | v => single v = true ∧ fresh m v ∧ k (.ptr m.length 1 0) (m ++ [some [v]])
def rAlloc (t : TypeId) (m : Mem) (k : AV → Mem → Prop) : Prop := match zeroA P t with
  | some zs => k (.ptr m.length zs.length 0) (m ++ [some zs])
  | none => False

variable {P}
theorem stores_cells {w0 : World} {κ : Ctx} (hS : Sat w0 κ) {t : TypeId} {b off : Nat} {B xs : List AV} {v : Value} {vs : List Value} (hv : v.cells.toList = vs) (hb : κ.m.get b = some B) (ho : (κ.ρ b).shift ≤ off) (hn : off + xs.length ≤ B.length)
    (hone : ∀ x ∈ vs, x.oneCell' = true) (hE : EList κ xs vs) (hsz : szT P t = some xs.length) :
    ∃ w', (Instr.storeAt t (.pointer (some (κ.at b off))) v).run P κ.w = .ok () w' ∧ Fr κ ⟨κ.ρ, κ.m.set b (some (setAt B off xs)), w'⟩ ∧ Sat w0 ⟨κ.ρ, κ.m.set b (some (setAt B off xs)), w'⟩ := by
  obtain ⟨w', hr, r⟩ := hS.stores (P := P) hb ho hn hone hE
  refine ⟨w', ?_, r⟩
  have hl : v.cells.size = xs.length := by rw [← hE.length, ← hv]; simp
  simp [Instr.storeAt, Instr.sureAddr, storeVar, run_sizeOf' hsz, hl, hv, hr]

theorem rStore_ok {w0 : World} {κ : Ctx} (hS : Sat w0 κ) {t : TypeId} {x y : AV} {v u : Value} {k : Mem → Prop} (hx : E κ x v) (hy : E κ y u) (h : rStore P t κ.m x y k) :
    ∃ κ', (Instr.storeAt t v u).run P κ.w = .ok () κ'.w ∧ Fr κ κ' ∧ Sat w0 κ' ∧ k κ'.m := by
  cases x with
  | ptr b tag off =>
    simp only [rStore] at h
    cases hB : κ.m.get b with
    | none => simp [hB] at h
    | some B =>
      simp only [hB] at h
      obtain ⟨ht, h⟩ := h
      simp only [E] at hx
      obtain ⟨rfl, hsh⟩ := (hx.2 B hB).2 ht
      have one : (single y = true ∧ fresh κ.m y ∧ szT P t = some 1 ∧ off < B.length ∧ k (κ.m.set b (some (B.set off y)))) → ∃ κ', (Instr.storeAt t (.pointer (some (κ.at b off))) u).run P κ.w = .ok () κ'.w ∧ Fr κ κ' ∧ Sat w0 κ' ∧ k κ'.m := by
        rintro ⟨h1, h2, h3, h4, h5⟩
        obtain ⟨o1, o2⟩ := h2.single h1 hy
        obtain ⟨w', hr, hf, hs⟩ := stores_cells (P := P) (t := t) hS (xs := [y]) (vs := [u]) (v := u) (by rw [o2]) hB hsh (by simp; omega) (by simpa using o1) (by simp only [EList]; exact ⟨u, [], rfl, hy, rfl⟩) (by simpa using h3)
        rw [setAt_one y h4] at hf hs
        exact ⟨_, hr, hf, hs, h5⟩
      cases y with
      | agg xs =>
        simp only at h
        simp only [E] at hy
        obtain ⟨vs, rfl, hone, hE⟩ := hy
        obtain ⟨w', hr, hf, hs⟩ := stores_cells (P := P) (t := t) hS (v := .agg vs.toArray) (by simp [Value.cells]) hB hsh h.2.1 hone hE h.1
        exact ⟨_, hr, hf, hs, h.2.2⟩
      | _ => exact one h
  | _ => simp [rStore] at h

theorem EList.new {κ : Ctx} {xs : List AV} {vs : List Value} (hE : EList κ xs vs) (hone : ∀ x ∈ vs, x.oneCell' = true) (i : Nat) (x : AV) (hx : xs[i]? = some x) : ∃ v, vs.toArray[i]? = some v ∧ v.oneCell' = true ∧ E κ x v := by
  obtain ⟨v, hv, he⟩ := hE.get hx
  exact ⟨v, by simpa using hv, hone v (List.mem_of_getElem? hv), he⟩

theorem new_var {w0 : World} {κ : Ctx} (hS : Sat w0 κ) {t : TypeId} {xs : List AV} {v : Value} {vs : List Value} (hv : v.cells = vs.toArray) (hone : ∀ x ∈ vs, x.oneCell' = true) (hE : EList κ xs vs) :
    ∃ κ', (do pure (Value.pointer (some (← newVar t v))) : Sem Value).run P κ.w = .ok (.pointer (some ⟨κ.w.heap.size, 0, none⟩)) κ'.w ∧ κ'.m = κ.m ++ [some xs] ∧ Fr κ κ' ∧ Sat w0 κ' ∧ E κ' (.ptr κ.m.length xs.length 0) (.pointer (some ⟨κ.w.heap.size, 0, none⟩)) := by
  have hl := hE.length
  obtain ⟨hf, hs⟩ := step_new hS (w' := κ.w.alloc (.cells vs.toArray t)) (c := vs.toArray) (e := t) xs rfl ⟨rfl, rfl⟩ (by simp [hl]) (fun i x hx => hE.new hone i x hx)
  refine ⟨_, ?_, rfl, hf, hs, ?_⟩
  · simp [newVar, newRow, hv]
  · simp only [E, Ctx.at, upd_same]
    refine ⟨by simp, fun B hB => ?_⟩
    rw [get_append_at] at hB
    injection hB with hB
    subst hB
    simp

theorem rBox_ok {w0 : World} {κ : Ctx} (hS : Sat w0 κ) {t : TypeId} {y : AV} {u : Value} {k : AV → Mem → Prop} (hy : E κ y u) (h : rBox κ.m y k) :
    ∃ κ' x v, (Instr.box t u).run P κ.w = .ok v κ'.w ∧ Fr κ κ' ∧ Sat w0 κ' ∧ E κ' x v ∧ k x κ'.m := by
  have one : (single y = true ∧ fresh κ.m y ∧ k (.ptr κ.m.length 1 0) (κ.m ++ [some [y]])) → ∃ κ' x v, (Instr.box t u).run P κ.w = .ok v κ'.w ∧ Fr κ κ' ∧ Sat w0 κ' ∧ E κ' x v ∧ k x κ'.m := by
    rintro ⟨h1, h2, h3⟩
    obtain ⟨o1, o2⟩ := h2.single h1 hy
    obtain ⟨κ', hr, hm, hf, hs, he⟩ := new_var (P := P) (t := t) hS (xs := [y]) (vs := [u]) (v := u) o2 (by simpa using o1) (by simp only [EList]; exact ⟨u, [], rfl, hy, rfl⟩)
    exact ⟨κ', _, _, hr, hf, hs, he, by rw [hm]; exact h3⟩
  cases y with
  | agg xs =>
    simp only [rBox] at h
    simp only [E] at hy
    obtain ⟨vs, rfl, hone, hE⟩ := hy
    obtain ⟨κ', hr, hm, hf, hs, he⟩ := new_var (P := P) (t := t) hS (v := .agg vs.toArray) rfl hone hE
    exact ⟨κ', _, _, hr, hf, hs, he, by rw [hm]; exact h⟩
  | _ => exact one h

theorem rAlloc_ok {w0 : World} {κ : Ctx} (hS : Sat w0 κ) {t : TypeId} {k : AV → Mem → Prop} (h : rAlloc P t κ.m k) :
    ∃ κ' x v, (Instr.alloc t true (.tuple #[])).run P κ.w = .ok v κ'.w ∧ Fr κ κ' ∧ Sat w0 κ' ∧ E κ' x v ∧ k x κ'.m := by
  unfold rAlloc at h
  cases hz : zeroA P t with
  | none => simp [hz] at h
  | some zs =>
    simp only [hz] at h
    obtain ⟨z, hr0, hone, rfl⟩ := run_zero hz κ.w
    obtain ⟨κ', hr, hm, hf, hs, he⟩ := new_var (P := P) (t := t) hS (v := z) (vs := z.cells.toList) (by simp) hone (EList_raw κ _)
    refine ⟨κ', _, _, ?_, hf, hs, he, by rw [hm]; simpa using h⟩
    simp [Instr.alloc, hr0] at hr ⊢
    exact hr
end
end Go.Proofs.Ytomigflbiijmpaa.Am
