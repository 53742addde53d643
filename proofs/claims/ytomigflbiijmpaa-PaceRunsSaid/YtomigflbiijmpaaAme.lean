/- THE ABSTRACT MEMORY: the operations that only compute: what each one gives, and that the model's operation gives it. -/
import Derived.Test.YtomigflbiijmpaaAmd
namespace Go.Proofs.Ytomigflbiijmpaa.Am

section
variable (P : Program) (K : Kn)

def live (m : Mem) (b tag : Nat) : Prop := ∃ B, m.get b = some B ∧ tag = B.length

/-- The model's operation gives a value of which 'k' holds, and leaves the world alone. -/
def Gives {P : Program} (κ : Ctx) (s : Sem Value) (k : AV → Prop) : Prop := ∃ y u, s.run P κ.w = .ok u κ.w ∧ E κ y u ∧ k y

/-! ### Tests and numbers -/
def pickAV (t : Bool) : AV → AV → AV
  | .raw (.bool p), .raw (.bool q) => .raw (.bool (if t then p else q))
  | x, y => if t then x else y
theorem pickAV_ok {κ : Ctx} {t : Bool} {x y : AV} {u v : Value} (hx : E κ x u) (hy : E κ y v) : E κ (pickAV t x y) (if t then u else v) := by
  unfold pickAV
  split
  · simp only [E] at hx hy; subst hx; subst hy; cases t <;> simp [E]
  · cases t <;> simp_all

def rInt (op : BinOp) (k k' : IntKind) (a b : Int) (c : Value → Prop) : Prop := match op with
  | .shl => 0 ≤ b ∧ c (.int k (k.wrap (a * 2 ^ (min b.toNat k.bits))))
  | .shr => 0 ≤ b ∧ c (.int k (a.fdiv (2 ^ (min b.toNat k.bits))))
  | .add => k = k' ∧ c (.int k (k.wrap (a + b)))
  | .sub => k = k' ∧ c (.int k (k.wrap (a - b)))
  | .mul => k = k' ∧ c (.int k (k.wrap (a * b)))
  | .quo => k = k' ∧ b ≠ 0 ∧ c (.int k (k.wrap (a.tdiv b)))
  | .rem => k = k' ∧ b ≠ 0 ∧ c (.int k (a.tmod b))
  | .and => k = k' ∧ c (.int k (k.wrap (BitVec.ofInt k.bits a &&& BitVec.ofInt k.bits b).toNat))
  | .or => k = k' ∧ c (.int k (k.wrap (BitVec.ofInt k.bits a ||| BitVec.ofInt k.bits b).toNat))
  | .xor => k = k' ∧ c (.int k (k.wrap (BitVec.ofInt k.bits a ^^^ BitVec.ofInt k.bits b).toNat))
  | .andNot => k = k' ∧ c (.int k (k.wrap (BitVec.ofInt k.bits a &&& ~~~(BitVec.ofInt k.bits b)).toNat))
  | .eql => k = k' ∧ c (.bool (a == b))
  | .neq => k = k' ∧ c (.bool (a != b))
  | .lss => k = k' ∧ c (.bool (decide (a < b)))
  | .leq => k = k' ∧ c (.bool (decide (a ≤ b)))
  | .gtr => k = k' ∧ c (.bool (decide (a > b)))
  | .geq => k = k' ∧ c (.bool (decide (a ≥ b)))
variable {P}
theorem rInt_ok {op : BinOp} {k k' : IntKind} {a b : Int} {c : Value → Prop} (h : rInt op k k' a b c) (t : TypeId) (w : World) : ∃ v, (binOp op t (.int k a) (.int k' b)).run P w = .ok v w ∧ c v := by
  cases op <;> simp only [rInt] at h
  case shl => exact ⟨_, by simp only [binOp, Op.shift, if_neg (show ¬ b < 0 by omega)]; rfl, h.2⟩
  case shr => exact ⟨_, by simp only [binOp, Op.shift, if_neg (show ¬ b < 0 by omega)]; rfl, h.2⟩
  case quo => obtain ⟨rfl, h1, h2⟩ := h; exact ⟨_, by simp only [binOp, ne_eq, not_true_eq_false, if_false, Op.intDiv, if_neg h1]; rfl, h2⟩
  case rem => obtain ⟨rfl, h1, h2⟩ := h; exact ⟨_, by simp only [binOp, ne_eq, not_true_eq_false, if_false, Op.intDiv, if_neg h1]; rfl, h2⟩
  all_goals
    obtain ⟨rfl, h2⟩ := h
    exact ⟨_, by simp only [binOp, ne_eq, not_true_eq_false, if_false]; rfl, h2⟩

variable (P)
def rFloat (op : BinOp) (k : FloatKind) (a b : Nat) (c : Value → Prop) : Prop := match op with
  | .add => (match k.format.add a b with | some r => c (.float k r) | none => False)
  | .sub => (match k.format.sub a b with | some r => c (.float k r) | none => False)
  | .mul => (match k.format.mul a b with | some r => c (.float k r) | none => False)
  | .quo => (match k.format.div a b with | some r => c (.float k r) | none => False)
  | .eql => c (.bool (k.format.order a b == some .eq))
  | .neq => c (.bool (k.format.order a b != some .eq))
  | .lss => c (.bool (k.format.order a b == some .lt))
  | .leq => c (.bool (k.format.order a b == some .lt || k.format.order a b == some .eq))
  | .gtr => c (.bool (k.format.order a b == some .gt))
  | .geq => c (.bool (k.format.order a b == some .gt || k.format.order a b == some .eq))
  | _ => False
variable {P}
theorem rFloat_ok {op : BinOp} {k : FloatKind} {a b : Nat} {c : Value → Prop} (h : rFloat op k a b c) (t : TypeId) (w : World) : ∃ v, (binOp op t (.float k a) (.float k b)).run P w = .ok v w ∧ c v := by
  cases op <;> simp only [rFloat] at h
  all_goals first
    | exact h.elim
    | exact ⟨_, by simp only [binOp, ne_eq, not_true_eq_false, if_false]; rfl, h⟩
    | (split at h
       · rename_i r hr
         exact ⟨_, by simp only [binOp, ne_eq, not_true_eq_false, if_false, Op.floatArith, hr]; rfl, h⟩
       · exact h.elim)

/-! ### Equality -/
/-- Two aggregates compare, whatever values they are. -/
def AggEq (P : Program) (op : BinOp) (t : TypeId) (ox oy : Operand) (xs ys : List AV) (r : Bool) : Prop :=
  ∀ (κ : Ctx) (us vs : List Value), EList κ xs us → EList κ ys vs → (do eqGuard op t ox oy (.agg us.toArray) (.agg vs.toArray); Op.equal t (.agg us.toArray) (.agg vs.toArray) : Sem Bool).run P κ.w = .ok r κ.w
def isIface (P : Program) (t : TypeId) : Bool := match P.underlying t with | some (.interface _) => true | _ => false
def isPtr (P : Program) (t : TypeId) : Bool := match P.underlying t with | some (.pointer e) => (match szT P e with | some (_ + 1) => true | _ => false) | _ => false
def isConstOp : Operand → Bool
  | .const _ => true
  | _ => false
variable (P)
def rEq (op : BinOp) (t : TypeId) (ox oy : Operand) (m : Mem) (x y : AV) (c : Bool → Prop) : Prop := match x, y with
  | .raw (.bool a), .raw (.bool b) => P.underlying t = some .bool ∧ c (a == b)
  | .raw .nilIface, .raw .nilIface => isIface P t = true ∧ (isConstOp ox || isConstOp oy) = true ∧ c true
  | .ifc _ _, .raw .nilIface => isIface P t = true ∧ c false
  | .raw .nilIface, .ifc _ _ => isIface P t = true ∧ c false
  | .raw (.pointer none), .raw (.pointer none) => isPtr P t = true ∧ c true
  | .raw (.pointer (some _)), .raw (.pointer none) => isPtr P t = true ∧ c false
  | .ptr b tag _, .raw (.pointer none) => isPtr P t = true ∧ live m b tag ∧ c false
  | .raw (.pointer none), .ptr b tag _ => isPtr P t = true ∧ live m b tag ∧ c false
  | .ptr b tag off, .ptr b' tag' off' => isPtr P t = true ∧ live m b tag ∧ live m b' tag' ∧ 0 < tag ∧ 0 < tag' ∧ c (decide (b = b' ∧ off = off'))
  | .raw (.pointer (some p)), .raw (.pointer (some q)) => isPtr P t = true ∧ (match K.same p q with | some r => c r | none => False)
  | .ifc t1 (.raw (.pointer (some p))), .ifc t2 (.raw (.pointer (some q))) => isIface P t = true ∧ (if t1 = t2 then isPtr P t1 = true ∧ ((P.info? t1).map (·.comparable)) = some true ∧ (match K.same p q with | some r => c r | none => False) else c false)
  | .ifc t1 _, .ifc t2 _ => isIface P t = true ∧ t1 ≠ t2 ∧ c false
  | .agg xs, .agg ys => ∃ r, AggEq P op t ox oy xs ys r ∧ c r
  | .fn _ _ _, .raw .nilFunc => (match P.underlying t with | some (.func _ _ _) => True | _ => False) ∧ c false
  | _, _ => False

def rBin (op : BinOp) (t : TypeId) (ox oy : Operand) (m : Mem) (x y : AV) (c : AV → Prop) : Prop := match x, y with
  | .raw (.int k a), .raw (.int k' b) => rInt op k k' a b fun v => c (.raw v)
  | .raw (.float k a), .raw (.float k' b) => k = k' ∧ rFloat op k a b fun v => c (.raw v)
  | x, y => match op with
    | .eql => rEq P K op t ox oy m x y fun r => c (.raw (.bool r))
    | .neq => rEq P K op t ox oy m x y fun r => c (.raw (.bool (!r)))
    | _ => False
variable {P K}

theorem run_samePlain {w : World} {a b : Addr} (hs : ∃ c e, w.heap[a.block]? = some (.cells c e (0, 0))) (hs' : ∃ c e, w.heap[b.block]? = some (.cells c e (0, 0))) :
    (sameAddr a b).run P w = .ok (if a.block == b.block then a == b else false) w := by
  obtain ⟨c, e, h1⟩ := hs
  obtain ⟨c', e', h2⟩ := hs'
  by_cases hb : a.block = b.block
  · simp [sameAddr, hb]
  · simp [sameAddr, hb, noView, viewAt, mayBeOne, stringish, World.frozen?, World.shape?, h1, h2]

theorem Sat.plain {w0 : World} {κ : Ctx} (hS : Sat w0 κ) {b : Nat} {B : List AV} (hB : κ.m.get b = some B) (h0 : 0 < B.length) : (κ.ρ b).size ≠ 0 ∧ ∃ c e, κ.w.heap[(κ.ρ b).blk]? = some (.cells c e (0, 0)) := by
  rcases hS.blk b B hB with ⟨_, rfl⟩ | ⟨h1, _, c, e, h2, _⟩
  · simp at h0
  · exact ⟨h1, c, e, h2⟩

theorem eqGuard_no {op : BinOp} {t : TypeId} {ox oy : Operand} {u v : Value} (h : ∀ a b, u = .agg a → v = .agg b → False) (h' : u = .nilIface → v = .nilIface → (isConstOp ox || isConstOp oy) = true) (w : World) : (eqGuard op t ox oy u v).run P w = .ok () w := by
  have key : ∀ op', (op' = .eql ∨ op' = .neq) → (eqGuard op' t ox oy u v).run P w = .ok () w := by
    rintro _ (rfl | rfl) <;> cases u <;> cases v <;> first
      | rfl
      | exact (h _ _ rfl rfl).elim
      | (have := h' rfl rfl; cases ox <;> cases oy <;> first | (simp [isConstOp] at this; done) | rfl)
  cases op <;> first | rfl | exact key _ (.inl rfl) | exact key _ (.inr rfl)

theorem equal_of {t : TypeId} {u v : Value} {r : Bool} {w : World} (h : ∀ d, (Op.equalIn (d + 2) t u v).run P w = .ok r w) : (Op.equal t u v).run P w = .ok r w := h 9998

theorem guarded {op : BinOp} {t : TypeId} {ox oy : Operand} {u v : Value} {r : Bool} {w : World} (h : ∀ a b, u = .agg a → v = .agg b → False) (h' : u = .nilIface → v = .nilIface → (isConstOp ox || isConstOp oy) = true)
    (hr : ∀ d, (Op.equalIn (d + 2) t u v).run P w = .ok r w) : (do eqGuard op t ox oy u v; Op.equal t u v : Sem Bool).run P w = .ok r w := by
  rw [Sem.run_bind, eqGuard_no h h']
  exact equal_of hr

section
variable {d : Nat} {t : TypeId} {w : World}
theorem eqIn_bool {a b : Bool} (h : P.underlying t = some .bool) : (Op.equalIn (d + 1) t (.bool a) (.bool b)).run P w = .ok (a == b) w := by
  unfold Op.equalIn; rw [Sem.run_bind, run_underlying h]; rfl
theorem eqIn_nn {ms : Array (String × TypeId)} (h : P.underlying t = some (.interface ms)) : (Op.equalIn (d + 1) t .nilIface .nilIface).run P w = .ok true w := by
  unfold Op.equalIn; rw [Sem.run_bind, run_underlying h]; rfl
theorem eqIn_vn {ms : Array (String × TypeId)} {t' : TypeId} {z : Value} (h : P.underlying t = some (.interface ms)) : (Op.equalIn (d + 1) t (.iface t' z) .nilIface).run P w = .ok false w := by
  unfold Op.equalIn; rw [Sem.run_bind, run_underlying h]; rfl
theorem eqIn_nv {ms : Array (String × TypeId)} {t' : TypeId} {z : Value} (h : P.underlying t = some (.interface ms)) : (Op.equalIn (d + 1) t .nilIface (.iface t' z)).run P w = .ok false w := by
  unfold Op.equalIn; rw [Sem.run_bind, run_underlying h]; rfl
theorem eqIn_ne {ms : Array (String × TypeId)} {t1 t2 : TypeId} {y z : Value} (h : P.underlying t = some (.interface ms)) (hne : t1 ≠ t2) : (Op.equalIn (d + 1) t (.iface t1 y) (.iface t2 z)).run P w = .ok false w := by
  unfold Op.equalIn; rw [Sem.run_bind, run_underlying h, Result.andThen_ok]; simp only [ne_eq, hne, not_false_eq_true, if_true]; rfl
theorem eqIn_vv {ms : Array (String × TypeId)} {t1 : TypeId} {y z : Value} {i : TypeInfo} {r : Bool} (h : P.underlying t = some (.interface ms)) (hi : P.info? t1 = some i) (hc : i.comparable = true)
    (hr : (Op.equalIn d t1 y z).run P w = .ok r w) : (Op.equalIn (d + 1) t (.iface t1 y) (.iface t1 z)).run P w = .ok r w := by
  unfold Op.equalIn; rw [Sem.run_bind, run_underlying h, Result.andThen_ok]; simp [typeInfo, hi, hc, hr]
theorem eqIn_pn {e : TypeId} {b : Option Addr} (h : P.underlying t = some (.pointer e)) : (Op.equalIn (d + 1) t (.pointer none) (.pointer b)).run P w = .ok b.isNone w := by
  unfold Op.equalIn; rw [Sem.run_bind, run_underlying h]; rfl
theorem eqIn_sn {e : TypeId} {b : Addr} (h : P.underlying t = some (.pointer e)) : (Op.equalIn (d + 1) t (.pointer (some b)) (.pointer none)).run P w = .ok false w := by
  unfold Op.equalIn; rw [Sem.run_bind, run_underlying h]; rfl
theorem eqIn_ss {e n : Nat} {a b : Addr} {r : Bool} (h : P.underlying t = some (.pointer e)) (hn : szT P e = some (n + 1)) (hr : (sameAddr a b).run P w = .ok r w) : (Op.equalIn (d + 1) t (.pointer (some a)) (.pointer (some b))).run P w = .ok r w := by
  unfold Op.equalIn; rw [Sem.run_bind, run_underlying h, Result.andThen_ok]; simp [run_sizeOf' hn, hr]
theorem eqIn_fn {ps rs : Array TypeId} {va : Bool} {f : Fn} {a c : Array Value} (h : P.underlying t = some (.func ps rs va)) : (Op.equalIn (d + 1) t (.func f a c) .nilFunc).run P w = .ok false w := by
  unfold Op.equalIn; rw [Sem.run_bind, run_underlying h]; rfl
end

theorem rEq_ok {w0 : World} {κ : Ctx} (hK : K.ok P w0) (hS : Sat w0 κ) {op : BinOp} {t : TypeId} {ox oy : Operand} {x y : AV} {u v : Value} {c : Bool → Prop} (hx : E κ x u) (hy : E κ y v)
    (h : rEq P K op t ox oy κ.m x y c) : ∃ r, (do eqGuard op t ox oy u v; Op.equal t u v : Sem Bool).run P κ.w = .ok r κ.w ∧ c r := by
  have hif : isIface P t = true → ∃ ms, P.underlying t = some (.interface ms) := fun h => by
    unfold isIface at h
    split at h
    · rename_i ms hms; exact ⟨ms, hms⟩
    · simp at h
  have hpt : ∀ t, isPtr P t = true → ∃ e n, P.underlying t = some (.pointer e) ∧ szT P e = some (n + 1) := fun t h => by
    unfold isPtr at h
    split at h
    · rename_i e he
      split at h
      · rename_i n hn; exact ⟨e, n, he, hn⟩
      · simp at h
    · simp at h
  unfold rEq at h
  split at h
  · simp only [E] at hx hy; subst hx; subst hy
    exact ⟨_, guarded (by simp) (by simp) fun d => eqIn_bool h.1, h.2⟩
  · simp only [E] at hx hy; subst hx; subst hy
    obtain ⟨ms, hms⟩ := hif h.1
    exact ⟨_, guarded (by simp) (fun _ _ => h.2.1) fun d => eqIn_nn hms, h.2.2⟩
  · simp only [E] at hx hy; obtain ⟨z, rfl, _⟩ := hx; subst hy
    obtain ⟨ms, hms⟩ := hif h.1
    exact ⟨_, guarded (by simp) (by simp) fun d => eqIn_vn hms, h.2⟩
  · simp only [E] at hx hy; obtain ⟨z, rfl, _⟩ := hy; subst hx
    obtain ⟨ms, hms⟩ := hif h.1
    exact ⟨_, guarded (by simp) (by simp) fun d => eqIn_nv hms, h.2⟩
  · simp only [E] at hx hy; subst hx; subst hy
    obtain ⟨e, n, he, hn⟩ := hpt t h.1
    exact ⟨_, guarded (by simp) (by simp) fun d => eqIn_pn he, h.2⟩
  · simp only [E] at hx hy; subst hx; subst hy
    obtain ⟨e, n, he, hn⟩ := hpt t h.1
    exact ⟨_, guarded (by simp) (by simp) fun d => eqIn_sn he, h.2⟩
  · obtain ⟨hp, ⟨B, hB, ht⟩, h⟩ := h
    simp only [E] at hx hy; subst hy
    obtain ⟨rfl, _⟩ := (hx.2 B hB).2 ht
    obtain ⟨e, n, he, hn⟩ := hpt t hp
    exact ⟨_, guarded (by simp) (by simp) fun d => eqIn_sn he, h⟩
  · obtain ⟨hp, ⟨B, hB, ht⟩, h⟩ := h
    simp only [E] at hx hy; subst hx
    obtain ⟨rfl, _⟩ := (hy.2 B hB).2 ht
    obtain ⟨e, n, he, hn⟩ := hpt t hp
    exact ⟨_, guarded (by simp) (by simp) fun d => eqIn_pn he, h⟩
  · rename_i b tag off b' tag' off'
    obtain ⟨hp, ⟨B, hB, ht⟩, ⟨B', hB', ht'⟩, h1, h2, h⟩ := h
    simp only [E] at hx hy
    obtain ⟨rfl, s1⟩ := (hx.2 B hB).2 ht
    obtain ⟨rfl, s2⟩ := (hy.2 B' hB').2 ht'
    obtain ⟨e, n, he, hn⟩ := hpt t hp
    obtain ⟨z1, p1⟩ := hS.plain hB (by omega)
    obtain ⟨z2, p2⟩ := hS.plain hB' (by omega)
    refine ⟨_, guarded (by simp) (by simp) fun d => eqIn_ss he hn (run_samePlain (P := P) (a := κ.at b off) (b := κ.at b' off') p1 p2), ?_⟩
    by_cases hbb : b = b'
    · subst hbb
      rw [if_pos (by simp [Ctx.at])]
      have : (κ.at b off == κ.at b off') = decide (b = b ∧ off = off') := by
        rw [Bool.eq_iff_iff]
        simp only [Ctx.at, beq_iff_eq, Addr.mk.injEq, true_and, and_true, decide_eq_true_eq]
        omega
      rw [this]; exact h
    · rw [if_neg (by simpa [Ctx.at] using hS.ne b b' B B' hbb hB hB' z1 z2)]
      simpa [hbb] using h
  · obtain ⟨hp, h⟩ := h
    simp only [E] at hx hy; subst hx; subst hy
    obtain ⟨e, n, he, hn⟩ := hpt t hp
    split at h
    · rename_i r hr
      exact ⟨_, guarded (by simp) (by simp) fun d => eqIn_ss he hn (hK.same _ _ _ hr κ.w hS.old hS.same), h⟩
    · exact h.elim
  · obtain ⟨hi, h⟩ := h
    simp only [E] at hx hy
    obtain ⟨z, rfl, rfl⟩ := hx
    obtain ⟨z', rfl, rfl⟩ := hy
    obtain ⟨ms, hms⟩ := hif hi
    split at h
    · rename_i hEq
      subst hEq
      obtain ⟨hp, hc, h⟩ := h
      obtain ⟨e, n, he, hn⟩ := hpt _ hp
      split at h
      · rename_i r hr
        obtain ⟨i, hinf, hc⟩ := Option.map_eq_some_iff.1 hc
        exact ⟨_, guarded (by simp) (by simp) fun d => eqIn_vv hms hinf hc (eqIn_ss he hn (hK.same _ _ _ hr κ.w hS.old hS.same)), h⟩
      · exact h.elim
    · rename_i hne
      exact ⟨_, guarded (by simp) (by simp) fun d => eqIn_ne hms hne, h⟩
  · obtain ⟨hi, hne, h⟩ := h
    simp only [E] at hx hy
    obtain ⟨z, rfl, _⟩ := hx
    obtain ⟨z', rfl, _⟩ := hy
    obtain ⟨ms, hms⟩ := hif hi
    exact ⟨_, guarded (by simp) (by simp) fun d => eqIn_ne hms hne, h⟩
  · obtain ⟨r, hr, h⟩ := h
    simp only [E] at hx hy
    obtain ⟨us, rfl, _, e1⟩ := hx
    obtain ⟨vs, rfl, _, e2⟩ := hy
    exact ⟨r, hr κ us vs e1 e2, h⟩
  · obtain ⟨hf, h⟩ := h
    simp only [E] at hx hy
    obtain ⟨xs, ys, rfl, _⟩ := hx
    subst hy
    split at hf
    · rename_i hu
      exact ⟨_, guarded (by simp) (by simp) fun d => eqIn_fn hu, h⟩
    · exact hf.elim
  · exact h.elim

theorem binOp_eq {t : TypeId} {u v : Value} (h1 : ∀ k a k' b, u = .int k a → v = .int k' b → False) (h2 : ∀ k a k' b, u = .float k a → v = .float k' b → False) (h3 : ∀ k a a' k' b b', u = .complex k a a' → v = .complex k' b b' → False) (h4 : ∀ a b, u = .string a → v = .string b → False) :
    binOp .eql t u v = (do pure (.bool (← Op.equal t u v))) ∧ binOp .neq t u v = (do pure (.bool (!(← Op.equal t u v)))) := by
  cases u <;> cases v <;> first
    | exact ⟨rfl, rfl⟩
    | (exfalso; first | exact h1 _ _ _ _ rfl rfl | exact h2 _ _ _ _ rfl rfl | exact h3 _ _ _ _ _ _ rfl rfl | exact h4 _ _ rfl rfl)

/-- What 'rEq' takes is no number and no text. -/
theorem rEq_kind {κ : Ctx} {op : BinOp} {t : TypeId} {ox oy : Operand} {x y : AV} {u v : Value} {c : Bool → Prop} (hx : E κ x u) (hy : E κ y v) (h : rEq P K op t ox oy κ.m x y c) :
    binOp .eql t u v = (do pure (.bool (← Op.equal t u v))) ∧ binOp .neq t u v = (do pure (.bool (!(← Op.equal t u v)))) := by
  unfold rEq at h
  split at h
  all_goals try simp only [E] at hx hy
  all_goals first
    | exact h.elim
    | (subst hx; subst hy; exact ⟨rfl, rfl⟩)
    | (obtain ⟨z, rfl, _⟩ := hx; subst hy; exact ⟨rfl, rfl⟩)
    | (obtain ⟨z, rfl, _⟩ := hy; subst hx; exact ⟨rfl, rfl⟩)
    | (obtain ⟨_, ⟨B, hB, ht⟩, _⟩ := h; subst hy; obtain ⟨rfl, _⟩ := (hx.2 B hB).2 ht; exact ⟨rfl, rfl⟩)
    | (obtain ⟨_, ⟨B, hB, ht⟩, _⟩ := h; subst hx; obtain ⟨rfl, _⟩ := (hy.2 B hB).2 ht; exact ⟨rfl, rfl⟩)
    | (obtain ⟨_, ⟨B, hB, ht⟩, ⟨B', hB', ht'⟩, _⟩ := h; obtain ⟨rfl, _⟩ := (hx.2 B hB).2 ht; obtain ⟨rfl, _⟩ := (hy.2 B' hB').2 ht'; exact ⟨rfl, rfl⟩)
    | (obtain ⟨z, rfl, _⟩ := hx; obtain ⟨z', rfl, _⟩ := hy; exact ⟨rfl, rfl⟩)
    | (obtain ⟨xs, ys, rfl, _⟩ := hx; subst hy; exact ⟨rfl, rfl⟩)

theorem rBin_ok {w0 : World} {κ : Ctx} (hK : K.ok P w0) (hS : Sat w0 κ) {op : BinOp} {t : TypeId} {ox oy : Operand} {x y : AV} {u v : Value} {c : AV → Prop} (hx : E κ x u) (hy : E κ y v)
    (h : rBin P K op t ox oy κ.m x y c) : Gives (P := P) κ (do eqGuard op t ox oy u v; binOp op t u v) c := by
  unfold rBin at h
  split at h
  · simp only [E] at hx hy; subst hx; subst hy
    obtain ⟨r, hr, hc⟩ := rInt_ok (P := P) h t κ.w
    exact ⟨.raw r, r, by rw [Sem.run_bind, eqGuard_no (by simp) (by simp)]; exact hr, by simp [E], hc⟩
  · simp only [E] at hx hy; subst hx; subst hy
    obtain ⟨rfl, h⟩ := h
    obtain ⟨r, hr, hc⟩ := rFloat_ok (P := P) h t κ.w
    exact ⟨.raw r, r, by rw [Sem.run_bind, eqGuard_no (by simp) (by simp)]; exact hr, by simp [E], hc⟩
  · split at h
    · obtain ⟨r, hr, hc⟩ := rEq_ok hK hS hx hy h
      refine ⟨.raw (.bool r), .bool r, ?_, by simp [E], hc⟩
      rw [(rEq_kind hx hy h).1]
      rw [Sem.run_bind] at hr ⊢
      cases hg : (eqGuard BinOp.eql t ox oy u v).run P κ.w with
      | halt e w => rw [hg] at hr; simp at hr
      | ok a w => rw [hg] at hr; simp only [Result.andThen_ok] at hr; simp [hr]
    · obtain ⟨r, hr, hc⟩ := rEq_ok hK hS hx hy h
      refine ⟨.raw (.bool (!r)), .bool (!r), ?_, by simp [E], hc⟩
      rw [(rEq_kind hx hy h).2]
      rw [Sem.run_bind] at hr ⊢
      cases hg : (eqGuard BinOp.neq t ox oy u v).run P κ.w with
      | halt e w => rw [hg] at hr; simp at hr
      | ok a w => rw [hg] at hr; simp only [Result.andThen_ok] at hr; simp [hr]
    · exact h.elim
end
end Go.Proofs.Ytomigflbiijmpaa.Am
