/- THE ABSTRACT MEMORY: copy, clear, calls; every operation by one name; the operations of a statement in their order. -/
import Derived.Test.YtomigflbiijmpaaAmi
namespace Go.Proofs.Ytomigflbiijmpaa.Am

section
variable (P : Program) (K : Kn)

def rCopy (st : TypeId) (m : Mem) (d x : AV) (c : AV → Mem → Prop) : Prop := match P.underlying st with
  | some (.slice e) => (match szT P e with
    | some sz => 0 < sz ∧ rSrc m sz x fun ys => (match d with
      | .sl b tag off len sz' => sz' = sz ∧ (match m.get b with
        | some B => tag = B.length ∧ c (.raw (.int .i64 (min (ys.length / sz) len : Nat))) (m.set b (some (setAt B off (ys.take (min (ys.length / sz) len * sz)))))
        | none => False)
      | .zs => c (.raw (.int .i64 0)) m
      | _ => False)
    | none => False)
  | _ => False
def rClear (st : TypeId) (m : Mem) (d : AV) (c : AV → Mem → Prop) : Prop := match P.underlying st with
  | some (.slice e) => (match szT P e, zeroA P e with
    | some sz, some z => z.length = sz ∧ 0 < sz ∧ (match d with
      | .sl b tag off len sz' => sz' = sz ∧ (match m.get b with
        | some B => tag = B.length ∧ c .any (m.set b (some (setAt B off (zrow z (len * sz)))))
        | none => False)
      | .zs => c .any m
      | _ => False)
    | _, _ => False)
  | _ => False
variable {P}

theorem rCopy_ok {w0 : World} {κ : Ctx} (hS : Sat w0 κ) {st xt rt : TypeId} {d x : AV} {vd vx : Value} {c : AV → Mem → Prop} (hd : E κ d vd) (hx : E κ x vx) (h : rCopy P st κ.m d x c) :
    Makes (P := P) w0 κ (Builtin.copy_ #[st, xt] rt #[vd, vx]) c := by
  unfold rCopy at h
  split at h
  · rename_i e hu
    split at h
    · rename_i sz hsz
      obtain ⟨hpos, h⟩ := h
      obtain ⟨ys, ⟨n, hlen, hyl, hcells⟩, h⟩ := rSrc_ok (P := P) hS hx h
      have hn : ys.length / sz = n := by rw [hyl]; exact Nat.mul_div_cancel _ hpos
      have pre : ∀ base dLen dCap, vd = .slice base dLen dCap → ∀ vs : List Value, (Builtin.firstCells sz (min n dLen) vx).run P κ.w = .ok vs.toArray κ.w →
          (Builtin.copy_ #[st, xt] rt #[vd, vx]).run P κ.w = (do (match base with | some a => storeCells a vs | none => pure ()); pure (goInt (min n dLen : Nat)) : Sem Value).run P κ.w := by
        rintro base dLen dCap rfl vs hvs
        unfold Builtin.copy_
        simp only [List.getElem?_toArray, List.getElem?_cons_zero, List.getElem?_cons_succ]
        rw [Sem.run_bind, run_underlying hu, Result.andThen_ok]
        simp only [Sem.run_bind, hlen, Result.andThen_ok, run_sizeOf' hsz, Nat.min_def]
        have hvs' := hvs
        simp only [Nat.min_def] at hvs'
        simp only [hvs', Result.andThen_ok]
        cases base <;> simp
      split at h
      · rename_i b tag off len sz' _
        obtain ⟨rfl, h⟩ := h
        split at h
        · rename_i B hB
          obtain ⟨ht, hc⟩ := h
          rw [hn] at hc
          simp only [E] at hd
          obtain ⟨hle, hd2⟩ := (hd.2 B hB).2 ht
          obtain ⟨vs, hr, ho, he⟩ := hcells (min n len) (Nat.min_le_left _ _)
          rcases hd2 with ⟨rfl, a, rfl⟩ | ⟨cap, rfl, a2, a3, a4, a5⟩
          · simp only [Nat.min_zero, Nat.zero_mul, List.take_zero] at he hc hr
            have hvs : vs = [] := by simpa [EList] using he
            subst hvs
            refine ⟨κ, .raw (goInt 0), goInt 0, ?_, Fr.refl κ, hS, by simp [E], ?_⟩
            · rw [pre a 0 0 rfl [] (by simpa using hr κ.w rfl)]
              cases a <;> simp [storeCells]
            · have : setAt B off [] = B := by simp [setAt]
              rw [this, set_same hB] at hc
              exact hc
          · have hmul : min n len * sz' ≤ len * sz' := Nat.mul_le_mul_right _ (Nat.min_le_right _ _)
            have hmul2 : min n len * sz' ≤ n * sz' := Nat.mul_le_mul_right _ (Nat.min_le_left _ _)
            obtain ⟨w', hst, hf, hs⟩ := hS.stores (P := P) (xs := ys.take (min n len * sz')) hB a2 (by simp; omega) ho he
            refine ⟨_, _, goInt (min n len : Nat), ?_, hf, hs, by simp [E, goInt], hc⟩
            rw [pre _ _ _ rfl vs (hr κ.w rfl)]
            simp only [Sem.run_bind, hst, Result.andThen_ok, Sem.run_pure]
        · exact h.elim
      · simp only [E] at hd
        obtain ⟨a, rfl⟩ := hd
        obtain ⟨vs, hr, ho, he⟩ := hcells 0 (Nat.zero_le _)
        simp only [Nat.zero_mul, List.take_zero] at he
        have hvs : vs = [] := by simpa [EList] using he
        subst hvs
        refine ⟨κ, .raw (goInt 0), goInt 0, ?_, Fr.refl κ, hS, by simp [E], h⟩
        rw [pre a 0 0 rfl [] (by simpa using hr κ.w rfl)]
        cases a <;> simp [storeCells]
      · exact h.elim
    · exact h.elim
  · exact h.elim

theorem rClear_ok {w0 : World} {κ : Ctx} (hS : Sat w0 κ) {st rt : TypeId} {d : AV} {vd : Value} {c : AV → Mem → Prop} (hd : E κ d vd) (h : rClear P st κ.m d c) :
    Makes (P := P) w0 κ (Builtin.clear_ #[st] rt #[vd]) c := by
  unfold rClear at h
  split at h
  · rename_i e hu
    split at h
    · rename_i sz z hsz hz
      obtain ⟨hzl, hpos, h⟩ := h
      obtain ⟨zv, hr0, hone, rfl⟩ := run_zero hz κ.w
      simp only [List.length_map, Array.length_toList] at hzl
      have none : ∀ a, (Builtin.clear_ #[st] rt #[.slice a 0 0]).run P κ.w = .ok (.tuple #[]) κ.w := by
        intro a
        unfold Builtin.clear_
        simp only [List.getElem?_toArray, List.getElem?_cons_zero]
        rw [Sem.run_bind, run_underlying hu, Result.andThen_ok]
        cases a <;> rfl
      split at h
      · rename_i b tag off len sz'
        obtain ⟨rfl, h⟩ := h
        split at h
        · rename_i B hB
          obtain ⟨ht, hc⟩ := h
          simp only [E] at hd
          obtain ⟨hle, hd2⟩ := (hd.2 B hB).2 ht
          rcases hd2 with ⟨rfl, a, rfl⟩ | ⟨cap, rfl, a2, a3, a4, a5⟩
          · refine ⟨κ, .any, _, none a, Fr.refl κ, hS, by simp [E], ?_⟩
            have : setAt B off (zrow (zv.cells.toList.map .raw) (0 * sz')) = B := by simp [setAt, zrow]
            rw [this, set_same hB] at hc
            exact hc
          · obtain ⟨w', hst, hf, hs⟩ := hS.stores (P := P) (xs := zrow (zv.cells.toList.map .raw) (len * sz')) (vs := (Builtin.zeroCells zv.cells len).toList) hB a2 (by rw [zrow_length]; omega) (zeroCells_one hzl hpos hone) (zeroCells_ok hzl hpos)
            by_cases hl : len = 0
            · subst hl
              refine ⟨κ, .any, .tuple #[], ?_, Fr.refl κ, hS, by simp [E], ?_⟩
              · unfold Builtin.clear_
                simp only [List.getElem?_toArray, List.getElem?_cons_zero]
                rw [Sem.run_bind, run_underlying hu, Result.andThen_ok]
                rfl
              · have : setAt B off (zrow (zv.cells.toList.map .raw) (0 * sz')) = B := by simp [setAt, zrow]
                rw [this, set_same hB] at hc
                exact hc
            · refine ⟨_, _, .tuple #[], ?_, hf, hs, by simp [E], hc⟩
              unfold Builtin.clear_
              simp only [List.getElem?_toArray, List.getElem?_cons_zero]
              rw [Sem.run_bind, run_underlying hu, Result.andThen_ok]
              obtain ⟨len, rfl⟩ : ∃ l, len = l + 1 := ⟨len - 1, by omega⟩
              simp only [Sem.run_bind, hr0, Result.andThen_ok, hst, Sem.run_pure]
        · exact h.elim
      · simp only [E] at hd
        obtain ⟨a, rfl⟩ := hd
        exact ⟨κ, _, _, none a, Fr.refl κ, hS, by simp [E], h⟩
      · exact h.elim
    · exact h.elim
  · exact h.elim

/-! ### Calls -/
variable (P)
def callable (g : FuncId) : Bool := match P.funcs[g]? with
  | some fn => fn.name != "runtime.NumGoroutine" && fn.body.isSome
  | none => false
/-- A function without a Go body: what the model's own text for it gives. -/
def Ext (g : FuncId) (args : List AV) (m : Mem) (k : AV → Mem → Prop) : Prop :=
  ∀ (w0 : World) (κ : Ctx) (cargs : List Value), K.ok P w0 → Sat w0 κ → κ.m = m → EList κ args cargs →
    ∃ κ' y u, (callFunc g cargs.toArray).run P κ.w = .ok (.value u) κ'.w ∧ Fr κ κ' ∧ Sat w0 κ' ∧ E κ' y u ∧ k y κ'.m
def rOut (k : AV → Mem → Prop) (pn : AV → Mem → Prop) (o : Out) (m : Mem) : Prop := match o with
  | .ret v => k v m
  | .pan v => pn v m
def rFn (g : FuncId) (args : List AV) (m : Mem) (k pn : AV → Mem → Prop) : Prop :=
  if callable P g = true then AFn P K g args m (rOut k pn) else Ext P K g args m k
def rCall (c : Call) (fr : Fm) (m : Mem) (k pn : AV → Mem → Prop) : Prop := match c.callee with
  | .value f => (match ev fr f with
    | .fn (.func g) first caps => rFn P K g (first ++ c.args.toList.map (ev fr) ++ caps) m k pn
    | _ => False)
  | .builtin b => (match b, c.args.toList, c.argTypes.toList with
    | .len, [x], t :: _ => rLen P t m (ev fr x) fun v => k v m
    | .min, l, _ => rMin (l.map (ev fr)) fun v => k v m
    | .max, l, _ => rMax (l.map (ev fr)) fun v => k v m
    | .append, [s, x], [st, xt] => rAppend P st xt m (ev fr s) (ev fr x) k
    | .copy, [d, x], [st, _] => rCopy P st m (ev fr d) (ev fr x) k
    | .clear, [d], [st] => rClear P st m (ev fr d) k
    | .panic, [x], _ => (match ev fr x with | .ifc t v => pn (.ifc t v) m | _ => False)
    | _, _, _ => False)
  | _ => False

/-- A quotient may be no number: which one is open. -/
def rBinX (op : BinOp) (t : TypeId) (ox oy : Operand) (m : Mem) (x y : AV) (k : AV → Mem → Prop) : Prop := match op, x, y with
  | .quo, .raw (.float f a), .raw (.float f' b) => f = f' ∧ (match f.format.div a b with
    | some r => k (.raw (.float f r)) m
    | none => ∀ n, k (.raw (.float f (Question.cut (.nanBits f a b) n))) m)
  | op, x, y => rBin P K op t ox oy m x y fun v => k v m

def orun (own : List Nat) (o : Oper) (fr : Fm) (m : Mem) (k pn : AV → Mem → Prop) : Prop := match o.op with
  | .move x => k (ev fr x) m
  | .assign x => k (ev fr x) m
  | .pick c a b => (match ev fr c with | .raw (.bool t) => k (pickAV t (ev fr a) (ev fr b)) m | _ => False)
  | .alloc e => rAlloc P e m k
  | .box _ x => rBox m (ev fr x) k
  | .build t ps => rBuild P t m (ps.toList.map fun p => (p.1, ev fr p.2)) fun v => k v m
  | .buildSlice t len ps => rBuildSlice P t (own.contains (o.dst.getD 0)) len m (ps.toList.map fun p => (p.1, ev fr p.2)) k
  | .load t a => rLoad P K t m (ev fr a) fun v => k v m
  | .store t a x => rStore P t m (ev fr a) (ev fr x) fun m' => k .any m'
  | .nilCheck x => rNil m (ev fr x) fun v => k v m
  | .binOp op t x y _ => rBinX P K op t x y m (ev fr x) (ev fr y) k
  | .unOp op _ x => rUn op (ev fr x) fun v => k v m
  | .convert s d x => rConv P s d (ev fr x) fun v => k v m
  | .makeInterface t x => P.concrete t = true ∧ k (.ifc t (ev fr x)) m
  | .makeFunc f a c => k (.fn f (a.toList.map (ev fr)) (c.toList.map (ev fr))) m
  | .makeSlice t l c => rMake P t m (ev fr l) (ev fr c) k
  | .slice t x lo hi mx => rSlice P t m (ev fr x) (lo.map (ev fr)) (hi.map (ev fr)) (mx.map (ev fr)) fun v => k v m
  | .sliceToArrayPointer t x => rToArr P t m (ev fr x) fun v => k v m
  | .fieldAddr s x f => rFieldAddr P s m (ev fr x) f fun v => k v m
  | .field t x f => rField P t (ev fr x) f fun v => k v m
  | .indexAddr t x i => rIndexAddr P t m (ev fr x) (ev fr i) fun v => k v m
  | .index t x i => rIndex P t (ev fr x) (ev fr i) fun v => k v m
  | .typeAssert x _ t ok => rAssert P (ev fr x) t ok fun v => k v m
  | .extract x i => rExtract (ev fr x) i fun v => k v m
  | .panic x => (match ev fr x with | .ifc t v => pn (.ifc t v) m | _ => False)
  | .call c => rCall P K c fr m k pn
  | _ => False
variable {P K}

theorem EList_map {κ : Ctx} {fr : Fm} {a : Act} (h : FRel κ fr a.tmps) : (l : List Operand) → EList κ (l.map (ev fr)) (l.map a.eval)
  | [] => by simp [EList]
  | o :: r => by
    simp only [List.map_cons, EList]
    exact ⟨_, _, rfl, ev_ok h o, EList_map h r⟩
theorem EParts_map {κ : Ctx} {fr : Fm} {a : Act} (h : FRel κ fr a.tmps) : (l : List (Nat × Operand)) → EParts κ (l.map fun p => (p.1, ev fr p.2)) (l.map fun p => (p.1, a.eval p.2))
  | [] => by simp [EParts]
  | (i, o) :: r => by
    simp only [List.map_cons, EParts]
    exact ⟨_, _, rfl, ev_ok h o, EParts_map h r⟩
theorem EOpt_map {κ : Ctx} {fr : Fm} {a : Act} (h : FRel κ fr a.tmps) (o : Option Operand) : EOpt κ (o.map (ev fr)) (o.map a.eval) := by
  cases o with
  | none => simp [EOpt]
  | some x => exact ⟨_, rfl, ev_ok h x⟩

/-- What an operation comes to: a value (or nothing), or a panic. -/
def Comes1 (P : Program) (w0 : World) (κ : Ctx) (o : Oper) (a : Act) (k pn : AV → Mem → Prop) : Prop :=
  ∀ (next : Act → World → Prop) (Q : Exit → Act → World → Prop),
    (∀ κ' v x, Fr κ κ' → Sat w0 κ' → E κ' v x → k v κ'.m → next (a.put o.dst x) κ'.w) →
    (∀ κ' v x, Fr κ κ' → Sat w0 κ' → E κ' v x → pn v κ'.m → Q (.panic [{ v := x, recovered := false }]) a κ'.w) → o.wp P a κ.w next Q

theorem Comes1.makes {w0 : World} {κ : Ctx} {o : Oper} {a : Act} {k pn : AV → Mem → Prop} {s : Sem Value} (h : Makes (P := P) w0 κ s k) (he : execOp a.eval o = (do pure (.value (← s)))) : Comes1 P w0 κ o a k pn := by
  intro next Q hn _
  obtain ⟨κ', y, u, hr, hf, hs, hE, hk⟩ := h
  unfold Oper.wp
  rw [he, Sem.run_bind, hr, Result.andThen_ok]
  exact hn κ' y u hf hs hE hk
theorem Comes1.gives {w0 : World} {κ : Ctx} (hS : Sat w0 κ) {o : Oper} {a : Act} {k pn : AV → Mem → Prop} {s : Sem Value} (h : Gives (P := P) κ s fun v => k v κ.m) (he : execOp a.eval o = (do pure (.value (← s)))) : Comes1 P w0 κ o a k pn :=
  Comes1.makes (h.makes hS) he

theorem rFn_ok {w0 : World} {κ : Ctx} (hK : K.ok P w0) (hS : Sat w0 κ) {g : FuncId} {args : List AV} {cargs : List Value} {k pn : AV → Mem → Prop} {o : Oper} {a : Act} (he : EList κ args cargs) (h : rFn P K g args κ.m k pn)
    (hx : execOp a.eval o = callFunc g cargs.toArray) : Comes1 P w0 κ o a k pn := by
  intro next Q hn hp
  unfold rFn at h
  unfold Oper.wp
  rw [hx]
  split at h
  · rename_i hc
    unfold callable at hc
    cases hg : P.funcs[g]? with
    | none => simp [hg] at hc
    | some fn =>
      simp only [hg, Bool.and_eq_true, bne_iff_ne] at hc
      have hnb : fn.body ≠ none := fun e => by rw [e] at hc; simp at hc
      have hrun : (callFunc g cargs.toArray).run P κ.w = .ok (.enter g cargs.toArray) κ.w := by
        simp [callFunc, hg, hc.1, hnb]
      rw [hrun, Oper.upon_enter]
      refine (h w0 κ cargs hK hS rfl he).mono ?_
      rintro e w' ⟨κ', out, rfl, hr, hf, hs, hout⟩
      cases out with
      | ret v =>
        obtain ⟨x, rfl, hE⟩ := hout
        exact hn κ' v x hf hs hE hr
      | pan v =>
        obtain ⟨x, rfl, hE⟩ := hout
        exact hp κ' v x hf hs hE hr
  · obtain ⟨κ', y, u, hr, hf, hs, hE, hk⟩ := h w0 κ cargs hK hS rfl he
    rw [hr, Oper.upon_value]
    exact hn κ' y u hf hs hE hk

theorem rCall_ok {w0 : World} {κ : Ctx} (hK : K.ok P w0) (hS : Sat w0 κ) {c : Call} {fr : Fm} {k pn : AV → Mem → Prop} {o : Oper} {a : Act} (ho : o.op = .call c) (hF : FRel κ fr a.tmps) (h : rCall P K c fr κ.m k pn) : Comes1 P w0 κ o a k pn := by
  obtain ⟨callee, cargs, ctypes⟩ := c
  obtain ⟨cargs⟩ := cargs
  obtain ⟨ctypes⟩ := ctypes
  have hmap := EList_map (κ := κ) hF cargs
  unfold rCall at h
  cases callee with
  | invoke r n => exact h.elim
  | value f =>
    simp only at h
    have hf := ev_ok hF f
    split at h
    · rename_i g first caps hfe
      rw [hfe] at hf
      simp only [E] at hf
      obtain ⟨xs, ys, hv, h1, h2⟩ := hf
      refine rFn_ok hK hS ((h1.append hmap).append h2) h ?_
      unfold execOp
      rw [ho]
      simp only [resolve, hv, Deferred.ofValue]
      simp [invoke]
    · exact h.elim
  | builtin b =>
    simp only at h
    have ex : ∀ (s : Sem Value), builtin b ctypes.toArray o.type (cargs.toArray.map fun | .const _ => true | _ => false) (cargs.toArray.map a.eval) = (do pure (.value (← s))) → execOp a.eval o = (do pure (.value (← s))) := by
      intro s hs
      unfold execOp
      rw [ho]
      exact hs
    split at h
    · rename_i x t ts
      exact Comes1.gives hS (rLen_ok (rt := o.type) (ts := ts) (ev_ok hF x) h) (ex _ (by simp [builtin]))
    · refine Comes1.gives hS (rMin_ok (ts := ctypes.toArray) (rt := o.type) hmap h) (ex _ ?_)
      simp [builtin]
    · refine Comes1.gives hS (rMax_ok (ts := ctypes.toArray) (rt := o.type) hmap h) (ex _ ?_)
      simp [builtin]
    · rename_i s x st xt
      exact Comes1.makes (rAppend_ok (rt := o.type) hS (ev_ok hF s) (ev_ok hF x) h) (ex _ (by simp [builtin]))
    · rename_i d x st xt
      exact Comes1.makes (rCopy_ok (rt := o.type) (xt := xt) hS (ev_ok hF d) (ev_ok hF x) h) (ex _ (by simp [builtin]))
    · rename_i d st
      exact Comes1.makes (rClear_ok (rt := o.type) hS (ev_ok hF d) h) (ex _ (by simp [builtin]))
    · rename_i l x
      split at h
      · rename_i t v hfe
        intro next Q _ hp
        have hf := ev_ok hF x
        rw [hfe] at hf
        have hf' := hf
        simp only [E] at hf'
        obtain ⟨y, hy, _⟩ := hf'
        unfold Oper.wp
        have : (execOp a.eval o).run P κ.w = .halt (.panic (.iface t y)) κ.w := by
          unfold execOp
          rw [ho]
          simp [resolve, invoke, builtin, hy, Instr.panic]
        rw [this, Oper.upon_panic]
        refine hp κ (.ifc t v) (.iface t y) (Fr.refl κ) hS ?_ h
        rw [← hy]; exact hf
      · exact h.elim
    · exact h.elim

theorem orun_ok {w0 : World} {κ : Ctx} (hK : K.ok P w0) (hS : Sat w0 κ) {own : List Nat} {fr : Fm} {k pn : AV → Mem → Prop} {o : Oper} {a : Act} (hF : FRel κ fr a.tmps) (h : orun P K own o fr κ.m k pn) : Comes1 P w0 κ o a k pn := by
  unfold orun at h
  have ex : ∀ (op : Op) (s : Sem Next), o.op = op → (∀ o' : Oper, o'.op = op → o'.type = o.type → execOp a.eval o' = s) → execOp a.eval o = s := fun op s h1 h2 => h2 o h1 rfl
  have val : ∀ (v : AV) (x : Value), execOp a.eval o = pure (.value x) → E κ v x → k v κ.m → Comes1 P w0 κ o a k pn := by
    intro v x he hE hk next Q hn _
    unfold Oper.wp
    rw [he, Sem.run_pure, Oper.upon_value]
    exact hn κ v x (Fr.refl κ) hS hE hk
  split at h
  · rename_i x ho
    exact val _ _ (by unfold execOp; rw [ho]) (ev_ok hF x) h
  · rename_i x ho
    exact val _ _ (by unfold execOp; rw [ho]) (ev_ok hF x) h
  · rename_i c x y ho
    split at h
    · rename_i t hc
      have h1 := ev_ok hF c
      rw [hc] at h1
      simp only [E] at h1
      refine val _ (if t then a.eval x else a.eval y) ?_ (pickAV_ok (ev_ok hF x) (ev_ok hF y)) h
      unfold execOp; rw [ho]; simp only [h1, asBool]; rfl
    · exact h.elim
  · rename_i e ho
    exact Comes1.makes (rAlloc_ok hS h) (by unfold execOp; rw [ho])
  · rename_i e x ho
    exact Comes1.makes (rBox_ok (t := e) hS (ev_ok hF x) h) (by unfold execOp; rw [ho])
  · rename_i t ps ho
    obtain ⟨ps⟩ := ps
    refine Comes1.gives hS (rBuild_ok (EParts_map hF ps) h) ?_
    unfold execOp; rw [ho]; simp
  · rename_i t len ps ho
    obtain ⟨ps⟩ := ps
    refine Comes1.makes (rBuildSlice_ok hS (EParts_map hF ps) h) ?_
    unfold execOp; rw [ho]; simp
  · rename_i t x ho
    obtain ⟨y, u, hr, hE, hk⟩ := rLoad_ok hK hS (ev_ok hF x) h
    exact Comes1.gives hS ⟨y, u, hr, hE, hk⟩ (by unfold execOp; rw [ho])
  · rename_i t x y ho
    intro next Q hn _
    obtain ⟨κ', hr, hf, hs, hk⟩ := rStore_ok hS (ev_ok hF x) (ev_ok hF y) h
    unfold Oper.wp
    have : (execOp a.eval o).run P κ.w = .ok .skip κ'.w := by unfold execOp; rw [ho]; simp [hr]
    rw [this, Oper.upon_skip]
    exact hn κ' .any undef hf hs (by simp [E]) hk
  · rename_i x ho
    have hx := ev_ok hF x
    have hnc : ∀ y : AV, E κ y (a.eval x) → k y κ.m → (∃ p, a.eval x = .pointer (some p)) ∨ (∃ t v, a.eval x = .iface t v) ∨ (∃ f p q, a.eval x = .func (.func f) p q) → Comes1 P w0 κ o a k pn := by
      intro y hy hk hc
      refine val y (a.eval x) ?_ hy hk
      unfold execOp; rw [ho]
      rcases hc with ⟨p, hp⟩ | ⟨t, v, hp⟩ | ⟨f, p, q, hp⟩ <;> simp only [hp]
    unfold rNil at h
    split at h
    · rename_i b tag off he
      obtain ⟨⟨B, hB, ht⟩, hk⟩ := h
      have hx' := hx
      rw [he] at hx'
      simp only [E] at hx'
      exact hnc (ev fr x) hx hk (.inl ⟨_, ((hx'.2 B hB).2 ht).1⟩)
    · rename_i cs he
      have hx' := hx
      rw [he] at hx'
      simp only [E] at hx'
      obtain ⟨kb, i, hp, _⟩ := hx'
      exact hnc (ev fr x) hx h (.inl ⟨_, hp⟩)
    · rename_i t v he
      have hx' := hx
      rw [he] at hx'
      simp only [E] at hx'
      obtain ⟨y, hp, _⟩ := hx'
      exact hnc (ev fr x) hx h (.inr (.inl ⟨_, _, hp⟩))
    · rename_i f p q he
      have hx' := hx
      rw [he] at hx'
      simp only [E] at hx'
      obtain ⟨xs, ys, hp, _⟩ := hx'
      exact hnc (ev fr x) hx h (.inr (.inr ⟨_, _, _, hp⟩))
    · rename_i p he
      have hx' := hx
      rw [he] at hx'
      simp only [E] at hx'
      exact hnc (ev fr x) hx h (.inl ⟨_, hx'⟩)
    · exact h.elim
  · rename_i op t x y ty ho
    unfold rBinX at h
    split at h
    · rename_i f va f' vb hx hy
      obtain ⟨rfl, h⟩ := h
      have h1 := ev_ok hF x
      have h2 := ev_ok hF y
      rw [hx] at h1
      rw [hy] at h2
      simp only [E] at h1 h2
      have he : execOp a.eval o = (do pure (.value (← (do eqGuard .quo t x y (.float f va) (.float f vb); binOp .quo t (.float f va) (.float f vb) : Sem Value)))) := by unfold execOp; rw [ho]; simp only [h1, h2]
      split at h
      · rename_i r hr
        exact Comes1.gives hS ⟨_, .float f r, by simp [eqGuard, binOp, Op.floatArith, hr], by simp [E], h⟩ he
      · rename_i hr
        obtain ⟨q1, q2⟩ := step_tape hS (w' := { κ.w with drawn := κ.w.drawn + 1 }) rfl ⟨rfl, rfl⟩
        refine Comes1.makes ⟨_, .raw (.float f (Question.cut (.nanBits f va vb) (κ.w.tape κ.w.drawn (.nanBits f va vb)))), .float f (Question.cut (.nanBits f va vb) (κ.w.tape κ.w.drawn (.nanBits f va vb))), ?_, q1, q2, by simp only [E], h _⟩ he
        simp [eqGuard, binOp, Op.floatArith, hr, choose, Sem.run, Question.forced]
    · exact Comes1.gives hS (rBin_ok hK hS (ev_ok hF x) (ev_ok hF y) h) (by unfold execOp; rw [ho])
  · rename_i op t x ho
    exact Comes1.gives hS (rUn_ok (ev_ok hF x) h) (by unfold execOp; rw [ho])
  · rename_i s d x ho
    exact Comes1.gives hS (rConv_ok (ev_ok hF x) h) (by unfold execOp; rw [ho])
  · rename_i t x ho
    refine Comes1.gives hS ⟨_, .iface t (a.eval x), run_makeInterface κ.w t (a.eval x) h.1, ?_, h.2⟩ (by unfold execOp; rw [ho])
    simp only [E]; exact ⟨_, rfl, ev_ok hF x⟩
  · rename_i f p q ho
    obtain ⟨p⟩ := p
    obtain ⟨q⟩ := q
    refine Comes1.gives hS ⟨_, .func f (p.map a.eval).toArray (q.map a.eval).toArray, ?_, ?_, h⟩ (s := Instr.makeFunc f (p.toArray.map a.eval) (q.toArray.map a.eval)) (by unfold execOp; rw [ho])
    · simp [Instr.makeFunc]
    · simp only [E]; exact ⟨_, _, rfl, EList_map hF p, EList_map hF q⟩
  · rename_i t l c ho
    exact Comes1.makes (rMake_ok hS (ev_ok hF l) (ev_ok hF c) h) (by unfold execOp; rw [ho])
  · rename_i t x lo hi mx ho
    exact Comes1.gives hS (rSlice_ok hS (ev_ok hF x) (EOpt_map hF lo) (EOpt_map hF hi) (EOpt_map hF mx) h) (by unfold execOp; rw [ho])
  · rename_i t x ho
    exact Comes1.gives hS (rToArr_ok (ev_ok hF x) h) (by unfold execOp; rw [ho])
  · rename_i s x f ho
    exact Comes1.gives hS (rFieldAddr_ok (ev_ok hF x) h) (by unfold execOp; rw [ho])
  · rename_i t x f ho
    exact Comes1.gives hS (rField_ok (ev_ok hF x) h) (by unfold execOp; rw [ho])
  · rename_i t x i ho
    exact Comes1.gives hS (rIndexAddr_ok (ev_ok hF x) (ev_ok hF i) h) (by unfold execOp; rw [ho])
  · rename_i t x i ho
    exact Comes1.gives hS (rIndex_ok (ev_ok hF x) (ev_ok hF i) h) (by unfold execOp; rw [ho])
  · rename_i x xt t ok ho
    exact Comes1.gives hS (rAssert_ok (xt := xt) (ev_ok hF x) h) (by unfold execOp; rw [ho])
  · rename_i x i ho
    exact Comes1.gives hS (rExtract_ok (ev_ok hF x) h) (by unfold execOp; rw [ho])
  · rename_i x ho
    split at h
    · rename_i t v hfe
      intro next Q _ hp
      have hf := ev_ok hF x
      rw [hfe] at hf
      have hf' := hf
      simp only [E] at hf'
      obtain ⟨y, hy, _⟩ := hf'
      unfold Oper.wp
      have : (execOp a.eval o).run P κ.w = .halt (.panic (.iface t y)) κ.w := by
        unfold execOp
        rw [ho]
        simp [hy, Instr.panic]
      rw [this, Oper.upon_panic]
      refine hp κ (.ifc t v) (.iface t y) (Fr.refl κ) hS ?_ h
      rw [← hy]; exact hf
    · exact h.elim
  · rename_i c ho
    exact rCall_ok hK hS ho hF h
  · exact h.elim
end
end Go.Proofs.Ytomigflbiijmpaa.Am
