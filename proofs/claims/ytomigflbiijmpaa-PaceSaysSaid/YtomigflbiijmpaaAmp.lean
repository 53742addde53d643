/- THE ABSTRACT MEMORY: regions, operation by operation: what is behind an operation is a variable while it is looked at. -/
import Derived.Test.YtomigflbiijmpaaAmo
namespace Go.Proofs.Ytomigflbiijmpaa.Am

/-- A frame's values in the slots of a list. -/
def Fm.low : List Nat → Fm → Fm
  | [], _ => []
  | i :: r, fr => (i, fr.get i) :: Fm.low r fr
theorem low_get (fr : Fm) : ∀ (l : List Nat) (i : Nat), (Fm.low l fr).get i = .any ∨ (Fm.low l fr).get i = fr.get i
  | [], _ => .inl rfl
  | j :: r, i => by
    simp only [Fm.low, Fm.get]
    split
    · rename_i h; subst h; exact .inr rfl
    · exact low_get fr r i
theorem FRel.low {κ : Ctx} {fr : Fm} {t : Array Value} (h : FRel κ fr t) (l : List Nat) : FRel κ (Fm.low l fr) t := by
  intro i
  rcases low_get fr l i with e | e
  · rw [e]; simp [E]
  · rw [e]; exact h i
def Fm.cons (d : Option Tmp) (v : AV) (fr : Fm) : Fm := match d with
  | some d => (d, v) :: fr
  | none => fr
theorem FRel.cons {κ : Ctx} {fr : Fm} {a : Act} (hr : FRel κ fr a.tmps) {d : Option Tmp} (hd : dOK a.tmps.size d) {v : AV} {x : Value} (hv : E κ v x) : FRel κ (fr.cons d v) (a.put d x).tmps := by
  cases d with
  | none => exact hr
  | some d =>
    intro i
    have := (hr.put hd hv) i
    rw [get_put] at this
    simp only [Fm.cons, Fm.get, Act.put]
    by_cases h : i = d
    · subst h; simpa using this
    · rw [if_neg h] at this; rw [if_neg (Ne.symm h)]; exact this
theorem FRel.top {κ : Ctx} {t : Array Value} {fr : Fm} (hr : FRel κ fr t) {s : Nat} {v : AV} (hv : E κ v (t.getD s undef)) : FRel κ ((s, v) :: fr) t := by
  intro i
  simp only [Fm.get]
  split
  · rename_i h; subst h; exact hv
  · exact hr i

section
variable {V : Env} {Q : Post} {fr : Fm} {m : Mem}
theorem awp_low {c : Code} {fr' : Fm} (keep : List Nat) (hf : Fm.low keep fr = fr') (h : Awp V c Q fr' m) : Awp V c Q fr m := by
  unfold Awp at h ⊢
  subst hf
  intro w0 κ0 κ a h1 h2 h3 h4 h5 h6 h7 h8 h9
  exact h w0 κ0 κ a h1 h2 h3 h4 h5 h6 (h7.low keep) h8 h9

/-- The operations that are left of a region. -/
def Ac (V : Env) (all : Array Oper) (l : List Oper) (Q : Post) (fr : Fm) (m : Mem) : Prop :=
  ∀ (w0 : World) (κ0 κ : Ctx) (a : Act), V.K.ok V.P w0 → Sat w0 κ0 → κ0.m = V.m0 → Fr κ0 κ → Sat w0 κ → κ.m = m → FRel κ fr a.tmps → a.tmps.size = V.N → a.defers = [] →
    wpList V.P all (APost w0 κ0 V.N Q) l a κ.w
theorem awp_reg {id : Nat} {l : List Oper} (h : Ac V l.toArray l Q fr m) : Awp V (.region id l.toArray false) Q fr m := by
  unfold Awp
  intro w0 κ0 κ a h1 h2 h3 h4 h5 h6 h7 h8 h9
  exact wp_region_lit (h w0 κ0 κ a h1 h2 h3 h4 h5 h6 h7 h8 h9)
theorem awp_regp {id : Nat} {l : List Oper} {fr' : Fm} (keep : List Nat) (hf : Fm.low keep fr = fr') (h : Ac V l.toArray l Q fr' m) : Awp V (.region id l.toArray false) Q fr m :=
  awp_low keep hf (awp_reg h)
variable {all : Array Oper} {r : List Oper}
theorem ac_nil (h : Q .nrm fr m) : Ac V all [] Q fr m :=
  fun _ _ κ _ _ _ _ h4 h5 h6 h7 h8 h9 => ⟨κ, fr, rfl, h4, h5, h7, h8, h9, by rw [h6]; exact h⟩
theorem ac_low {fr' : Fm} (keep : List Nat) (hf : Fm.low keep fr = fr') (h : Ac V all r Q fr' m) : Ac V all r Q fr m := by
  subst hf
  intro w0 κ0 κ a h1 h2 h3 h4 h5 h6 h7 h8 h9
  exact h w0 κ0 κ a h1 h2 h3 h4 h5 h6 (h7.low keep) h8 h9
theorem ac_view (fr2 : Fm) (m2 : Mem) (hi : Into V.m0 fr m fr2 m2) (h : Ac V all r Q fr2 m2) : Ac V all r Q fr m := by
  intro w0 κ0 κ a h1 h2 h3 h4 h5 h6 h7 h8 h9
  obtain ⟨κ2, e1, e2, e3, e4, e5⟩ := Into.ok (κ0 := κ0) (κ := κ) (by rw [h3, h6]; exact hi) h2 h4 h5 h7
  have := h w0 κ0 κ2 a h1 h2 h3 e3 e4 e2 e5 h8 h9
  rw [e1] at this
  exact this
theorem ac_freeze (b : Nat) (m2 : Mem) (hb : FOK m b m2) (h : Ac V all r Q (frzF m b fr) m2) : Ac V all r Q fr m := by
  intro w0 κ0 κ a h1 h2 h3 h4 h5 h6 h7 h8 h9
  subst h6
  obtain ⟨r1, r2⟩ := freeze_ok h5 hb
  exact h w0 κ0 ⟨κ.ρ, m2, κ.w⟩ a h1 h2 h3 (h4.trans r1) r2 rfl (fun i => by rw [frzF_get]; exact E.frz h5 hb _ (h7 i)) h8 h9

theorem ac_op (own : List Nat) {d : Option Tmp} {op : Op} {ty : TypeId} {pos : String} {af : Array Edge} (hd : dOK V.N d)
    (h : ∀ k' p' : AV → Mem → Prop, (∀ v m', Ac V all r Q (Fm.cons d v fr) m' → k' v m') → (∀ v m', Q (.pan v) fr m' → p' v m') → orun V.P V.K own ⟨d, op, ty, pos, af, none⟩ fr m k' p') :
    Ac V all (⟨d, op, ty, pos, af, none⟩ :: r) Q fr m := by
  intro w0 κ0 κ a h1 h2 h3 h4 h5 h6 h7 h8 h9
  subst h6
  have h := h _ _ (fun _ _ x => x) (fun _ _ x => x)
  simp only [wpList]
  rw [if_pos (by simp [Region.wanted])]
  left
  rw [← h8] at hd
  refine orun_ok h1 h5 h7 h _ _ (fun κ' v x hf hS hE hk => ?_) (fun κ' v x hf hS hE hk => ?_)
  · exact hk w0 κ0 κ' _ h1 h2 h3 (h4.trans hf) hS rfl ((h7.mono hf).cons hd hE) (by rw [put_size]; exact h8) (by rw [put_defers]; exact h9)
  · exact ⟨κ', fr, rfl, h4.trans hf, hS, h7.mono hf, h8, h9, v, x, rfl, hE, hk⟩
theorem ac_so (own : List Nat) {d : Nat} {op : Op} {ty : TypeId} {pos : String} {af : Array Edge} (hd : Nat.blt d V.N = true)
    (h : ∀ k' p' : AV → Mem → Prop, (∀ v m', Ac V all r Q ((d, v) :: fr) m' → k' v m') → (∀ v m', Q (.pan v) fr m' → p' v m') → orun V.P V.K own ⟨some d, op, ty, pos, af, none⟩ fr m k' p') :
    Ac V all (⟨some d, op, ty, pos, af, none⟩ :: r) Q fr m := ac_op own (by simpa [dOK, Nat.blt_eq] using hd) h
theorem ac_no (own : List Nat) {op : Op} {ty : TypeId} {pos : String} {af : Array Edge}
    (h : ∀ k' p' : AV → Mem → Prop, (∀ v m', Ac V all r Q fr m' → k' v m') → (∀ v m', Q (.pan v) fr m' → p' v m') → orun V.P V.K own ⟨none, op, ty, pos, af, none⟩ fr m k' p') :
    Ac V all (⟨none, op, ty, pos, af, none⟩ :: r) Q fr m := ac_op own trivial h
theorem ac_move {d : Nat} {x : Operand} {ty : TypeId} {pos : String} {af : Array Edge} {v : AV} (hd : Nat.blt d V.N = true) (hv : ev fr x = v) (h : Ac V all r Q ((d, v) :: fr) m) :
    Ac V all (⟨some d, .move x, ty, pos, af, none⟩ :: r) Q fr m := by
  subst hv
  exact ac_so [] hd fun k' p' hk _ => hk _ _ h
theorem ac_assign {d : Nat} {x : Operand} {ty : TypeId} {pos : String} {af : Array Edge} {v : AV} (hd : Nat.blt d V.N = true) (hv : ev fr x = v) (h : Ac V all r Q ((d, v) :: fr) m) :
    Ac V all (⟨some d, .assign x, ty, pos, af, none⟩ :: r) Q fr m := by
  subst hv
  exact ac_so [] hd fun k' p' hk _ => hk _ _ h

/-! ### Guards -/
theorem wp_unguard {P : Program} {d : Option Tmp} {op : Op} {ty : TypeId} {pos : String} {af : Array Edge} {g : Option (Nat × Bool)} {a : Act} {w : World} {next : Act → World → Prop} {Q : Exit → Act → World → Prop} :
    Oper.wp P ⟨d, op, ty, pos, af, g⟩ a w next Q = Oper.wp P ⟨d, op, ty, pos, af, none⟩ a w next Q := rfl
theorem asks_unguard {P : Program} {d : Option Tmp} {op : Op} {ty : TypeId} {pos : String} {af : Array Edge} {g : Option (Nat × Bool)} {a : Act} {w : World} :
    Oper.asks P ⟨d, op, ty, pos, af, g⟩ a w = Oper.asks P ⟨d, op, ty, pos, af, none⟩ a w := rfl
theorem slot_of {κ : Ctx} {t : Array Value} (hF : FRel κ fr t) {s : Nat} {b : Bool} (hv : fr.get s = .raw (.bool b)) : t[s]? = some (.bool b) := by
  have hs := hF s
  rw [hv] at hs
  simp only [E] at hs
  have hlt : s < t.size := by
    rcases Nat.lt_or_ge s t.size with h' | h'
    · exact h'
    · rw [Array.getD_eq_getD_getElem?, Array.getElem?_eq_none h'] at hs; simp [undef] at hs
  rw [Array.getElem?_eq_getElem hlt]
  rw [Array.getD_eq_getD_getElem?, Array.getElem?_eq_getElem hlt] at hs
  simpa using hs
variable {d : Option Tmp} {op : Op} {ty : TypeId} {pos : String} {af : Array Edge}
theorem ac_yes {j s : Nat} {want : Bool} (hs : (all[j]?).bind (·.dst) = some s) (hv : fr.get s = .raw (.bool want)) (h : Ac V all (⟨d, op, ty, pos, af, none⟩ :: r) Q fr m) :
    Ac V all (⟨d, op, ty, pos, af, some (j, want)⟩ :: r) Q fr m := by
  intro w0 κ0 κ a h1 h2 h3 h4 h5 h6 h7 h8 h9
  have h := h w0 κ0 κ a h1 h2 h3 h4 h5 h6 h7 h8 h9
  have ht := slot_of h7 hv
  simp only [wpList] at h ⊢
  rw [if_pos (by simp [Region.wanted])] at h
  rw [if_pos (by simp [Region.wanted, yielded, hs, ht])]
  exact h
theorem ac_skip {j s : Nat} {want b : Bool} (hd : dOK V.N d) (hs : (all[j]?).bind (·.dst) = some s) (hv : fr.get s = .raw (.bool b)) (hb : b = !want) (h : Ac V all r Q (Fm.cons d (.raw undef) fr) m) :
    Ac V all (⟨d, op, ty, pos, af, some (j, want)⟩ :: r) Q fr m := by
  intro w0 κ0 κ a h1 h2 h3 h4 h5 h6 h7 h8 h9
  have ht := slot_of h7 hv
  rw [← h8] at hd
  have h := h w0 κ0 κ (a.put d undef) h1 h2 h3 h4 h5 h6 (h7.cons hd (by simp [E])) (by rw [put_size]; exact h8) (by rw [put_defers]; exact h9)
  simp only [wpList]
  rw [if_neg (by subst hb; simp [Region.wanted, yielded, hs, ht])]
  exact h
theorem ac_skipT {j s : Nat} {want : Bool} {u : Array Value} (hd : dOK V.N d) (hs : (all[j]?).bind (·.dst) = some s) (hv : fr.get s = .raw (.tuple u)) (h : Ac V all r Q (Fm.cons d (.raw undef) fr) m) :
    Ac V all (⟨d, op, ty, pos, af, some (j, want)⟩ :: r) Q fr m := by
  intro w0 κ0 κ a h1 h2 h3 h4 h5 h6 h7 h8 h9
  rw [← h8] at hd
  have h := h w0 κ0 κ (a.put d undef) h1 h2 h3 h4 h5 h6 (h7.cons hd (by simp [E])) (by rw [put_size]; exact h8) (by rw [put_defers]; exact h9)
  simp only [wpList]
  rw [if_neg]
  · exact h
  · have hss := h7 s
    rw [hv] at hss
    simp only [E] at hss
    have hy : yielded all a.tmps j = none := by
      simp only [yielded, hs, Option.bind_some]
      cases hx : a.tmps[s]? with
      | none => rfl
      | some x =>
        rw [Array.getD_eq_getD_getElem?, hx] at hss
        simp only [Option.getD_some] at hss
        subst hss
        rfl
    simp [Region.wanted, hy]
theorem ac_known {s : Nat} {b c : Bool} (hv : fr.get s = .raw (.bool b)) (hb : b = c) (h : Ac V all r Q ((s, .raw (.bool c)) :: fr) m) : Ac V all r Q fr m := by
  intro w0 κ0 κ a h1 h2 h3 h4 h5 h6 h7 h8 h9
  refine h w0 κ0 κ a h1 h2 h3 h4 h5 h6 (h7.top ?_) h8 h9
  have := h7 s
  rw [hv, hb] at this
  exact this
theorem ac_part {j s : Nat} {want b : Bool} (hd : dOK V.N d) (hs : (all[j]?).bind (·.dst) = some s) (hv : fr.get s = .raw (.bool b))
    (h1 : b = want → Ac V all (⟨d, op, ty, pos, af, none⟩ :: r) Q ((s, .raw (.bool want)) :: fr) m) (h2 : b = !want → Ac V all r Q (Fm.cons d (.raw undef) ((s, .raw (.bool !want)) :: fr)) m) :
    Ac V all (⟨d, op, ty, pos, af, some (j, want)⟩ :: r) Q fr m := by
  by_cases hb : b = want
  · exact ac_known hv hb (ac_yes hs (by simp [Fm.get]) (h1 hb))
  · have hb' : b = !want := by cases b <;> cases want <;> simp_all
    exact ac_known hv hb' (ac_skip hd hs (by simp only [Fm.get, if_true]) rfl (h2 hb'))
theorem ac_skipS {d j s : Nat} {want b : Bool} (hd : Nat.blt d V.N = true) (hs : (all[j]?).bind (·.dst) = some s) (hv : fr.get s = .raw (.bool b)) (hb : b = !want) (h : Ac V all r Q ((d, .raw undef) :: fr) m) :
    Ac V all (⟨some d, op, ty, pos, af, some (j, want)⟩ :: r) Q fr m := ac_skip (by simpa [dOK, Nat.blt_eq] using hd) hs hv hb h
theorem ac_skipN {j s : Nat} {want b : Bool} (hs : (all[j]?).bind (·.dst) = some s) (hv : fr.get s = .raw (.bool b)) (hb : b = !want) (h : Ac V all r Q fr m) :
    Ac V all (⟨none, op, ty, pos, af, some (j, want)⟩ :: r) Q fr m := ac_skip trivial hs hv hb h
theorem ac_skipTS {d j s : Nat} {want : Bool} {u : Array Value} (hd : Nat.blt d V.N = true) (hs : (all[j]?).bind (·.dst) = some s) (hv : fr.get s = .raw (.tuple u)) (h : Ac V all r Q ((d, .raw undef) :: fr) m) :
    Ac V all (⟨some d, op, ty, pos, af, some (j, want)⟩ :: r) Q fr m := ac_skipT (by simpa [dOK, Nat.blt_eq] using hd) hs hv h
theorem ac_skipTN {j s : Nat} {want : Bool} {u : Array Value} (hs : (all[j]?).bind (·.dst) = some s) (hv : fr.get s = .raw (.tuple u)) (h : Ac V all r Q fr m) :
    Ac V all (⟨none, op, ty, pos, af, some (j, want)⟩ :: r) Q fr m := ac_skipT trivial hs hv h
theorem ac_partS {d j s : Nat} {want b : Bool} (hd : Nat.blt d V.N = true) (hs : (all[j]?).bind (·.dst) = some s) (hv : fr.get s = .raw (.bool b))
    (h1 : b = want → Ac V all (⟨some d, op, ty, pos, af, none⟩ :: r) Q ((s, .raw (.bool want)) :: fr) m) (h2 : b = !want → Ac V all r Q ((d, .raw undef) :: (s, .raw (.bool !want)) :: fr) m) :
    Ac V all (⟨some d, op, ty, pos, af, some (j, want)⟩ :: r) Q fr m := ac_part (by simpa [dOK, Nat.blt_eq] using hd) hs hv h1 h2
theorem ac_partN {j s : Nat} {want b : Bool} (hs : (all[j]?).bind (·.dst) = some s) (hv : fr.get s = .raw (.bool b))
    (h1 : b = want → Ac V all (⟨none, op, ty, pos, af, none⟩ :: r) Q ((s, .raw (.bool want)) :: fr) m) (h2 : b = !want → Ac V all r Q ((s, .raw (.bool !want)) :: fr) m) :
    Ac V all (⟨none, op, ty, pos, af, some (j, want)⟩ :: r) Q fr m := ac_part trivial hs hv h1 h2

/-! ### What stands behind a piece of code -/
variable {K : Fm → Mem → Prop}
theorem q_seq (h : K fr m) : sq K Q .nrm fr m := h
theorem q_seqr (h : Q .ret fr m) : sq K Q .ret fr m := h
theorem q_seqx {id : Nat} (h : Q (.exit id) fr m) : sq K Q (.exit id) fr m := h
theorem q_seqp {v : AV} (h : Q (.pan v) fr m) : sq K Q (.pan v) fr m := h
theorem q_blk {id : Nat} (h : Q .nrm fr m) : blkQ id Q .nrm fr m := h
theorem q_blkr {id : Nat} (h : Q .ret fr m) : blkQ id Q .ret fr m := h
theorem q_blkp {id : Nat} {v : AV} (h : Q (.pan v) fr m) : blkQ id Q (.pan v) fr m := h
theorem q_blkx {id : Nat} (h : Q .nrm fr m) : blkQ id Q (.exit id) fr m := by simpa [blkQ] using h
theorem q_blky {id j : Nat} (hj : Nat.beq j id = false) (h : Q (.exit j) fr m) : blkQ id Q (.exit j) fr m := by
  simp only [blkQ]
  rw [if_neg (Nat.ne_of_beq_eq_false hj)]
  exact h
theorem awp_yes {c : Operand} {x y : Code} (hc : ev fr c = .raw (.bool true)) (h : Awp V x Q fr m) : Awp V (.cond c x y) Q fr m :=
  awp_cond (by rw [hc]; simpa [rCond] using h)
theorem awp_no {c : Operand} {x y : Code} (hc : ev fr c = .raw (.bool false)) (h : Awp V y Q fr m) : Awp V (.cond c x y) Q fr m :=
  awp_cond (by rw [hc]; simpa [rCond] using h)
theorem awp_part {c : Operand} {x y : Code} {b : Bool} (hc : ev fr c = .raw (.bool b)) (h1 : b = true → Awp V x Q fr m) (h2 : b = false → Awp V y Q fr m) : Awp V (.cond c x y) Q fr m :=
  awp_cond (by rw [hc]; exact ⟨h1, h2⟩)
theorem AFn.kx {α : Sort _} {P : Program} {K : Kn} {f : FuncId} {args : List AV} {m : Mem} {v : α → AV} {m2 : α → Mem} {C : α → Prop} {k pn : AV → Mem → Prop} (h : AFn P K f args m fun o m' => ∃ r, o = .ret (v r) ∧ C r ∧ m' = m2 r)
    (hk : ∀ r, C r → k (v r) (m2 r)) : AFn P K f args m (rOut k pn) :=
  h.mono fun o m' ⟨r, h1, h2, h3⟩ => by subst h1; subst h3; exact hk r h2
theorem q_fin {rs : List ResultVar} {R : Out → Mem → Prop} (h : rRes V rs fr m fun l => Leave V.m0 m (outV l) fun v m2 => R (.ret v) m2) : fin V rs R .nrm fr m := h
theorem q_finr {rs : List ResultVar} {R : Out → Mem → Prop} (h : rRes V rs fr m fun l => Leave V.m0 m (outV l) fun v m2 => R (.ret v) m2) : fin V rs R .ret fr m := h
theorem q_finp {rs : List ResultVar} {R : Out → Mem → Prop} {v : AV} (h : Leave V.m0 m v fun v m2 => R (.pan v) m2) : fin V rs R (.pan v) fr m := h
end
attribute [irreducible] Ac
end Go.Proofs.Ytomigflbiijmpaa.Am
