/- THE ABSTRACT MEMORY: code. What a piece of code comes to, by abstract frames and memories; its rules; a function's contract from its body. -/
import Derived.Test.YtomigflbiijmpaaAml
namespace Go.Proofs.Ytomigflbiijmpaa.Am

inductive AX where
  | nrm
  | exit (id : Nat)
  | ret
  | pan (v : AV)

abbrev Post := AX → Fm → Mem → Prop

def APost (w0 : World) (κ0 : Ctx) (N : Nat) (Q : Post) : Exit → Act → World → Prop := fun e a w =>
  ∃ κ fr, κ.w = w ∧ Fr κ0 κ ∧ Sat w0 κ ∧ FRel κ fr a.tmps ∧ a.tmps.size = N ∧ a.defers = [] ∧ (match e with
    | .normal => Q .nrm fr κ.m
    | .exit id => Q (.exit id) fr κ.m
    | .ret => Q .ret fr κ.m
    | .panic chain => ∃ v x, chain = [{ v := x, recovered := false }] ∧ E κ v x ∧ Q (.pan v) fr κ.m
    | _ => False)

/-- What is fixed while a function's body is walked: the program, what is known, how many slots it has, the memory at its entry. -/
structure Env where
  P : Program
  K : Kn
  N : Nat
  m0 : Mem

def Awp (V : Env) (c : Code) (Q : Post) (fr : Fm) (m : Mem) : Prop :=
  ∀ (w0 : World) (κ0 κ : Ctx) (a : Act), V.K.ok V.P w0 → Sat w0 κ0 → κ0.m = V.m0 → Fr κ0 κ → Sat w0 κ → κ.m = m → FRel κ fr a.tmps → a.tmps.size = V.N → a.defers = [] →
    c.wp V.P (APost w0 κ0 V.N Q) a κ.w

section
variable {V : Env} {Q : Post} {fr : Fm} {m : Mem}

theorem awp_mono {c : Code} {Q' : Post} (h : Awp V c Q fr m) (hq : ∀ e fr m, Q e fr m → Q' e fr m) : Awp V c Q' fr m := by
  intro w0 κ0 κ a h1 h2 h3 h4 h5 h6 h7 h8 h9
  refine wp_mono (h w0 κ0 κ a h1 h2 h3 h4 h5 h6 h7 h8 h9) ?_
  rintro e a' w' ⟨κ', fr', r1, r2, r3, r4, r5, r6, r⟩
  refine ⟨κ', fr', r1, r2, r3, r4, r5, r6, ?_⟩
  cases e with
  | normal => exact hq _ _ _ r
  | exit id => exact hq _ _ _ r
  | ret => exact hq _ _ _ r
  | panic ch => obtain ⟨v, x, q1, q2, q3⟩ := r; exact ⟨v, x, q1, q2, hq _ _ _ q3⟩
  | _ => exact r.elim

theorem awp_skip (h : Q .nrm fr m) : Awp V .skip Q fr m :=
  fun _ _ κ _ _ _ _ h4 h5 h6 h7 h8 h9 => wp_skip ⟨κ, fr, rfl, h4, h5, h7, h8, h9, by rw [h6]; exact h⟩
theorem awp_exit {id : Nat} (h : Q (.exit id) fr m) : Awp V (.exit id) Q fr m :=
  fun _ _ κ _ _ _ _ h4 h5 h6 h7 h8 h9 => wp_exit ⟨κ, fr, rfl, h4, h5, h7, h8, h9, by rw [h6]; exact h⟩
theorem awp_ret (h : Q .ret fr m) : Awp V .ret Q fr m :=
  fun _ _ κ _ _ _ _ h4 h5 h6 h7 h8 h9 => wp_ret ⟨κ, fr, rfl, h4, h5, h7, h8, h9, by rw [h6]; exact h⟩

def sq (K : Fm → Mem → Prop) (Q : Post) : Post
  | .nrm, fr, m => K fr m
  | e, fr, m => Q e fr m

theorem awp_seq {x y : Code} (h : Awp V x (sq (fun fr m => Awp V y Q fr m) Q) fr m) : Awp V (.seq x y) Q fr m := by
  intro w0 κ0 κ a h1 h2 h3 h4 h5 h6 h7 h8 h9
  refine wp_seq (wp_mono (h w0 κ0 κ a h1 h2 h3 h4 h5 h6 h7 h8 h9) ?_)
  rintro e a' w' ⟨κ', fr', rfl, r2, r3, r4, r5, r6, r⟩
  cases e with
  | normal => exact r w0 κ0 κ' a' h1 h2 h3 r2 r3 rfl r4 r5 r6
  | exit id => exact ⟨κ', fr', rfl, r2, r3, r4, r5, r6, r⟩
  | ret => exact ⟨κ', fr', rfl, r2, r3, r4, r5, r6, r⟩
  | panic ch => exact ⟨κ', fr', rfl, r2, r3, r4, r5, r6, r⟩
  | _ => exact r.elim

def rCond (v : AV) (yes no : Prop) : Prop := match v with
  | .raw (.bool t) => (t = true → yes) ∧ (t = false → no)
  | _ => False
theorem awp_cond {c : Operand} {x y : Code} (h : rCond (ev fr c) (Awp V x Q fr m) (Awp V y Q fr m)) : Awp V (.cond c x y) Q fr m := by
  intro w0 κ0 κ a h1 h2 h3 h4 h5 h6 h7 h8 h9
  unfold rCond at h
  split at h
  · rename_i t hc
    have he := ev_ok h7 c
    rw [hc] at he
    simp only [E] at he
    exact wp_cond_split he (fun ht => h.1 ht w0 κ0 κ a h1 h2 h3 h4 h5 h6 h7 h8 h9) (fun ht => h.2 ht w0 κ0 κ a h1 h2 h3 h4 h5 h6 h7 h8 h9)
  · exact h.elim

def blkQ (id : Nat) (Q : Post) : Post
  | .exit j, fr, m => if j = id then Q .nrm fr m else Q (.exit j) fr m
  | e, fr, m => Q e fr m
theorem awp_block {id : Nat} {c : Code} (h : Awp V c (blkQ id Q) fr m) : Awp V (.block id c) Q fr m := by
  intro w0 κ0 κ a h1 h2 h3 h4 h5 h6 h7 h8 h9
  refine wp_block (wp_mono (h w0 κ0 κ a h1 h2 h3 h4 h5 h6 h7 h8 h9) ?_)
  rintro e a' w' ⟨κ', fr', rfl, r2, r3, r4, r5, r6, r⟩
  cases e with
  | normal => exact ⟨κ', fr', rfl, r2, r3, r4, r5, r6, r⟩
  | exit j =>
    simp only [blkQ] at r
    simp only [Exit.inBlock]
    split
    · rename_i hj; rw [if_pos hj] at r; exact ⟨κ', fr', rfl, r2, r3, r4, r5, r6, r⟩
    · rename_i hj; rw [if_neg hj] at r; exact ⟨κ', fr', rfl, r2, r3, r4, r5, r6, r⟩
  | ret => exact ⟨κ', fr', rfl, r2, r3, r4, r5, r6, r⟩
  | panic ch => exact ⟨κ', fr', rfl, r2, r3, r4, r5, r6, r⟩
  | _ => exact r.elim

/-! ### Another view -/
def FV (n : Nat) (σ : List Nat) (fr : Fm) : Fm → Prop
  | [] => True
  | (s, x) :: r => fr.get s = ren n σ x ∧ FV n σ fr r
theorem FV.get {n : Nat} {σ : List Nat} {fr : Fm} : ∀ {fr2 : Fm}, FV n σ fr fr2 → ∀ i, fr2.get i = .any ∨ fr.get i = ren n σ (fr2.get i)
  | [], _, _ => .inl rfl
  | (s, x) :: r, h, i => by
    simp only [FV] at h
    simp only [Fm.get]
    by_cases hs : s = i
    · rw [if_pos hs]; subst hs; exact .inr h.1
    · rw [if_neg hs]; exact h.2.get i
def Into (m0 : Mem) (fr : Fm) (m : Mem) (fr2 : Fm) (m2 : Mem) : Prop := ∃ σ, VOK m0 m σ m2 ∧ FV m0.length σ fr fr2

theorem Into.ok {w0 : World} {κ0 κ : Ctx} {t : Array Value} {fr2 : Fm} {m2 : Mem} (h : Into κ0.m fr κ.m fr2 m2) (h0 : Sat w0 κ0) (hf : Fr κ0 κ) (hS : Sat w0 κ) (hF : FRel κ fr t) :
    ∃ κ2, κ2.w = κ.w ∧ κ2.m = m2 ∧ Fr κ0 κ2 ∧ Sat w0 κ2 ∧ FRel κ2 fr2 t := by
  obtain ⟨σ, hv, hg⟩ := h
  obtain ⟨r1, r2⟩ := view_ok h0 hf hS hv
  refine ⟨κ.view κ0.m.length σ m2, rfl, rfl, r1, r2, fun i => ?_⟩
  rcases hg.get i with h | h
  · rw [h]; simp [E]
  · have := hF i
    rw [h] at this
    exact E.view hv _ this

theorem awp_view {c : Code} (fr2 : Fm) (m2 : Mem) (hi : Into V.m0 fr m fr2 m2) (h : Awp V c Q fr2 m2) : Awp V c Q fr m := by
  intro w0 κ0 κ a h1 h2 h3 h4 h5 h6 h7 h8 h9
  obtain ⟨κ2, e1, e2, e3, e4, e5⟩ := Into.ok (κ0 := κ0) (κ := κ) (by rw [h3, h6]; exact hi) h2 h4 h5 h7
  have := h w0 κ0 κ2 a h1 h2 h3 e3 e4 e2 e5 h8 h9
  rw [e1] at this
  exact this

def frzF (m : Mem) (b : Nat) : Fm → Fm
  | [] => []
  | (s, x) :: r => (s, frz m b x) :: frzF m b r
theorem frzF_get (m : Mem) (b : Nat) : ∀ (fr : Fm) (i : Nat), (frzF m b fr).get i = frz m b (fr.get i)
  | [], _ => rfl
  | (s, x) :: r, i => by
    simp only [frzF, Fm.get]
    split
    · rfl
    · exact frzF_get m b r i
theorem awp_freeze {c : Code} (b : Nat) (m2 : Mem) (hb : FOK m b m2) (h : Awp V c Q (frzF m b fr) m2) : Awp V c Q fr m := by
  intro w0 κ0 κ a h1 h2 h3 h4 h5 h6 h7 h8 h9
  subst h6
  obtain ⟨r1, r2⟩ := freeze_ok h5 hb
  exact h w0 κ0 ⟨κ.ρ, m2, κ.w⟩ a h1 h2 h3 (h4.trans r1) r2 rfl (fun i => by rw [frzF_get]; exact E.frz h5 hb _ (h7 i)) h8 h9

/-! ### Loops -/
theorem awp_loop {c : Code} {ι : Type} (S : ι → Fm) (M : ι → Mem) (μ : ι → Nat) (i0 : ι) (h0 : Into V.m0 fr m (S i0) (M i0))
    (round : ∀ i, Awp V c (sq (fun fr m => ∃ j, μ j < μ i ∧ Into V.m0 fr m (S j) (M j)) Q) (S i) (M i)) : Awp V (.loop c) Q fr m := by
  refine awp_view _ _ h0 ?_
  intro w0 κ0 κ a h1 h2 h3 h4 h5 h6 h7 h8 h9
  let I : ι → Act → World → Prop := fun i a w => ∃ κ, κ.w = w ∧ Fr κ0 κ ∧ Sat w0 κ ∧ κ.m = M i ∧ FRel κ (S i) a.tmps ∧ a.tmps.size = V.N ∧ a.defers = []
  have main : ∀ n i a w, μ i = n → I i a w → (Code.loop c).wp V.P (APost w0 κ0 V.N Q) a w := by
    intro n i a w hn hI
    obtain ⟨κ, rfl, k1, k2, k3, k4, k5, k6⟩ := hI
    intro b k cs
    have step : ∀ n i κ a, μ i = n → Fr κ0 κ → Sat w0 κ → κ.m = M i → FRel κ (S i) a.tmps → a.tmps.size = V.N → a.defers = [] →
        ∃ e a' w', APost w0 κ0 V.N Q e a' w' ∧ Arrives V.P (lone (b.at a (.code c :: .inLoop c :: k)) cs κ.w) b k cs e a' w' := by
      intro n
      induction n using Nat.strongRecOn with
      | _ n ih =>
        intro i κ a hn k1 k2 k3 k4 k5 k6
        obtain ⟨e, a', w', hq, harr⟩ := round i w0 κ0 κ a h1 h2 h3 k1 k2 k3 k4 k5 k6 b (.inLoop c :: k) cs
        obtain ⟨κ', fr', rfl, r2, r3, r4, r5, r6, r⟩ := hq
        cases e with
        | normal =>
          obtain ⟨j, hlt, hi⟩ := r
          obtain ⟨κ2, e1, e2, e3, e4, e5⟩ := Into.ok (κ0 := κ0) (κ := κ') (by rw [h3]; exact hi) h2 r2 r3 r4
          obtain ⟨e₂, a₂, w₂, hq₂, harr₂⟩ := ih (μ j) (hn ▸ hlt) j κ2 a' rfl e3 e4 e2 e5 r5 r6
          rw [e1] at harr₂
          exact ⟨e₂, a₂, w₂, hq₂, .of_steps (Steps.trans harr (.one step_inLoop)) harr₂⟩
        | exit id => exact ⟨_, a', κ'.w, ⟨κ', fr', rfl, r2, r3, r4, r5, r6, r⟩, .pass (x := .inLoop c) rfl (fun _ _ => .inl (by simp)) harr⟩
        | ret => exact ⟨_, a', κ'.w, ⟨κ', fr', rfl, r2, r3, r4, r5, r6, r⟩, .pass (x := .inLoop c) rfl (fun _ _ => .inl (by simp)) harr⟩
        | panic ch => exact ⟨_, a', κ'.w, ⟨κ', fr', rfl, r2, r3, r4, r5, r6, r⟩, .pass (x := .inLoop c) rfl (fun _ _ => .inl (by simp)) harr⟩
        | _ => exact r.elim
    obtain ⟨e, a', w', hq, harr⟩ := step n i κ a hn k1 k2 k3 k4 k5 k6
    exact ⟨e, a', w', hq, .of_steps (.one step_loop) harr⟩
  exact main _ i0 a κ.w rfl ⟨κ, rfl, h4, h5, h6, h7, h8, h9⟩

/-! ### Regions in the text's order -/
def dOK (N : Nat) (d : Option Tmp) : Prop := match d with
  | some d => d < N
  | none => True
def Fm.putD (fr : Fm) (d : Option Tmp) (v : AV) : Fm := match d with
  | some d => fr.put d v
  | none => fr
/-- Is the operation asked for? Behind the question the answer stands in its slot. -/
def gd (all : Array Oper) (fr : Fm) (o : Oper) (yes no : Fm → Prop) : Prop := match o.guard with
  | none => yes fr
  | some (j, want) => (match (all[j]?).bind (·.dst) with
    | none => no fr
    | some s => (match fr.get s with
      | .raw (.bool b) => (b = want → yes (fr.put s (.raw (.bool want)))) ∧ (b ≠ want → no (fr.put s (.raw (.bool (!want)))))
      | .raw (.tuple _) => no fr
      | _ => False))
def aops (V : Env) (own : List Nat) (all : Array Oper) : List Oper → Fm → Mem → (Fm → Mem → Prop) → (AV → Fm → Mem → Prop) → Prop
  | [], fr, m, k, _ => k fr m
  | o :: r, fr, m, k, pn => dOK V.N o.dst ∧ gd all fr o (fun fr => orun V.P V.K own o fr m (fun v m' => aops V own all r (fr.putD o.dst v) m' k pn) fun v m' => pn v fr m') (fun fr => aops V own all r (fr.putD o.dst (.raw undef)) m k pn)

theorem FRel.putD {κ : Ctx} {a : Act} (hr : FRel κ fr a.tmps) {d : Option Tmp} (hd : dOK a.tmps.size d) {v : AV} {x : Value} (hv : E κ v x) : FRel κ (fr.putD d v) (a.put d x).tmps := by
  cases d with
  | none => exact hr
  | some d => exact hr.put hd hv
theorem put_size (a : Act) (d : Option Tmp) (x : Value) : (a.put d x).tmps.size = a.tmps.size := by
  cases d <;> simp [Act.put]
theorem put_defers (a : Act) (d : Option Tmp) (x : Value) : (a.put d x).defers = a.defers := by
  cases d <;> simp [Act.put]

theorem FRel.same {κ : Ctx} {t : Array Value} (hr : FRel κ fr t) {s : Nat} {v : AV} (hv : E κ v (t.getD s undef)) : FRel κ (fr.put s v) t := by
  intro i
  rw [get_put]
  split
  · rename_i h; subst h; exact hv
  · exact hr i

theorem gd_ok {κ : Ctx} {a : Act} (hF : FRel κ fr a.tmps) {all : Array Oper} {o : Oper} {yes no : Fm → Prop} (h : gd all fr o yes no) :
    (Region.wanted o (yielded all a.tmps) = true ∧ ∃ fr', FRel κ fr' a.tmps ∧ yes fr') ∨ (Region.wanted o (yielded all a.tmps) = false ∧ ∃ fr', FRel κ fr' a.tmps ∧ no fr') := by
  unfold gd at h
  split at h
  · rename_i hg; exact .inl ⟨by simp [Region.wanted, hg], fr, hF, h⟩
  · rename_i j want hg
    split at h
    · rename_i hd
      exact .inr ⟨by simp [Region.wanted, hg, yielded, hd], fr, hF, h⟩
    · rename_i s hd
      have hs := hF s
      split at h
      · rename_i b hb
        rw [hb] at hs
        simp only [E] at hs
        have hlt : s < a.tmps.size := by
          rcases Nat.lt_or_ge s a.tmps.size with h' | h'
          · exact h'
          · rw [Array.getD_eq_getD_getElem?, Array.getElem?_eq_none h'] at hs; simp [undef] at hs
        have hs' : a.tmps[s]? = some (.bool b) := by
          rw [Array.getElem?_eq_getElem hlt]
          rw [Array.getD_eq_getD_getElem?, Array.getElem?_eq_getElem hlt] at hs
          simpa using hs
        have hy : yielded all a.tmps j = some b := by simp [yielded, hd, hs']
        by_cases hbw : b = want
        · refine .inl ⟨by simp [Region.wanted, hg, hy, hbw], _, hF.same ?_, h.1 hbw⟩
          simp only [E]; rw [hs, hbw]
        · refine .inr ⟨by simp [Region.wanted, hg, hy, hbw], _, hF.same ?_, h.2 hbw⟩
          simp only [E]; rw [hs]
          cases b <;> cases want <;> simp_all
      · rename_i vs hb
        rw [hb] at hs
        simp only [E] at hs
        refine .inr ⟨?_, fr, hF, h⟩
        have hy : yielded all a.tmps j = none := by
          simp only [yielded, hd, Option.bind_some]
          cases hx : a.tmps[s]? with
          | none => rfl
          | some x =>
            rw [Array.getD_eq_getD_getElem?, hx] at hs
            simp only [Option.getD_some] at hs
            subst hs
            rfl
        simp [Region.wanted, hg, hy]
      · exact h.elim

theorem aops_ok {own : List Nat} {all : Array Oper} {w0 : World} {κ0 : Ctx} (hK : V.K.ok V.P w0) : ∀ (l : List Oper) (fr : Fm) (κ : Ctx) (a : Act), Fr κ0 κ → Sat w0 κ → FRel κ fr a.tmps → a.tmps.size = V.N → a.defers = [] →
    aops V own all l fr κ.m (Q .nrm) (fun v => Q (.pan v)) → wpList V.P all (APost w0 κ0 V.N Q) l a κ.w
  | [], fr, κ, a, h4, h5, h7, h8, h9, h => ⟨κ, fr, rfl, h4, h5, h7, h8, h9, h⟩
  | o :: r, fr, κ, a, h4, h5, h7, h8, h9, h => by
    simp only [aops] at h
    obtain ⟨hd, h⟩ := h
    rw [← h8] at hd
    simp only [wpList]
    rcases gd_ok h7 h with ⟨hw, fr', h7, h⟩ | ⟨hw, fr', h7, h⟩
    · rw [if_pos hw]
      left
      refine orun_ok hK h5 h7 h _ _ (fun κ' v x hf hS hE hk => ?_) (fun κ' v x hf hS hE hk => ?_)
      · refine aops_ok hK r _ κ' _ (h4.trans hf) hS ((h7.mono hf).putD hd hE) ?_ ?_ hk
        · rw [put_size]; exact h8
        · rw [put_defers]; exact h9
      · exact ⟨κ', fr', rfl, h4.trans hf, hS, h7.mono hf, h8, h9, v, x, rfl, hE, hk⟩
    · rw [if_neg (by simp [hw])]
      refine aops_ok hK r _ κ _ h4 h5 (h7.putD hd (by simp [E])) ?_ ?_ h
      · rw [put_size]; exact h8
      · rw [put_defers]; exact h9

theorem awp_region {id : Nat} {l : List Oper} (own : List Nat) (h : aops V own l.toArray l fr m (Q .nrm) (fun v => Q (.pan v))) : Awp V (.region id l.toArray false) Q fr m := by
  intro w0 κ0 κ a h1 h2 h3 h4 h5 h6 h7 h8 h9
  subst h6
  exact wp_region_lit (aops_ok h1 l fr κ a h4 h5 h7 h8 h9 h)

/-! ### From the body to the contract -/
def argFm : Nat → List AV → Fm
  | _, [] => []
  | i, x :: r => (i, x) :: argFm (i + 1) r
def rRes (V : Env) : List ResultVar → Fm → Mem → (List AV → Prop) → Prop
  | [], _, _, k => k []
  | .tmp t :: r, fr, m, k => rRes V r fr m fun l => k (fr.get t :: l)
  | .cell a t :: r, fr, m, k => rLoad V.P V.K t m (fr.get a) fun v => rRes V r fr m fun l => k (v :: l)
def outV : List AV → AV
  | [x] => x
  | l => .tup l
def Leave (m0 m : Mem) (v : AV) (R : AV → Mem → Prop) : Prop := ∃ σ m2 v2, VOK m0 m σ m2 ∧ v = ren m0.length σ v2 ∧ R v2 m2
def fin (V : Env) (rs : List ResultVar) (R : Out → Mem → Prop) : Post
  | .nrm, fr, m | .ret, fr, m => rRes V rs fr m fun l => Leave V.m0 m (outV l) fun v m2 => R (.ret v) m2
  | .pan v, _, m => Leave V.m0 m v fun v m2 => R (.pan v) m2
  | _, _, _ => False

theorem argFm_get : ∀ (l : List AV) (i j : Nat), (argFm i l).get (i + j) = (l[j]?).getD .any
  | [], _, _ => rfl
  | x :: r, i, 0 => by simp [argFm, Fm.get]
  | x :: r, i, j + 1 => by
    simp only [argFm, Fm.get]
    rw [if_neg (by omega), show i + (j + 1) = i + 1 + j by omega, argFm_get r (i + 1) j]
    simp

theorem loadAt_addr {P : Program} {w : World} {ty : TypeId} {v u : Value} (h : (Instr.loadAt ty v).run P w = .ok u w) : ∃ ad, v = .pointer (some ad) ∧ (loadVar ty ad).run P w = .ok u w := by
  cases v with
  | pointer p =>
    cases p with
    | none => simp [Instr.loadAt, Instr.sureAddr] at h
    | some ad => exact ⟨ad, rfl, by simpa [Instr.loadAt, Instr.sureAddr] using h⟩
  | _ => simp [Instr.loadAt, Instr.sureAddr] at h
theorem rRes_ok {w0 : World} {κ : Ctx} {t : Array Value} (hK : V.K.ok V.P w0) (hS : Sat w0 κ) (hF : FRel κ fr t) : ∀ (l : List ResultVar) (k : List AV → Prop), rRes V l fr κ.m k →
    ∃ ys us, EList κ ys us ∧ k ys ∧ (l.mapM (m := Sem) fun | .tmp x => pure (t.getD x undef) | .cell a ty => do loadVar ty (← asAddr (t.getD a undef))).run V.P κ.w = .ok us κ.w
  | [], k, h => ⟨[], [], by simp [EList], h, by simp⟩
  | .tmp x :: r, k, h => by
    obtain ⟨ys, us, h1, h2, h3⟩ := rRes_ok hK hS hF r _ h
    refine ⟨_, t.getD x undef :: us, ?_, h2, ?_⟩
    · simp only [EList]; exact ⟨_, _, rfl, hF x, h1⟩
    · simp only [List.mapM_cons, Sem.run_bind, Sem.run_pure, Result.andThen_ok, h3]
  | .cell a ty :: r, k, h => by
    simp only [rRes] at h
    obtain ⟨y, u, hr, hE, h⟩ := rLoad_ok hK hS (hF a) h
    obtain ⟨ys, us, h1, h2, h3⟩ := rRes_ok hK hS hF r _ h
    refine ⟨_, u :: us, ?_, h2, ?_⟩
    · simp only [EList]; exact ⟨_, _, rfl, hE, h1⟩
    · simp only [List.mapM_cons, Sem.run_bind]
      obtain ⟨ad, hp, hr⟩ := loadAt_addr hr
      simp only [hp, show asAddr (.pointer (some ad)) = (pure ad : Sem Addr) from rfl, Sem.run_pure, Result.andThen_ok, hr, h3]

theorem afn_intro {P : Program} {K : Kn} {f : FuncId} {fn : Func} {c : Code} {args : List AV} {m : Mem} {R : Out → Mem → Prop} (hf : P.funcs[f]? = some fn) (hb : fn.body = some c) (N : Nat) (hN : fn.ntmps = N) (rs : List ResultVar) (hr : fn.results.toList = rs) (hl : args.length ≤ N)
    (h : Awp ⟨P, K, N, m⟩ c (fin ⟨P, K, N, m⟩ rs R) (argFm 0 args) m) : AFn P K f args m R := by
  subst hN
  subst hr
  intro w0 κ cargs hK hS hm hargs
  subst hm
  have hsz := hargs.length
  refine calls_of_wp hf hb (wp_mono (h w0 κ κ _ hK hS rfl (Fr.refl κ) hS rfl (fun i => ?_) ?_ rfl) ?_)
  · have := argFm_get args 0 i
    rw [Nat.zero_add] at this
    rw [this]
    rcases Nat.lt_or_ge i args.length with hi | hi
    · obtain ⟨x, hx, hE⟩ := hargs.get (List.getElem?_eq_getElem hi)
      rw [List.getElem?_eq_getElem hi]
      have : (cargs.toArray ++ Array.replicate (fn.ntmps - cargs.toArray.size) undef).getD i undef = x := by
        rw [Array.getD_eq_getD_getElem?, Array.getElem?_append_left (by simp; omega)]
        simp [hx]
      rw [this]
      exact hE
    · rw [List.getElem?_eq_none hi]; simp [E]
  · simp; omega
  · rintro e a' w' ⟨κ', fr', rfl, r2, r3, r4, r5, r6, r⟩
    have leave : ∀ v x (R' : AV → Mem → Prop), E κ' v x → Leave κ.m κ'.m v R' → ∃ κ2, κ2.w = κ'.w ∧ Fr κ κ2 ∧ Sat w0 κ2 ∧ ∃ v2, E κ2 v2 x ∧ R' v2 κ2.m := by
      rintro v x R' hE ⟨σ, m2, v2, hv, rfl, hR⟩
      obtain ⟨q1, q2⟩ := view_ok hS r2 r3 hv
      exact ⟨κ'.view κ.m.length σ m2, rfl, q1, q2, v2, E.view hv v2 hE, hR⟩
    have ret : rRes ⟨P, K, fn.ntmps, κ.m⟩ fn.results.toList fr' κ'.m (fun l => Leave κ.m κ'.m (outV l) fun v m2 => R (.ret v) m2) →
        a'.defers = [] ∧ ∃ v, (results fn a'.tmps).run P κ'.w = .ok v κ'.w ∧ ∃ κ2 o, κ2.w = κ'.w ∧ R o κ2.m ∧ Fr κ κ2 ∧ Sat w0 κ2 ∧ o.is κ2 (.returned v) := by
      intro h
      obtain ⟨ys, us, h1, h2, h3⟩ := rRes_ok (V := ⟨P, K, fn.ntmps, κ.m⟩) hK r3 r4 _ _ h
      have hE : E κ' (outV ys) (if h : us.toArray.size = 1 then us.toArray[0] else .tuple us.toArray) := by
        have hl := h1.length
        match ys, us, h1, hl with
        | [], [], h1, _ => simp [outV, E, EList]
        | [y], [u], h1, _ => simp only [EList] at h1; obtain ⟨_, _, e, h1, _⟩ := h1; simp only [List.cons.injEq] at e; obtain ⟨rfl, _⟩ := e; simpa [outV] using h1
        | y :: y' :: r, u :: u' :: r', h1, hl => simp only [outV]; rw [dif_neg (by simp)]; simp only [E]; exact ⟨_, rfl, h1⟩
      obtain ⟨κ2, g1, g2, g3, v2, g4, g5⟩ := leave _ _ _ hE h2
      refine ⟨r6, _, ?_, κ2, .ret v2, g1, g5, g2, g3, _, rfl, g4⟩
      unfold results
      rw [Array.mapM_eq_mapM_toList, map_eq_pure_bind]
      simp only [Sem.run_bind]
      erw [h3]
      simp only [Result.andThen_ok, Sem.run_pure]
    cases e with
    | normal => exact ret r
    | ret => exact ret r
    | panic ch =>
      obtain ⟨v, x, rfl, hE, hr⟩ := r
      obtain ⟨κ2, g1, g2, g3, v2, g4, g5⟩ := leave _ _ _ hE hr
      exact ⟨r6, κ2, .pan v2, g1, g5, g2, g3, x, rfl, g4⟩
    | _ => exact r.elim
theorem Awp_congr {c : Code} {fr' : Fm} {m' : Mem} (h : fr = fr') (h' : m = m') : Awp V c Q fr m = Awp V c Q fr' m' := by
  subst h; subst h'; rfl
end
attribute [irreducible] Awp
attribute [congr] Awp_congr
end Go.Proofs.Ytomigflbiijmpaa.Am
