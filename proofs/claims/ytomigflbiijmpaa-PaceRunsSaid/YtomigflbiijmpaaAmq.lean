/- THE ABSTRACT MEMORY: regions whose order is drawn: every operation comes to the same in whatever order, by a plan. -/
import Derived.Orders
import Derived.Test.YtomigflbiijmpaaAmp
namespace Go.Proofs.Ytomigflbiijmpaa.Am

/-- A row of the plan: the operation; those that come ahead of it, whatever is drawn; the slots it looks at, and of which operation each is; whether it is one of those that make the memory's next state. -/
structure Dr where
  o : Oper
  pre : List Nat
  src : List (Nat × Option Nat)
  eff : Bool

def Dr.dst (S : List Dr) (p : Nat) : Option Nat := (S[p]?).bind (·.o.dst)
def Dr.pres (S : List Dr) (p : Nat) : List Nat := ((S[p]?).map (·.pre)).getD []
def Dr.effs (S : List Dr) (p : Nat) : Bool := ((S[p]?).map (·.eff)).getD false
/-- A frame of some operations' values and of another frame's. -/
def Dr.frm (vals : List AV) (fr : Fm) : List (Nat × Option Nat) → Fm
  | [] => []
  | (s, some p) :: r => (s, (vals[p]?).getD .any) :: Dr.frm vals fr r
  | (s, none) :: r => (s, fr.get s) :: Dr.frm vals fr r
def Dr.lo (S : List Dr) (i : Nat) : Nat := (List.range S.length).countP fun e => Dr.effs S e && (Dr.pres S i).contains e
def Dr.hi (S : List Dr) (i : Nat) : Nat := (List.range S.length).countP fun e => Dr.effs S e && e != i && !(Dr.pres S e).contains i
def Dr.rowOk (S : List Dr) (i : Nat) (r : Dr) : Bool :=
  r.o.after.toList.all (fun e => Nat.blt e.on i)
  && r.pre.all (fun p => r.o.after.toList.any fun e => Region.binds .any e && (e.on == p || (Dr.pres S e.on).contains p))
  && r.src.all (fun x => match x.2 with
    | some p => r.pre.contains p && Dr.dst S p == some x.1
    | none => (List.range S.length).all fun q => Dr.dst S q != some x.1 || q == i || (Dr.pres S q).contains i)
  && (List.range S.length).all (fun q => q == i || r.o.dst == none || Dr.dst S q != r.o.dst)
def Dr.ok (N : Nat) (S : List Dr) (pairs : List (Nat × Nat)) : Bool := (List.range S.length).all fun i => match S[i]? with
  | none => false
  | some r => Dr.rowOk S i r && (match r.o.dst with | some d => Nat.blt d N | none => true)
      && (List.range (Dr.hi S i + 1)).all fun j => Nat.blt j (Dr.lo S i) || pairs.contains (i, j)

def Dr.finOk (S : List Dr) (fs : List (Nat × Option Nat)) : Bool := fs.all fun x => match x.2 with
  | some p => Nat.blt p S.length && Dr.dst S p == some x.1
  | none => (List.range S.length).all fun q => Dr.dst S q != some x.1
def Dr.zip : List Oper → List (List Nat × List (Nat × Option Nat) × Bool) → List Dr
  | o :: r, (p, s, e) :: t => ⟨o, p, s, e⟩ :: Dr.zip r t
  | _, _ => []
theorem zip_map : ∀ {l : List Oper} {t : List (List Nat × List (Nat × Option Nat) × Bool)}, l.length = t.length → (Dr.zip l t).map (·.o) = l
  | [], [], _ => rfl
  | [], _ :: _, h => by simp at h
  | _ :: _, [], h => by simp at h
  | o :: r, (p, s, e) :: t, h => by simp only [Dr.zip, List.map_cons]; rw [zip_map (by simpa using h)]

section
variable {V : Env} {Q : Post} {fr : Fm} {m : Mem}
/-- The operation, over this frame and memory, gives this value and this memory. -/
def Ob (V : Env) (all : Array Oper) (own : List Nat) (o : Oper) (F : Fm) (M : Mem) (v : AV) (M' : Mem) : Prop :=
  gd all F o (fun F => ∀ k' p' : AV → Mem → Prop, k' v M' → orun V.P V.K own o F M k' p') (fun _ => v = .raw undef ∧ M' = M)
theorem ob_plain {all : Array Oper} {own : List Nat} {d : Option Tmp} {op : Op} {ty : TypeId} {pos : String} {af : Array Edge} {F : Fm} {M M' : Mem} {v : AV}
    (h : ∀ k' p' : AV → Mem → Prop, k' v M' → orun V.P V.K own ⟨d, op, ty, pos, af, none⟩ F M k' p') : Ob V all own ⟨d, op, ty, pos, af, none⟩ F M v M' := h
theorem ob_yes {all : Array Oper} {own : List Nat} {d : Option Tmp} {op : Op} {ty : TypeId} {pos : String} {af : Array Edge} {F : Fm} {M M' : Mem} {v : AV} {j s : Nat} {want : Bool}
    (hs : (all[j]?).bind (·.dst) = some s) (hv : F.get s = .raw (.bool want))
    (h : ∀ k' p' : AV → Mem → Prop, k' v M' → orun V.P V.K own ⟨d, op, ty, pos, af, none⟩ (F.put s (.raw (.bool want))) M k' p') : Ob V all own ⟨d, op, ty, pos, af, some (j, want)⟩ F M v M' := by
  unfold Ob gd
  simp only [hs, hv]
  exact ⟨fun _ => h, fun h' => absurd rfl h'⟩
theorem ob_no {all : Array Oper} {own : List Nat} {d : Option Tmp} {op : Op} {ty : TypeId} {pos : String} {af : Array Edge} {F : Fm} {M : Mem} {j s : Nat} {want b : Bool}
    (hs : (all[j]?).bind (·.dst) = some s) (hv : F.get s = .raw (.bool b)) (hb : b = !want) : Ob V all own ⟨d, op, ty, pos, af, some (j, want)⟩ F M (.raw undef) M := by
  unfold Ob gd
  subst hb
  simp only [hs, hv]
  refine ⟨fun h => by cases want <;> simp at h, fun _ => ?_⟩
  simp
theorem ob_noT {all : Array Oper} {own : List Nat} {d : Option Tmp} {op : Op} {ty : TypeId} {pos : String} {af : Array Edge} {F : Fm} {M : Mem} {j s : Nat} {want : Bool} {u : Array Value}
    (hs : (all[j]?).bind (·.dst) = some s) (hv : F.get s = .raw (.tuple u)) : Ob V all own ⟨d, op, ty, pos, af, some (j, want)⟩ F M (.raw undef) M := by
  unfold Ob gd
  simp [hs, hv]
/-- All that the plan asks for. -/
def Obs (V : Env) (own : List Nat) (S : List Dr) (vals : List AV) (Ms : List Mem) (fr : Fm) : List (Nat × Nat) → Prop
  | [] => True
  | (i, j) :: r => (∃ row F M M', S[i]? = some row ∧ Dr.frm vals fr row.src = F ∧ Ms[j]? = some M ∧ Ms[j + row.eff.toNat]? = some M' ∧
      Ob V (S.map (·.o)).toArray own row.o F M (vals.getD i .any) M') ∧ Obs V own S vals Ms fr r
theorem obs_nil {own : List Nat} {S : List Dr} {vals : List AV} {Ms : List Mem} : Obs V own S vals Ms fr [] := trivial
theorem obs_cons {own : List Nat} {S : List Dr} {vals : List AV} {Ms : List Mem} {i j : Nat} {r : List (Nat × Nat)} {pre : List Nat} {src : List (Nat × Option Nat)} {eff : Bool} {F : Fm} {M M' : Mem} {v : AV} {o : Oper}
    (h1 : S[i]? = some ⟨o, pre, src, eff⟩) (hv : vals[i]? = some v) (h3 : Ms[j]? = some M) (h4 : Ms[j + eff.toNat]? = some M') (h2 : Dr.frm vals fr src = F)
    (h5 : Ob V (S.map (·.o)).toArray own o F M v M') (hr : Obs V own S vals Ms fr r) : Obs V own S vals Ms fr ((i, j) :: r) :=
  ⟨⟨_, F, M, M', h1, h2, h3, h4, by rw [List.getD_eq_getElem?_getD, hv]; exact h5⟩, hr⟩
theorem Obs.at {own : List Nat} {S : List Dr} {vals : List AV} {Ms : List Mem} : ∀ {l : List (Nat × Nat)}, Obs V own S vals Ms fr l → ∀ {i j : Nat}, (i, j) ∈ l →
    ∃ row F M M', S[i]? = some row ∧ Dr.frm vals fr row.src = F ∧ Ms[j]? = some M ∧ Ms[j + row.eff.toNat]? = some M' ∧ Ob V (S.map (·.o)).toArray own row.o F M (vals.getD i .any) M'
  | [], _, _, _, h => by simp at h
  | (a, b) :: r, h, i, j, hm => by
    obtain ⟨h1, h2⟩ := h
    rcases List.mem_cons.1 hm with e | hm
    · injection e with e1 e2; subst e1; subst e2; exact h1
    · exact h2.at hm

/-- The slots' values when these are done. -/
def gS (S : List Dr) (vals : List AV) (fr : Fm) (L : Array Bool) (s : Nat) : AV := match (List.range S.length).find? fun q => L.getD q false && Dr.dst S q == some s with
  | some q => vals.getD q .any
  | none => fr.get s
def cntS (S : List Dr) (L : Array Bool) : Nat := (List.range S.length).countP fun e => L.getD e false && Dr.effs S e

theorem countP_lt {α : Type} {p q : α → Bool} : ∀ {l : List α}, (∀ x ∈ l, q x = true → p x = true) → (∃ x ∈ l, p x = true ∧ q x = false) → l.countP q < l.countP p
  | [], _, ⟨_, h, _⟩ => by simp at h
  | a :: r, h, ⟨x, hx, h1, h2⟩ => by
    have hr : r.countP q ≤ r.countP p := List.countP_mono_left fun y hy => h y (List.mem_cons_of_mem _ hy)
    rcases List.mem_cons.1 hx with rfl | hx
    · simp only [List.countP_cons, h1, h2, if_true, Bool.false_eq_true, if_false]; omega
    · have := countP_lt (l := r) (fun y hy => h y (List.mem_cons_of_mem _ hy)) ⟨x, hx, h1, h2⟩
      simp only [List.countP_cons]
      have ha := h a List.mem_cons_self
      cases hq : q a
      · simp; omega
      · simp [ha hq]; omega
theorem frm_get (vals : List AV) (fr : Fm) (s : Nat) : ∀ l : List (Nat × Option Nat), (Dr.frm vals fr l).get s = .any ∨ (∃ p, (s, some p) ∈ l ∧ (Dr.frm vals fr l).get s = (vals[p]?).getD .any) ∨ ((s, none) ∈ l ∧ (Dr.frm vals fr l).get s = fr.get s)
  | [] => .inl rfl
  | (x, y) :: r => by
    by_cases hs : x = s
    · subst hs
      cases y with
      | some p => exact .inr (.inl ⟨p, List.mem_cons_self, by simp [Dr.frm, Fm.get]⟩)
      | none => exact .inr (.inr ⟨List.mem_cons_self, by simp [Dr.frm, Fm.get]⟩)
    · have hg : (Dr.frm vals fr ((x, y) :: r)).get s = (Dr.frm vals fr r).get s := by
        cases y <;> simp [Dr.frm, Fm.get, hs]
      rw [hg]
      rcases frm_get vals fr s r with h | ⟨p, h1, h2⟩ | ⟨h1, h2⟩
      · exact .inl h
      · exact .inr (.inl ⟨p, List.mem_cons_of_mem _ h1, h2⟩)
      · exact .inr (.inr ⟨List.mem_cons_of_mem _ h1, h2⟩)

theorem gS_listed {S : List Dr} {vals : List AV} {L : Array Bool} {q s : Nat} (hn : ∀ a b, a < S.length → b < S.length → Dr.dst S a = some s → Dr.dst S b = some s → a = b) (hq : q < S.length) (hL : L.getD q false = true) (hd : Dr.dst S q = some s) : gS S vals fr L s = vals.getD q .any := by
  unfold gS
  cases hf : (List.range S.length).find? (fun q => L.getD q false && Dr.dst S q == some s) with
  | none =>
    have := List.find?_eq_none.1 hf q (List.mem_range.2 hq)
    rw [hL, hd] at this; simp at this
  | some q' =>
    have h1 := List.mem_range.1 (List.mem_of_find?_eq_some hf)
    have h2 := List.find?_some hf
    simp only [Bool.and_eq_true, beq_iff_eq] at h2
    rw [hn q' q h1 hq h2.2 hd]
theorem gS_not {S : List Dr} {vals : List AV} {L : Array Bool} {s : Nat} (h : ∀ q, q < S.length → L.getD q false = true → Dr.dst S q ≠ some s) : gS S vals fr L s = fr.get s := by
  unfold gS
  cases hf : (List.range S.length).find? (fun q => L.getD q false && Dr.dst S q == some s) with
  | none => rfl
  | some q' =>
    have h1 := List.mem_range.1 (List.mem_of_find?_eq_some hf)
    have h2 := List.find?_some hf
    simp only [Bool.and_eq_true, beq_iff_eq] at h2
    exact absurd h2.2 (h q' h1 h2.1)

theorem awp_draw {id : Nat} {l : List Oper} (own : List Nat) (S : List Dr) (vals : List AV) (Ms : List Mem) (pairs : List (Nat × Nat)) (fs : List (Nat × Option Nat)) {M' : Mem} (hS : S.map (·.o) = l) (hm : V.P.follows .mixedOrders = true) (hok : Dr.ok V.N S pairs = true) (hfs : Dr.finOk S fs = true) (h0 : Ms[0]? = some m)
    (hob : Obs V own S vals Ms fr pairs) (hM : Ms[(List.range S.length).countP (Dr.effs S)]? = some M') (h : Q .nrm (Dr.frm vals fr fs) M') : Awp V (.region id l.toArray true) Q fr m := by
  subst hS
  unfold Awp
  intro w0 κ0 κ a h1 h2 h3 h4 h5 h6 h7 h8 h9
  have hops : ∀ i : Nat, (S.map (·.o)).toArray[i]? = (S[i]?).map (·.o) := by intro i; simp
  have hrow : ∀ i, i < S.length → ∃ r, S[i]? = some r ∧ Dr.rowOk S i r = true ∧ (∀ d, r.o.dst = some d → d < V.N) ∧ ∀ j, Dr.lo S i ≤ j → j ≤ Dr.hi S i → (i, j) ∈ pairs := by
    intro i hi
    have := List.all_eq_true.1 hok i (List.mem_range.2 hi)
    cases hr : S[i]? with
    | none => rw [List.getElem?_eq_none_iff] at hr; omega
    | some r =>
      simp only [hr, Bool.and_eq_true] at this
      obtain ⟨⟨t1, t2⟩, t3⟩ := this
      refine ⟨r, rfl, t1, fun d hd => by rw [hd] at t2; simpa [Nat.blt_eq] using t2, fun j hj1 hj2 => ?_⟩
      have := List.all_eq_true.1 t3 j (List.mem_range.2 (by omega))
      simp only [Bool.or_eq_true, Nat.blt_eq] at this
      rcases this with this | this
      · omega
      · simpa using this
  have hnd : ∀ s a b, a < S.length → b < S.length → Dr.dst S a = some s → Dr.dst S b = some s → a = b := by
    intro s a b ha hb hda hdb
    obtain ⟨r, hr, hok', _⟩ := hrow a ha
    simp only [Dr.rowOk, Bool.and_eq_true] at hok'
    have := List.all_eq_true.1 hok'.2 b (List.mem_range.2 hb)
    have hra : r.o.dst = some s := by simpa [Dr.dst, hr] using hda
    rw [hra, hdb] at this
    simp at this
    exact this.symm
  refine wp_region_any hm ?_
  -- what holds while some are done
  let I : Array Bool → Act → World → Prop := fun L a w => ∃ κ, κ.w = w ∧ Fr κ0 κ ∧ Sat w0 κ ∧ Ms[cntS S L]? = some κ.m ∧ (∀ s, E κ (gS S vals fr L s) (a.tmps.getD s undef)) ∧ a.tmps.size = V.N ∧ a.defers = [] ∧ L.size = S.length ∧
    ∀ i, i < S.length → L.getD i false = true → ∀ p ∈ Dr.pres S i, L.getD p false = true
  have done : ∀ L a w, I L a w → (∀ i, i < S.length → L.getD i false = true) → APost w0 κ0 V.N Q .normal a w := by
    rintro L a w ⟨κ, rfl, i1, i2, i3, i4, i5, i6, i7, i8⟩ hall
    have hc : cntS S L = (List.range S.length).countP (Dr.effs S) := by
      unfold cntS
      refine List.countP_congr fun e he => ?_
      rw [hall e (List.mem_range.1 he)]; simp
    rw [hc, hM] at i3
    injection i3 with i3
    refine ⟨κ, _, rfl, i1, i2, fun s => ?_, i5, i6, i3 ▸ h⟩
    rcases frm_get vals fr s fs with e1 | ⟨p, e1, e2⟩ | ⟨e1, e2⟩
    · rw [e1]; simp [E]
    · rw [e2]
      have hp := List.all_eq_true.1 hfs _ e1
      simp only [Bool.and_eq_true, Nat.blt_eq, beq_iff_eq] at hp
      have := i4 s
      rw [gS_listed (hnd s) hp.1 (hall p hp.1) hp.2, List.getD_eq_getElem?_getD] at this
      exact this
    · rw [e2]
      have hq := List.all_eq_true.1 hfs _ e1
      simp only [List.all_eq_true, List.mem_range, bne_iff_ne] at hq
      have := i4 s
      rw [gS_not (fun q hql _ => hq q hql)] at this
      exact this
  have ready_all : ∀ L : Array Bool, L.size = S.length → Region.ready .any (S.map (·.o)).toArray L = [] → ∀ i, i < S.length → L.getD i false = true := by
    intro L hL hr i
    induction i using Nat.strongRecOn with
    | _ i ih =>
      intro hi
      by_cases hli : L.getD i false = true
      · exact hli
      · exfalso
        obtain ⟨r, hri, hok', _⟩ := hrow i hi
        have : i ∈ Region.ready .any (S.map (·.o)).toArray L := by
          rw [mem_ready]
          refine ⟨?_, r.o, by rw [hops, hri]; rfl, fun e he _ => ?_⟩
          · have hlt : i < L.size := by omega
            simp only [Array.getD_eq_getD_getElem?, Array.getElem?_eq_getElem hlt, Option.getD_some] at hli ⊢
            simpa using hli
          · simp only [Dr.rowOk, Bool.and_eq_true] at hok'
            have := List.all_eq_true.1 hok'.1.1.1 e (by simpa using he)
            rw [Nat.blt_eq] at this
            exact ih e.on this (by omega)
        rw [hr] at this
        simp at this
  have main : ∀ (fuel : Nat) (L : Array Bool) (a : Act) (w : World), (List.range S.length).countP (fun i => !L.getD i true) ≤ fuel → I L a w → wpAny V.P .any (S.map (·.o)).toArray (APost w0 κ0 V.N Q) fuel L a w := by
    intro fuel
    induction fuel with
    | zero =>
      intro L a w hc hI
      have hLs : L.size = S.length := by obtain ⟨_, _, _, _, _, _, _, _, i7, _⟩ := hI; exact i7
      have hall : ∀ i, i < S.length → L.getD i false = true := by
        intro i hi
        have := List.countP_eq_zero.1 (Nat.le_zero.1 hc) i (List.mem_range.2 hi)
        have hlt : i < L.size := by omega
        simp only [Array.getD_eq_getD_getElem?, Array.getElem?_eq_getElem hlt, Option.getD_some] at this ⊢
        simpa using this
      refine ⟨?_, done L a w hI hall⟩
      cases hr : Region.ready .any (S.map (·.o)).toArray L with
      | nil => rfl
      | cons i r =>
        exfalso
        have hmem : i ∈ Region.ready .any (S.map (·.o)).toArray L := by rw [hr]; exact List.mem_cons_self
        rw [mem_ready] at hmem
        obtain ⟨q1, o, q2, _⟩ := hmem
        have hi : i < S.length := by
          rw [hops] at q2
          rcases Nat.lt_or_ge i S.length with h | h
          · exact h
          · rw [List.getElem?_eq_none h] at q2; simp at q2
        have := hall i hi
        have hlt : i < L.size := by omega
        simp only [Array.getD_eq_getD_getElem?, Array.getElem?_eq_getElem hlt, Option.getD_some] at this q1
        rw [this] at q1; simp at q1
    | succ fuel ih =>
      intro L a w hc hI
      obtain ⟨κ, rfl, i1, i2, i3, i4, i5, i6, i7, i8⟩ := hI
      refine ⟨fun hr => done L a κ.w ⟨κ, rfl, i1, i2, i3, i4, i5, i6, i7, i8⟩ (ready_all L i7 hr), fun i hi => ?_⟩
      have hi' := hi
      rw [mem_ready] at hi
      obtain ⟨q1, o, q2, q3⟩ := hi
      have hil : i < S.length := by
        rw [hops] at q2
        rcases Nat.lt_or_ge i S.length with h | h
        · exact h
        · rw [List.getElem?_eq_none h] at q2; simp at q2
      obtain ⟨r, hri, hok', hdN, hpr⟩ := hrow i hil
      have ho : o = r.o := by rw [hops, hri] at q2; simpa using q2.symm
      subst ho
      have hlt : i < L.size := by omega
      have hLi : L.getD i false = false := by
        simp only [Array.getD_eq_getD_getElem?, Array.getElem?_eq_getElem hlt, Option.getD_some] at q1 ⊢
        exact q1
      simp only [Dr.rowOk, Bool.and_eq_true] at hok'
      obtain ⟨⟨⟨k1, k2⟩, k3⟩, k4⟩ := hok'
      have hpi : Dr.pres S i = r.pre := by simp [Dr.pres, hri]
      -- those ahead of it are done
      have hpre : ∀ p ∈ r.pre, L.getD p false = true := by
        intro p hp
        have := List.all_eq_true.1 k2 p hp
        simp only [List.any_eq_true, Bool.and_eq_true, Bool.or_eq_true, beq_iff_eq] at this
        obtain ⟨e, he, hb, hor⟩ := this
        have hl := q3 e (by simpa using he) hb
        rcases hor with rfl | hor
        · exact hl
        · have := List.all_eq_true.1 k1 e he
          rw [Nat.blt_eq] at this
          exact i8 e.on (by omega) hl p (by simpa using hor)
      -- those that wait for it are not
      have hwait : ∀ q, q < S.length → (Dr.pres S q).contains i = true → L.getD q false = false := by
        intro q hq hc
        cases hl : L.getD q false with
        | false => rfl
        | true =>
          have := i8 q hq hl i (by simpa using hc)
          rw [hLi] at this; simp at this
      have hcnt : Dr.lo S i ≤ cntS S L ∧ cntS S L ≤ Dr.hi S i := by
        unfold Dr.lo Dr.hi cntS
        constructor
        · refine List.countP_mono_left fun e _ he => ?_
          simp only [Bool.and_eq_true, List.contains_iff_mem] at he ⊢
          exact ⟨hpre e (hpi ▸ he.2), he.1⟩
        · refine List.countP_mono_left fun e hem he => ?_
          simp only [Bool.and_eq_true, bne_iff_ne, Bool.not_eq_true'] at he ⊢
          refine ⟨⟨he.2, fun h => ?_⟩, ?_⟩
          · subst h; rw [hLi] at he; simp at he
          · cases hc : (Dr.pres S e).contains i with
            | false => rfl
            | true => rw [hwait e (List.mem_range.1 hem) hc] at he; simp at he
      obtain ⟨row, F, M, M2, e1, e2, e3, e4, e5⟩ := hob.at (hpr _ hcnt.1 hcnt.2)
      rw [hri] at e1
      injection e1 with e1
      subst e1
      rw [i3] at e3
      injection e3 with e3
      subst e3
      -- the frame it looks at
      have hF : FRel κ F a.tmps := by
        subst e2
        intro s
        rcases frm_get vals fr s r.src with hs | ⟨p, hp, hs⟩ | ⟨hp, hs⟩
        · rw [hs]; simp [E]
        · rw [hs]
          have hg := i4 s
          have := List.all_eq_true.1 k3 _ hp
          simp only [Bool.and_eq_true, beq_iff_eq, List.contains_iff_mem] at this
          have hpl : p < S.length := by
            have h' := this.2
            unfold Dr.dst at h'
            rcases Nat.lt_or_ge p S.length with h | h
            · exact h
            · rw [List.getElem?_eq_none h] at h'; simp at h'
          rw [gS_listed (hnd s) hpl (hpre p this.1) this.2, List.getD_eq_getElem?_getD] at hg
          exact hg
        · rw [hs]
          have hg := i4 s
          have := List.all_eq_true.1 k3 _ hp
          simp only [List.all_eq_true, Bool.or_eq_true, beq_iff_eq, bne_iff_ne, List.mem_range] at this
          rw [gS_not] at hg
          · exact hg
          · intro q hq hl hd
            rcases this q hq with (h | h) | h
            · exact h hd
            · subst h; rw [hLi] at hl; simp at hl
            · rw [hwait q hq h] at hl; simp at hl
      have hdst : Dr.dst S i = r.o.dst := by simp [Dr.dst, hri]
      have heff : Dr.effs S i = r.eff := by simp [Dr.effs, hri]
      have hdN' : dOK a.tmps.size r.o.dst := by
        cases hd : r.o.dst with
        | none => trivial
        | some d => exact i5 ▸ hdN d hd
      have hcnt2 : cntS S (L.setIfInBounds i true) = cntS S L + r.eff.toNat := by
        unfold cntS
        have hsplit : ∀ l : List Nat, l.Nodup → l.countP (fun e => (L.setIfInBounds i true).getD e false && Dr.effs S e) = l.countP (fun e => L.getD e false && Dr.effs S e) + if i ∈ l then r.eff.toNat else 0 := by
          intro l
          induction l with
          | nil => intro _; rfl
          | cons x y ih2 =>
            intro hn
            obtain ⟨hx, hy⟩ := List.nodup_cons.1 hn
            simp only [List.countP_cons, ih2 hy]
            by_cases hxi : x = i
            · subst hxi
              have : (L.setIfInBounds x true).getD x false = true := by simp [hlt]
              rw [this, hLi, heff, if_neg hx, if_pos List.mem_cons_self]
              cases r.eff <;> simp
            · rw [getD_set_ne false (Ne.symm hxi)]
              by_cases hiy : i ∈ y
              · rw [if_pos hiy, if_pos (List.mem_cons_of_mem _ hiy)]; omega
              · rw [if_neg hiy, if_neg (show ¬ i ∈ x :: y by simp [Ne.symm hxi, hiy])]; omega
        rw [hsplit _ List.nodup_range, if_pos (List.mem_range.2 hil)]
      have hdown : ∀ j, j < S.length → (L.setIfInBounds i true).getD j false = true → ∀ p ∈ Dr.pres S j, (L.setIfInBounds i true).getD p false = true := by
        intro j hj hl p hp
        by_cases hji : j = i
        · subst hji
          exact getD_set_true (hpre p (hpi ▸ hp))
        · rw [getD_set_ne false (Ne.symm hji)] at hl
          exact getD_set_true (i8 j hj hl p hp)
      have hcount : (List.range S.length).countP (fun j => !(L.setIfInBounds i true).getD j true) ≤ fuel := by
        have : (List.range S.length).countP (fun j => !(L.setIfInBounds i true).getD j true) < (List.range S.length).countP (fun j => !L.getD j true) := by
          refine countP_lt (fun j _ hj => ?_) ⟨i, List.mem_range.2 hil, by simpa using q1, by simp [hlt]⟩
          by_cases hji : j = i
          · subst hji; simp [hlt] at hj
          · rw [getD_set_ne true (Ne.symm hji)] at hj; exact hj
        omega
      have hnext : ∀ (κ' : Ctx) (x : Value), Fr κ κ' → Sat w0 κ' → κ'.m = M2 → E κ' (vals.getD i .any) x → I (L.setIfInBounds i true) (a.put r.o.dst x) κ'.w := by
        intro κ' x f1 f2 f3 f4
        refine ⟨κ', rfl, i1.trans f1, f2, by rw [hcnt2, f3]; exact e4, fun s => ?_, by rw [Am.put_size]; exact i5, by rw [Am.put_defers]; exact i6, by simpa using i7, hdown⟩
        by_cases hds : r.o.dst = some s
        · rw [gS_listed (hnd s) hil (by simp [hlt]) (hdst.trans hds), hds]
          have hsz : s < a.tmps.size := i5 ▸ hdN s hds
          simpa [Act.put, hsz] using f4
        · have hsame : gS S vals fr (L.setIfInBounds i true) s = gS S vals fr L s := by
            unfold gS
            have : ∀ q, ((L.setIfInBounds i true).getD q false && Dr.dst S q == some s) = (L.getD q false && Dr.dst S q == some s) := by
              intro q
              by_cases hqi : q = i
              · subst hqi
                have : (Dr.dst S q == some s) = false := by rw [hdst]; simpa using hds
                rw [this]; simp
              · rw [getD_set_ne false (Ne.symm hqi)]
            simp only [this]
          rw [hsame]
          have := E.mono f1 _ (i4 s)
          cases hd : r.o.dst with
          | none => exact this
          | some d =>
            have hne : d ≠ s := fun h => hds (by rw [hd, h])
            simpa [Act.put, Array.getElem?_setIfInBounds_ne hne] using this
      have hall : (S.map (·.o)).toArray[i]? = some r.o := by rw [hops, hri]; rfl
      unfold wpOp
      rw [hall]
      simp only
      unfold Ob at e5
      rcases gd_ok hF e5 with ⟨hw, F', hF', e5⟩ | ⟨hw, F', hF', e5⟩
      · rw [if_pos hw]
        left
        refine orun_ok h1 i2 hF' (e5 (fun v m' => v = vals.getD i .any ∧ m' = M2) (fun _ _ => False) ⟨rfl, rfl⟩) _ _ (fun κ' v x f1 f2 f3 f4 => ?_) (fun κ' v x f1 f2 f3 f4 => f4.elim)
        obtain ⟨rfl, f5⟩ := f4
        exact ih _ _ _ hcount (hnext κ' x f1 f2 f5 f3)
      · rw [if_neg (by simp [hw])]
        obtain ⟨e5, e6⟩ := e5
        exact ih _ _ _ hcount (hnext κ undef (Fr.refl κ) i2 e6.symm (by rw [e5]; simp [E]))
  have start : I (Array.replicate (S.map (·.o)).toArray.size false) a { κ.w with drawn := κ.w.drawn + 1 } := by
    have hdr : Fr κ ⟨κ.ρ, κ.m, { κ.w with drawn := κ.w.drawn + 1 }⟩ := ⟨Nat.le_refl _, fun _ _ _ => rfl, Nat.le_refl _, fun _ _ B hB => ⟨B, hB, Nat.le_refl _, fun _ => rfl⟩, fun b B hB h0 => .inl ⟨B, hB, h0, rfl⟩, Kept.heap rfl ⟨rfl, rfl⟩⟩
    have hnl : ∀ i, (Array.replicate (S.map (·.o)).toArray.size false).getD i false = false := by
      intro i
      simp only [Array.getD_eq_getD_getElem?, Array.getElem?_replicate]
      split <;> rfl
    have hcz : cntS S (Array.replicate (S.map (·.o)).toArray.size false) = 0 := by
      unfold cntS
      rw [List.countP_eq_zero]
      intro e _
      rw [hnl]; simp
    refine ⟨⟨κ.ρ, κ.m, { κ.w with drawn := κ.w.drawn + 1 }⟩, rfl, h4.trans hdr, ⟨h5.old, h5.same, fun b B hB => ?_, h5.ne⟩, by rw [hcz, h0, h6], fun s => ?_, h8, h9, by simp, ?_⟩
    · rcases h5.blk b B hB with hb | ⟨b1, b2, c, e, b3, b4, b5, b6⟩
      · exact .inl hb
      · refine .inr ⟨b1, b2, c, e, b3, b4, b5, fun i x hx1 hx2 => ?_⟩
        obtain ⟨v, c1, c2, c3⟩ := b6 i x hx1 hx2
        exact ⟨v, c1, c2, E.mono hdr _ c3⟩
    · rw [gS_not (fun q _ hl => by rw [hnl] at hl; simp at hl)]
      exact E.mono hdr _ (h7 s)
    · intro i _ hl
      rw [hnl] at hl; simp at hl
  refine main _ _ _ _ ?_ start
  refine Nat.le_trans List.countP_le_length ?_
  simp
theorem awp_drawn {id : Nat} {l : List Oper} {N : Nat} (own : List Nat) (plan : List (List Nat × List (Nat × Option Nat) × Bool)) (vals : List AV) (Ms : List Mem) (pairs : List (Nat × Nat)) (fs : List (Nat × Option Nat)) {M' : Mem} (hm : V.P.follows .mixedOrders = true) (hN : V.N = N)
    (hl : l.length = plan.length) (hok : Dr.ok N (Dr.zip l plan) pairs = true) (hfs : Dr.finOk (Dr.zip l plan) fs = true) (h0 : Ms[0]? = some m) (hM : Ms[(List.range (Dr.zip l plan).length).countP (Dr.effs (Dr.zip l plan))]? = some M')
    (hob : Obs V own (Dr.zip l plan) vals Ms fr pairs) (h : Q .nrm (Dr.frm vals fr fs) M') : Awp V (.region id l.toArray true) Q fr m :=
  awp_draw own (Dr.zip l plan) vals Ms pairs fs (zip_map hl) hm (hN ▸ hok) hfs h0 hob hM h
end
attribute [irreducible] Obs
end Go.Proofs.Ytomigflbiijmpaa.Am
