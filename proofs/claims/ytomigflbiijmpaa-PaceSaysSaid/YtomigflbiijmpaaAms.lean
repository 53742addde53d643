/- FROM WHAT IS READ OF AN ARGUMENT TO AN ABSTRACT VALUE: numbers, truths, strings, and slices, arrays, structs of them. -/
import Derived.Deep.Slices
import Derived.Deep.Fields
import Derived.ChangeSame
import Derived.Laws.Cover2
import Derived.OpenShut
import Derived.RowKit3
import Derived.Test.YtomigflbiijmpaaAmq
namespace Go.Proofs.Ytomigflbiijmpaa.Am
open Go.ChangeShapes Go.WideShapes Go.Deep Go.RowKit

/-- Each field behind the one ahead of it. -/
def offs (P : Program) : Nat → List Field → Option Nat
  | k, [] => some k
  | k, f :: r => if f.offset = k then offs P (k + P.cellsOf f.type) r else none
def plainT (P : Program) : Nat → TypeId → Bool
  | 0, _ => false
  | n + 1, t => match P.underlying t with
    | some .bool | some (.int _) | some .string | some (.float _) => true
    | some (.slice e) => plainT P n e && Nat.blt 0 (P.cellsOf e)
    | some (.array len e) => plainT P n e && P.cellsOf t == len * P.cellsOf e
    | some (.struct fs) => fs.toList.all (fun f => plainT P n f.type) && offs P 0 fs.toList == some (P.cellsOf t)
    | _ => false
/-- The cells of a value of a type. -/
def Ty (P : Program) : Nat → TypeId → List AV → Prop
  | 0, _, _ => False
  | n + 1, t, xs => match P.underlying t with
    | some .bool => ∃ b, xs = [.raw (.bool b)]
    | some (.int k) => ∃ z, xs = [.raw (.int k z)] ∧ k.min ≤ z ∧ z ≤ k.max
    | some .string => ∃ s, xs = [.raw (.string s)]
    | some (.float k) => ∃ b, xs = [.raw (.float k b)]
    | some (.slice e) => ∃ rows : List (List AV), xs = [.lst (P.cellsOf e) rows.flatten] ∧ ∀ r ∈ rows, r.length = P.cellsOf e ∧ Ty P n e r
    | some (.array len e) => ∃ rows : List (List AV), rows.length = len ∧ xs = rows.flatten ∧ ∀ r ∈ rows, r.length = P.cellsOf e ∧ Ty P n e r
    | some (.struct fs) => ∃ rows : List (List AV), xs = rows.flatten ∧ rows.length = fs.size ∧ ∀ (j : Nat) (f : Field) (r : List AV), fs[j]? = some f → rows[j]? = some r → r.length = P.cellsOf f.type ∧ Ty P n f.type r
    | _ => False

section
variable {H : Type} {enc : TypeId × Value → H} {P : Program} {w : World} {base : Nat} {spare : Nat → Bool} {held : Bool}

def κof (w : World) : Ctx := ⟨fun _ => ⟨0, 0, 0⟩, [], w⟩
theorem still_of {w : World} {k : Nat} (h : k < w.heap.size) : (κof w).still k := by
  refine ⟨h, fun b B hB _ => ?_⟩
  simp [κof, Mem.get] at hB
theorem EList_one {κ : Ctx} {x : AV} {v : Value} (h : E κ x v) : EList κ [x] [v] := by
  simp only [EList]; exact ⟨v, [], rfl, h, rfl⟩
def Good (w : World) (xs : List AV) (cs : List Value) : Prop := EList (κof w) xs cs ∧ ∀ c ∈ cs, c.oneCell' = true
theorem Good.app {w : World} {xs ys : List AV} {cs ds : List Value} (h : Good w xs cs) (h' : Good w ys ds) : Good w (xs ++ ys) (cs ++ ds) :=
  ⟨h.1.append h'.1, fun c hc => (List.mem_append.1 hc).elim (h.2 c) (h'.2 c)⟩
theorem lit_range {k : IntKind} {z : Int} (h : (Lit.int k z).wf = true) : k.min ≤ z ∧ z ≤ k.max := by
  simpa [Lit.wf] using h

theorem ECells.app {κ : Ctx} {k : Nat} : ∀ {xs ys : List AV} {i : Nat}, ECells κ k i xs → ECells κ k (i + xs.length) ys → ECells κ k i (xs ++ ys)
  | [], ys, i, _, h => by simpa using h
  | x :: r, ys, i, h1, h2 => by
    simp only [ECells, List.cons_append] at h1 ⊢
    refine ⟨h1.1, ECells.app h1.2 ?_⟩
    rw [show i + 1 + r.length = i + (x :: r).length by simp; omega]
    exact h2
theorem ECells.ofVals {κ : Ctx} {k : Nat} : ∀ {xs : List AV} {cs : List Value} {i : Nat}, EList κ xs cs → (∀ c ∈ cs, c.oneCell' = true) → (∀ j v, cs[j]? = some v → κ.w.cell? ⟨k, i + j, none⟩ = some v) → ECells κ k i xs
  | [], _, _, _, _, _ => by simp [ECells]
  | x :: r, cs, i, h, ho, hc => by
    simp only [EList] at h
    obtain ⟨v, s, rfl, h1, h2⟩ := h
    simp only [ECells]
    refine ⟨⟨v, by simpa using hc 0 v rfl, ho v List.mem_cons_self, h1⟩, ECells.ofVals h2 (fun c hcs => ho c (List.mem_cons_of_mem _ hcs)) fun j u hj => ?_⟩
    rw [show i + 1 + j = i + (j + 1) by omega]
    exact hc (j + 1) u (by simpa using hj)

theorem trod_ty : ∀ (n : Nat) (t : TypeId), plainT P n t = true → ∀ (fuel : Nat) (cs : List Value) (x : DataW H × List MemPlace), DataW.trod enc P w base spare held fuel t cs = some x →
    ∃ xs, Good w xs cs ∧ Ty P n t xs
  | 0, t, h, _, _, _, _ => by simp [plainT] at h
  | n + 1, t, hp, fuel, cs, x, h => by
    unfold plainT at hp
    unfold Ty
    split at hp
    · rename_i hu
      obtain ⟨b, rfl, _⟩ := DataW.trod_bool hu h
      try simp only [hu]
      exact ⟨_, ⟨EList_one (by simp [E]), by simp [Value.oneCell']⟩, b, rfl⟩
    · rename_i k hu
      obtain ⟨z, rfl, _, hw⟩ := DataW.trod_int hu h
      try simp only [hu]
      exact ⟨_, ⟨EList_one (by simp [E]), by simp [Value.oneCell']⟩, z, rfl, lit_range hw⟩
    · rename_i hu
      obtain ⟨s, rfl, _⟩ := DataW.trod_string hu h
      try simp only [hu]
      exact ⟨_, ⟨EList_one (by simp [E]), by simp [Value.oneCell']⟩, s, rfl⟩
    · rename_i k hu
      obtain ⟨b, rfl⟩ : ∃ b, cs = [.float k b] := by
        cases fuel with
        | zero => simp [DataW.trod] at h
        | succ m =>
          unfold DataW.trod at h
          rw [hu] at h
          split at h <;> simp_all
      try simp only [hu]
      exact ⟨_, ⟨EList_one (by simp [E]), by simp [Value.oneCell']⟩, b, rfl⟩
    · rename_i e hu
      simp only [Bool.and_eq_true, Nat.blt_eq] at hp
      try simp only [hu]
      rcases open_slice hu h with ⟨rfl, _⟩ | ⟨a, len, cap, m, f, D, Pl, rfl, hb, hl, _, hm, _, hi⟩
      · exact ⟨[.lst (P.cellsOf e) []], ⟨EList_one (by simp only [E]; exact .inl ⟨⟨none, 0, rfl⟩, trivial⟩), by simp [Value.oneCell']⟩, [], rfl, by simp⟩
      · by_cases h0 : len = 0
        · subst h0
          exact ⟨[.lst (P.cellsOf e) []], ⟨EList_one (by simp only [E]; exact .inl ⟨⟨some a, cap, rfl⟩, trivial⟩), by simp [Value.oneCell']⟩, [], rfl, by simp⟩
        · have hlm : len ≤ m := by rw [hm]; split <;> omega
          obtain ⟨ab, ao, asp⟩ := a
          have hsp : asp = none := by
            obtain ⟨cs', hc, _⟩ := hi 0 (by omega)
            obtain ⟨_, hcl, hat⟩ := World.cells?_some hc
            have := hat 0 (by omega)
            rw [Nat.zero_mul] at this
            have e0 : ((⟨ab, ao, asp⟩ : Addr).add 0).add 0 = ⟨ab, ao, asp⟩ := by simp [Addr.add]
            rw [e0, List.getElem?_eq_getElem (by omega)] at this
            cases asp with
            | none => rfl
            | some s =>
              simp only [World.cell?, Option.isSome_some, if_true] at this
              split at this <;> simp at this
          subst hsp
          have hcell : ∀ i, i < len → ∃ cs', cs'.length = P.cellsOf e ∧ (∀ j v, cs'[j]? = some v → w.cell? ⟨ab, ao + (i * P.cellsOf e + j), none⟩ = some v) ∧ DataW.trod enc P w base spare held f e cs' = some (D i, Pl i) := by
            intro i hil
            obtain ⟨cs', hc, ht⟩ := hi i (by omega)
            obtain ⟨_, hcl, hat⟩ := World.cells?_some hc
            refine ⟨cs', hcl, fun j v hv => ?_, ht⟩
            have hj : j < cs'.length := (List.getElem?_eq_some_iff.1 hv).1
            have := hat j (by omega)
            rw [add_at, add_at, Nat.add_assoc] at this
            rw [← hv, ← this]
          obtain ⟨cs0, hl0, hc0, _⟩ := hcell 0 (by omega)
          obtain ⟨v0, hv0⟩ : ∃ v, cs0[0]? = some v := ⟨cs0[0]'(by omega), List.getElem?_eq_getElem (by omega)⟩
          have hlt : ab < w.heap.size := World.block_lt_of_cell? w _ (hc0 0 v0 hv0)
          have stp : ∀ d i, i + d = len → ∃ rows : List (List AV), rows.length = d ∧ (∀ r ∈ rows, r.length = P.cellsOf e ∧ Ty P n e r) ∧ ECells (κof w) ab (ao + i * P.cellsOf e) rows.flatten := by
            intro d
            induction d with
            | zero => intro i _; exact ⟨[], rfl, by simp, by simp [ECells]⟩
            | succ d ih =>
              intro i hid
              obtain ⟨rows, r1, r2, r3⟩ := ih (i + 1) (by omega)
              obtain ⟨cs', hcl, hcs', ht⟩ := hcell i (by omega)
              obtain ⟨xs, ⟨g1, g2⟩, hty⟩ := trod_ty n e hp.1 f cs' _ ht
              have hxl : xs.length = P.cellsOf e := g1.length.symm.trans hcl
              refine ⟨xs :: rows, by simp [r1], ?_, ?_⟩
              · intro r hr
                rcases List.mem_cons.1 hr with rfl | hr
                · exact ⟨hxl, hty⟩
                · exact r2 r hr
              · rw [List.flatten_cons]
                refine ECells.app (ECells.ofVals g1 g2 fun j v hv => ?_) ?_
                · rw [Nat.add_assoc]; exact hcs' j v hv
                · rw [hxl, show ao + i * P.cellsOf e + P.cellsOf e = ao + (i + 1) * P.cellsOf e by rw [Nat.add_mul]; omega]
                  exact r3
          obtain ⟨rows, r1, r2, r3⟩ := stp len 0 (by omega)
          rw [Nat.zero_mul, Nat.add_zero] at r3
          have hfl : ∀ l : List (List AV), (∀ r ∈ l, r.length = P.cellsOf e) → l.flatten.length = l.length * P.cellsOf e := by
            intro l hl
            induction l with
            | nil => simp
            | cons r s ih =>
              rw [List.flatten_cons, List.length_append, ih (fun x hx => hl x (List.mem_cons_of_mem _ hx)), hl r List.mem_cons_self, List.length_cons, Nat.add_mul]
              omega
          refine ⟨[.lst (P.cellsOf e) rows.flatten], ⟨EList_one ?_, by simp [Value.oneCell']⟩, rows, rfl, r2⟩
          simp only [E]
          exact .inr ⟨ab, ao, len, cap, rfl, by rw [hfl rows (fun r hr => (r2 r hr).1), r1], hl, still_of hlt, r3⟩
    · rename_i len e hu
      simp only [Bool.and_eq_true, beq_iff_eq] at hp
      try simp only [hu]
      obtain ⟨ys, f, _, _, hcl, hyl, hi⟩ := DataW.trod_array hu h
      rw [hp.2] at hcl
      have stp : ∀ d i, i + d = len → ∃ rows : List (List AV), rows.length = d ∧ (∀ r ∈ rows, r.length = P.cellsOf e ∧ Ty P n e r) ∧ Good w rows.flatten (cs.drop (i * P.cellsOf e)) := by
        intro d
        induction d with
        | zero =>
          intro i hid
          rw [Nat.add_zero] at hid
          subst hid
          rw [List.drop_of_length_le (by omega)]
          exact ⟨[], rfl, by simp, by simp [Good, EList]⟩
        | succ d ih =>
          intro i hid
          obtain ⟨rows, r1, r2, r3⟩ := ih (i + 1) (by omega)
          have hseg := hi i (by omega)
          have hy : ys[i]? = some (ys[i]'(by omega)) := List.getElem?_eq_getElem (by omega)
          rw [hy] at hseg
          obtain ⟨xs, g, hty⟩ := trod_ty n e hp.1 f _ _ hseg
          have hle : (i + 1) * P.cellsOf e ≤ len * P.cellsOf e := Nat.mul_le_mul_right _ (by omega)
          rw [Nat.add_mul, Nat.one_mul] at hle
          have hxl : xs.length = P.cellsOf e := by
            rw [← g.1.length, List.length_take, List.length_drop]; omega
          refine ⟨xs :: rows, by simp [r1], ?_, ?_⟩
          · intro r hr
            rcases List.mem_cons.1 hr with rfl | hr
            · exact ⟨hxl, hty⟩
            · exact r2 r hr
          · rw [List.flatten_cons]
            have hsplit : cs.drop (i * P.cellsOf e) = (cs.drop (i * P.cellsOf e)).take (P.cellsOf e) ++ cs.drop ((i + 1) * P.cellsOf e) := by
              rw [Nat.add_mul, Nat.one_mul, ← List.drop_drop, List.take_append_drop]
            rw [hsplit]
            exact g.app r3
      obtain ⟨rows, r1, r2, r3⟩ := stp len 0 (by omega)
      rw [Nat.zero_mul, List.drop_zero] at r3
      exact ⟨_, r3, rows, r1, rfl, r2⟩
    · rename_i fs hu
      simp only [Bool.and_eq_true, beq_iff_eq] at hp
      try simp only [hu]
      obtain ⟨ys, f, _, _, hcl, hyl, hi⟩ := DataW.trod_struct hu h
      have stp : ∀ (l : List Field) (i k : Nat), fs.toList.drop i = l → offs P k l = some (P.cellsOf t) → k ≤ P.cellsOf t →
          ∃ rows : List (List AV), rows.length = l.length ∧ (∀ (j : Nat) (fd : Field) (r : List AV), l[j]? = some fd → rows[j]? = some r → r.length = P.cellsOf fd.type ∧ Ty P n fd.type r) ∧ Good w rows.flatten (cs.drop k) := by
        intro l
        induction l with
        | nil =>
          intro i k _ ho _
          simp only [offs, Option.some.injEq] at ho
          rw [List.drop_of_length_le (by omega)]
          exact ⟨[], rfl, by simp, by simp [Good, EList]⟩
        | cons fd l ih =>
          intro i k hdrop ho hk
          simp only [offs] at ho
          split at ho
          · rename_i hoff
            have hfd : fs[i]? = some fd := by
              have : fs.toList[i]? = some fd := by
                have := congrArg (fun l => l[0]?) hdrop
                simpa using this
              simpa using this
            have hdrop' : fs.toList.drop (i + 1) = l := by
              rw [← List.drop_drop, hdrop]; rfl
            have hmono : ∀ (l : List Field) (a b : Nat), offs P a l = some b → a ≤ b := by
              intro l
              induction l with
              | nil => intro a b h; simp only [offs, Option.some.injEq] at h; omega
              | cons g l ih2 =>
                intro a b h
                simp only [offs] at h
                split at h
                · have := ih2 _ _ h; omega
                · simp at h
            have hk2 := hmono _ _ _ ho
            obtain ⟨rows, r1, r2, r3⟩ := ih (i + 1) (k + P.cellsOf fd.type) hdrop' ho hk2
            have hseg := hi i fd hfd
            have hil : i < ys.length := by rw [hyl]; exact (Array.getElem?_eq_some_iff.1 hfd).1
            rw [List.getElem?_eq_getElem hil, hoff] at hseg
            have hpf : plainT P n fd.type = true := List.all_eq_true.1 hp.1 fd (by
              have : fs.toList[i]? = some fd := by simpa using hfd
              exact List.mem_of_getElem? this)
            obtain ⟨xs, g, hty⟩ := trod_ty n fd.type hpf f _ _ hseg
            have hxl : xs.length = P.cellsOf fd.type := by
              rw [← g.1.length, List.length_take, List.length_drop]; omega
            refine ⟨xs :: rows, by simp [r1], ?_, ?_⟩
            · intro j gd r hj hr
              cases j with
              | zero =>
                simp only [List.getElem?_cons_zero, Option.some.injEq] at hj hr
                subst hj; subst hr
                exact ⟨hxl, hty⟩
              | succ j =>
                simp only [List.getElem?_cons_succ] at hj hr
                exact r2 j gd r hj hr
            · rw [List.flatten_cons]
              have hsplit : cs.drop k = (cs.drop k).take (P.cellsOf fd.type) ++ cs.drop (k + P.cellsOf fd.type) := by
                rw [← List.drop_drop, List.take_append_drop]
              rw [hsplit]
              exact g.app r3
          · simp at ho
      obtain ⟨rows, r1, r2, r3⟩ := stp fs.toList 0 0 (by simp) hp.2 (by omega)
      rw [List.drop_zero] at r3
      exact ⟨_, r3, rows, rfl, by simpa using r1, fun j fd r hj hr => r2 j fd r (by simpa using hj) hr⟩
    · simp at hp

/-- An argument. -/
def TyA (P : Program) (n : Nat) (t : TypeId) (x : AV) : Prop := match P.underlying t with
  | some (.struct _) | some (.array _ _) => ∃ xs, x = .agg xs ∧ Ty P n t xs
  | _ => Ty P n t [x]
theorem arg_av {n : Nat} {t : TypeId} {r : Reach} {b0 : Nat} {v : Value} {d : DataW H} {ps : List MemPlace} (hp : plainT P n t = true) (hval : Value.okWide P w r b0 t v) (h : DataW.Trod enc P w base spare held t v d ps) :
    ∃ x, E (κof w) x v ∧ TyA P n t x := by
  obtain ⟨fuel, hf⟩ := h
  obtain ⟨xs, ⟨g1, g2⟩, hty⟩ := trod_ty n t hp fuel _ _ hf
  unfold TyA
  have agg : (∃ cs : Array Value, v = .agg cs) → ∃ x, E (κof w) x v ∧ ∃ xs, x = .agg xs ∧ Ty P n t xs := by
    rintro ⟨⟨cs⟩, rfl⟩
    refine ⟨.agg xs, ?_, xs, rfl, hty⟩
    simp only [E]
    exact ⟨cs, rfl, by simpa [Value.cells] using g2, by simpa [Value.cells] using g1⟩
  have one : ∀ x0, xs = [x0] → (∀ c, v ≠ .agg c) → (∀ c, v ≠ .tuple c) → ∃ x, E (κof w) x v ∧ Ty P n t [x] := by
    intro x0 hx hna hnt
    subst hx
    have hcell : v.cells = #[v] := by cases v <;> first | rfl | exact absurd rfl (hna _) | exact absurd rfl (hnt _)
    rw [hcell] at g1
    simp only [EList] at g1
    obtain ⟨u, s, e, g, e2⟩ := g1
    simp only [List.cons.injEq] at e
    exact ⟨x0, by rw [e.1]; exact g, hty⟩
  cases n with
  | zero => simp [plainT] at hp
  | succ n =>
    unfold plainT at hp
    split at hp
    · rename_i hu
      try simp only [hu]
      obtain ⟨b, rfl⟩ := okWide_bool hu hval
      unfold Ty at hty; simp only [hu] at hty
      obtain ⟨b', rfl⟩ := hty
      exact one _ rfl (by simp) (by simp)
    · rename_i k hu
      try simp only [hu]
      obtain ⟨b, rfl⟩ := okWide_int hu hval
      have hty' := hty
      unfold Ty at hty'; simp only [hu] at hty'
      obtain ⟨z, rfl, _⟩ := hty'
      exact one _ rfl (by simp) (by simp)
    · rename_i hu
      try simp only [hu]
      have hty' := hty
      unfold Ty at hty'; simp only [hu] at hty'
      obtain ⟨s, rfl⟩ := hty'
      obtain ⟨s', hs'⟩ := okWide_string hu hval
      have : v = .string s' := hs'
      subst this
      exact one _ rfl (by simp) (by simp)
    · rename_i k hu
      try simp only [hu]
      obtain ⟨b, rfl⟩ := okWide_float hu hval
      have hty' := hty
      unfold Ty at hty'; simp only [hu] at hty'
      obtain ⟨z, rfl⟩ := hty'
      exact one _ rfl (by simp) (by simp)
    · rename_i e hu
      try simp only [hu]
      have hty' := hty
      unfold Ty at hty'; simp only [hu] at hty'
      obtain ⟨rows, rfl, _⟩ := hty'
      have hv : ∃ a l c, v = .slice a l c := okWide_slice hu hval
      obtain ⟨a, l, c, rfl⟩ := hv
      exact one _ rfl (by simp) (by simp)
    · rename_i len e hu
      try simp only [hu]
      exact agg (by unfold Value.okWide at hval; simp only [hu] at hval; obtain ⟨cs, hcs, _⟩ := hval; exact ⟨cs, hcs⟩)
    · rename_i fs hu
      try simp only [hu]
      exact agg (by unfold Value.okWide at hval; simp only [hu] at hval; obtain ⟨cs, hcs, _⟩ := hval; exact ⟨cs, hcs⟩)
    · simp at hp

/-! ### From the contract to the call -/
def K0 : Kn := ⟨fun _ => none, fun _ _ => none⟩
theorem K0_ok (P : Program) (w : World) : K0.ok P w := ⟨fun _ _ h => by simp [K0] at h, fun _ _ _ h => by simp [K0] at h⟩
theorem law_calls {f : FuncId} {args : List AV} {cargs : List Value} {K : Kn} (hK : K.ok P w) (h : AFn P K f args [] (fun o m' => o = .ret (.raw (.bool true)) ∧ m' = [])) (ha : EList (κof w) args cargs) :
    Calls P f cargs.toArray w fun e w' => e = .returned (.bool true) ∧ Grown w w' := by
  have hS : Sat w (κof w) := ⟨Nat.le_refl _, fun _ _ => rfl, fun b B hB => by simp [κof, Mem.get] at hB, fun b b' B B' _ hB => by simp [κof, Mem.get] at hB⟩
  refine (h w (κof w) cargs hK hS rfl ha).mono ?_
  rintro e w' ⟨κ', o, rfl, ⟨rfl, _⟩, hf, _, ho⟩
  obtain ⟨x, rfl, hE⟩ := ho
  simp only [E] at hE
  subst hE
  refine ⟨rfl, ⟨hf.kept.os, hf.kept.out, fun i hi => ?_⟩, hf.kept.frz, hf.size⟩
  have hsame : κ'.w.heap[i]? = w.heap[i]? := hf.same i hi (fun b B hB => by simp [κof, Mem.get] at hB)
  rw [hsame]
  exact (World.keptBut_refl w (fun _ => False)).2.2 i hi
end
end Go.Proofs.Ytomigflbiijmpaa.Am
