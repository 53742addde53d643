/- A LAW'S ROW FROM ITS CONTRACT: for every argument of plain data it answers true, and reads as it did. -/
import Derived.WalkKit
import Derived.ProofKit
import Derived.WideKeyArgs
import Derived.Carry
import Derived.Test.YtomigflbiijmpaaAms
namespace Go.Proofs.Ytomigflbiijmpaa.Am
open Go.ChangeShapes Go.WideShapes Go.Deep Go.RowKit Go.ChangeAt

def TyAs (P : Program) (n : Nat) : List TypeId → List AV → Prop
  | [], [] => True
  | t :: ts, x :: xs => TyA P n t x ∧ TyAs P n ts xs
  | _, _ => False
theorem TyAs.cons {P : Program} {n : Nat} {t : TypeId} {ts : List TypeId} : ∀ {xs : List AV}, TyAs P n (t :: ts) xs → ∃ x r, xs = x :: r ∧ TyA P n t x ∧ TyAs P n ts r
  | [], h => by simp [TyAs] at h
  | x :: r, h => ⟨x, r, rfl, h.1, h.2⟩
theorem TyAs.nil {P : Program} {n : Nat} : ∀ {xs : List AV}, TyAs P n [] xs → xs = []
  | [], _ => rfl
  | x :: r, h => by simp [TyAs] at h
section
variable {H : Type} {enc : TypeId × Value → H} {P : Program}
theorem stays_all (hl : laidOutB P = true) {W W' : World} {sp : Nat → Bool} : ∀ {ts : List TypeId} {vs : List Value} {ds : List (DataW H)} {ps : List MemPlace}, (∀ t ∈ ts, P.readableRec t = true ∧ t < P.types.size) →
    DataW.TrodAll enc P W 0 (fun _ => true) true ts vs ds ps → (∀ p ∈ ps, W.sameAt W' p) → (∀ p ∈ ps, sp p.block = true) → DataW.TrodAll enc P W' 0 sp true ts vs ds ps
  | [], vs, ds, ps, _, h, _, _ => by
    obtain ⟨rfl, rfl, rfl⟩ := trodAll_nil h
    simp [DataW.TrodAll]
  | t :: ts, vs, ds, ps, ht, h, hs, hp => by
    obtain ⟨v, vs, d, ds, p, q, rfl, rfl, rfl, h1, h2⟩ := trodAll_cons h
    refine ⟨p, q, WideElems.Trod_stays hl (ht t List.mem_cons_self).1 (ht t List.mem_cons_self).2 h1 (fun x hx => hs x (List.mem_append_left _ hx)) (fun x hx => hp x (List.mem_append_left _ hx)), ?_, rfl⟩
    exact stays_all hl (fun t ht' => ht t (List.mem_cons_of_mem _ ht')) h2 (fun x hx => hs x (List.mem_append_right _ hx)) (fun x hx => hp x (List.mem_append_right _ hx))
theorem args_av {W : World} {n : Nat} {b0 : Nat} {r : Reach} : ∀ {ts : List TypeId} {vs : List Value} {ds : List (DataW H)} {ps : List MemPlace}, (∀ t ∈ ts, plainT P n t = true) → (∀ (j : Nat) t v, ts[j]? = some t → vs[j]? = some v → Value.okWide P W r b0 t v) →
    DataW.TrodAll enc P W 0 (fun _ => true) true ts vs ds ps → ∃ xs, EList (κof W) xs vs ∧ TyAs P n ts xs ∧ ds.length = ts.length
  | [], vs, ds, ps, _, _, h => by
    obtain ⟨rfl, rfl, rfl⟩ := trodAll_nil h
    exact ⟨[], by simp [EList], trivial, rfl⟩
  | t :: ts, vs, ds, ps, hp, hv, h => by
    obtain ⟨v, vs, d, ds, p, q, rfl, rfl, rfl, h1, h2⟩ := trodAll_cons h
    obtain ⟨x, hx, hty⟩ := arg_av (hp t List.mem_cons_self) (hv 0 t v rfl rfl) h1
    obtain ⟨xs, g1, g2, g3⟩ := args_av (fun t ht => hp t (List.mem_cons_of_mem _ ht)) (fun j t v h1 h2 => hv (j + 1) t v (by simpa using h1) (by simpa using h2)) h2
    exact ⟨x :: xs, by simp only [EList]; exact ⟨v, vs, rfl, hx, g1⟩, ⟨hty, g2⟩, by simp [g3]⟩

theorem law_calls' {w : World} {f : FuncId} {args : List AV} {cargs : List Value} {K : Kn} (hK : K.ok P w) (h : AFn P K f args [] (fun o m' => o = .ret (.raw (.bool true)) ∧ m' = [])) (ha : EList (κof w) args cargs) :
    Calls P f cargs.toArray w fun e w' => e = .returned (.bool true) ∧ Grown w w' ∧ ∀ i, i < w.heap.size → w'.heap[i]? = w.heap[i]? := by
  have hS : Sat w (κof w) := ⟨Nat.le_refl _, fun _ _ => rfl, fun b B hB => by simp [κof, Mem.get] at hB, fun b b' B B' _ hB => by simp [κof, Mem.get] at hB⟩
  refine (h w (κof w) cargs hK hS rfl ha).mono ?_
  rintro e w' ⟨κ', o, rfl, ⟨rfl, _⟩, hf, _, ho⟩
  obtain ⟨x, rfl, hE⟩ := ho
  simp only [E] at hE
  subst hE
  have hsame : ∀ i, i < w.heap.size → κ'.w.heap[i]? = w.heap[i]? := fun i hi => hf.same i hi (fun b B hB => by simp [κof, Mem.get] at hB)
  refine ⟨rfl, ⟨⟨hf.kept.os, hf.kept.out, fun i hi => ?_⟩, hf.kept.frz, hf.size⟩, hsame⟩
  rw [hsame i hi]
  exact (World.keptBut_refl w (fun _ => False)).2.2 i hi

theorem law_core {f : FuncId} {fn : Func} {s : ChangeSpec} {ts : List TypeId} {bt : TypeId} {K : Kn} {W : World} {args : Array Value} {ds gs : List (DataW H)} {before : List MemPlace} {apart fresh handsOn again : Bool} {b0 : Nat} {n : Nat}
    (hts : fn.params = ts.toArray) (hrt : fn.resultTypes = #[bt]) (hb : P.underlying bt = some .bool) (hl : laidOutB P = true) (hread : ∀ t ∈ ts, P.readableRec t = true ∧ t < P.types.size) (hplain : ∀ t ∈ ts, plainT P n t = true)
    (hvars : s.vars = []) (hfn : ∀ l : List (DataW H), l.length = ts.length → s.fn H l = { results := [.lit (.bool true)], args := l })
    (hval : ∀ (j : Nat) t v, fn.params[j]? = some t → args[j]? = some v → Value.okWide P W .any b0 t v) (hW : DataW.Whole enc P fn.params.toList s.vars apart W args.toList ds gs before) (hK : K.ok P W)
    (h : ∀ xs, TyAs P n ts xs → AFn P K f xs [] (fun o m' => o = .ret (.raw (.bool true)) ∧ m' = [])) :
    Calls P f args W fun e W' => ∃ v, e = .returned v ∧ s.post enc P fn apart fresh handsOn again W args v W' := by
  have hW' := hW
  obtain ⟨p, q, hA, hV, rfl, hfz, hnd⟩ := hW
  rw [hts] at hA hval
  rw [hvars] at hV
  obtain ⟨rfl, rfl⟩ := trodVars_none hV
  have hA : DataW.TrodAll enc P W 0 (fun _ => true) true ts args.toList ds p := hA
  obtain ⟨xs, hE, hty, hdl⟩ := args_av hplain (fun j t v h1 h2 => hval j t v (by simpa using h1) (by simpa using h2)) hA
  have hfn' := hfn ds hdl
  have hcalls := law_calls' hK (h xs hty) hE
  refine (show Calls P f args W _ from hcalls).mono fun e W' ⟨he, hg, hsame⟩ => ?_
  subst he
  have hlt : ∀ x ∈ p, x.block < W.heap.size := fun x hx => hW'.lt x (List.mem_append_left _ hx)
  have same : ∀ x ∈ p, W.sameAt W' x := by
    intro x hx
    cases x with
    | cell b o => exact World.cell?_of_block (w := W) (hsame b (hlt _ hx))
    | map b => exact hsame b (hlt _ hx)
  refine ⟨_, rfl, post_of_same (pa := p) (pv := []) hW' (fun _ _ _ => ?_) (fun sp hsp => ?_) (fun _ _ => ?_) rfl (hg.frame _) hg.2.1 (ok_one hrt rfl (okWide_bool_mk hb _))⟩
  · rw [List.append_nil, hfn', hrt]
    exact trodAll_cons_mk (shut_bool hb _) trodAll_mk0
  · rw [List.append_nil, hfn', hts]
    exact stays_all hl hread hA same (fun x hx => hsp x (List.mem_append_left _ hx))
  · rw [List.append_nil, hfn', hvars]
    rfl
end
end Go.Proofs.Ytomigflbiijmpaa.Am
