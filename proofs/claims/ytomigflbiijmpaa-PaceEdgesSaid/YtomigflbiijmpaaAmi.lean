/- THE ABSTRACT MEMORY: append, copy, clear: what each gives, and that the model's operation gives it. -/
import Derived.Test.YtomigflbiijmpaaAmh
namespace Go.Proofs.Ytomigflbiijmpaa.Am

section
variable (P : Program) (K : Kn)

/-- The cells of a slice that is read. -/
def rSrc (m : Mem) (sz : Nat) (x : AV) (c : List AV → Prop) : Prop := match x with
  | .lst sz' cs => sz' = sz ∧ c cs
  | .sl b tag off len sz' => sz' = sz ∧ (match m.get b with | some B => tag = B.length ∧ c ((B.drop off).take (len * sz)) | none => False)
  | .zs => c []
  | .raw (.slice none 0 0) => c []
  | _ => False
variable {P}

/-- What is read: 'n' elements, whose cells are 'ys'. -/
def Reads (P : Program) (κ : Ctx) (sz : Nat) (v : Value) (ys : List AV) : Prop := ∃ n, (Builtin.lenOf v).run P κ.w = .ok n κ.w ∧ ys.length = n * sz ∧
  ∀ n', n' ≤ n → ∃ vs, (∀ w' : World, w'.heap = κ.w.heap → (Builtin.firstCells sz n' v).run P w' = .ok vs.toArray w') ∧ (∀ x ∈ vs, x.oneCell' = true) ∧ EList κ (ys.take (n' * sz)) vs

theorem rSrc_ok {w0 : World} {κ : Ctx} (hS : Sat w0 κ) {sz : Nat} {x : AV} {v : Value} {c : List AV → Prop} (hx : E κ x v) (h : rSrc κ.m sz x c) : ∃ ys, Reads P κ sz v ys ∧ c ys := by
  have nil : ∀ (n : Nat), n ≤ 0 → ∀ a cp, ∃ vs : List Value, (∀ w' : World, w'.heap = κ.w.heap → (Builtin.firstCells sz n (.slice a 0 cp)).run P w' = .ok vs.toArray w') ∧ (∀ x ∈ vs, x.oneCell' = true) ∧ EList κ ([] : List AV) vs := by
    intro n hn a cp
    obtain rfl : n = 0 := by omega
    refine ⟨[], fun w' _ => ?_, by simp, by simp [EList]⟩
    cases a <;> simp [Builtin.firstCells, loadCells, loadCellsFrom]
  unfold rSrc at h
  split at h
  · rename_i sz' cs
    obtain ⟨rfl, h⟩ := h
    simp only [E] at hx
    rcases hx with ⟨⟨a0, c0, rfl⟩, rfl⟩ | ⟨k, i, len, cap, rfl, e2, e3, e4, e5⟩
    · exact ⟨[], ⟨0, rfl, by simp, fun n hn => by simpa using nil n hn a0 c0⟩, h⟩
    · refine ⟨cs, ⟨len, rfl, e2.symm, fun n hn => ?_⟩, h⟩
      have hl : (cs.take (n * sz')).length = n * sz' := by rw [List.length_take, ← e2]; exact Nat.min_eq_left (Nat.mul_le_mul_right _ hn)
      obtain ⟨vs, hr, hln, ho, he⟩ := Am.cells_at (κ := κ) (a := ⟨k, i, none⟩) (cs.take (n * sz')) (fun j c hc => by rw [add_at]; exact (e5.take _).get hc)
      rw [hl] at hln
      refine ⟨vs, fun w' hw' => ?_, ho, he⟩
      have := run_loadCells_list (P := P) w' ⟨k, i, none⟩ vs (fun j v hv => by rw [← hr j v hv]; simp only [World.cell?, hw'])
      rw [hln] at this
      exact this
  · rename_i b tag off len sz'
    obtain ⟨rfl, h⟩ := h
    split at h
    · rename_i B hB
      obtain ⟨ht, h⟩ := h
      simp only [E] at hx
      obtain ⟨hle, hx2⟩ := (hx.2 B hB).2 ht
      rcases hx2 with ⟨rfl, a, rfl⟩ | ⟨cap, rfl, a2, a3, a4, a5⟩
      · refine ⟨_, ⟨0, rfl, by simp, fun n hn => ?_⟩, h⟩
        simpa using nil n hn a 0
      · refine ⟨_, ⟨len, rfl, by simp; omega, fun n hn => ?_⟩, h⟩
        have hmul : n * sz' ≤ len * sz' := Nat.mul_le_mul_right _ hn
        obtain ⟨vs, hr, hln, ho, he⟩ := hS.cells (n := n * sz') hB a2 (by omega)
        refine ⟨vs, fun w' hw' => ?_, ho, ?_⟩
        · have := run_loadCells_list (P := P) w' (κ.at b off) vs (fun j v hv => by rw [← hr j v hv]; simp only [World.cell?, hw'])
          rw [hln] at this
          exact this
        · rw [List.take_take, Nat.min_eq_left hmul]
          exact he
    · exact h.elim
  · simp only [E] at hx
    obtain ⟨a, rfl⟩ := hx
    exact ⟨[], ⟨0, rfl, by simp, fun n hn => by simpa using nil n hn a 0⟩, h⟩
  · simp only [E] at hx; subst hx
    exact ⟨[], ⟨0, rfl, by simp, fun n hn => by simpa using nil n hn none 0⟩, h⟩
  · exact h.elim

/-! ### append -/
theorem growBy_le : ∀ (r newLen c : Nat), c ≤ 2 * newLen + 192 → Builtin.growBy newLen r c ≤ 2 * newLen + 192
  | 0, newLen, c, h => h
  | r + 1, newLen, c, h => by
    unfold Builtin.growBy
    split
    · exact h
    · exact growBy_le r newLen _ (by omega)
theorem nextcap_le {need cap : Nat} (h : cap < need) : Builtin.nextslicecap need cap ≤ 2 * need + 192 := by
  unfold Builtin.nextslicecap
  split
  · omega
  · split
    · omega
    · exact growBy_le _ _ _ (by omega)

theorem zeroCells_ok {κ : Ctx} {zs : Array Value} {sz n : Nat} (hz : zs.size = sz) (hpos : 0 < sz) : EList κ (zrow (zs.toList.map .raw) (n * sz)) (Builtin.zeroCells zs n).toList := by
  unfold Builtin.zeroCells
  rw [hz, ← hz]
  exact zrow_ok (by omega) _
theorem zeroCells_one {zs : Array Value} {sz n : Nat} (hz : zs.size = sz) (hpos : 0 < sz) (hone : ∀ x ∈ zs.toList, x.oneCell' = true) : ∀ x ∈ (Builtin.zeroCells zs n).toList, x.oneCell' = true := by
  unfold Builtin.zeroCells
  intro x hx
  exact zrow_all hone (by omega) _ x (by simpa using hx)

/-- 'append' behind the reading of its operands. -/
def appendRest (argT : Bool) (size : Nat) (elem : TypeId) (base : Option Addr) (sLen sCap : Nat) (x : Value) (n : Nat) (appended : Sem (Array Value)) : Sem Value := do
  let need := sLen + n
  if need ≤ sCap then
    let new ← appended
    if let some a := base then storeCells (a.add (sLen * size)) new.toList
    pure (.slice base need sCap)
  else
    if (need : Int) > IntKind.i64.max ∧ (argT ∨ (← typeInfo elem).bytes = 0) then runtimePanic (.error "growslice: len out of range")
    if Builtin.nextslicecap need sCap * (← typeInfo elem).bytes > 2 ^ 48 then (if argT then runtimePanic (.error "growslice: len out of range") else do
      if !(← Builtin.mayShare size sLen n base x) then mark .noRoom
      unsupported (.resourceLimit "append: a slice or a string whose bytes no memory bears"))
    let newCap ← choose (.appendCap need sCap elem)
    askRoom (newCap * (← typeInfo elem).bytes)
    let old ← Builtin.firstCells size sLen (.slice base sLen sCap)
    let new ← appended
    let rest := Builtin.zeroCells (← zeroValue elem).cells (newCap - need)
    pure (.slice (some (← newRow elem (old ++ new ++ rest))) need newCap)

variable (P)
/-- What comes of appending cells to a slice. -/
def rPut (m : Mem) (sz bytes : Nat) (s : AV) (ys : List AV) (c : AV → Mem → Prop) : Prop := match s with
  | .zs | .raw (.slice none 0 0) => (2 * (ys.length / sz) + 192) * bytes ≤ 281474976710656 ∧ c (.sl m.length ys.length 0 (ys.length / sz) sz) (m ++ [some ys])
  | .sl b tag off len sz' => sz' = sz ∧ (match m.get b with
    | some B => tag = B.length ∧ off + len * sz = B.length ∧ (2 * (len + ys.length / sz) + 192) * bytes ≤ 281474976710656 ∧ c (.sl b (B.length + ys.length) off (len + ys.length / sz) sz) (m.set b (some (B ++ ys)))
    | none => False)
  | _ => False
variable {P}

theorem grows {w0 : World} {κ : Ctx} (hS : Sat w0 κ) {argT : Bool} {sz n : Nat} {elem : TypeId} {i : TypeInfo} {zv : Value} {base : Option Addr} {sLen sCap : Nat} {x : Value} {app : Sem (Array Value)} {os ys : List AV} {ovs : List Value}
    (hi : P.info? elem = some i) (hz : i.zero = some zv) (hzs : zv.cells.size = sz) (hneed : ¬ sLen + n ≤ sCap) (hb : 0 < i.bytes)
    (hbound : (2 * (sLen + n) + 192) * i.bytes ≤ 281474976710656)
    (hold : ∀ w', w'.heap = κ.w.heap → (Builtin.firstCells sz sLen (.slice base sLen sCap)).run P w' = .ok ovs.toArray w') (hos : ∀ κ1 : Ctx, Fr κ κ1 → EList κ1 os ovs) (hoo : ∀ x ∈ ovs, x.oneCell' = true) (hol : os.length = sLen * sz)
    (happ : ∀ κ1, Fr κ κ1 → Sat w0 κ1 → κ1.m = κ.m → κ1.w.heap = κ.w.heap → ∃ vs, app.run P κ1.w = .ok vs.toArray κ1.w ∧ (∀ x ∈ vs, x.oneCell' = true) ∧ EList κ1 ys vs) (hyl : ys.length = n * sz) :
    ∃ (cap : Nat) (cs : Array Value) (w' : World) (κ1 : Ctx), (appendRest argT sz elem base sLen sCap x n app).run P κ.w = .ok (.slice (some ⟨κ.w.heap.size, 0, none⟩) (sLen + n) cap) w' ∧ Fr κ κ1 ∧ Sat w0 κ1 ∧ κ1.m = κ.m ∧ κ1.ρ = κ.ρ ∧ κ1.w.heap = κ.w.heap ∧ Side κ1.w w' ∧
      w'.heap = κ1.w.heap.push (.cells cs elem (0, 0)) ∧ sLen + n ≤ cap ∧ cs.size = cap * sz ∧ EList κ1 (os ++ ys) (cs.toList.take (os ++ ys).length) ∧ ∀ x ∈ cs.toList.take (os ++ ys).length, x.oneCell' = true := by
  obtain ⟨hf, hs⟩ := step_tape hS (w' := κ.w.drew) rfl ⟨rfl, rfl⟩
  obtain ⟨vs, hr, ho, he⟩ := happ ⟨κ.ρ, κ.m, κ.w.drew⟩ hf hs rfl rfl
  have hcut := Question.cut
  let cap := (Question.appendCap (sLen + n) sCap elem).cut (κ.w.tape κ.w.drawn (.appendCap (sLen + n) sCap elem))
  have hcap : sLen + n ≤ cap := by simp [cap, Question.cut]
  let cs : Array Value := ovs.toArray ++ vs.toArray ++ Builtin.zeroCells zv.cells (cap - (sLen + n))
  have hol' := (hos ⟨κ.ρ, κ.m, κ.w.drew⟩ hf).length
  have hvl := he.length
  refine ⟨cap, cs, κ.w.drew.alloc (.cells cs elem), ⟨κ.ρ, κ.m, κ.w.drew⟩, ?_, hf, hs, rfl, rfl, rfl, ⟨rfl, rfl⟩, rfl, hcap, ?_, ?_, ?_⟩
  · have hnc := nextcap_le (need := sLen + n) (cap := sCap) (by omega)
    have c1 : ¬ (((sLen + n : Nat) : Int) > IntKind.i64.max ∧ (argT = true ∨ i.bytes = 0)) := by
      have : (2 * (sLen + n) + 192) * 1 ≤ (2 * (sLen + n) + 192) * i.bytes := Nat.mul_le_mul_left _ hb
      have hm : IntKind.i64.max = 9223372036854775807 := by decide
      rw [hm]; omega
    have c2 : ¬ (Builtin.nextslicecap (sLen + n) sCap * i.bytes > 2 ^ 48) := by
      have : Builtin.nextslicecap (sLen + n) sCap * i.bytes ≤ (2 * (sLen + n) + 192) * i.bytes := Nat.mul_le_mul_right _ hnc
      omega
    unfold appendRest
    simp only [hneed, if_false, Sem.run_bind, typeInfo, run_program, Result.andThen_ok, hi, Sem.run_pure, c1, c2]
    have hch : (choose (.appendCap (sLen + n) sCap elem)).run P κ.w = .ok cap κ.w.drew := by
      rw [run_choose]; simp [Question.forced, cap]
    simp only [hch, Result.andThen_ok, run_askRoom, hold κ.w.drew rfl, hr]
    simp only [Sem.run_bind, zeroValue, typeInfo, run_program, hi, hz, Result.andThen_ok, Sem.run_pure, newRow, run_newObj, World.alloc_eq]
    rfl
  · simp only [cs, Array.size_append, List.size_toArray, Builtin.zeroCells, Array.size_map, Array.size_range]
    rw [hol', hvl, hol, hyl, hzs, ← Nat.add_mul, ← Nat.add_mul]
    congr 1; omega
  · have : cs.toList.take (os ++ ys).length = ovs ++ vs := by
      simp only [cs, Array.toList_append, List.length_append]
      rw [← hol', ← hvl, ← List.length_append]
      exact List.take_left
    rw [this]
    exact (hos _ hf).append he
  · have : cs.toList.take (os ++ ys).length = ovs ++ vs := by
      simp only [cs, Array.toList_append, List.length_append]
      rw [← hol', ← hvl, ← List.length_append]
      exact List.take_left
    rw [this]
    intro y hy
    rcases List.mem_append.1 hy with h | h
    · exact hoo y h
    · exact ho y h

theorem rPut_ok {w0 : World} {κ : Ctx} (hS : Sat w0 κ) {argT : Bool} {sz n : Nat} {elem : TypeId} {i : TypeInfo} {zv : Value} {s : AV} {base : Option Addr} {sLen sCap : Nat} {x : Value} {app : Sem (Array Value)} {ys : List AV} {c : AV → Mem → Prop}
    (hi : P.info? elem = some i) (hz : i.zero = some zv) (hzs : zv.cells.size = sz) (hpos : 0 < sz) (hb : 0 < i.bytes)
    (happ : ∀ κ1, Fr κ κ1 → Sat w0 κ1 → κ1.m = κ.m → κ1.w.heap = κ.w.heap → ∃ vs, app.run P κ1.w = .ok vs.toArray κ1.w ∧ (∀ x ∈ vs, x.oneCell' = true) ∧ EList κ1 ys vs) (hyl : ys.length = n * sz)
    (hs : E κ s (.slice base sLen sCap)) (h : rPut κ.m sz i.bytes s ys c) :
    Makes (P := P) w0 κ (appendRest argT sz elem base sLen sCap x n app) c := by
  have hn : ys.length / sz = n := by rw [hyl]; exact Nat.mul_div_cancel _ hpos
  -- a slice without cells
  have fromNil : sLen = 0 → sCap = 0 → (2 * n + 192) * i.bytes ≤ 281474976710656 → c (.sl κ.m.length ys.length 0 n sz) (κ.m ++ [some ys]) → Makes (P := P) w0 κ (appendRest argT sz elem base sLen sCap x n app) c := by
    rintro rfl rfl hbound hc
    by_cases h0 : n = 0
    · subst h0
      have hys : ys = [] := List.length_eq_zero_iff.1 (by rw [hyl]; simp)
      subst hys
      obtain ⟨vs, hr, _, he⟩ := happ κ (Fr.refl κ) hS rfl rfl
      have hvs : vs = [] := by simpa [EList] using he
      subst hvs
      obtain ⟨hf, hs'⟩ := step_none hS
      refine ⟨_, _, .slice base 0 0, ?_, hf, hs', ?_, hc⟩
      · unfold appendRest
        simp only [Nat.add_zero, Nat.le_refl, if_true, Sem.run_bind, hr, Result.andThen_ok]
        cases base <;> simp [storeCells]
      · simp only [E]
        refine ⟨by simp, fun B' hB' => ?_⟩
        rw [get_append_at] at hB'
        injection hB' with hB'; subst hB'
        exact ⟨by simp, fun _ => ⟨by simp, .inl ⟨trivial, base, rfl⟩⟩⟩
    · obtain ⟨cap, cs, w', κ1, hr, hf, hs1, hm1, hρ1, hh1, hsd1, hw', hcap, hcs, hE, ho⟩ := grows (os := []) (ovs := []) (argT := argT) (x := x) (base := base) (sLen := 0) (sCap := 0) hS hi hz hzs (by omega) hb (by simpa using hbound)
        (fun w' _ => by cases base <;> simp [Builtin.firstCells, loadCells, loadCellsFrom]) (fun _ _ => by simp [EList]) (by simp) (by simp) happ hyl
      simp only [List.nil_append] at hE ho
      obtain ⟨κ', hw2, hm2, hf2, hs2, he2⟩ := new_slice hs1 (w' := w') (cs := cs) (e := elem) (B := ys) (len := n) (cap := cap) (sz := sz) hw' hsd1 hE ho (by rw [hyl]) (by omega) (by omega) hcs
      refine ⟨κ', _, _, by rw [hw2]; exact hr, hf.trans hf2, hs2, ?_, by rw [hm2, hm1]; exact hc⟩
      rw [hm1, hh1] at he2
      simpa using he2
  unfold rPut at h
  split at h
  · simp only [E] at hs
    obtain ⟨a, ha⟩ := hs
    injection ha with h1 h2 h3
    rw [hn] at h
    exact fromNil h2 h3 h.1 h.2
  · simp only [E] at hs
    injection hs with h1 h2 h3
    rw [hn] at h
    exact fromNil h2 h3 h.1 h.2
  · rename_i b tag off len sz'
    obtain ⟨rfl, h⟩ := h
    split at h
    · rename_i B hB
      obtain ⟨ht, hfull, hbound, hc⟩ := h
      rw [hn] at hbound hc
      simp only [E] at hs
      obtain ⟨hle, hs2⟩ := (hs.2 B hB).2 ht
      have hblt := hs.1
      -- what is to be shown of the handle behind it
      have grow : ¬ sLen + n ≤ sCap → sLen = len → (∃ ovs : List Value, (∀ w', w'.heap = κ.w.heap → (Builtin.firstCells sz' sLen (.slice base sLen sCap)).run P w' = .ok ovs.toArray w') ∧ EList κ ((B.drop off).take (len * sz')) ovs ∧ ∀ x ∈ ovs, x.oneCell' = true) →
          Makes (P := P) w0 κ (appendRest argT sz' elem base sLen sCap x n app) c := by
        rintro hneed rfl ⟨ovs, hold, hos, hoo⟩
        have hdrop : (B.drop off).take (sLen * sz') = B.drop off := List.take_of_length_le (by simp; omega)
        rw [hdrop] at hos
        obtain ⟨cap, cs, w', κ1, hr, hf, hs1, hm1, hρ1, hh1, hsd1, hw', hcap, hcs, hE, ho⟩ := grows (os := B.drop off) (argT := argT) (x := x) (base := base) hS hi hz hzs hneed hb hbound hold (fun κ1 h1 => EList.mono h1 _ hos) hoo (by simp; omega) happ hyl
        have hcapn : 0 < sLen + n := by omega
        by_cases hn0 : n = 0
        · -- the slice had no room for itself: not so
          exfalso
          rcases hs2 with ⟨e0, a, ha⟩ | ⟨cap0, ha, q1, q2, q3, q4⟩
          · injection ha with _ h2 h3; omega
          · injection ha with _ h2 h3; omega
        · have hys : 0 < ys.length := by rw [hyl]; exact Nat.mul_pos (by omega) hpos
          have hB1 : κ1.m.get b = some B := by rw [hm1]; exact hB
          obtain ⟨hf2, hs2'⟩ := step_move hs1 hB1 (B' := B ++ ys) (c' := cs) (e' := elem) (w' := w') hsd1 off (by simp; omega) (by omega) hw' (by simp [hcs]; rw [hyl]; have : (sLen + n) * sz' ≤ cap * sz' := Nat.mul_le_mul_right _ hcap; rw [Nat.add_mul] at this; omega) (fun j y hj hy => by
            have : (B.drop off ++ ys)[j - off]? = some y := by
              rw [← hy]
              by_cases c1 : j < B.length
              · rw [List.getElem?_append_left (by simp; omega), List.getElem?_append_left c1, List.getElem?_drop]; congr 1; omega
              · rw [List.getElem?_append_right (by simp; omega), List.getElem?_append_right (by omega)]; congr 1; simp; omega
            obtain ⟨v, hv, he⟩ := hE.get this
            refine ⟨v, ?_, ho v (List.mem_of_getElem? hv), he⟩
            rw [List.getElem?_take] at hv
            split at hv
            · simpa using hv
            · simp at hv)
          refine ⟨_, _, _, hr, hf.trans hf2, hs2', ?_, by rw [hm1]; exact hc⟩
          simp only [E, Ctx.at, upd_same]
          refine ⟨by simp [hm1]; exact hblt, fun B' hB' => ?_⟩
          rw [get_set_same _ (by rw [hm1]; exact hblt)] at hB'
          injection hB' with hB'; subst hB'
          refine ⟨by simp, fun _ => ⟨?_, .inr ⟨cap, ?_, Nat.le_refl _, hcap, by omega, ?_⟩⟩⟩
          · simp [hyl, Nat.add_mul]; omega
          · rw [hh1]; simp
          · rw [hcs]; omega
      rcases hs2 with ⟨rfl, a, ha⟩ | ⟨cap0, ha, q1, q2, q3, q4⟩
      · injection ha with h1 h2 h3
        subst h1; subst h2; subst h3
        by_cases h0 : n = 0
        · subst h0
          have hys : ys = [] := List.length_eq_zero_iff.1 (by rw [hyl]; simp)
          subst hys
          obtain ⟨vs, hr, _, he⟩ := happ κ (Fr.refl κ) hS rfl rfl
          have hvs : vs = [] := by simpa [EList] using he
          subst hvs
          simp only [List.append_nil, List.length_nil, Nat.add_zero] at hc
          rw [set_same hB] at hc
          refine ⟨κ, _, .slice base 0 0, ?_, Fr.refl κ, hS, ?_, hc⟩
          · unfold appendRest
            simp only [Nat.add_zero, Nat.le_refl, if_true, Sem.run_bind, hr, Result.andThen_ok]
            cases base <;> simp [storeCells]
          · simp only [E]
            refine ⟨hblt, fun B' hB' => ?_⟩
            rw [hB] at hB'; injection hB' with hB'; subst hB'
            exact ⟨by omega, fun _ => ⟨hle, .inl ⟨trivial, base, rfl⟩⟩⟩
        · refine grow (by omega) rfl ⟨[], fun w' _ => ?_, by simp [EList], by simp⟩
          cases base <;> simp [Builtin.firstCells, loadCells, loadCellsFrom]
      · injection ha with h1 h2 h3
        subst h1; subst h2; subst h3
        by_cases hneed : sLen + n ≤ sCap
        · obtain ⟨vs, hr, ho, he⟩ := happ κ (Fr.refl κ) hS rfl rfl
          have hvl := he.length
          have hmul : sLen * sz' + n * sz' ≤ sCap * sz' := by rw [← Nat.add_mul]; exact Nat.mul_le_mul_right _ hneed
          rcases hS.blk b B hB with ⟨hz0, rfl⟩ | ⟨h0, _, cc, ee, g1, g2, g3, g4⟩
          · exfalso; have : 0 < sCap * sz' := Nat.mul_pos q3 hpos; omega
          · have hlt := hS.lt hB h0
            have hst := run_storeCells_at (P := P) (κ.ρ b).blk (off - (κ.ρ b).shift + sLen * sz') ee vs 0 cc κ.w g1 (by omega) ho
            simp only [Nat.add_zero] at hst
            obtain ⟨hf, hs'⟩ := step_set hS hB h0 (B' := B ++ ys) (w' := κ.w.setRow (κ.ρ b).blk (cc.toList.take (off - (κ.ρ b).shift + sLen * sz') ++ vs ++ cc.toList.drop (off - (κ.ρ b).shift + sLen * sz' + vs.length)).toArray)
              (c' := (cc.toList.take (off - (κ.ρ b).shift + sLen * sz') ++ vs ++ cc.toList.drop (off - (κ.ρ b).shift + sLen * sz' + vs.length)).toArray) (e' := ee) ⟨rfl, rfl⟩ (by simp) (by simp [World.setRow]) (setRow_heap _ _ cc _ ee _ g1)
              (fun j hj => by simp [World.setRow, Array.getElem?_modify, Ne.symm hj]) (by simp; omega) (by simp; omega) (fun j y hj hy => by
                have hcs : cc.size = cc.toList.length := by simp
                by_cases c1 : j < B.length
                · rw [List.getElem?_append_left c1] at hy
                  obtain ⟨v, hv, r⟩ := g4 j y hj hy
                  refine ⟨v, ?_, r⟩
                  rw [List.getElem?_toArray, List.append_assoc, List.getElem?_append_left (by simp; omega), List.getElem?_take_of_lt (by omega)]
                  simpa using hv
                · rw [List.getElem?_append_right (by omega)] at hy
                  obtain ⟨v, hv, r⟩ := he.get hy
                  have hjl : j - B.length < vs.length := by
                    rcases Nat.lt_or_ge (j - B.length) vs.length with h' | h'
                    · exact h'
                    · rw [List.getElem?_eq_none h'] at hv; simp at hv
                  refine ⟨v, ?_, ho v (List.mem_of_getElem? hv), r⟩
                  rw [List.getElem?_toArray, List.append_assoc, List.getElem?_append_right (by simp; omega), List.getElem?_append_left (by simp; omega), ← hv]
                  congr 1; simp; omega)
            refine ⟨_, _, .slice (some (κ.at b off)) (sLen + n) sCap, ?_, hf, hs', ?_, hc⟩
            · unfold appendRest
              simp only [hneed, if_true, Sem.run_bind, hr, Result.andThen_ok]
              rw [show ((κ.at b off).add (sLen * sz')) = ⟨(κ.ρ b).blk, off - (κ.ρ b).shift + sLen * sz', none⟩ from add_at _ _ _]
              simp only [hst, Result.andThen_ok, Sem.run_pure]
            · simp only [E]
              refine ⟨by simpa using hblt, fun B' hB' => ?_⟩
              rw [get_set_same _ hblt] at hB'
              injection hB' with hB'; subst hB'
              refine ⟨by simp, fun _ => ⟨?_, .inr ⟨sCap, rfl, q1, hneed, q3, q4⟩⟩⟩
              simp [hyl, Nat.add_mul]; omega
        · refine grow hneed rfl ?_
          obtain ⟨ovs, hcl, hln, ho, he⟩ := hS.cells (n := sLen * sz') hB q1 (by omega)
          refine ⟨ovs, fun w' hw' => ?_, he, ho⟩
          have := run_loadCells_list (P := P) w' (κ.at b off) ovs (fun j v hv => by
            rw [← hcl j v hv]; simp only [World.cell?, hw'])
          rw [hln] at this
          exact this
    · exact h.elim
  · exact h.elim

theorem E_slice {κ : Ctx} {s : AV} {v : Value} (hs : E κ s v) {sz bytes : Nat} {ys : List AV} {c : AV → Mem → Prop} (h : rPut κ.m sz bytes s ys c) : ∃ base n cap, v = .slice base n cap := by
  unfold rPut at h
  split at h
  · simp only [E] at hs; obtain ⟨a, rfl⟩ := hs; exact ⟨_, _, _, rfl⟩
  · simp only [E] at hs; exact ⟨_, _, _, hs⟩
  · obtain ⟨_, h⟩ := h
    split at h
    · rename_i B hB
      simp only [E] at hs
      rcases ((hs.2 B hB).2 h.1).2 with ⟨_, a, rfl⟩ | ⟨cap, rfl, _⟩ <;> exact ⟨_, _, _, rfl⟩
    · exact h.elim
  · exact h.elim

variable (P)
/-- 'append(s, x...)'; where the second operand's type is a number: 'append(s, make(.., x)...)'. -/
def rAppend (st xt : TypeId) (m : Mem) (s x : AV) (c : AV → Mem → Prop) : Prop := match P.underlying st with
  | some (.slice e) => (match szT P e, zeroA P e, bytesT P e with
    | some sz, some z, some by_ => z.length = sz ∧ 0 < sz ∧ 0 < by_ ∧ (match P.underlying xt with
      | some (.int _) => (match x with
        | .raw (.int _ n) => 0 ≤ n ∧ n < 1099511627776 ∧ (by_ : Int) * n ≤ 281474976710656 ∧ rPut m sz by_ s (zrow z (n.toNat * sz)) c
        | _ => False)
      | some _ => rSrc m sz x fun ys => rPut m sz by_ s ys c
      | none => False)
    | _, _, _ => False)
  | _ => False
variable {P}

theorem append_eq {st xt e rt : TypeId} {i : TypeInfo} {d : TypeDesc} {sz n : Nat} {base : Option Addr} {sLen sCap : Nat} {x : Value} {w : World} (hu : P.underlying st = some (.slice e)) (hsz : szT P e = some sz) (hi : P.info? e = some i)
    (hd : P.underlying xt = some d) :
    ((∀ k, d ≠ .int k) → (Builtin.lenOf x).run P w = .ok n w → (Builtin.append_ #[st, xt] rt #[.slice base sLen sCap, x]).run P w = (appendRest false sz e base sLen sCap x n (Builtin.firstCells sz n x)).run P w) ∧
    (∀ k kx m, d = .int k → x = .int kx m → 0 ≤ m → m < 1099511627776 → (i.bytes : Int) * m ≤ 281474976710656 → n = m.toNat →
      (Builtin.append_ #[st, xt] rt #[.slice base sLen sCap, x]).run P w = (appendRest true sz e base sLen sCap x n (if n * sz = 0 then pure #[] else do pure (Builtin.zeroCells (← zeroValue e).cells n))).run P w) := by
  constructor
  · intro hni hlen
    unfold Builtin.append_ appendRest
    simp only [List.getElem?_toArray, List.getElem?_cons_zero, List.getElem?_cons_succ]
    rw [Sem.run_bind, run_underlying hu, Result.andThen_ok]
    cases d <;> first
      | exact absurd rfl (hni _)
      | (simp only [Sem.run_bind, run_sizeOf' hsz, Result.andThen_ok, run_underlying hd, Sem.run_pure, Bool.false_eq_true, if_false, hlen, Bool.not_false, if_true]
         rfl)
  · rintro k kx m rfl rfl h0 h1 h2 rfl
    have w1 : IntKind.i64.wrap m = m := i64_wrap (by omega) (by omega)
    unfold Builtin.append_ appendRest
    simp only [List.getElem?_toArray, List.getElem?_cons_zero, List.getElem?_cons_succ]
    rw [Sem.run_bind, run_underlying hu, Result.andThen_ok]
    have c1 : ¬ m < 0 := by omega
    have c2 : ¬ m * (i.bytes : Int) > 2 ^ 48 := by rw [Int.mul_comm]; omega
    simp only [Sem.run_bind, run_sizeOf' hsz, Result.andThen_ok, run_underlying hd, Sem.run_pure, if_true, asInt, asIntOf, w1, c1, if_false, typeInfo, run_program, hi, c2, Bool.not_true, Bool.false_eq_true]
    rfl

theorem rAppend_ok {w0 : World} {κ : Ctx} (hS : Sat w0 κ) {st xt rt : TypeId} {s x : AV} {vs vx : Value} {c : AV → Mem → Prop} (hs : E κ s vs) (hx : E κ x vx) (h : rAppend P st xt κ.m s x c) :
    Makes (P := P) w0 κ (Builtin.append_ #[st, xt] rt #[vs, vx]) c := by
  unfold rAppend at h
  split at h
  · rename_i e hu
    split at h
    · rename_i sz z by_ hsz hz hby
      obtain ⟨hzl, hpos, hbpos, h⟩ := h
      obtain ⟨i, hi, rfl⟩ := Option.map_eq_some_iff.1 hby
      obtain ⟨zv, hiz, hone, rfl⟩ : ∃ zv : Value, i.zero = some zv ∧ (∀ x ∈ zv.cells.toList, x.oneCell' = true) ∧ z = zv.cells.toList.map .raw := by
        unfold zeroA at hz
        cases hzz : i.zero with
        | none => simp [hi, hzz] at hz
        | some zv =>
          simp only [hi, hzz, Option.bind_some] at hz
          split at hz
          · rename_i hall
            injection hz with hz
            exact ⟨zv, rfl, fun x hx => List.all_eq_true.1 hall x hx, hz.symm⟩
          · simp at hz
      simp only [List.length_map, Array.length_toList] at hzl
      split at h
      · rename_i k hd
        split at h
        · rename_i kx n
          obtain ⟨h0, h1, h2, h⟩ := h
          simp only [E] at hx; subst hx
          obtain ⟨base, sLen, sCap, rfl⟩ := E_slice hs h
          obtain ⟨κ', y, u, hr, r⟩ := rPut_ok (argT := true) (n := n.toNat) (x := .int kx n) (app := if n.toNat * sz = 0 then pure #[] else do pure (Builtin.zeroCells (← zeroValue e).cells n.toNat)) hS hi hiz hzl hpos hbpos (fun κ1 _ _ _ _ => by
            by_cases hn : n.toNat * sz = 0
            · exact ⟨[], by rw [if_pos hn]; rfl, by simp, by rw [hn]; simp [zrow, EList]⟩
            · refine ⟨(Builtin.zeroCells zv.cells n.toNat).toList, ?_, zeroCells_one hzl hpos hone, zeroCells_ok hzl hpos⟩
              rw [if_neg hn]
              simp [zeroValue, typeInfo, hi, hiz]) (by rw [zrow_length]) hs h
          refine ⟨κ', y, u, ?_, r⟩
          rw [(append_eq (n := n.toNat) hu hsz hi hd).2 k kx n rfl rfl h0 h1 h2 rfl]
          exact hr
        · exact h.elim
      · rename_i d hnd hd
        obtain ⟨ys, ⟨n, hlen, hyl, hcells⟩, h⟩ := rSrc_ok (P := P) hS hx h
        obtain ⟨base, sLen, sCap, rfl⟩ := E_slice hs h
        obtain ⟨vs0, hr0, ho0, he0⟩ := hcells n (Nat.le_refl _)
        rw [List.take_of_length_le (by omega)] at he0
        obtain ⟨κ', y, u, hr, r⟩ := rPut_ok (argT := false) (n := n) (x := vx) (app := Builtin.firstCells sz n vx) hS hi hiz hzl hpos hbpos (fun κ1 hf _ _ hh => by
          exact ⟨vs0, hr0 _ hh, ho0, EList.mono hf _ he0⟩) hyl hs h
        refine ⟨κ', y, u, ?_, r⟩
        rw [(append_eq (n := n) hu hsz hi hd).1 (fun k e => hnd k e) hlen]
        exact hr
      · exact h.elim
    · exact h.elim
  · exact h.elim
end
end Go.Proofs.Ytomigflbiijmpaa.Am
