/- THE ABSTRACT MEMORY: slices, fields, elements, interfaces, aggregates: what each operation gives, and that the model's operation gives it. -/
import Derived.Test.YtomigflbiijmpaaAme
namespace Go.Proofs.Ytomigflbiijmpaa.Am

section
variable (P : Program) (K : Kn)

/-! ### One operand -/
def rUn (op : UnOp) (x : AV) (c : AV → Prop) : Prop := match op, x with
  | .not, .raw (.bool b) => c (.raw (.bool !b))
  | .neg, .raw (.int k n) => c (.raw (.int k (k.wrap (0 - n))))
  | .xor, .raw (.int k n) => c (.raw (.int k (k.wrap (BitVec.ofInt k.bits (if k.signed then -1 else k.max) ^^^ BitVec.ofInt k.bits n).toNat)))
  | .neg, .raw (.float k b) => c (.raw (.float k (Op.negFloat k b)))
  | _, _ => False
variable {P}
theorem rUn_ok {κ : Ctx} {op : UnOp} {x : AV} {v : Value} {c : AV → Prop} (hx : E κ x v) (h : rUn op x c) : Gives (P := P) κ (Op.unary op v) c := by
  unfold rUn at h
  split at h
  all_goals first
    | exact h.elim
    | (simp only [E] at hx; subst hx; exact ⟨_, _, rfl, by simp [E], h⟩)

variable (P)
def rConv (src dst : TypeId) (x : AV) (c : AV → Prop) : Prop := (P.underlying src).isSome = true ∧ match x with
  | .raw (.int _ n) => (match P.underlying dst with
    | some (.int k) => c (.raw (.int k (k.wrap n)))
    | some (.float k) => c (.raw (.float k (k.nearest n)))
    | _ => False)
  | .raw (.float s b) => (match P.underlying dst with
    | some (.int k) => (match (s.decode b).toInt .zero with
      | some n => k.min ≤ n ∧ n ≤ k.max ∧ c (.raw (.int k n))
      | none => False)
    | _ => False)
  | _ => False
variable {P}
theorem rConv_ok {κ : Ctx} {src dst : TypeId} {x : AV} {v : Value} {c : AV → Prop} (hx : E κ x v) (h : rConv P src dst x c) : Gives (P := P) κ (convert src dst v) c := by
  obtain ⟨hs, h⟩ := h
  obtain ⟨d, hd⟩ := Option.isSome_iff_exists.1 hs
  split at h
  · simp only [E] at hx; subst hx
    split at h
    · rename_i n _ k hk
      refine ⟨_, .int k (k.wrap n), ?_, ?_, h⟩
      · unfold convert; rw [Sem.run_bind, run_underlying hd, Result.andThen_ok, Sem.run_bind, run_underlying hk, Result.andThen_ok]; rfl
      · simp [E]
    · rename_i n _ k hk
      refine ⟨_, .float k (k.nearest n), ?_, ?_, h⟩
      · unfold convert; rw [Sem.run_bind, run_underlying hd, Result.andThen_ok, Sem.run_bind, run_underlying hk, Result.andThen_ok]; rfl
      · simp [E]
    · exact h.elim
  · simp only [E] at hx; subst hx
    split at h
    · rename_i k hk
      split at h
      · rename_i n hn
        refine ⟨_, .int k n, ?_, ?_, h.2.2⟩
        · unfold convert; rw [Sem.run_bind, run_underlying hd, Result.andThen_ok, Sem.run_bind, run_underlying hk, Result.andThen_ok]
          simp only [Conv.floatToInt, hn, h.1, h.2.1, and_self, if_true]; rfl
        · simp [E]
      · exact h.elim
    · exact h.elim
  · exact h.elim

/-! ### Slicing -/
def bnd : Option AV → Int → Option Int
  | none, d => some d
  | some (.raw (.int _ n)), _ => some n
  | _, _ => none

variable (P)
/-- 'x[lo:hi]'; 'x[:0:0]'. -/
def rSlice (t : TypeId) (m : Mem) (x : AV) (lo hi mx : Option AV) (c : AV → Prop) : Prop := match mx with
  | none => (match P.underlying t with
    | some (.array n e) => (match x, bnd lo 0, bnd hi n, szT P e with
      | .ptr b tag off, some l, some h, some sz => 0 ≤ l ∧ l ≤ h ∧ h ≤ n ∧ 0 < sz ∧ live m b tag ∧ 0 < n ∧ off + n * sz ≤ tag ∧ c (.sl b tag (off + l.toNat * sz) (h - l).toNat sz)
      | _, _, _, _ => False)
    | some (.slice e) => (match x, szT P e with
      | .sl b tag off len sz, some sz' => sz' = sz ∧ live m b tag ∧ (match bnd lo 0, bnd hi len with
        | some l, some h => 0 ≤ l ∧ l ≤ h ∧ h ≤ len ∧ c (.sl b tag (off + l.toNat * sz) (h - l).toNat sz)
        | _, _ => False)
      | .lst sz cs, some sz' => sz' = sz ∧ 0 < sz ∧ (match bnd lo 0, bnd hi (cs.length / sz : Nat) with
        | some l, some h => 0 ≤ l ∧ l ≤ h ∧ h ≤ (cs.length / sz : Nat) ∧ c (.lst sz ((cs.drop (l.toNat * sz)).take ((h - l).toNat * sz)))
        | _, _ => False)
      | .zs, some _ => (match bnd lo 0, bnd hi 0 with
        | some l, some h => l = 0 ∧ h = 0 ∧ c .zs
        | _, _ => False)
      | .raw (.slice none 0 0), some _ => (match bnd lo 0, bnd hi 0 with
        | some l, some h => l = 0 ∧ h = 0 ∧ c .zs
        | _, _ => False)
      | _, _ => False)
    | _ => False)
  | some (.raw (.int _ 0)) => (match P.underlying t with
    | some (.slice e) => (szT P e).isSome = true ∧ bnd lo 0 = some 0 ∧ hi.isSome = true ∧ bnd hi 0 = some 0 ∧ (match x with
      | .sl b tag _ _ _ => live m b tag ∧ c .zs
      | .lst _ _ | .zs | .raw (.slice none 0 0) => c .zs
      | _ => False)
    | _ => False)
  | _ => False

variable {P}
/-- The value of a bound. -/
def EOpt (κ : Ctx) : Option AV → Option Value → Prop
  | none, o => o = none
  | some x, o => ∃ v, o = some v ∧ E κ x v

theorem bnd_ok {κ : Ctx} {lo : Option AV} {o : Option Value} {d l : Int} (h : bnd lo d = some l) (ho : EOpt κ lo o) : (lo = none ∧ o = none ∧ l = d) ∨ ∃ k, o = some (.int k l) := by
  unfold bnd at h
  split at h
  · injection h with h; simp only [EOpt] at ho; exact .inl ⟨rfl, ho, h.symm⟩
  · injection h with h; subst h
    obtain ⟨v, rfl, hv⟩ := ho
    simp only [E] at hv
    exact .inr ⟨_, by rw [hv]⟩
  · simp at h

theorem bounds_ok {κ : Ctx} {isSlice : Bool} {lo hi : Option AV} {ol oh : Option Value} {len cap : Nat} {l h : Int} (hl : bnd lo 0 = some l) (hh : bnd hi len = some h) (el : EOpt κ lo ol) (eh : EOpt κ hi oh)
    (h0 : 0 ≤ l) (h1 : l ≤ h) (h2 : h ≤ len) (h3 : len ≤ cap) (w : World) : (Instr.sliceBounds isSlice len cap ol oh none).run P w = .ok (l.toNat, h.toNat, cap) w := by
  have hhi : oh = none ∧ h = len ∨ ∃ k, oh = some (.int k h) := by
    rcases bnd_ok hh eh with ⟨_, e2, e3⟩ | ⟨k, e⟩
    · exact .inl ⟨e2, e3⟩
    · exact .inr ⟨k, e⟩
  have hlo : ol = none ∧ l = 0 ∨ ∃ k, ol = some (.int k l) := by
    rcases bnd_ok hl el with ⟨_, e2, e3⟩ | ⟨k, e⟩
    · exact .inl ⟨e2, e3⟩
    · exact .inr ⟨k, e⟩
  rcases hhi with ⟨rfl, rfl⟩ | ⟨k, rfl⟩ <;> rcases hlo with ⟨rfl, rfl⟩ | ⟨k', rfl⟩
  · simp [Instr.sliceBounds]
  · simp [Instr.sliceBounds, Instr.sliceBound, asIntOf, h0, h1]
  · have : h ≤ cap := by omega
    simp [Instr.sliceBounds, Instr.sliceBound, asIntOf, h1, this]
  · have : h ≤ cap := by omega
    have h4 : 0 ≤ h := by omega
    have h5 : ¬ max h 0 < l := by omega
    simp [Instr.sliceBounds, Instr.sliceBound, asIntOf, h0, h4, h5, this]

theorem bounds3_ok {κ : Ctx} {lo hi : Option AV} {ol oh : Option Value} {len cap : Nat} {k : IntKind} (hl : bnd lo 0 = some 0) (hh : bnd hi 0 = some 0) (hs : hi.isSome = true) (el : EOpt κ lo ol) (eh : EOpt κ hi oh) (w : World) :
    (Instr.sliceBounds true len cap ol oh (some (.int k 0))).run P w = .ok (0, 0, 0) w := by
  have hlo : ol = none ∨ ∃ k, ol = some (.int k 0) := by
    rcases bnd_ok hl el with ⟨_, e2, e3⟩ | ⟨k, e⟩
    · exact .inl e2
    · exact .inr ⟨k, e⟩
  have hhi : ∃ k, oh = some (.int k 0) := by
    rcases bnd_ok hh eh with ⟨e1, _, _⟩ | ⟨k, e⟩
    · simp [e1] at hs
    · exact ⟨k, e⟩
  obtain ⟨k2, rfl⟩ := hhi
  rcases hlo with rfl | ⟨k', rfl⟩ <;> simp [Instr.sliceBounds, Instr.sliceBound, asIntOf]

theorem slice_run {e : TypeId} {t : TypeId} {a : Option Addr} {len cap sz l h m : Nat} {ol oh om : Option Value} {w : World} (ht : P.underlying t = some (.slice e)) (hsz : szT P e = some sz) (hb : (Instr.sliceBounds true len cap ol oh om).run P w = .ok (l, h, m) w) :
    (Instr.sliceAt t (.slice a len cap) ol oh om).run P w = .ok (.slice (if m = l then a else a.map (·.add (l * sz))) (h - l) (m - l)) w := by
  unfold Instr.sliceAt
  rw [Sem.run_bind, run_underlying ht, Result.andThen_ok]
  show (Instr.slice t (.slice a len cap) ol oh om).run P w = _
  unfold Instr.slice
  rw [Sem.run_bind, run_underlying ht, Result.andThen_ok]
  simp [hb, run_sizeOf' hsz]

theorem rSlice_ok {w0 : World} {κ : Ctx} (hS : Sat w0 κ) {t : TypeId} {x : AV} {v : Value} {lo hi mx : Option AV} {ol oh om : Option Value} {c : AV → Prop} (hx : E κ x v) (el : EOpt κ lo ol) (eh : EOpt κ hi oh) (em : EOpt κ mx om)
    (h : rSlice P t κ.m x lo hi mx c) : Gives (P := P) κ (Instr.sliceAt t v ol oh om) c := by
  unfold rSlice at h
  split at h
  · simp only [EOpt] at em; subst em
    split at h
    · rename_i n e hu
      split at h
      · rename_i b tag off l hh sz hl hh2 hsz
        obtain ⟨h0, h1, h2, h3, ⟨B, hB, ht⟩, h5, h6, hc⟩ := h
        simp only [E] at hx
        obtain ⟨rfl, hsh⟩ := (hx.2 B hB).2 ht
        refine ⟨_, .slice (some (if n = l.toNat then κ.at b off else (κ.at b off).add (l.toNat * sz))) (hh.toNat - l.toNat) (n - l.toNat), ?_, ?_, hc⟩
        · unfold Instr.sliceAt
          rw [Sem.run_bind, run_underlying hu, Result.andThen_ok]
          simp [Instr.sureAddr, bounds_ok (P := P) hl hh2 el eh h0 h1 h2 (Nat.le_refl n), run_sizeOf' hsz]
        · simp only [E]
          refine ⟨hx.1, fun B' hB' => ?_⟩
          rw [hB] at hB'; injection hB' with hB'; subst hB'
          refine ⟨by omega, fun _ => ?_⟩
          have hmul : l.toNat * sz + (hh - l).toNat * sz ≤ n * sz := by rw [← Nat.add_mul]; exact Nat.mul_le_mul_right _ (by omega)
          refine ⟨by omega, ?_⟩
          have hlen : hh.toNat - l.toNat = (hh - l).toNat := by omega
          by_cases hn : n = l.toNat
          · left; rw [if_pos hn]; exact ⟨by omega, _, by rw [show hh.toNat - l.toNat = 0 by omega, show n - l.toNat = 0 by omega]⟩
          · right
            rw [if_neg hn]
            rcases hS.blk b B hB with ⟨_, rfl⟩ | ⟨_, _, cc, ee, q1, q2, q3, _⟩
            · simp only [List.length_nil] at ht; have : 0 < n * sz := Nat.mul_pos h5 h3; omega
            · refine ⟨n - l.toNat, ?_, by omega, by omega, by omega, ?_⟩
              · rw [hlen]
                simp only [Ctx.at, add_at]
                congr 3; omega
              · have hmul2 : l.toNat * sz + (n - l.toNat) * sz = n * sz := by rw [← Nat.add_mul]; congr 1; omega
                omega
      · exact h.elim
    · rename_i e hu
      split at h
      · rename_i b tag off len sz sz' hsz
        obtain ⟨rfl, ⟨B, hB, ht⟩, h⟩ := h
        split at h
        · rename_i l hh hl hh2
          obtain ⟨h0, h1, h2, hc⟩ := h
          simp only [E] at hx
          obtain ⟨hle, hx2⟩ := (hx.2 B hB).2 ht
          have hmul : l.toNat * sz' + (hh - l).toNat * sz' ≤ len * sz' := by rw [← Nat.add_mul]; exact Nat.mul_le_mul_right _ (by omega)
          rcases hx2 with ⟨rfl, a, rfl⟩ | ⟨cap, rfl, a2, a3, a4, a5⟩
          · refine ⟨_, _, slice_run hu hsz (bounds_ok (P := P) (isSlice := true) hl hh2 el eh h0 h1 h2 (Nat.le_refl 0) κ.w), ?_, hc⟩
            simp only [E]
            refine ⟨hx.1, fun B' hB' => ?_⟩
            rw [hB] at hB'; injection hB' with hB'; subst hB'
            exact ⟨by omega, fun _ => ⟨by omega, .inl ⟨by omega, _, by rw [show hh.toNat - l.toNat = 0 by omega, Nat.zero_sub]⟩⟩⟩
          · refine ⟨_, _, slice_run hu hsz (bounds_ok (P := P) (isSlice := true) hl hh2 el eh h0 h1 h2 a3 κ.w), ?_, hc⟩
            simp only [E]
            refine ⟨hx.1, fun B' hB' => ?_⟩
            rw [hB] at hB'; injection hB' with hB'; subst hB'
            refine ⟨by omega, fun _ => ⟨by omega, ?_⟩⟩
            by_cases hn : cap = l.toNat
            · left; rw [if_pos hn]; exact ⟨by omega, _, by rw [show hh.toNat - l.toNat = 0 by omega, show cap - l.toNat = 0 by omega]⟩
            · right
              rw [if_neg hn]
              refine ⟨cap - l.toNat, ?_, by omega, by omega, by omega, ?_⟩
              · rw [show hh.toNat - l.toNat = (hh - l).toNat by omega]
                simp only [Option.map_some, Ctx.at, add_at]
                congr 3; omega
              · have hmul2 : l.toNat * sz' + (cap - l.toNat) * sz' = cap * sz' := by rw [← Nat.add_mul]; congr 1; omega
                omega
        · exact h.elim
      · rename_i sz cs sz' hsz
        obtain ⟨rfl, h3, h⟩ := h
        split at h
        · rename_i l hh hl hh2
          obtain ⟨h0, h1, h2, hc⟩ := h
          simp only [E] at hx
          rcases hx with ⟨⟨a0, c0, rfl⟩, rfl⟩ | ⟨k, i, len, cap, rfl, e2, e3, e4, e5⟩
          · simp only [List.length_nil, Nat.zero_div] at hh2 h2
            refine ⟨_, _, slice_run hu hsz (bounds_ok (P := P) (isSlice := true) hl hh2 el eh h0 h1 h2 (Nat.zero_le c0) κ.w), ?_, hc⟩
            simp only [E]
            exact .inl ⟨⟨_, _, by rw [show hh.toNat - l.toNat = 0 by omega]⟩, by simp⟩
          · have hlen : cs.length / sz' = len := by rw [← e2]; exact Nat.mul_div_cancel _ h3
            rw [hlen] at hh2 h2
            have hmul : l.toNat * sz' + (hh - l).toNat * sz' ≤ len * sz' := by rw [← Nat.add_mul]; exact Nat.mul_le_mul_right _ (by omega)
            refine ⟨_, _, slice_run hu hsz (bounds_ok (P := P) (isSlice := true) hl hh2 el eh h0 h1 h2 e3 κ.w), ?_, hc⟩
            simp only [E]
            right
            by_cases hn : cap = l.toNat
            · rw [if_pos hn]
              refine ⟨k, i, _, _, rfl, ?_, by omega, e4, ?_⟩
              · rw [show hh.toNat - l.toNat = 0 by omega, show (hh - l).toNat = 0 by omega]; simp
              · rw [show (hh - l).toNat = 0 by omega]; simp [ECells]
            · rw [if_neg hn]
              refine ⟨k, i + l.toNat * sz', hh.toNat - l.toNat, cap - l.toNat, by simp [add_at], ?_, by omega, e4, (e5.drop _).take _⟩
              · rw [show hh.toNat - l.toNat = (hh - l).toNat by omega]
                simp only [List.length_take, List.length_drop]
                omega
        · exact h.elim
      · rename_i sz hsz
        split at h
        · rename_i l hh hl hh2
          obtain ⟨rfl, rfl, hc⟩ := h
          simp only [E] at hx
          obtain ⟨a, rfl⟩ := hx
          exact ⟨_, _, slice_run hu hsz (bounds_ok (P := P) (isSlice := true) hl hh2 el eh (by omega) (by omega) (by omega) (Nat.le_refl 0) κ.w), by simp [E], hc⟩
        · exact h.elim
      · rename_i sz hsz
        split at h
        · rename_i l hh hl hh2
          obtain ⟨rfl, rfl, hc⟩ := h
          simp only [E] at hx
          subst hx
          exact ⟨_, _, slice_run hu hsz (bounds_ok (P := P) (isSlice := true) hl hh2 el eh (by omega) (by omega) (by omega) (Nat.le_refl 0) κ.w), by simp [E], hc⟩
        · exact h.elim
      · exact h.elim
    · exact h.elim
  · obtain ⟨vm, rfl, hm⟩ := em
    simp only [E] at hm; subst hm
    split at h
    · rename_i e hu
      obtain ⟨hsz, hl, hs, hh, h⟩ := h
      obtain ⟨sz, hsz⟩ := Option.isSome_iff_exists.1 hsz
      have fin : ∀ (a : Option Addr) (len cap : Nat), v = .slice a len cap → c .zs → ∀ k, Gives (P := P) κ (Instr.sliceAt t v ol oh (some (.int k 0))) c := by
        rintro a len cap rfl hc k
        exact ⟨_, _, slice_run hu hsz (bounds3_ok (P := P) hl hh hs el eh κ.w), by simp [E], hc⟩
      split at h
      · obtain ⟨⟨B, hB, ht⟩, hc⟩ := h
        simp only [E] at hx
        rcases ((hx.2 B hB).2 ht).2 with ⟨rfl, a, rfl⟩ | ⟨cap, rfl, _⟩ <;> exact fin _ _ _ rfl hc _
      · simp only [E] at hx
        rcases hx with ⟨⟨a0, c0, rfl⟩, _⟩ | ⟨k, i, len, cap, rfl, _⟩ <;> exact fin _ _ _ rfl h _
      · simp only [E] at hx
        obtain ⟨a, rfl⟩ := hx
        exact fin _ _ _ rfl h _
      · simp only [E] at hx
        exact fin _ _ _ hx h _
      · exact h.elim
    · exact h.elim
  · exact h.elim
end
end Go.Proofs.Ytomigflbiijmpaa.Am
