/- THE ABSTRACT MEMORY: fields, elements, interfaces, lengths: what each operation gives, and that the model's operation gives it. -/
import Derived.Test.YtomigflbiijmpaaAmf
namespace Go.Proofs.Ytomigflbiijmpaa.Am

section
variable (P : Program) (K : Kn)

def rToArr (t : TypeId) (m : Mem) (x : AV) (c : AV → Prop) : Prop := match P.underlying t, x with
  | some (.array n _), .sl b tag off len _ => live m b tag ∧ n ≤ len ∧ 0 < n ∧ c (.ptr b tag off)
  | some (.array n e), .lst sz cs => szT P e = some sz ∧ 0 < n ∧ n * sz ≤ cs.length ∧ 0 < sz ∧ c (.ip (cs.take (n * sz)))
  | _, _ => False
variable {P}
theorem rToArr_ok {κ : Ctx} {t : TypeId} {x : AV} {v : Value} {c : AV → Prop} (hx : E κ x v) (h : rToArr P t κ.m x c) : Gives (P := P) κ (Instr.arrayAt t v) c := by
  unfold rToArr at h
  split at h
  · rename_i n e b tag off len sz hu
    obtain ⟨⟨B, hB, ht⟩, h1, h2, hc⟩ := h
    simp only [E] at hx
    rcases ((hx.2 B hB).2 ht).2 with ⟨rfl, a, rfl⟩ | ⟨cap, rfl, a2, a3, a4, a5⟩
    · omega
    · refine ⟨_, .pointer (some (κ.at b off)), ?_, ?_, hc⟩
      · simp [Instr.arrayAt, run_underlying hu, Nat.not_lt.2 h1]
      · simp only [E]
        refine ⟨hx.1, fun B' hB' => ?_⟩
        rw [hB] at hB'; injection hB' with hB'; subst hB'
        exact ⟨by omega, fun _ => ⟨trivial, a2⟩⟩
  · rename_i n e sz cs hu
    obtain ⟨hsz, h1, h2, h3, hc⟩ := h
    simp only [E] at hx
    have hmul : 0 < n * sz := Nat.mul_pos h1 h3
    rcases hx with ⟨⟨a0, c0, rfl⟩, rfl⟩ | ⟨k, i, len, cap, rfl, e2, e3, e4, e5⟩
    · simp only [List.length_nil] at h2; omega
    · have hl : n ≤ len := Nat.le_of_mul_le_mul_right (by omega) h3
      refine ⟨_, .pointer (some ⟨k, i, none⟩), ?_, ?_, hc⟩
      · simp [Instr.arrayAt, run_underlying hu, Nat.not_lt.2 hl]
      · simp only [E]; exact ⟨k, i, rfl, e4, e5.take _⟩
  · exact h.elim

variable (P)
def rFieldAddr (s : TypeId) (m : Mem) (x : AV) (f : Nat) (c : AV → Prop) : Prop := match P.underlying s with
  | some (.struct fs) => (match fs[f]? with
    | some fd => (match szT P fd.type with
      | some (_ + 1) => (match x with
        | .ptr b tag off => live m b tag ∧ c (.ptr b tag (off + fd.offset))
        | .ip cs => c (.ip (cs.drop fd.offset))
        | .raw (.pointer (some a)) => c (.raw (.pointer (some (a.add fd.offset))))
        | _ => False)
      | _ => False)
    | none => False)
  | _ => False
variable {P}
theorem rFieldAddr_ok {κ : Ctx} {s : TypeId} {x : AV} {v : Value} {f : Nat} {c : AV → Prop} (hx : E κ x v) (h : rFieldAddr P s κ.m x f c) : Gives (P := P) κ (Instr.fieldAt s v f) c := by
  unfold rFieldAddr at h
  split at h
  · rename_i fs hu
    split at h
    · rename_i fd hf
      split at h
      · rename_i n hn
        have run : ∀ a : Addr, (Instr.fieldAt s (.pointer (some a)) f).run P κ.w = .ok (.pointer (some (a.add fd.offset))) κ.w := fun a => by
          unfold Instr.fieldAt
          rw [Sem.run_bind, run_underlying hu, Result.andThen_ok]
          simp only [hf]
          simp [Instr.sureAddr, fieldPlace, run_sizeOf' hn]
        split at h
        · rename_i b tag off
          obtain ⟨⟨B, hB, ht⟩, hc⟩ := h
          simp only [E] at hx
          obtain ⟨rfl, hsh⟩ := (hx.2 B hB).2 ht
          refine ⟨_, _, run _, ?_, hc⟩
          simp only [E]
          refine ⟨hx.1, fun B' hB' => ?_⟩
          rw [hB] at hB'; injection hB' with hB'; subst hB'
          refine ⟨by omega, fun _ => ⟨?_, by omega⟩⟩
          simp only [Ctx.at, add_at]
          congr 3; omega
        · simp only [E] at hx
          obtain ⟨k, i, rfl, e4, e5⟩ := hx
          refine ⟨_, _, run _, ?_, h⟩
          rw [add_at]
          simp only [E]; exact ⟨k, _, rfl, e4, e5.drop _⟩
        · simp only [E] at hx; subst hx
          exact ⟨_, _, run _, by simp [E], h⟩
        · exact h.elim
      · exact h.elim
    · exact h.elim
  · exact h.elim

/-- A part of an aggregate. -/
def rPart (P : Program) (t : TypeId) (cs : List AV) (off : Nat) (c : AV → Prop) : Prop := match aggT P t, szT P t with
  | some true, some n => off + n ≤ cs.length ∧ c (.agg ((cs.drop off).take n))
  | some false, _ => (match cs[off]? with | some v => c v | none => False)
  | _, _ => False
theorem rPart_ok {κ : Ctx} {t : TypeId} {cs : List AV} {vs : List Value} {off : Nat} {c : AV → Prop} (hE : EList κ cs vs) (ho : ∀ x ∈ vs, x.oneCell' = true) (h : rPart P t cs off c) : Gives (P := P) κ (part t vs.toArray off) c := by
  unfold rPart at h
  split at h
  · rename_i n ha hn
    refine ⟨_, .agg ((vs.drop off).take n).toArray, ?_, ?_, h.2⟩
    · simp [part, run_isAgg ha, run_sizeOf' hn]
    · simp only [E]
      exact ⟨_, rfl, fun x hx => ho x (List.mem_of_mem_drop (List.mem_of_mem_take hx)), (hE.drop off).take n⟩
  · rename_i ha
    split at h
    · rename_i y hy
      obtain ⟨u, hu, he⟩ := hE.get hy
      exact ⟨_, u, by simp [part, run_isAgg ha, hu], he, h⟩
    · exact h.elim
  · exact h.elim

variable (P)
def rField (t : TypeId) (x : AV) (f : Nat) (c : AV → Prop) : Prop := match P.underlying t, x with
  | some (.struct fs), .agg cs => (match fs[f]? with | some fd => rPart P fd.type cs fd.offset c | none => False)
  | _, _ => False
def rIndex (t : TypeId) (x i : AV) (c : AV → Prop) : Prop := match P.underlying t, x, i with
  | some (.array len e), .agg cs, .raw (.int _ n) => 0 ≤ n ∧ n < len ∧ (match szT P e with | some sz => rPart P e cs (n.toNat * sz) c | none => False)
  | _, _, _ => False
def rIndexAddr (t : TypeId) (m : Mem) (x i : AV) (c : AV → Prop) : Prop := match P.underlying t, i with
  | some (.array len e), .raw (.int _ n) => 0 ≤ n ∧ n < len ∧ (match x, szT P e with
    | .ptr b tag off, some sz => live m b tag ∧ c (.ptr b tag (off + n.toNat * sz))
    | .ip cs, some sz => c (.ip (cs.drop (n.toNat * sz)))
    | _, _ => False)
  | some (.slice e), .raw (.int _ n) => 0 ≤ n ∧ (match x, szT P e with
    | .sl b tag off len sz, some sz' => sz = sz' ∧ live m b tag ∧ n < len ∧ c (.ptr b tag (off + n.toNat * sz))
    | .lst sz cs, some sz' => sz = sz' ∧ 0 < sz ∧ n < (cs.length / sz : Nat) ∧ c (.ip (cs.drop (n.toNat * sz)))
    | _, _ => False)
  | _, _ => False
variable {P}
theorem rField_ok {κ : Ctx} {t : TypeId} {x : AV} {v : Value} {f : Nat} {c : AV → Prop} (hx : E κ x v) (h : rField P t x f c) : Gives (P := P) κ (Instr.field t v f) c := by
  unfold rField at h
  split at h
  · rename_i fs cs hu
    split at h
    · rename_i fd hf
      simp only [E] at hx
      obtain ⟨vs, rfl, ho, hE⟩ := hx
      obtain ⟨y, u, hr, he, hc⟩ := rPart_ok hE ho h
      refine ⟨y, u, ?_, he, hc⟩
      unfold Instr.field
      rw [Sem.run_bind, run_underlying hu, Result.andThen_ok]
      simp only [hf]
      simpa [asAgg] using hr
    · exact h.elim
  · exact h.elim

theorem rIndex_ok {κ : Ctx} {t : TypeId} {x i : AV} {v u : Value} {c : AV → Prop} (hx : E κ x v) (hi : E κ i u) (h : rIndex P t x i c) : Gives (P := P) κ (Instr.index t v u) c := by
  unfold rIndex at h
  split at h
  · rename_i len e cs k n hu
    obtain ⟨h0, h1, h⟩ := h
    split at h
    · rename_i sz hsz
      simp only [E] at hx hi
      obtain ⟨vs, rfl, ho, hE⟩ := hx
      subst hi
      obtain ⟨y, u, hr, he, hc⟩ := rPart_ok hE ho h
      refine ⟨y, u, ?_, he, hc⟩
      simp [Instr.index, asIntOf, run_underlying hu, h0, h1, run_sizeOf' hsz, hr]
    · exact h.elim
  · exact h.elim

theorem rIndexAddr_ok {κ : Ctx} {t : TypeId} {x i : AV} {v u : Value} {c : AV → Prop} (hx : E κ x v) (hi : E κ i u) (h : rIndexAddr P t κ.m x i c) : Gives (P := P) κ (Instr.indexAt t v u) c := by
  unfold rIndexAddr at h
  split at h
  · rename_i len e k n hu
    obtain ⟨h0, h1, h⟩ := h
    simp only [E] at hi; subst hi
    split at h
    · rename_i b tag off sz hsz
      obtain ⟨⟨B, hB, ht⟩, hc⟩ := h
      simp only [E] at hx
      obtain ⟨rfl, hsh⟩ := (hx.2 B hB).2 ht
      refine ⟨_, .pointer (some ((κ.at b off).add (n.toNat * sz))), ?_, ?_, hc⟩
      · simp [Instr.indexAt, asIntOf, run_underlying hu, Instr.sureAddr, h0, h1, run_sizeOf' hsz]
      · simp only [E]
        refine ⟨hx.1, fun B' hB' => ?_⟩
        rw [hB] at hB'; injection hB' with hB'; subst hB'
        refine ⟨by omega, fun _ => ⟨?_, by omega⟩⟩
        simp only [Ctx.at, add_at]
        congr 3; omega
    · rename_i cs sz hsz
      simp only [E] at hx
      obtain ⟨kb, j, rfl, e4, e5⟩ := hx
      refine ⟨_, .pointer (some ((⟨kb, j, none⟩ : Addr).add (n.toNat * sz))), ?_, ?_, h⟩
      · simp [Instr.indexAt, asIntOf, run_underlying hu, Instr.sureAddr, h0, h1, run_sizeOf' hsz]
      · rw [add_at]; simp only [E]; exact ⟨kb, _, rfl, e4, e5.drop _⟩
    · exact h.elim
  · rename_i e k n hu
    obtain ⟨h0, h⟩ := h
    simp only [E] at hi; subst hi
    split at h
    · rename_i b tag off len sz sz' hsz
      obtain ⟨rfl, ⟨B, hB, ht⟩, h1, hc⟩ := h
      simp only [E] at hx
      rcases ((hx.2 B hB).2 ht).2 with ⟨rfl, a, rfl⟩ | ⟨cap, rfl, a2, a3, a4, a5⟩
      · omega
      · refine ⟨_, .pointer (some ((κ.at b off).add (n.toNat * sz))), ?_, ?_, hc⟩
        · simp [Instr.indexAt, asIntOf, run_underlying hu, h0, h1, run_sizeOf' hsz]
        · simp only [E]
          refine ⟨hx.1, fun B' hB' => ?_⟩
          rw [hB] at hB'; injection hB' with hB'; subst hB'
          refine ⟨by omega, fun _ => ⟨?_, by omega⟩⟩
          simp only [Ctx.at, add_at]
          congr 3; omega
    · rename_i sz cs sz' hsz
      obtain ⟨rfl, hpos, h1, hc⟩ := h
      simp only [E] at hx
      rcases hx with ⟨⟨a0, c0, rfl⟩, rfl⟩ | ⟨kb, j, len, cap, rfl, e2, e3, e4, e5⟩
      · simp only [List.length_nil, Nat.zero_div] at h1; omega
      · have hlen : cs.length / sz = len := by rw [← e2]; exact Nat.mul_div_cancel _ hpos
        rw [hlen] at h1
        refine ⟨_, .pointer (some ((⟨kb, j, none⟩ : Addr).add (n.toNat * sz))), ?_, ?_, hc⟩
        · simp [Instr.indexAt, asIntOf, run_underlying hu, h0, h1, run_sizeOf' hsz]
        · rw [add_at]; simp only [E]; exact ⟨kb, _, rfl, e4, e5.drop _⟩
    · exact h.elim
  · exact h.elim

/-! ### Interfaces, tuples, nil -/
variable (P)
def rNil (m : Mem) (x : AV) (c : AV → Prop) : Prop := match x with
  | .ptr b tag _ => live m b tag ∧ c x
  | .ip _ | .ifc _ _ | .fn (.func _) _ _ => c x
  | .raw (.pointer (some _)) => c x
  | _ => False
def zeroV (t : TypeId) : Option AV := match (P.info? t).bind (·.zero) with
  | some (.agg cs) => if cs.toList.all (·.oneCell') then some (.agg (cs.toList.map .raw)) else none
  | some z => some (.raw z)
  | none => none
def rAssert (x : AV) (t : TypeId) (ok : Bool) (c : AV → Prop) : Prop := isIface P t = false ∧ (P.underlying t).isSome = true ∧ (match x with
  | .ifc t' v => if t' = t then c (if ok then .tup [v, .raw (.bool true)] else v) else ok = true ∧ (match zeroV P t with | some z => c (.tup [z, .raw (.bool false)]) | none => False)
  | .raw .nilIface => ok = true ∧ (match zeroV P t with | some z => c (.tup [z, .raw (.bool false)]) | none => False)
  | _ => False)
def rExtract (x : AV) (i : Nat) (c : AV → Prop) : Prop := match x with
  | .tup vs => (match vs[i]? with | some v => c v | none => False)
  | _ => False
variable {P}

theorem zeroV_ok {κ : Ctx} {t : TypeId} {z : AV} (h : zeroV P t = some z) : ∃ u, (zeroValue t).run P κ.w = .ok u κ.w ∧ E κ z u := by
  unfold zeroV at h
  cases hi : P.info? t with
  | none => simp [hi] at h
  | some i =>
    cases hz : i.zero with
    | none => simp [hi, hz] at h
    | some zv =>
      refine ⟨zv, by simp [zeroValue, typeInfo, hi, hz], ?_⟩
      simp only [hi, hz, Option.bind_some] at h
      split at h
      · rename_i cs hcs
        split at h
        · rename_i hall
          injection h with h; subst h
          injection hcs with hcs; subst hcs
          simp only [E]; exact ⟨cs.toList, rfl, fun x hx => List.all_eq_true.1 hall x hx, EList_raw κ _⟩
        · simp at h
      · rename_i z' _ hz'
        injection hz' with hz'; subst hz'
        injection h with h; subst h
        simp [E]
      · simp at h

theorem rAssert_ok {κ : Ctx} {x : AV} {v : Value} {xt t : TypeId} {ok : Bool} {c : AV → Prop} (hx : E κ x v) (h : rAssert P x t ok c) : Gives (P := P) κ (Instr.typeAssert v xt t ok) c := by
  obtain ⟨hni, hsome, h⟩ := h
  obtain ⟨d, hd⟩ := Option.isSome_iff_exists.1 hsome
  have hd' : ∀ ms, d ≠ .interface ms := fun ms e => by simp [isIface, hd, e] at hni
  split at h
  · rename_i t' y
    simp only [E] at hx
    obtain ⟨u, rfl, he⟩ := hx
    have run : (Instr.typeAssert (.iface t' u) xt t ok).run P κ.w = (if t' = t then (pure (if ok then .tuple #[u, .bool true] else u) : Sem Value) else
        (if ok then (do pure (.tuple #[← zeroValue t, .bool false])) else runtimePanic (.typeAssertion (some xt) (some t') t "")) : Sem Value).run P κ.w := by
      unfold Instr.typeAssert
      rw [Sem.run_bind, run_underlying hd, Result.andThen_ok]
      cases d <;> first | exact absurd rfl (hd' _) | rfl
    split at h
    · rename_i htt
      rw [if_pos htt] at run
      refine ⟨_, if ok then .tuple #[u, .bool true] else u, run, ?_, h⟩
      cases ok
      · exact he
      · simp only [if_true, E]
        exact ⟨[u, .bool true], rfl, by simp only [EList]; exact ⟨_, _, rfl, he, _, _, rfl, by simp [E], rfl⟩⟩
    · rename_i htt
      rw [if_neg htt] at run
      obtain ⟨rfl, h⟩ := h
      split at h
      · rename_i z hz
        obtain ⟨u', hr, hz'⟩ := zeroV_ok (κ := κ) hz
        refine ⟨_, .tuple #[u', .bool false], by rw [run]; simp [hr], ?_, h⟩
        simp only [E]
        exact ⟨[u', .bool false], rfl, by simp only [EList]; exact ⟨_, _, rfl, hz', _, _, rfl, by simp [E], rfl⟩⟩
      · exact h.elim
  · simp only [E] at hx; subst hx
    obtain ⟨rfl, h⟩ := h
    split at h
    · rename_i z hz
      obtain ⟨u', hr, hz'⟩ := zeroV_ok (κ := κ) hz
      refine ⟨_, .tuple #[u', .bool false], ?_, ?_, h⟩
      · unfold Instr.typeAssert
        simp only [Sem.run_bind, run_underlying hd, Result.andThen_ok]
        cases d <;> first | exact absurd rfl (hd' _) | simp [hr]
      · simp only [E]
        exact ⟨[u', .bool false], rfl, by simp only [EList]; exact ⟨_, _, rfl, hz', _, _, rfl, by simp [E], rfl⟩⟩
    · exact h.elim
  · exact h.elim

theorem rExtract_ok {κ : Ctx} {x : AV} {v : Value} {i : Nat} {c : AV → Prop} (hx : E κ x v) (h : rExtract x i c) : Gives (P := P) κ (Instr.extract v i) c := by
  unfold rExtract at h
  split at h
  · split at h
    · rename_i y hy
      simp only [E] at hx
      obtain ⟨vs, rfl, hE⟩ := hx
      obtain ⟨u, hu, he⟩ := hE.get hy
      exact ⟨y, u, by simp [Instr.extract, hu], he, h⟩
    · exact h.elim
  · exact h.elim

/-! ### len, min, max -/
variable (P)
def rLen (t : TypeId) (m : Mem) (x : AV) (c : AV → Prop) : Prop := match P.underlying t with
  | some (.slice _) => (match x with
    | .sl b tag _ len _ => live m b tag ∧ c (.raw (.int .i64 len))
    | .lst sz cs => 0 < sz ∧ c (.raw (.int .i64 (cs.length / sz : Nat)))
    | .zs => c (.raw (.int .i64 0))
    | .raw (.slice _ n _) => c (.raw (.int .i64 n))
    | _ => False)
  | some (.array n _) => c (.raw (.int .i64 n))
  | some .string => (match x with | .raw (.string s) => c (.raw (.int .i64 s.size)) | _ => False)
  | _ => False
def rMin (l : List AV) (c : AV → Prop) : Prop := match l with
  | [.raw (.int k a), .raw (.int _ b)] => c (.raw (.int k (if b < a then b else a)))
  | [.raw (.int k a), .raw (.int _ b), .raw (.int _ d)] => c (.raw (.int k (if d < (if b < a then b else a) then d else (if b < a then b else a))))
  | _ => False
def rMax (l : List AV) (c : AV → Prop) : Prop := match l with
  | [.raw (.int k a), .raw (.int _ b)] => c (.raw (.int k (if b > a then b else a)))
  | _ => False
variable {P}
theorem rLen_ok {κ : Ctx} {t rt : TypeId} {ts : List TypeId} {x : AV} {v : Value} {c : AV → Prop} (hx : E κ x v) (h : rLen P t κ.m x c) : Gives (P := P) κ (Builtin.len_ (t :: ts).toArray rt #[v]) c := by
  unfold rLen at h
  have pre : ∀ d, P.underlying t = some d → (Builtin.len_ (t :: ts).toArray rt #[v]).run P κ.w = (match d, v with
      | .slice _, .slice _ n _ => .ok (goInt n) κ.w
      | .array n _, _ => .ok (goInt n) κ.w
      | .string, .string s => .ok (goInt s.size) κ.w
      | _, _ => (Builtin.len_ (t :: ts).toArray rt #[v]).run P κ.w) := by
    intro d hd
    cases d <;> first
      | rfl
      | (simp [Builtin.len_, run_underlying hd]; done)
      | (cases v <;> first | rfl | simp [Builtin.len_, run_underlying hd])
  split at h
  · rename_i e hu
    split at h
    · obtain ⟨⟨B, hB, ht⟩, hc⟩ := h
      simp only [E] at hx
      rcases ((hx.2 B hB).2 ht).2 with ⟨rfl, a, rfl⟩ | ⟨cap, rfl, _⟩ <;> exact ⟨_, _, by rw [pre _ hu], by simp [E, goInt], hc⟩
    · rename_i sz cs
      obtain ⟨hp, hc⟩ := h
      simp only [E] at hx
      rcases hx with ⟨⟨a0, c0, rfl⟩, rfl⟩ | ⟨k, i, len, cap, rfl, e2, _⟩
      · exact ⟨_, _, by rw [pre _ hu], by simp [E, goInt], hc⟩
      · have hlen : cs.length / sz = len := by rw [← e2]; exact Nat.mul_div_cancel _ hp
        rw [hlen] at hc
        exact ⟨_, _, by rw [pre _ hu], by simp [E, goInt], hc⟩
    · simp only [E] at hx
      obtain ⟨a, rfl⟩ := hx
      exact ⟨_, _, by rw [pre _ hu], by simp [E, goInt], h⟩
    · simp only [E] at hx; subst hx
      exact ⟨_, _, by rw [pre _ hu], by simp [E, goInt], h⟩
    · exact h.elim
  · rename_i n e hu
    exact ⟨_, _, by rw [pre _ hu], by simp [E, goInt], h⟩
  · rename_i hu
    split at h
    · simp only [E] at hx; subst hx
      exact ⟨_, _, by rw [pre _ hu], by simp [E, goInt], h⟩
    · exact h.elim
  · exact h.elim

theorem rMin_ok {κ : Ctx} {ts : Array TypeId} {rt : TypeId} {l : List AV} {vs : List Value} {c : AV → Prop} (hx : EList κ l vs) (h : rMin l c) : Gives (P := P) κ (Builtin.min_ ts rt vs.toArray) c := by
  unfold rMin at h
  split at h
  · simp only [EList, E] at hx
    obtain ⟨_, _, rfl, rfl, _, _, rfl, rfl, rfl⟩ := hx
    exact ⟨_, _, rfl, by simp [E], h⟩
  · simp only [EList, E] at hx
    obtain ⟨_, _, rfl, rfl, _, _, rfl, rfl, _, _, rfl, rfl, rfl⟩ := hx
    exact ⟨_, _, rfl, by simp [E], h⟩
  · exact h.elim
theorem rMax_ok {κ : Ctx} {ts : Array TypeId} {rt : TypeId} {l : List AV} {vs : List Value} {c : AV → Prop} (hx : EList κ l vs) (h : rMax l c) : Gives (P := P) κ (Builtin.max_ ts rt vs.toArray) c := by
  unfold rMax at h
  split at h
  · simp only [EList, E] at hx
    obtain ⟨_, _, rfl, rfl, _, _, rfl, rfl, rfl⟩ := hx
    exact ⟨_, _, rfl, by simp [E], h⟩
  · exact h.elim
end
end Go.Proofs.Ytomigflbiijmpaa.Am
