/- THE ABSTRACT MEMORY: forms that a walk leaves: fields by their places; numbers within their ranges; leaving. -/
import Derived.Test.YtomigflbiijmpaaAmm
namespace Go.Proofs.Ytomigflbiijmpaa.Am

def fa (m : Mem) (x : AV) (o : Nat) (c : AV → Prop) : Prop := match x with
  | .ptr b tag off => live m b tag ∧ c (.ptr b tag (off + o))
  | .ip cs => c (.ip (cs.drop o))
  | .raw (.pointer (some a)) => c (.raw (.pointer (some (a.add o))))
  | _ => False

theorem wrap64 {x : Int} (h : -9223372036854775808 ≤ x) (h' : x < 9223372036854775808) : IntKind.i64.wrap x = x := by
  simp only [IntKind.wrap, IntKind.bits, IntKind.signed]
  simp
  omega
theorem wrapu64 {x : Int} (h : 0 ≤ x) (h' : x < 18446744073709551616) : IntKind.u64.wrap x = x := by
  simp only [IntKind.wrap, IntKind.bits, IntKind.signed]
  simp
  omega
theorem wrapu8 {x : Int} (h : 0 ≤ x) (h' : x < 256) : IntKind.u8.wrap x = x := by
  simp only [IntKind.wrap, IntKind.bits, IntKind.signed]
  simp
  omega

/-! ### Blocks made since the entry -/
theorem get_app (m L : Mem) (i : Nat) : Mem.get (m ++ L) (m.length + i) = (L[i]?).getD none := by
  unfold Mem.get
  rw [List.getElem?_append_right (by omega), Nat.add_sub_cancel_left]
theorem get_app0 (m L : Mem) : Mem.get (m ++ L) m.length = (L[0]?).getD none := get_app m L 0
theorem set_app (m L : Mem) (i : Nat) (x : Option (List AV)) : (m ++ L).set (m.length + i) x = m ++ L.set i x := by
  rw [List.set_append_right _ _ (by omega), Nat.add_sub_cancel_left]
theorem set_app0 (m L : Mem) (x : Option (List AV)) : (m ++ L).set m.length x = m ++ L.set 0 x := set_app m L 0 x
theorem get_out {m : Mem} {b : Nat} (L : Mem) (h : b < m.length) : Mem.get (m ++ L) b = m.get b := get_append_lt L h
theorem set_out {m : Mem} {b : Nat} (L : Mem) (x : Option (List AV)) (h : b < m.length) : (m ++ L).set b x = m.set b x ++ L := by
  rw [List.set_append_left _ _ h]

theorem AFn.k {P : Program} {K : Kn} {f : FuncId} {args : List AV} {m m2 : Mem} {v : AV} {k pn : AV → Mem → Prop} (h : AFn P K f args m fun o m' => o = .ret v ∧ m' = m2) (hk : k v m2) : AFn P K f args m (rOut k pn) :=
  h.mono fun o m' ⟨h1, h2⟩ => by subst h1; subst h2; exact hk

theorem Leave.flat {m0 M M2 : Mem} {v v2 : AV} {R : AV → Mem → Prop} (ho : Outer m0 [] M M2) (hv : v = ren m0.length [] v2) (hR : R v2 M2) : Leave m0 M v R := by
  have := VOK.of (L := []) (L2 := []) ho List.nodup_nil (by simp [VL])
  simp only [List.append_nil] at this
  exact ⟨[], M2, v2, this, hv, hR⟩
theorem Leave.raw {m0 M M2 : Mem} {x : Value} {R : AV → Mem → Prop} (ho : Outer m0 [] M M2) (hR : R (.raw x) M2) : Leave m0 M (.raw x) R := Leave.flat ho (by simp [ren]) hR
theorem Leave.nothing {m0 M M2 : Mem} {R : AV → Mem → Prop} (ho : Outer m0 [] M M2) (hR : R (.tup []) M2) : Leave m0 M (.tup []) R := Leave.flat ho (by simp [ren, renL]) hR
theorem Leave.of {m0 M M2 L L2 : Mem} (σ : List Nat) {v v2 : AV} {R : AV → Mem → Prop} (ho : Outer m0 σ M M2) (hσ : σ.Nodup) (hL : VL m0.length σ L L2 σ) (hv : v = ren m0.length σ v2) (hR : R v2 (M2 ++ L2)) : Leave m0 (M ++ L) v R :=
  ⟨σ, M2 ++ L2, v2, VOK.of ho hσ hL, hv, hR⟩
/-- What was made anew is no longer spoken of. -/
theorem Leave.bare {m0 M M2 L : Mem} {v v2 : AV} {R : AV → Mem → Prop} (ho : Outer m0 [] M M2) (hv : v = ren m0.length [] v2) (hR : R v2 M2) : Leave m0 (M ++ L) v R := by
  have := VOK.of (L := L) (L2 := []) ho List.nodup_nil (by simp [VL])
  simp only [List.append_nil] at this
  exact ⟨[], M2, v2, this, hv, hR⟩
theorem Into.flat {m0 M M2 : Mem} {fr fr2 : Fm} (ho : Outer m0 [] M M2) (hf : FV m0.length [] fr fr2) : Into m0 fr M fr2 M2 := by
  have := VOK.of (L := []) (L2 := []) ho List.nodup_nil (by simp [VL])
  simp only [List.append_nil] at this
  exact ⟨[], this, hf⟩
theorem Into.bare {m0 M M2 L : Mem} {fr fr2 : Fm} (ho : Outer m0 [] M M2) (hf : FV m0.length [] fr fr2) : Into m0 fr (M ++ L) fr2 M2 := by
  have := VOK.of (L := L) (L2 := []) ho List.nodup_nil (by simp [VL])
  simp only [List.append_nil] at this
  exact ⟨[], this, hf⟩
theorem Into.of {m0 M M2 L L2 : Mem} (σ : List Nat) {fr fr2 : Fm} (ho : Outer m0 σ M M2) (hσ : σ.Nodup) (hL : VL m0.length σ L L2 σ) (hf : FV m0.length σ fr fr2) : Into m0 fr (M ++ L) fr2 (M2 ++ L2) :=
  ⟨σ, VOK.of ho hσ hL, hf⟩
theorem ext_of {P : Program} {K : Kn} {g : FuncId} {args : List AV} {vs : List Value} {m : Mem} {k : AV → Mem → Prop} {u : Value} (he : args = vs.map .raw) (hr : ∀ w, (callFunc g vs.toArray).run P w = .ok (.value u) w) (hk : k (.raw u) m) : Ext P K g args m k := by
  intro w0 κ cargs hK hS hm hargs
  subst he
  have : cargs = vs := by
    clear hr
    induction vs generalizing cargs with
    | nil => simpa [EList] using hargs
    | cons v r ih =>
      simp only [List.map_cons, EList, E] at hargs
      obtain ⟨x, s, rfl, rfl, h⟩ := hargs
      rw [ih s h]
  subst this
  exact ⟨κ, .raw u, u, hr κ.w, Fr.refl κ, hS, by simp [E], by rw [hm]; exact hk⟩


end Go.Proofs.Ytomigflbiijmpaa.Am
