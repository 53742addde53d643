/- Floating-point words: what the program's float functions compute, by the model's own operations. No program in sight. -/
import Derived.Test.YtomigflbiijmpaaAmo
namespace Go.Proofs.Ytomigflbiijmpaa

def ford (a b : Nat) : Option Ordering := FloatKind.f64.format.order a b
def isN (x : Nat) : Bool := ford x x != some .eq
def sgn (x : Nat) : Bool := decide (IntKind.i64.wrap (x : Int) < 0)
def lessW (a b : Nat) : Bool :=
  if isN a || isN b then isN a && !isN b
  else if ford a 0 == some .eq && ford b 0 == some .eq then sgn a && !sgn b
  else ford a b == some .lt
def clampW (x lo hi : Nat) : Nat := if lessW x lo then lo else if lessW hi x then hi else x
def ceilW (x : Nat) : Nat := FloatKind.f64.encode ((FloatKind.f64.decode x).integral .up)
def ldMul (M : Nat) (x : Int) : Option Nat := FloatKind.f64.format.mul M (IntKind.u64.wrap ((BitVec.ofInt IntKind.u64.bits (IntKind.u64.wrap ((BitVec.ofInt IntKind.u64.bits ((4602678819172646912 : Nat) : Int) &&& ~~~BitVec.ofInt IntKind.u64.bits 9218868437227405312).toNat : Int)) |||
  BitVec.ofInt IntKind.u64.bits (IntKind.u64.wrap (x * 2 ^ min (Int.toNat 52) IntKind.u64.bits))).toNat : Int)).toNat
/-- A half, doubled so often. -/
def ldW (e : Int) : Option Nat :=
  if e + 0 + -1 < -1075 then some 0 else if 1023 < e + 0 + -1 then some 9218868437227405312
  else if e + 0 + -1 < -1022 then ldMul 4368491638549381120 (e + 0 + -1 + 53 + 1023) else ldMul 4607182418800017408 (e + 0 + -1 + 1023)
/-- The delay behind so many tries. -/
def dl (t : Int) : Int := if t ≤ 1 then 1 else if 7 ≤ t then 64 else 2 ^ (t - 1).toNat
/-- The number 2^62 or more. -/
def bigW (x : Nat) : Bool := ford x 4886405595696988160 == some .gt || ford x 4886405595696988160 == some .eq
/-- What a number is, up to a whole one. -/
def TickW (x : Nat) (n : Int) : Prop :=
  (ford x 0 ≠ some .gt ∧ n = 0) ∨ (ford x 0 = some .gt ∧ bigW x = true ∧ n = 4611686018427387904) ∨
  (ford x 0 = some .gt ∧ bigW x = false ∧ (FloatKind.f64.decode (ceilW x)).toInt .zero = some n ∧ 0 ≤ n ∧ n ≤ 4611686018427387904)
def okD (e : Int) : Bool := match ldW e with
  | none => false
  | some r => ford (clampW r 4607182418800017408 4634204016564240384) 0 == some .gt && !bigW (clampW r 4607182418800017408 4634204016564240384) && (FloatKind.f64.decode (ceilW (clampW r 4607182418800017408 4634204016564240384))).toInt .zero == some (dl e)
theorem okD_all : (List.range 4001).all (fun i => okD ((i : Int) - 2000)) = true := by decide +kernel
theorem dl_range (t : Int) : 1 ≤ dl t ∧ dl t ≤ 64 := by
  unfold dl
  split
  · omega
  · split
    · omega
    · have h : ∀ i, i ≤ 6 → 1 ≤ (2 : Int) ^ i ∧ (2 : Int) ^ i ≤ 64 := by decide
      exact h _ (by omega)
theorem delay_ok {e : Int} (h1 : -2000 ≤ e) (h2 : e ≤ 2000) : ∃ r, ldW e = some r ∧ TickW (clampW r 4607182418800017408 4634204016564240384) (dl e) := by
  have h := List.all_eq_true.1 okD_all (e + 2000).toNat (by simp; omega)
  simp only [show (((e + 2000).toNat : Int) - 2000) = e by omega] at h
  unfold okD at h
  split at h
  · simp at h
  · rename_i r hr
    simp only [Bool.and_eq_true, beq_iff_eq, Bool.not_eq_true'] at h
    have := dl_range e
    exact ⟨r, hr, .inr (.inr ⟨h.1.1, h.1.2, h.2, by omega, by omega⟩)⟩
theorem not_nan {x y : Nat} {o : Ordering} (h : FloatKind.f64.format.order x y = some o) : (FloatKind.f64.decode x).isNaN = false := by
  unfold Ieee.Format.order at h
  unfold FloatKind.decode
  cases hd : FloatKind.f64.format.read x with
  | nan s t => rw [hd] at h; simp [Ieee.Datum.order] at h
  | _ => rfl
end Go.Proofs.Ytomigflbiijmpaa
