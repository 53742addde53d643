/- Floating-point words: whole numbers are words; up to a whole one; quotients of small whole numbers. No program in sight. -/
import Derived.Test.YtomigflbiijmpaaPl
namespace Go.Proofs.Ytomigflbiijmpaa
open Ieee
set_option exponentiation.threshold 3000

/-- A number's size, in the least units. -/
def Un (m : Nat) (p : Int) : Nat := m * 2 ^ (p + 1074).toNat
def big : Nat := 2 ^ 1074
theorem big_pos : 0 < big := Nat.two_pow_pos 1074
theorem U_at {m : Nat} {p b : Int} (hb : -1074 ≤ b) (hp : b ≤ p) : Un m p = (m <<< (p - b).toNat) * 2 ^ (b + 1074).toNat := by
  unfold Un
  rw [Nat.shiftLeft_eq, Nat.mul_assoc, ← Nat.pow_add]
  congr 2
  omega
theorem compare_mul (a b c : Nat) (hc : 0 < c) : compare (a * c) (b * c) = compare a b := by
  rcases Nat.lt_trichotomy a b with h | h | h
  · rw [Nat.compare_eq_lt.2 h, Nat.compare_eq_lt.2 (Nat.mul_lt_mul_of_pos_right h hc)]
  · subst h; simp
  · rw [Nat.compare_eq_gt.2 h, Nat.compare_eq_gt.2 (Nat.mul_lt_mul_of_pos_right h hc)]
theorem compare_cast (a b : Nat) : compare (a : Int) (b : Int) = compare a b := by
  show compareOfLessAndEq (a : Int) b = compareOfLessAndEq a b
  simp [compareOfLessAndEq, Int.ofNat_lt, Int.ofNat_inj]
theorem order_num {m n : Nat} {p q : Int} (hp : -1074 ≤ p) (hq : -1074 ≤ q) : Datum.order (.number false m p) (.number false n q) = some (compare (Un m p) (Un n q)) := by
  simp only [Datum.order, signed, if_false, Bool.false_eq_true]
  rw [U_at (b := min p q) (by omega) (by omega), U_at (m := n) (b := min p q) (by omega) (by omega), compare_mul _ _ _ (Nat.two_pow_pos _), compare_cast]

theorem gap_eq (n k : Nat) : n / (1 <<< min k (n.log2 + 2)) = n / 2 ^ k ∧ (n % (1 <<< min k (n.log2 + 2)) = n % 2 ^ k) := by
  rw [Nat.shiftLeft_eq, Nat.one_mul]
  by_cases h : k ≤ n.log2 + 2
  · rw [Nat.min_eq_left h]; exact ⟨rfl, rfl⟩
  · rw [Nat.min_eq_right (by omega)]
    have h1 : n < 2 ^ (n.log2 + 2) := Nat.lt_of_lt_of_le Nat.lt_log2_self (Nat.pow_le_pow_right (by omega) (by omega))
    have h2 : n < 2 ^ k := Nat.lt_of_lt_of_le h1 (Nat.pow_le_pow_right (by omega) (by omega))
    rw [Nat.div_eq_of_lt h1, Nat.div_eq_of_lt h2, Nat.mod_eq_of_lt h1, Nat.mod_eq_of_lt h2]
    exact ⟨rfl, rfl⟩
theorem cut_zero (s : Bool) (n k : Nat) : Toward.zero.cut s n k = n / 2 ^ k := by
  simp only [Toward.cut, (gap_eq n k).1, Bool.toNat_false, Nat.add_zero]
theorem cut_up (n k : Nat) : Toward.up.cut false n k = n / 2 ^ k + (if n % 2 ^ k = 0 then 0 else 1) := by
  simp only [Toward.cut, (gap_eq n k).1, (gap_eq n k).2, Bool.not_false, Bool.true_and]
  by_cases h : n % 2 ^ k = 0 <;> simp [h]
theorem div_U {m : Nat} {p : Int} (hp : -1074 ≤ p) : (m <<< p.toNat) / 2 ^ (-p).toNat = Un m p / big ∧ ((m <<< p.toNat) % 2 ^ (-p).toNat = 0 ↔ Un m p % big = 0) := by
  unfold Un big
  rw [Nat.shiftLeft_eq]
  rcases Int.le_total 0 p with h | h
  · have e : (p + 1074).toNat = p.toNat + 1074 := by omega
    have e2 : (-p).toNat = 0 := by omega
    rw [e, e2, Nat.pow_add, ← Nat.mul_assoc, Nat.mul_div_cancel _ (Nat.two_pow_pos 1074), Nat.mul_mod_left]
    simp [Nat.mod_one]
  · have e : p.toNat = 0 := by omega
    have e2 : (1074 : Nat) = (-p).toNat + (p + 1074).toNat := by omega
    rw [e, Nat.pow_zero, Nat.mul_one]
    have hpos := Nat.two_pow_pos (p + 1074).toNat
    generalize ha : (p + 1074).toNat = a at *
    generalize hb : (-p).toNat = b at *
    rw [e2, Nat.pow_add, Nat.mul_div_mul_right _ _ hpos, Nat.mul_mod_mul_right]
    refine ⟨rfl, fun h => by rw [h, Nat.zero_mul], fun h => ?_⟩
    rcases Nat.mul_eq_zero.1 h with h | h
    · exact h
    · omega
theorem toInt_num {m : Nat} {p : Int} (hp : -1074 ≤ p) : Datum.toInt .zero (.number false m p) = some ((Un m p / big : Nat) : Int) := by
  simp only [Datum.toInt, Datum.integral, cut_zero, signed, (div_U hp).1, Nat.shiftLeft_zero, if_false, Bool.false_eq_true]
theorem up_num {m : Nat} {p : Int} (hp : -1074 ≤ p) : Datum.integral .up (.number false m p) = .number false (Un m p / big + if Un m p % big = 0 then 0 else 1) 0 := by
  simp only [Datum.integral, cut_up, (div_U hp).1]
  congr 1
  by_cases h : Un m p % big = 0
  · rw [if_pos h, if_pos ((div_U hp).2.2 h)]
  · rw [if_neg h, if_neg (fun h' => h ((div_U hp).2.1 h'))]

/-- Reading what a rung is. -/
theorem read_norm {e f : Nat} (he : 1 ≤ e) (he2 : e < 2047) (hf : f < 2 ^ 52) : double.read (e * 2 ^ 52 + f) = .number false (2 ^ 52 + f) (-1074 + (e - 1 : Nat)) := by
  have h1 : e * 2 ^ 52 + f < 2 ^ 63 := by omega
  have hs : double.signWeight = 2 ^ 63 := rfl
  have hb : double.binade = 2 ^ 52 := rfl
  have hi : double.infRung = 2047 * 2 ^ 52 := rfl
  have hl : double.leastPlace = -1074 := rfl
  simp only [Format.read, hs, hb, hi, hl]
  rw [Nat.mod_eq_of_lt h1, Nat.div_eq_of_lt h1]
  rw [if_neg (by omega), if_pos (by omega)]
  have hd : (e * 2 ^ 52 + f) / 2 ^ 52 = e := by omega
  have hm : (e * 2 ^ 52 + f) % 2 ^ 52 = f := by omega
  rw [hd, hm]
  rfl
/-- What rounding keeps. -/
theorem even_exact (s : Bool) {n k : Nat} (h : n % 2 ^ k = 0) : Toward.even.cut s n k = n / 2 ^ k := by
  simp only [Toward.cut, (gap_eq n k).1, (gap_eq n k).2, h]
  have : (1 <<< min k (n.log2 + 2)) ≠ 0 := by rw [Nat.shiftLeft_eq]; have := Nat.two_pow_pos (min k (n.log2 + 2)); omega
  simp [this]
theorem even_near (s : Bool) (n k : Nat) : Toward.even.cut s n k = n / 2 ^ k ∨ Toward.even.cut s n k = n / 2 ^ k + 1 := by
  simp only [Toward.cut, (gap_eq n k).1]
  have : ∀ b : Bool, n / 2 ^ k + b.toNat = n / 2 ^ k ∨ n / 2 ^ k + b.toNat = n / 2 ^ k + 1 := by intro b; cases b <;> simp
  exact this _
theorem log_bounds {n : Nat} (h : n ≠ 0) : 2 ^ n.log2 ≤ n ∧ n < 2 ^ (n.log2 + 1) := ⟨Nat.log2_self_le h, Nat.lt_log2_self⟩

set_option maxRecDepth 20000 in
/-- A whole number of at most 53 digits, or so many behind which there are noughts, is a word. -/
theorem exact_nat {N a e : Nat} (hN : N = a * 2 ^ e) (ha : a < 2 ^ 53) (hlt : N < 2 ^ 63) :
    ∃ m p, double.read (double.nearest false N 0) = .number false m p ∧ -1074 ≤ p ∧ Un m p = N * big ∧ (N ≠ 0 → 2 ^ 52 ≤ m ∧ m < 2 ^ 53 ∧ p = (N.log2 : Int) - 52) := by
  by_cases h0 : N = 0
  · refine ⟨0, -1074, ?_, by omega, by simp [Un, h0], fun h => absurd h0 h⟩
    rw [h0]; rfl
  · obtain ⟨l1, l2⟩ := log_bounds h0
    have hL : N.log2 < 63 := (Nat.log2_lt h0).2 hlt
    have hl : double.leastPlace = -1074 := rfl
    have hfb : double.fractionBits = 52 := rfl
    have hb : double.binade = 2 ^ 52 := rfl
    have hi : double.infRung = 2047 * 2 ^ 52 := rfl
    have hlast : max ((0 : Int) + (N.log2 : Int) - (52 : Nat)) (-1074) = (N.log2 : Int) - 52 := by omega
    have key : ∃ kept, Toward.even.cut false (N <<< ((0 : Int) - ((N.log2 : Int) - 52)).toNat) (((N.log2 : Int) - 52) - 0).toNat = kept ∧ 2 ^ 52 ≤ kept ∧ kept < 2 ^ 53 ∧ kept * 2 ^ ((N.log2 : Int) - 52 + 1074).toNat = N * big := by
      by_cases hc : N.log2 ≤ 52
      · have e1 : ((0 : Int) - ((N.log2 : Int) - 52)).toNat = 52 - N.log2 := by omega
        have e2 : (((N.log2 : Int) - 52) - 0).toNat = 0 := by omega
        rw [e1, e2, even_exact _ (by rw [Nat.pow_zero, Nat.mod_one]), Nat.pow_zero, Nat.div_one, Nat.shiftLeft_eq]
        refine ⟨_, rfl, ?_, ?_, ?_⟩
        · calc 2 ^ 52 = 2 ^ N.log2 * 2 ^ (52 - N.log2) := by rw [← Nat.pow_add]; congr 1; omega
            _ ≤ N * 2 ^ (52 - N.log2) := Nat.mul_le_mul_right _ l1
        · calc N * 2 ^ (52 - N.log2) < 2 ^ (N.log2 + 1) * 2 ^ (52 - N.log2) := Nat.mul_lt_mul_of_pos_right l2 (Nat.two_pow_pos _)
            _ = 2 ^ 53 := by rw [← Nat.pow_add]; congr 1; omega
        · unfold big
          rw [Nat.mul_assoc, ← Nat.pow_add]; congr 2; omega
      · have e1 : ((0 : Int) - ((N.log2 : Int) - 52)).toNat = 0 := by omega
        have e2 : (((N.log2 : Int) - 52) - 0).toNat = N.log2 - 52 := by omega
        rw [e1, e2, Nat.shiftLeft_zero]
        have hle : N.log2 - 52 ≤ e := by
          rcases Nat.lt_or_ge e (N.log2 - 52) with h | h
          · exfalso
            have h1 : N < 2 ^ 53 * 2 ^ e := by rw [hN]; exact Nat.mul_lt_mul_of_pos_right ha (Nat.two_pow_pos _)
            rw [← Nat.pow_add] at h1
            have h2 : 2 ^ (53 + e) ≤ 2 ^ N.log2 := Nat.pow_le_pow_right (by omega) (by omega)
            omega
          · exact h
        have hdvd : N % 2 ^ (N.log2 - 52) = 0 := by
          obtain ⟨e', he'⟩ : ∃ e', e = e' + (N.log2 - 52) := ⟨e - (N.log2 - 52), by omega⟩
          generalize N.log2 - 52 = g at he'
          rw [hN, he', Nat.pow_add, ← Nat.mul_assoc, Nat.mul_mod_left]
        rw [even_exact _ hdvd]
        have hmul : N / 2 ^ (N.log2 - 52) * 2 ^ (N.log2 - 52) = N := Nat.div_mul_cancel (Nat.dvd_of_mod_eq_zero hdvd)
        refine ⟨_, rfl, ?_, ?_, ?_⟩
        · rw [Nat.le_div_iff_mul_le (Nat.two_pow_pos _), ← Nat.pow_add]
          refine Nat.le_trans (Nat.pow_le_pow_right (by omega) (by omega)) l1
        · rw [Nat.div_lt_iff_lt_mul (Nat.two_pow_pos _), ← Nat.pow_add]
          refine Nat.lt_of_lt_of_le l2 (Nat.pow_le_pow_right (by omega) (by omega))
        · rw [show ((N.log2 : Int) - 52 + 1074).toNat = (N.log2 - 52) + 1074 by omega, Nat.pow_add, ← Nat.mul_assoc, hmul]; rfl
    obtain ⟨kept, hk, k1, k2, k3⟩ := key
    refine ⟨kept, (N.log2 : Int) - 52, ?_, by omega, k3, fun _ => ⟨k1, k2, rfl⟩⟩
    have hw : double.nearest false N 0 = (N.log2 + 1022 + 1) * 2 ^ 52 + (kept - 2 ^ 52) := by
      simp only [Format.nearest, if_neg h0, hl, hfb, hb, hi]
      rw [hlast, hk]
      simp only [Format.word, if_false, Bool.false_eq_true]
      have : ((N.log2 : Int) - 52 - -1074).toNat = N.log2 + 1022 := by omega
      rw [this]
      generalize N.log2 = L at *
      have h5 : (L + 1022) * 2 ^ 52 + kept ≤ 2047 * 2 ^ 52 := by omega
      rw [Nat.min_eq_left h5]
      omega
    have e1 : 2 ^ 52 + (kept - 2 ^ 52) = kept := by omega
    have e2 : (-1074 + ((N.log2 + 1022 + 1 - 1 : Nat) : Int)) = (N.log2 : Int) - 52 := by omega
    rw [hw, read_norm (by omega) (by omega) (by omega), e1, e2]

theorem nearest_nat (N : Nat) : FloatKind.f64.nearest (N : Int) = double.nearest false N 0 := by
  show double.write (.number (decide ((N : Int) < 0)) ((N : Int).natAbs) 0) = _
  rw [show decide ((N : Int) < 0) = false by simp]
  rfl
theorem read_zero : double.read 0 = .number false 0 (-1074) := by decide
theorem read_two62 : double.read 4886405595696988160 = .number false (2 ^ 52) 10 := by decide
theorem read_shape (x : Nat) : (∃ s m p, double.read x = .number s m p ∧ m < 2 ^ 53 ∧ -1074 ≤ p) ∨ (∃ s, double.read x = .infinity s) ∨ (∃ s f, double.read x = .nan s f) := by
  have hb : double.binade = 2 ^ 52 := rfl
  have hl : double.leastPlace = -1074 := rfl
  simp only [Format.read, hb, hl]
  split
  · exact .inl ⟨_, _, _, rfl, by omega, by omega⟩
  · split
    · refine .inl ⟨_, _, _, rfl, ?_, by omega⟩
      have := Nat.mod_lt (x % double.signWeight) (show 0 < 2 ^ 52 by omega)
      omega
    · split
      · exact .inr (.inl ⟨_, rfl⟩)
      · exact .inr (.inr ⟨_, _, rfl⟩)
theorem pos_shape {x : Nat} (h : ford x 0 = some .gt) (hb : bigW x = false) : ∃ m p, double.read x = .number false m p ∧ m < 2 ^ 53 ∧ -1074 ≤ p ∧ 0 < Un m p ∧ Un m p < 2 ^ 62 * big := by
  have h : (double.read x).order (double.read 0) = some .gt := h
  rw [read_zero] at h
  have hb : ((double.read x).order (double.read 4886405595696988160) == some .gt || (double.read x).order (double.read 4886405595696988160) == some .eq) = false := hb
  rw [read_two62] at hb
  rcases read_shape x with ⟨s, m, p, hr, hm, hp⟩ | ⟨s, hr⟩ | ⟨s, f, hr⟩
  · rw [hr] at h hb
    have hs : s = false := by
      cases s with
      | false => rfl
      | true =>
        exfalso
        simp only [Datum.order, signed, if_true, Bool.false_eq_true, if_false, Option.some.injEq] at h
        rw [Nat.zero_shiftLeft] at h
        have : (compare (-((m <<< (p - min p (-1074)).toNat : Nat) : Int)) ((0 : Nat) : Int)) = .gt := h
        generalize m <<< (p - min p (-1074)).toNat = y at this
        have h2 : compareOfLessAndEq (-(y : Int)) ((0 : Nat) : Int) = .gt := this
        unfold compareOfLessAndEq at h2
        split at h2
        · simp at h2
        · split at h2
          · simp at h2
          · omega
    subst hs
    rw [order_num hp (by omega)] at h
    rw [order_num hp (by omega)] at hb
    refine ⟨m, p, hr, hm, hp, ?_, ?_⟩
    · simp only [Option.some.injEq, Nat.compare_eq_gt] at h
      omega
    · have hu : Un (2 ^ 52) 10 = 2 ^ 62 * big := by unfold Un big; rw [← Nat.pow_add, ← Nat.pow_add]; rfl
      rw [hu] at hb
      rcases Nat.lt_or_ge (Un m p) (2 ^ 62 * big) with h' | h'
      · exact h'
      · exfalso
        rcases Nat.lt_or_eq_of_le h' with h' | h'
        · rw [Nat.compare_eq_gt.2 h'] at hb; simp at hb
        · rw [← h'] at hb; simp at hb
  · rw [hr] at hb h
    cases s
    · simp [Datum.order] at hb
    · simp [Datum.order] at h
  · rw [hr] at h; simp [Datum.order] at h
theorem whole_form {m : Nat} {p : Int} (hm : m < 2 ^ 53) (hp : -1074 ≤ p) : ∃ a e, (Un m p / big + if Un m p % big = 0 then 0 else 1) = a * 2 ^ e ∧ a < 2 ^ 53 := by
  rcases Int.le_total 0 p with h | h
  · refine ⟨m, p.toNat, ?_, hm⟩
    have : Un m p = m * 2 ^ p.toNat * big := by
      unfold Un big
      rw [show (p + 1074).toNat = p.toNat + 1074 by omega, Nat.pow_add, Nat.mul_assoc]
    rw [this, Nat.mul_mod_left, if_pos rfl, Nat.mul_div_cancel _ big_pos]
    rfl
  · rcases Int.lt_or_eq_of_le h with h | h
    · refine ⟨_, 0, (Nat.mul_one _).symm, ?_⟩
      have h1 : Un m p * 2 ≤ m * big := by
        unfold Un big
        rw [Nat.mul_assoc, ← Nat.pow_succ]
        exact Nat.mul_le_mul_left _ (Nat.pow_le_pow_right (by omega) (by omega))
      have h2 : Un m p / big * 2 ≤ m := by
        have h3 := Nat.div_mul_le_self (Un m p) big
        have h4 : (Un m p / big * 2) * big ≤ m * big := by
          calc (Un m p / big * 2) * big = (Un m p / big * big) * 2 := by rw [Nat.mul_assoc, Nat.mul_comm 2, ← Nat.mul_assoc]
            _ ≤ Un m p * 2 := Nat.mul_le_mul_right _ h3
            _ ≤ m * big := h1
        exact Nat.le_of_mul_le_mul_right h4 big_pos
      split <;> omega
    · subst h
      refine ⟨m, 0, ?_, hm⟩
      have : Un m 0 = m * big := rfl
      rw [this, Nat.mul_mod_left, if_pos rfl, Nat.mul_div_cancel _ big_pos]
      simp
theorem tick_num {x m : Nat} {p : Int} (hr : double.read x = .number false m p) (hm : m < 2 ^ 53) (hp : -1074 ≤ p) (h0 : 0 < Un m p) (h1 : Un m p < 2 ^ 62 * big) :
    TickW x ((Un m p / big + if Un m p % big = 0 then 0 else 1 : Nat) : Int) := by
  have hu : Un (2 ^ 52) 10 = 2 ^ 62 * big := by unfold Un big; rw [← Nat.pow_add, ← Nat.pow_add]; rfl
  have o1 : ford x 0 = some .gt := by
    show (double.read x).order (double.read 0) = _
    rw [hr, read_zero, order_num hp (by omega)]
    rw [show Un 0 (-1074) = 0 by simp [Un], Nat.compare_eq_gt.2 h0]
  have o2 : bigW x = false := by
    show ((double.read x).order (double.read 4886405595696988160) == some .gt || (double.read x).order (double.read 4886405595696988160) == some .eq) = false
    rw [read_two62, hr, order_num hp (by omega), hu, Nat.compare_eq_lt.2 h1]
    rfl
  have hC : (Un m p / big + if Un m p % big = 0 then 0 else 1) ≤ 2 ^ 62 := by
    have : Un m p / big < 2 ^ 62 := (Nat.div_lt_iff_lt_mul big_pos).2 h1
    split <;> omega
  obtain ⟨a, e, hae, ha⟩ := whole_form hm hp
  refine .inr (.inr ⟨o1, o2, ?_, by omega, by omega⟩)
  obtain ⟨m2, p2, hr2, hp2, hU2, _⟩ := exact_nat hae ha (by omega)
  have : FloatKind.f64.decode (ceilW x) = .number false m2 p2 := by
    show double.read (double.write ((double.read x).integral .up)) = _
    rw [hr, up_num hp]
    exact hr2
  rw [this, toInt_num hp2, hU2, Nat.mul_div_cancel _ big_pos]
/-- Any number is one way or another what it is up to a whole one; truncated, and one more if that is less, it is the same. -/
theorem tick_ref {x : Nat} (h : ford x 0 = some .gt) (hb : bigW x = false) : ∃ T : Nat, T < 2 ^ 62 ∧ (FloatKind.f64.decode x).toInt .zero = some (T : Int) ∧ TickW x ((T : Int) + if ford (FloatKind.f64.nearest T) x = some .lt then 1 else 0) := by
  obtain ⟨m, p, hr, hm, hp, h0, h1⟩ := pos_shape h hb
  have hT : Un m p / big < 2 ^ 62 := (Nat.div_lt_iff_lt_mul big_pos).2 h1
  refine ⟨Un m p / big, hT, ?_, ?_⟩
  · show (double.read x).toInt .zero = _
    rw [hr, toInt_num hp]
  · have hform : ∃ a e, Un m p / big = a * 2 ^ e ∧ a < 2 ^ 53 := by
      rcases Int.le_total 0 p with h | h
      · refine ⟨m, p.toNat, ?_, hm⟩
        have : Un m p = m * 2 ^ p.toNat * big := by
          unfold Un big
          rw [show (p + 1074).toNat = p.toNat + 1074 by omega, Nat.pow_add, Nat.mul_assoc]
        rw [this, Nat.mul_div_cancel _ big_pos]
      · refine ⟨_, 0, (Nat.mul_one _).symm, ?_⟩
        refine Nat.lt_of_le_of_lt ?_ hm
        have h1 : Un m p ≤ m * big := by
          unfold Un big
          exact Nat.mul_le_mul_left _ (Nat.pow_le_pow_right (by omega) (by omega))
        exact (Nat.div_le_iff_le_mul_add_pred big_pos).2 (by rw [Nat.mul_comm]; omega)
    obtain ⟨a, e, hae, ha⟩ := hform
    obtain ⟨m2, p2, hr2, hp2, hU2, _⟩ := exact_nat hae ha (by omega)
    have ho : ford (FloatKind.f64.nearest (Un m p / big : Nat)) x = some (compare (Un m p / big * big) (Un m p)) := by
      show (double.read (FloatKind.f64.nearest (Un m p / big : Nat))).order (double.read x) = _
      rw [nearest_nat, hr2, hr, order_num hp2 hp, hU2]
    have hdm := Nat.div_add_mod (Un m p) big
    rw [Nat.mul_comm] at hdm
    have hk : TickW x ((Un m p / big + if Un m p % big = 0 then 0 else 1 : Nat) : Int) := tick_num hr hm hp h0 h1
    rw [ho]
    by_cases hz : Un m p % big = 0
    · rw [if_pos hz] at hk
      have : Un m p / big * big = Un m p := by omega
      rw [this]
      simpa using hk
    · rw [if_neg hz] at hk
      have : compare (Un m p / big * big) (Un m p) = .lt := Nat.compare_eq_lt.2 (by omega)
      rw [this]
      simpa using hk
theorem tick_any (x : Nat) : ∃ n, TickW x n := by
  by_cases h : ford x 0 = some .gt
  · by_cases hb : bigW x = true
    · exact ⟨_, .inr (.inl ⟨h, hb, rfl⟩)⟩
    · obtain ⟨T, _, _, hT⟩ := tick_ref h (by simpa using hb)
      exact ⟨_, hT⟩
  · exact ⟨0, .inl ⟨h, rfl⟩⟩
end Go.Proofs.Ytomigflbiijmpaa
