/- Quotients of small whole numbers. No program in sight. -/
import Derived.Test.YtomigflbiijmpaaPg
namespace Go.Proofs.Ytomigflbiijmpaa
open Ieee
set_option exponentiation.threshold 3000

theorem log_of {n l : Nat} (h1 : 2 ^ l ≤ n) (h2 : n < 2 ^ (l + 1)) : n.log2 = l := by
  have h0 : n ≠ 0 := by have := Nat.two_pow_pos l; omega
  have a := (Nat.le_log2 h0).2 h1
  have b := (Nat.log2_lt h0).2 h2
  omega
theorem ceil_unique {K r d : Nat} (hr : 0 < r) (h1 : d ≤ K * r) (h2 : K * r < d + r) : K = (d + r - 1) / r := by
  have : K * r + (d + r - 1 - K * r) = d + r - 1 := by omega
  rw [← this, Nat.add_comm, Nat.add_mul_div_right _ _ hr, Nat.div_eq_of_lt (by omega)]
  omega
/-- What is kept of a quotient, to a whole number. -/
theorem kept_ceil {d r t kept : Nat} (hr : 0 < r) (hr2 : r ≤ 128) (ht : 9 ≤ t) (hk : kept = d * 2 ^ t / r ∨ kept = d * 2 ^ t / r + 1) (hx : d % r = 0 → kept = d * 2 ^ t / r) :
    kept / 2 ^ t + (if kept % 2 ^ t = 0 then 0 else 1) = (d + r - 1) / r := by
  have hpos := Nat.two_pow_pos t
  have hbig : 512 ≤ 2 ^ t := Nat.le_trans (show 512 ≤ 2 ^ 9 by decide) (Nat.pow_le_pow_right (by omega) ht)
  have hc : ∀ c : Nat, c * 2 ^ t < kept + 2 ^ t → kept ≤ c * 2 ^ t → kept / 2 ^ t + (if kept % 2 ^ t = 0 then 0 else 1) = c := by
    intro c h1 h2
    have hdm := Nat.div_add_mod kept (2 ^ t)
    have hlt := Nat.mod_lt kept hpos
    generalize kept % 2 ^ t = ρ at *
    generalize kept / 2 ^ t = q at *
    generalize 2 ^ t = g at *
    split
    · rename_i h0
      subst h0
      have h3 : c < q + 1 := by
        refine Nat.lt_of_mul_lt_mul_right (a := g) ?_
        rw [Nat.add_mul, Nat.one_mul, Nat.mul_comm q]; omega
      have h4 : q ≤ c := by
        refine Nat.le_of_mul_le_mul_right (c := g) ?_ hpos
        rw [Nat.mul_comm q]; omega
      omega
    · rename_i h0
      have h3 : q < c := by
        refine Nat.lt_of_mul_lt_mul_right (a := g) ?_
        rw [Nat.mul_comm q]; omega
      have h4 : c < q + 2 := by
        refine Nat.lt_of_mul_lt_mul_right (a := g) ?_
        rw [Nat.add_mul, Nat.mul_comm q]; omega
      omega
  have hdm := Nat.div_add_mod d r
  have hlt := Nat.mod_lt d hr
  by_cases h0 : d % r = 0
  · have hd' : d = d / r * r := by rw [Nat.mul_comm]; omega
    have hkeep : kept = d / r * 2 ^ t := by
      rw [hx h0]
      conv => lhs; rw [hd']
      rw [Nat.mul_right_comm, Nat.mul_div_cancel _ hr]
    have hce : (d + r - 1) / r = d / r := by
      refine (ceil_unique hr ?_ ?_).symm <;> omega
    rw [hce]
    exact hc _ (by omega) (by omega)
  · have hce : (d + r - 1) / r = d / r + 1 := by
      refine (ceil_unique hr ?_ ?_).symm
      · rw [Nat.add_mul, Nat.mul_comm]; omega
      · rw [Nat.add_mul, Nat.mul_comm]; omega
    rw [hce]
    have hkf : d * 2 ^ t / r = d / r * 2 ^ t + (d % r) * 2 ^ t / r := by
      conv => lhs; rw [← hdm, Nat.add_mul, Nat.mul_assoc, Nat.mul_add_div hr]
    have hlow : 1 ≤ (d % r) * 2 ^ t / r := by
      rw [Nat.le_div_iff_mul_le hr]
      calc 1 * r ≤ 1 * 2 ^ t := Nat.mul_le_mul_left _ (by omega)
        _ ≤ _ := Nat.mul_le_mul_right _ (by omega)
    have hhigh : (d % r) * 2 ^ t / r + 1 ≤ 2 ^ t := by
      have : (d % r) * 2 ^ t / r < 2 ^ t := by
        rw [Nat.div_lt_iff_lt_mul hr, Nat.mul_comm (2 ^ t)]
        exact Nat.mul_lt_mul_of_pos_right hlt hpos
      omega
    rw [hkf] at hk
    have e : (d / r + 1) * 2 ^ t = d / r * 2 ^ t + 2 ^ t := by rw [Nat.add_mul, Nat.one_mul]
    refine hc _ ?_ ?_ <;> rw [e] <;> omega
theorem div_small {d r : Nat} (hd : 0 < d) (hd2 : d < 16384) (hr : 0 < r) (hr2 : r ≤ 127) :
    ∃ q, FloatKind.f64.format.div (FloatKind.f64.nearest d) (FloatKind.f64.nearest r) = some q ∧ TickW q (((d + r - 1) / r : Nat) : Int) := by
  have hf : double.fractionBits = 52 := rfl
  have hl : double.leastPlace = -1074 := rfl
  have hb : double.binade = 2 ^ 52 := rfl
  have hi : double.infRung = 2047 * 2 ^ 52 := rfl
  obtain ⟨m, i, hm, hip, hmU, hm3⟩ := exact_nat (N := d) (a := d) (e := 0) (by simp) (by omega) (by omega)
  obtain ⟨n, j, hn, hjp, hnU, hn3⟩ := exact_nat (N := r) (a := r) (e := 0) (by simp) (by omega) (by omega)
  obtain ⟨m1, m2, hi2⟩ := hm3 (by omega)
  obtain ⟨n1, n2, hj2⟩ := hn3 (by omega)
  have hlm := log_of m1 m2
  have hln := log_of n1 n2
  have ld : d.log2 ≤ 13 := by have := (Nat.log2_lt (show d ≠ 0 by omega)).2 (show d < 2 ^ 14 by omega); omega
  have lr : r.log2 ≤ 6 := by have := (Nat.log2_lt (show r ≠ 0 by omega)).2 (show r < 2 ^ 7 by omega); omega
  generalize d.log2 = a at *
  generalize r.log2 = b at *
  have hmd : m = d * 2 ^ (52 - a) := by
    have h1 : m * 2 ^ (a + 1022) = d * 2 ^ (52 - a) * 2 ^ (a + 1022) := by
      have := hmU
      unfold Un big at this
      rw [show (i + 1074).toNat = a + 1022 by omega] at this
      rw [this, Nat.mul_assoc, ← Nat.pow_add, show 52 - a + (a + 1022) = 1074 by omega]
    exact Nat.eq_of_mul_eq_mul_right (Nat.two_pow_pos _) h1
  have hnr : n = r * 2 ^ (52 - b) := by
    have h1 : n * 2 ^ (b + 1022) = r * 2 ^ (52 - b) * 2 ^ (b + 1022) := by
      have := hnU
      unfold Un big at this
      rw [show (j + 1074).toNat = b + 1022 by omega] at this
      rw [this, Nat.mul_assoc, ← Nat.pow_add, show 52 - b + (b + 1022) = 1074 by omega]
    exact Nat.eq_of_mul_eq_mul_right (Nat.two_pow_pos _) h1
  have hn0 : n ≠ 0 := by omega
  have hdiv : FloatKind.f64.format.div (FloatKind.f64.nearest d) (FloatKind.f64.nearest r) = some (double.nearest false (2 * (m * 2 ^ 54 / n) + (m * 2 ^ 54 % n != 0).toNat) (i - j - 54 - 1)) := by
    show ((double.read (FloatKind.f64.nearest d)).quotient (double.fractionBits + 2) (double.read (FloatKind.f64.nearest r))).map double.write = _
    rw [nearest_nat, nearest_nat, hm, hn, hf]
    simp only [Datum.quotient, if_neg hn0, hlm, hln, Nat.shiftLeft_eq]
    rfl
  refine ⟨_, hdiv, ?_⟩
  have hnpos : 0 < n := by omega
  -- the quotient's digits
  have D1 : 2 ^ 53 ≤ m * 2 ^ 54 / n := by rw [Nat.le_div_iff_mul_le hnpos]; omega
  have D2 : m * 2 ^ 54 / n < 2 ^ 55 := by rw [Nat.div_lt_iff_lt_mul hnpos]; omega
  have hsx : (m * 2 ^ 54 % n != 0).toNat ≤ 1 := by cases (m * 2 ^ 54 % n != 0) <;> simp
  have hsz : m * 2 ^ 54 % n = 0 → (m * 2 ^ 54 % n != 0).toNat = 0 := fun h => by rw [h]; rfl
  generalize hst : (m * 2 ^ 54 % n != 0).toNat = st at *
  have hL : ∃ s, (s = 2 ∨ s = 3) ∧ (2 * (m * 2 ^ 54 / n) + st).log2 = 52 + s := by
    rcases Nat.lt_or_ge (2 * (m * 2 ^ 54 / n) + st) (2 ^ 55) with h | h
    · exact ⟨2, .inl rfl, log_of (by omega) (by omega)⟩
    · exact ⟨3, .inr rfl, log_of (by omega) (by omega)⟩
  obtain ⟨s, hs, hL⟩ := hL
  have hs1 : (2 * (m * 2 ^ 54 / n) + st) / 2 ^ s = m * 2 ^ 54 / (n * 2 ^ (s - 1)) := by
    rw [← Nat.div_div_eq_div_mul]
    rcases hs with rfl | rfl <;> omega
  -- the places
  obtain ⟨t, ht, ht9, ht1⟩ : ∃ t : Nat, i - j - 54 - 1 + (s : Int) = -(t : Int) ∧ 38 ≤ t ∧ t ≤ 60 := ⟨(53 + b - a - s + 2), by omega, by omega, by omega⟩
  have hfl : m * 2 ^ 54 / (n * 2 ^ (s - 1)) = d * 2 ^ t / r := by
    have e1 : m * 2 ^ 54 = d * 2 ^ t * 2 ^ (51 - b + s) := by
      rw [hmd, Nat.mul_assoc, Nat.mul_assoc, ← Nat.pow_add, ← Nat.pow_add]
      congr 2; omega
    have e2 : n * 2 ^ (s - 1) = r * 2 ^ (51 - b + s) := by
      rw [hnr, Nat.mul_assoc, ← Nat.pow_add]
      congr 2; omega
    rw [e1, e2, Nat.mul_div_mul_right _ _ (Nat.two_pow_pos _)]
  have hexact : d % r = 0 → (2 * (m * 2 ^ 54 / n) + st) % 2 ^ s = 0 := by
    intro h0
    have hd' : d = d / r * r := by have := Nat.div_add_mod d r; rw [Nat.mul_comm]; omega
    have e1 : m * 2 ^ 54 = d / r * 2 ^ (54 + b - a) * n := by
      rw [hnr, hmd]
      conv => lhs; rw [hd']
      have : ∀ x y u v w : Nat, y * 2 ^ 54 = u * v → x * r * y * 2 ^ 54 = x * u * (r * v) := by
        intro x y u v w h
        calc x * r * y * 2 ^ 54 = x * r * (y * 2 ^ 54) := by rw [Nat.mul_assoc (x * r)]
          _ = x * r * (u * v) := by rw [h]
          _ = x * u * (r * v) := by simp only [Nat.mul_assoc, Nat.mul_left_comm]
      refine this _ _ _ _ 0 ?_
      rw [← Nat.pow_add, ← Nat.pow_add]
      congr 1; omega
    have e2 : m * 2 ^ 54 % n = 0 := by rw [e1, Nat.mul_mod_left]
    have e3 : m * 2 ^ 54 / n = d / r * 2 ^ (54 + b - a) := by rw [e1, Nat.mul_div_cancel _ hnpos]
    rw [hsz e2, e3, Nat.add_zero]
    have : 2 * (d / r * 2 ^ (54 + b - a)) = d / r * 2 ^ (55 + b - a - s) * 2 ^ s := by
      rw [Nat.mul_left_comm, Nat.mul_assoc, ← Nat.pow_add, ← Nat.pow_succ']
      congr 2; omega
    rw [this, Nat.mul_mod_left]
  -- rounding
  have hplace : ∀ Q : Nat, Q ≠ 0 → Q.log2 = 52 + s → double.nearest false Q (i - j - 54 - 1) = (1074 - t) * 2 ^ 52 + Toward.even.cut false Q s ∨ 2 ^ 53 < Toward.even.cut false Q s := by
    intro Q hQ hQL
    rcases Nat.lt_or_ge (2 ^ 53) (Toward.even.cut false Q s) with h | h
    · exact .inr h
    · left
      simp only [Format.nearest, if_neg hQ, hl, hf, hb, hi, hQL]
      have e1 : max (i - j - 54 - 1 + ((52 + s : Nat) : Int) - (52 : Nat)) (-1074) = -(t : Int) := by omega
      have e2 : (i - j - 54 - 1 - (-(t : Int))).toNat = 0 := by omega
      have e3 : ((-(t : Int)) - (i - j - 54 - 1)).toNat = s := by omega
      have e4 : ((-(t : Int)) - (-1074)).toNat = 1074 - t := by omega
      rw [e1, e2, e3, e4, Nat.shiftLeft_zero]
      simp only [Format.word, Bool.false_eq_true, if_false]
      rw [Nat.min_eq_left]
      have : 1074 - t ≤ 1074 := by omega
      omega
  have hnear := even_near false (2 * (m * 2 ^ 54 / n) + st) s
  have hex : d % r = 0 → Toward.even.cut false (2 * (m * 2 ^ 54 / n) + st) s = d * 2 ^ t / r := fun h => by
    rw [even_exact _ (hexact h), hs1, hfl]
  rw [hs1, hfl] at hnear
  have hsize : 2 ^ 52 ≤ d * 2 ^ t / r ∧ d * 2 ^ t / r < 2 ^ 53 := by
    rw [← hfl, ← hs1]
    have hb := log_bounds (n := 2 * (m * 2 ^ 54 / n) + st) (by omega)
    rw [hL] at hb
    rcases hs with rfl | rfl <;> omega
  generalize hkd : Toward.even.cut false (2 * (m * 2 ^ 54 / n) + st) s = kept at *
  have hkc := kept_ceil hr (by omega) (show 9 ≤ t by omega) hnear hex
  have hw : double.nearest false (2 * (m * 2 ^ 54 / n) + st) (i - j - 54 - 1) = (1074 - t) * 2 ^ 52 + kept := by
    rcases hplace _ (by omega) hL with h | h
    · rw [h, hkd]
    · rw [hkd] at h; omega
  rw [hw]
  have hread : ∃ m' p', double.read ((1074 - t) * 2 ^ 52 + kept) = .number false m' p' ∧ m' < 2 ^ 53 ∧ -1074 ≤ p' ∧ Un m' p' = kept * 2 ^ (1074 - t) := by
    rcases Nat.lt_or_ge kept (2 ^ 53) with hk | hk
    · have : (1074 - t) * 2 ^ 52 + kept = (1075 - t) * 2 ^ 52 + (kept - 2 ^ 52) := by
        have : 1075 - t = 1074 - t + 1 := by omega
        rw [this, Nat.add_mul]; omega
      rw [this, read_norm (by omega) (by omega) (by omega)]
      have e1 : 2 ^ 52 + (kept - 2 ^ 52) = kept := by omega
      refine ⟨_, _, rfl, by omega, by omega, ?_⟩
      unfold Un
      rw [e1, show (-1074 + ((1075 - t - 1 : Nat) : Int) + 1074).toNat = 1074 - t by omega]
    · have hk : kept = 2 ^ 53 := by omega
      have : (1074 - t) * 2 ^ 52 + kept = (1076 - t) * 2 ^ 52 + 0 := by
        have : 1076 - t = 1074 - t + 2 := by omega
        rw [this, Nat.add_mul]; omega
      rw [this, read_norm (by omega) (by omega) (by omega)]
      refine ⟨_, _, rfl, by omega, by omega, ?_⟩
      unfold Un
      rw [hk, Nat.add_zero, ← Nat.pow_add, ← Nat.pow_add, show 52 + (-1074 + ((1076 - t - 1 : Nat) : Int) + 1074).toNat = 53 + (1074 - t) by omega]
  obtain ⟨m', p', h1, h2, h3, h4⟩ := hread
  have hbg : big = 2 ^ t * 2 ^ (1074 - t) := by unfold big; rw [← Nat.pow_add, show t + (1074 - t) = 1074 by omega]
  have hpp := Nat.two_pow_pos (1074 - t)
  have hq1 : Un m' p' / big = kept / 2 ^ t := by rw [h4, hbg, Nat.mul_div_mul_right _ _ hpp]
  have hq2 : Un m' p' % big = 0 ↔ kept % 2 ^ t = 0 := by
    rw [h4, hbg, Nat.mul_mod_mul_right]
    exact ⟨fun h => (Nat.mul_eq_zero.1 h).resolve_right (by omega), fun h => by rw [h, Nat.zero_mul]⟩
  have := tick_num h1 h2 h3 (by rw [h4]; exact Nat.mul_pos (by omega) hpp) (by
    rw [h4, hbg, ← Nat.mul_assoc]
    refine Nat.mul_lt_mul_of_pos_right ?_ hpp
    have : 2 ^ 38 ≤ 2 ^ t := Nat.pow_le_pow_right (by omega) (by omega)
    omega)
  have hif : (if Un m' p' % big = 0 then 0 else 1) = (if kept % 2 ^ t = 0 then 0 else 1) := by
    by_cases h : kept % 2 ^ t = 0
    · rw [if_pos h, if_pos (hq2.2 h)]
    · rw [if_neg h, if_neg (fun h' => h (hq2.1 h'))]
  rw [hq1, hif, hkc] at this
  exact this
theorem wrap_small (x : Int) : (IntKind.i64.wrap x).natAbs ≤ 2 ^ 63 := by
  simp only [IntKind.wrap, IntKind.bits, IntKind.signed]
  simp
  omega
theorem nearest_fin (x : Int) (h : x.natAbs ≤ 2 ^ 63) : ∃ s m p, double.read (FloatKind.f64.nearest x) = .number s m p := by
  have hf : double.fractionBits = 52 := rfl
  have hl : double.leastPlace = -1074 := rfl
  have hb : double.binade = 2 ^ 52 := rfl
  have hi : double.infRung = 2047 * 2 ^ 52 := rfl
  have hs : double.signWeight = 2 ^ 63 := rfl
  have hw : ∃ s R, FloatKind.f64.nearest x = double.word s R ∧ R < 2047 * 2 ^ 52 := by
    show ∃ s R, double.nearest (decide (x < 0)) x.natAbs 0 = double.word s R ∧ R < 2047 * 2 ^ 52
    by_cases h0 : x.natAbs = 0
    · exact ⟨decide (x < 0), 0, by simp only [Format.nearest, if_pos h0], by omega⟩
    · obtain ⟨l1, l2⟩ := log_bounds h0
      have hL : x.natAbs.log2 < 64 := (Nat.log2_lt h0).2 (by omega)
      simp only [Format.nearest, if_neg h0, hl, hf, hb, hi]
      refine ⟨_, _, rfl, ?_⟩
      generalize x.natAbs = N at *
      have e1 : max ((0 : Int) + (N.log2 : Int) - (52 : Nat)) (-1074) = (N.log2 : Int) - 52 := by omega
      rw [e1]
      have hk : Toward.even.cut (decide (x < 0)) (N <<< ((0 : Int) - ((N.log2 : Int) - 52)).toNat) (((N.log2 : Int) - 52) - 0).toNat ≤ 2 ^ 53 := by
        rcases even_near (decide (x < 0)) (N <<< ((0 : Int) - ((N.log2 : Int) - 52)).toNat) (((N.log2 : Int) - 52) - 0).toNat with hk | hk <;> rw [hk]
        all_goals
          have hq : (N <<< ((0 : Int) - ((N.log2 : Int) - 52)).toNat) / 2 ^ (((N.log2 : Int) - 52) - 0).toNat < 2 ^ 53 := by
            rw [Nat.shiftLeft_eq, Nat.div_lt_iff_lt_mul (Nat.two_pow_pos _), ← Nat.pow_add]
            by_cases hc : N.log2 ≤ 52
            · calc N * 2 ^ ((0 : Int) - ((N.log2 : Int) - 52)).toNat < 2 ^ (N.log2 + 1) * 2 ^ ((0 : Int) - ((N.log2 : Int) - 52)).toNat := Nat.mul_lt_mul_of_pos_right l2 (Nat.two_pow_pos _)
                _ ≤ _ := by rw [← Nat.pow_add]; exact Nat.pow_le_pow_right (by omega) (by omega)
            · have : ((0 : Int) - ((N.log2 : Int) - 52)).toNat = 0 := by omega
              rw [this, Nat.pow_zero, Nat.mul_one]
              exact Nat.lt_of_lt_of_le l2 (Nat.pow_le_pow_right (by omega) (by omega))
          omega
      generalize Toward.even.cut _ _ _ = kept at *
      generalize N.log2 = L at *
      have e4 : ((L : Int) - 52 - -1074).toNat = L + 1022 := by omega
      rw [e4]
      clear l1 l2 e1 e4 h h0 hs hi hb hl hf
      have h5 : (L + 1022) * 2 ^ 52 ≤ 1085 * 2 ^ 52 := Nat.mul_le_mul_right _ (by omega)
      exact Nat.lt_of_le_of_lt (Nat.min_le_left _ _) (by omega)
  obtain ⟨s, R, hw, hR⟩ := hw
  rw [hw]
  have hm : double.word s R % double.signWeight = R := by
    have hlt : R < double.signWeight := by rw [hs]; omega
    unfold Format.word
    cases s
    · rw [if_neg (by simp), Nat.mod_eq_of_lt hlt]
    · rw [if_pos rfl, Nat.add_mod_left, Nat.mod_eq_of_lt hlt]
  simp only [Format.read, hm, hb, hi, if_pos hR]
  split
  · exact ⟨_, _, _, rfl⟩
  · exact ⟨_, _, _, rfl⟩
theorem cut_nan (x y n : Nat) : isN (Question.cut (.nanBits .f64 x y) n) = true := by
  have hb : double.binade = 2 ^ 52 := rfl
  have hi : double.infRung = 2047 * 2 ^ 52 := rfl
  have hs : double.signWeight = 2 ^ 63 := rfl
  have hr : ∀ w : Nat, 2047 * 2 ^ 52 < w % 2 ^ 63 → isN w = true := by
    intro w hw
    show ((double.read w).order (double.read w) != some .eq) = true
    have : ∃ s f, double.read w = .nan s f := by
      simp only [Format.read, hb, hi, hs]
      rw [if_neg (by omega), if_neg (by omega), if_neg (by omega)]
      exact ⟨_, _, rfl⟩
    obtain ⟨s, f, h⟩ := this
    rw [h]; rfl
  apply hr
  show 2047 * 2 ^ 52 < ((n % 2) * 2 ^ 63 + 0x7ff0000000000000 + 1 + (n / 2) % (2 ^ 52 - 1)) % 2 ^ 63
  have := Nat.mod_lt (n / 2) (show 0 < 2 ^ 52 - 1 by omega)
  generalize n / 2 % (2 ^ 52 - 1) = z at *
  omega
def okN (i : Nat) : Bool := FloatKind.f64.format.div (FloatKind.f64.nearest ((i : Int) + 1)) (FloatKind.f64.nearest 0) == some 9218868437227405312 && FloatKind.f64.format.div (FloatKind.f64.nearest ((i : Int) + 1)) (FloatKind.f64.nearest ((i : Int) + 1)) == some 4607182418800017408 && FloatKind.f64.format.div (FloatKind.f64.nearest ((i : Int) + 1)) 9218868437227405312 == some 0
theorem okN_all : (List.range 1000).all okN = true := by decide +kernel
theorem okN_at {n : Int} (h1 : 1 ≤ n) (h2 : n ≤ 1000) : FloatKind.f64.format.div (FloatKind.f64.nearest n) (FloatKind.f64.nearest 0) = some 9218868437227405312 ∧ FloatKind.f64.format.div (FloatKind.f64.nearest n) (FloatKind.f64.nearest n) = some 4607182418800017408 ∧ FloatKind.f64.format.div (FloatKind.f64.nearest n) 9218868437227405312 = some 0 := by
  have h := List.all_eq_true.1 okN_all (n - 1).toNat (by simp; omega)
  unfold okN at h
  rw [show (((n - 1).toNat : Int) + 1) = n by omega] at h
  simpa [and_assoc] using h
def okR (i : Nat) : Bool := FloatKind.f64.format.div (FloatKind.f64.nearest ((i : Int) + 1)) (FloatKind.f64.nearest 1) == some (FloatKind.f64.nearest ((i : Int) + 1)) && FloatKind.f64.format.order (FloatKind.f64.nearest ((i : Int) + 1)) 0 == some .gt
theorem okR_all : (List.range 100).all okR = true := by decide +kernel
theorem okR_at {n : Int} (h1 : 1 ≤ n) (h2 : n ≤ 100) : FloatKind.f64.format.div (FloatKind.f64.nearest n) (FloatKind.f64.nearest 1) = some (FloatKind.f64.nearest n) ∧ FloatKind.f64.format.order (FloatKind.f64.nearest n) 0 = some .gt := by
  have h := List.all_eq_true.1 okR_all (n - 1).toNat (by simp; omega)
  unfold okR at h
  rw [show (((n - 1).toNat : Int) + 1) = n by omega] at h
  simpa using h
theorem one_word : FloatKind.f64.nearest 1 = 4607182418800017408 := by decide
theorem dl_mono {a b : Int} (h : a ≤ b) : dl a ≤ dl b := by
  have h1 := dl_range a
  have h2 := dl_range b
  by_cases ha : a ≤ 1
  · have : dl a = 1 := by rw [dl, if_pos ha]
    omega
  · by_cases hb : 7 ≤ b
    · have : dl b = 64 := by rw [dl, if_neg (by omega), if_pos hb]
      omega
    · rw [dl, if_neg ha, if_neg (by omega), dl, if_neg (by omega), if_neg hb]
      have : ∀ i, i ≤ 5 → ∀ j, j ≤ i → (2 : Int) ^ j ≤ 2 ^ i := by decide
      exact this _ (by omega) _ (by omega)
end Go.Proofs.Ytomigflbiijmpaa
