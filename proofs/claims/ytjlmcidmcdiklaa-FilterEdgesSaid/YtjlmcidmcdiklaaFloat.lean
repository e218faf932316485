/- Plain laws of 64-bit floating numbers that are not below zero: their words stand in the numbers' own order, and rounding, product, floor and cutting keep that order. No program in it. -/
import Ieee.Arith
set_option linter.unusedVariables false
set_option linter.unusedSimpArgs false
namespace Go.Proofs.Ytjlmcidmcdiklaa.FL
open Ieee

abbrev D : Format := Ieee.double
theorem D_binade : D.binade = 4503599627370496 := by decide
theorem D_inf : D.infRung = 9218868437227405312 := by decide
theorem D_sign : D.signWeight = 9223372036854775808 := by decide
theorem D_least : D.leastPlace = -1074 := by decide
theorem D_frac : D.fractionBits = 52 := rfl

/-- rounding 'n / 2 ^ d' to the nearest, ties to even -/
def rne (n d : Nat) : Nat := n / 2 ^ d + if 2 ^ d < 2 * (n % 2 ^ d) ∨ (2 ^ d = 2 * (n % 2 ^ d) ∧ n / 2 ^ d % 2 = 1) then 1 else 0

theorem cut_rne (neg : Bool) (n d : Nat) : Toward.even.cut neg n d = rne n d := by
  unfold Toward.cut rne
  simp only
  by_cases h : d ≤ n.log2 + 2
  · rw [Nat.min_eq_left h, Nat.one_shiftLeft]
    congr 1
    by_cases h1 : 2 ^ d < 2 * (n % 2 ^ d)
    · simp [h1]
    · by_cases h2 : 2 ^ d = 2 * (n % 2 ^ d)
      · by_cases h3 : n / 2 ^ d % 2 = 1
        · simp [h1, ← h2, h3]
        · simp [h1, ← h2, h3]
      · simp [h1, h2]
  · rw [Nat.min_eq_right (by omega), Nat.one_shiftLeft]
    have hn : n < 2 ^ (n.log2 + 1) := Nat.lt_log2_self
    have h2 : 2 ^ (n.log2 + 2) = 2 * 2 ^ (n.log2 + 1) := by rw [Nat.pow_succ 2 (n.log2 + 1)]; omega
    have h3 : 2 ^ (n.log2 + 2) ≤ 2 ^ d := Nat.pow_le_pow_right (by omega) (by omega)
    have hA : n / 2 ^ (n.log2 + 2) = 0 := Nat.div_eq_of_lt (by omega)
    have hB : n / 2 ^ d = 0 := Nat.div_eq_of_lt (by omega)
    have hC : n % 2 ^ (n.log2 + 2) = n := Nat.mod_eq_of_lt (by omega)
    have hD : n % 2 ^ d = n := Nat.mod_eq_of_lt (by omega)
    rw [hA, hB, hC, hD]
    have e1 : ¬ 2 ^ (n.log2 + 2) < 2 * n := by omega
    have e2 : ¬ 2 ^ d < 2 * n := by omega
    simp [e1, e2]

theorem rne_mono {n m : Nat} (d : Nat) (h : n ≤ m) : rne n d ≤ rne m d := by
  unfold rne
  have hp : 0 < 2 ^ d := Nat.two_pow_pos d
  have hq : n / 2 ^ d ≤ m / 2 ^ d := Nat.div_le_div_right h
  rcases Nat.lt_or_ge (n / 2 ^ d) (m / 2 ^ d) with hlt | hge
  · split <;> split <;> omega
  · have e : n / 2 ^ d = m / 2 ^ d := by omega
    have hn := Nat.div_add_mod n (2 ^ d)
    have hm := Nat.div_add_mod m (2 ^ d)
    rw [e] at hn
    have hr : n % 2 ^ d ≤ m % 2 ^ d := by omega
    rw [e]
    generalize m / 2 ^ d = q at *
    split <;> split <;> omega

theorem rne_scale (n d k : Nat) : rne (n * 2 ^ k) (d + k) = rne n d := by
  unfold rne
  have hk : 0 < 2 ^ k := Nat.two_pow_pos k
  have e1 : n * 2 ^ k / 2 ^ (d + k) = n / 2 ^ d := by rw [Nat.pow_add, Nat.mul_div_mul_right _ _ hk]
  have e2 : n * 2 ^ k % 2 ^ (d + k) = n % 2 ^ d * 2 ^ k := by rw [Nat.pow_add, Nat.mul_mod_mul_right]
  rw [e1, e2, Nat.pow_add]
  have h1 : (2 ^ d * 2 ^ k < 2 * (n % 2 ^ d * 2 ^ k)) ↔ 2 ^ d < 2 * (n % 2 ^ d) := by
    rw [← Nat.mul_assoc]; exact Nat.mul_lt_mul_right hk
  have h2 : (2 ^ d * 2 ^ k = 2 * (n % 2 ^ d * 2 ^ k)) ↔ 2 ^ d = 2 * (n % 2 ^ d) := by
    rw [← Nat.mul_assoc]; exact Nat.mul_right_cancel_iff hk
  simp only [h1, h2]

theorem rne_zero (n : Nat) : rne n 0 = n := by
  unfold rne; simp; omega

theorem rne_le (n d b : Nat) (h : n < b * 2 ^ d) : rne n d ≤ b := by
  unfold rne
  have : n / 2 ^ d < b := by rw [Nat.div_lt_iff_lt_mul (Nat.two_pow_pos d)]; exact h
  split <;> omega

theorem rne_ge (n d b : Nat) (h : b * 2 ^ d ≤ n) : b ≤ rne n d := by
  unfold rne
  have : b ≤ n / 2 ^ d := by rw [Nat.le_div_iff_mul_le (Nat.two_pow_pos d)]; exact h
  omega

/-- the word of 'N * 2 ^ (-1074 - K)' -/
def RN (K N : Nat) : Nat := if N = 0 then 0 else min ((max (N.log2 - 52) K - K) * 4503599627370496 + rne N (max (N.log2 - 52) K)) 9218868437227405312

theorem log2_mul_pow (m s : Nat) (h : m ≠ 0) : (m * 2 ^ s).log2 = m.log2 + s := by
  have hs : 0 < 2 ^ s := Nat.two_pow_pos s
  rw [Nat.log2_eq_iff (Nat.mul_ne_zero h (by omega))]
  have h1 := Nat.log2_self_le h
  have h2 : m < 2 ^ (m.log2 + 1) := Nat.lt_log2_self
  constructor
  · rw [Nat.pow_add]; exact Nat.mul_le_mul_right _ h1
  · rw [show m.log2 + s + 1 = m.log2 + 1 + s by omega, Nat.pow_add]; exact (Nat.mul_lt_mul_right hs).2 h2

theorem nearest_RN (K mag : Nat) (place : Int) (hp : -1074 - (K : Int) ≤ place) : D.nearest false mag place = RN K (mag * 2 ^ (place + 1074 + K).toNat) := by
  unfold Format.nearest RN
  by_cases h0 : mag = 0
  · simp [h0, Format.word]
  · have hN : mag * 2 ^ (place + 1074 + K).toNat ≠ 0 := Nat.mul_ne_zero h0 (Nat.ne_of_gt (Nat.two_pow_pos _))
    rw [if_neg h0, if_neg hN, log2_mul_pow _ _ h0, D_least, D_frac, D_inf, D_binade]
    obtain ⟨s, hs⟩ : ∃ s : Nat, (place + 1074 + K).toNat = s := ⟨_, rfl⟩
    rw [hs]
    obtain ⟨dr, hdr⟩ : ∃ dr : Nat, max (mag.log2 + s - 52) K = dr := ⟨_, rfl⟩
    rw [hdr]
    have hl : max (place + (mag.log2 : Int) - (52 : Nat)) (-1074) = (dr : Int) - 1074 - K := by omega
    simp only [Format.word]
    rw [hl, cut_rne]
    have e1 : ((dr : Int) - 1074 - K - -1074).toNat = dr - K := by omega
    rw [e1]
    have e2 : rne (mag <<< (place - ((dr : Int) - 1074 - K)).toNat) ((dr : Int) - 1074 - K - place).toNat = rne (mag * 2 ^ s) dr := by
      rw [Nat.shiftLeft_eq]
      rcases Nat.le_total dr s with h | h
      · have a1 : (place - ((dr : Int) - 1074 - K)).toNat = s - dr := by omega
        have a2 : ((dr : Int) - 1074 - K - place).toNat = 0 := by omega
        have a3 : mag * 2 ^ s = mag * 2 ^ (s - dr) * 2 ^ dr := by rw [Nat.mul_assoc, ← Nat.pow_add]; congr 2; omega
        rw [a1, a2, a3]
        have := rne_scale (mag * 2 ^ (s - dr)) 0 dr
        rw [Nat.zero_add] at this
        rw [this]
      · have a1 : (place - ((dr : Int) - 1074 - K)).toNat = 0 := by omega
        have a2 : ((dr : Int) - 1074 - K - place).toNat = dr - s := by omega
        rw [a1, a2]
        have := rne_scale mag (dr - s) s
        rw [Nat.sub_add_cancel h] at this
        rw [this, Nat.pow_zero, Nat.mul_one]
    rw [e2]
    simp

theorem RN_le (K N : Nat) : RN K N ≤ 9218868437227405312 := by
  unfold RN; split <;> omega

theorem min_mono {x y I : Nat} (h : x ≤ y) : min x I ≤ min y I := by omega
theorem RN_step (K N M a b P : Nat) (hP : P = 2 ^ 52) (hN : N ≠ 0) (hM : M ≠ 0) (ha : max (N.log2 - 52) K = a) (hb : max (M.log2 - 52) K = b) (hl : N.log2 ≤ M.log2) (h : N ≤ M) :
    (a - K) * P + rne N a ≤ (b - K) * P + rne M b := by
  have hab : a ≤ b := by omega
  rcases Nat.eq_or_lt_of_le hab with e | hlt
  · rw [← e]; exact Nat.add_le_add_left (rne_mono a h) _
  · have h1 : rne N a ≤ 2 * P := by
      apply rne_le
      have hN1 : N < 2 ^ (N.log2 + 1) := Nat.lt_log2_self
      have : 2 ^ (N.log2 + 1) ≤ 2 * P * 2 ^ a := by
        rw [hP, ← Nat.pow_succ', ← Nat.pow_add]
        exact Nat.pow_le_pow_right (by omega) (by omega)
      exact Nat.lt_of_lt_of_le hN1 this
    have h2 : P ≤ rne M b := by
      apply rne_ge
      have hM1 : 2 ^ M.log2 ≤ M := Nat.log2_self_le hM
      have : P * 2 ^ b ≤ 2 ^ M.log2 := by
        rw [hP, ← Nat.pow_add]
        exact Nat.pow_le_pow_right (by omega) (by omega)
      exact Nat.le_trans this hM1
    have h3 : (a - K) + 1 ≤ b - K := by omega
    have h4 := Nat.mul_le_mul_right P h3
    rw [Nat.add_mul, Nat.one_mul] at h4
    generalize (a - K) * P = u at *
    generalize (b - K) * P = v at *
    generalize rne N a = x at *
    generalize rne M b = y at *
    clear hP hN hM ha hb hl h hab hlt h3
    omega
theorem RN_mono (K : Nat) {N M : Nat} (h : N ≤ M) : RN K N ≤ RN K M := by
  unfold RN
  by_cases hN : N = 0
  · rw [if_pos hN]; exact Nat.zero_le _
  · have hM : M ≠ 0 := by omega
    rw [if_neg hN, if_neg hM]
    have hl : N.log2 ≤ M.log2 := (Nat.le_log2 hM).2 (Nat.le_trans (Nat.log2_self_le hN) h)
    exact min_mono (RN_step K N M _ _ _ (by decide) hN hM rfl rfl hl h)

/-- the number of a word, in units of 2 ^ -1074 -/
def val (r : Nat) : Nat := if r / 4503599627370496 = 0 then r else (4503599627370496 + r % 4503599627370496) * 2 ^ (r / 4503599627370496 - 1)

theorem val_mono_lt {r s : Nat} (h : r < s) : val r < val s := by
  unfold val
  obtain ⟨q, hq⟩ : ∃ q, r / 4503599627370496 = q := ⟨_, rfl⟩
  obtain ⟨f, hf⟩ : ∃ f, r % 4503599627370496 = f := ⟨_, rfl⟩
  obtain ⟨p, hp⟩ : ∃ p, s / 4503599627370496 = p := ⟨_, rfl⟩
  obtain ⟨g, hg⟩ : ∃ g, s % 4503599627370496 = g := ⟨_, rfl⟩
  rw [hq, hf, hp, hg]
  have hr : r = q * 4503599627370496 + f := by omega
  have hs : s = p * 4503599627370496 + g := by omega
  have hf' : f < 4503599627370496 := by omega
  have hg' : g < 4503599627370496 := by omega
  have hqp : q ≤ p := by omega
  by_cases h0 : q = 0
  · rw [if_pos h0]
    by_cases h1 : p = 0
    · rw [if_pos h1]; exact h
    · rw [if_neg h1]
      have : 1 ≤ 2 ^ (p - 1) := Nat.one_le_two_pow
      have := Nat.mul_le_mul_left (4503599627370496 + g) this
      omega
  · have h1 : p ≠ 0 := by omega
    rw [if_neg h0, if_neg h1]
    rcases Nat.eq_or_lt_of_le hqp with e | hlt
    · subst e
      have : 0 < 2 ^ (q - 1) := Nat.two_pow_pos _
      exact (Nat.mul_lt_mul_right this).2 (by omega)
    · have e1 : 2 ^ (p - 1) = 2 ^ (p - 1 - q) * 2 ^ 1 * 2 ^ (q - 1) := by rw [← Nat.pow_add, ← Nat.pow_add]; congr 1; omega
      have e2 : 0 < 2 ^ (q - 1) := Nat.two_pow_pos _
      have e3 : 1 ≤ 2 ^ (p - 1 - q) := Nat.one_le_two_pow
      rw [e1, ← Nat.mul_assoc]
      apply (Nat.mul_lt_mul_right e2).2
      have := Nat.mul_le_mul_left ((4503599627370496 + g) * 2) e3
      rw [Nat.pow_one]
      have e4 : (4503599627370496 + g) * (2 ^ (p - 1 - q) * 2) = (4503599627370496 + g) * 2 * 2 ^ (p - 1 - q) := by rw [Nat.mul_assoc, Nat.mul_comm 2]
      rw [e4]; omega

theorem val_mono {r s : Nat} (h : r ≤ s) : val r ≤ val s := by
  rcases Nat.eq_or_lt_of_le h with e | h
  · rw [e]; exact Nat.le_refl _
  · exact Nat.le_of_lt (val_mono_lt h)

theorem read_fin (r : Nat) (h : r < 9218868437227405312) : ∃ (m : Nat) (e : Int), D.read r = .number false m e ∧ -1074 ≤ e ∧ val r = m * 2 ^ (e + 1074).toNat := by
  have hs : r / D.signWeight % 2 = 0 := by rw [D_sign]; omega
  have hr : r % D.signWeight = r := by rw [D_sign]; omega
  unfold Format.read
  simp only [hs, hr]
  rw [D_binade, D_inf, D_least]
  by_cases h1 : r < 4503599627370496
  · refine ⟨r, -1074, by simp [h1], by omega, ?_⟩
    unfold val
    rw [if_pos (by omega)]; simp
  · refine ⟨4503599627370496 + r % 4503599627370496, -1074 + ((r / 4503599627370496 - 1 : Nat) : Int), by simp [h1, h], by omega, ?_⟩
    unfold val
    rw [if_neg (by omega)]
    congr 2; omega

theorem read_inf : D.read 9218868437227405312 = .infinity false := by decide

theorem signed_false (m k : Nat) : signed false m k = ((m * 2 ^ k : Nat) : Int) := by simp [signed, Nat.shiftLeft_eq]

theorem scale_cmp (a b k : Nat) : compare (a * 2 ^ k) (b * 2 ^ k) = compare a b := by
  have hk : 0 < 2 ^ k := Nat.two_pow_pos k
  rcases Nat.lt_trichotomy a b with h | h | h
  · rw [Nat.compare_eq_lt.2 h, Nat.compare_eq_lt.2 ((Nat.mul_lt_mul_right hk).2 h)]
  · rw [h, Nat.compare_eq_eq.2 rfl, Nat.compare_eq_eq.2 rfl]
  · rw [Nat.compare_eq_gt.2 h, Nat.compare_eq_gt.2 ((Nat.mul_lt_mul_right hk).2 h)]

theorem cmp_int (a b : Nat) : compare (a : Int) (b : Int) = compare a b := by
  rcases Nat.lt_trichotomy a b with h | h | h
  · rw [Nat.compare_eq_lt.2 h, Int.compare_eq_lt.2 (by omega)]
  · rw [h, Nat.compare_eq_eq.2 rfl, Int.compare_eq_eq.2 rfl]
  · rw [Nat.compare_eq_gt.2 h, Int.compare_eq_gt.2 (by omega)]

theorem val_cmp (x y : Nat) : compare (val x) (val y) = compare x y := by
  rcases Nat.lt_trichotomy x y with h | h | h
  · rw [Nat.compare_eq_lt.2 h, Nat.compare_eq_lt.2 (val_mono_lt h)]
  · rw [h, Nat.compare_eq_eq.2 rfl, Nat.compare_eq_eq.2 rfl]
  · rw [Nat.compare_eq_gt.2 h, Nat.compare_eq_gt.2 (val_mono_lt h)]

/-- the words of numbers not below zero stand in the numbers' order -/
theorem order_pos (x y : Nat) (hx : x ≤ 9218868437227405312) (hy : y ≤ 9218868437227405312) : D.order x y = some (compare x y) := by
  unfold Format.order
  rcases Nat.eq_or_lt_of_le hx with e | hx
  · subst e
    rw [read_inf]
    rcases Nat.eq_or_lt_of_le hy with e | hy
    · subst e; rw [read_inf]; rfl
    · obtain ⟨m, e, h, _⟩ := read_fin y hy
      rw [h, Nat.compare_eq_gt.2 hy]; rfl
  · obtain ⟨m, e, h, he, hv⟩ := read_fin x hx
    rw [h]
    rcases Nat.eq_or_lt_of_le hy with e | hy
    · subst e; rw [read_inf, Nat.compare_eq_lt.2 hx]; rfl
    · obtain ⟨n, f, g, hf, hw⟩ := read_fin y hy
      rw [g]
      simp only [Datum.order, signed_false, cmp_int]
      rw [← val_cmp x y, hv, hw, ← scale_cmp _ _ (min e f + 1074).toNat, Nat.mul_assoc, Nat.mul_assoc, ← Nat.pow_add, ← Nat.pow_add,
        show (e - min e f).toNat + (min e f + 1074).toNat = (e + 1074).toNat by omega, show (f - min e f).toNat + (min e f + 1074).toNat = (f + 1074).toNat by omega]

theorem order_lt {x y : Nat} (hx : x ≤ 9218868437227405312) (hy : y ≤ 9218868437227405312) : D.order x y = some .lt ↔ x < y := by
  rw [order_pos x y hx hy]; simp [Nat.compare_eq_lt]
theorem order_gt {x y : Nat} (hx : x ≤ 9218868437227405312) (hy : y ≤ 9218868437227405312) : D.order x y = some .gt ↔ y < x := by
  rw [order_pos x y hx hy]; simp [Nat.compare_eq_gt]

def isNaNW (b : Nat) : Bool := D.order b b != some .eq

/-- what is no NaN and not below a positive number has no sign -/
theorem pos_of_not_lt (b c : Nat) (hb : b < 18446744073709551616) (hc : 0 < c) (hc2 : c ≤ 9218868437227405312) (hn : isNaNW b = false) (hl : D.order b c ≠ some .lt) : b ≤ 9218868437227405312 := by
  rcases Nat.lt_or_ge 9218868437227405312 b with h | h
  · exfalso
    have hread : ∃ d, D.read b = d ∧ ((∃ m e, d = .number true m e) ∨ d = .infinity true ∨ ∃ s t, d = .nan s t) := by
      refine ⟨_, rfl, ?_⟩
      unfold Format.read
      simp only
      rw [D_binade, D_inf, D_least, D_sign]
      rcases Nat.lt_or_ge b 9223372036854775808 with h1 | h1
      · have : ¬ b % 9223372036854775808 < 4503599627370496 := by omega
        have : ¬ b % 9223372036854775808 < 9218868437227405312 := by omega
        have : ¬ b % 9223372036854775808 = 9218868437227405312 := by omega
        simp [*]
      · have e : b / 9223372036854775808 % 2 = 1 := by omega
        simp only [e]
        split
        · exact .inl ⟨_, _, rfl⟩
        · split
          · exact .inl ⟨_, _, rfl⟩
          · split
            · exact .inr (.inl rfl)
            · exact .inr (.inr ⟨_, _, rfl⟩)
    obtain ⟨d, hd, h⟩ := hread
    rcases h with ⟨m, e, rfl⟩ | rfl | ⟨s, t, rfl⟩
    · apply hl
      unfold Format.order
      rw [hd]
      rcases Nat.eq_or_lt_of_le hc2 with e1 | hc2
      · subst e1; rw [read_inf]; rfl
      · obtain ⟨n, f, g, hf, hw⟩ := read_fin c hc2
        have h0 : 0 < val c := Nat.lt_of_le_of_lt (Nat.zero_le _) (val_mono_lt hc)
        have hn0 : 0 < n := by
          rcases Nat.eq_zero_or_pos n with h | h
          · rw [hw, h] at h0; simp at h0
          · exact h
        rw [g]
        simp only [Datum.order]
        rw [Int.compare_eq_lt.2]
        rw [signed_false]
        have : 0 < n * 2 ^ (f - min e f).toNat := Nat.mul_pos hn0 (Nat.two_pow_pos _)
        have h9 : signed true m (e - min e f).toNat ≤ 0 := by unfold signed; simp only [if_true]; exact Int.neg_nonpos_of_nonneg (Int.natCast_nonneg _)
        omega
    · apply hl
      unfold Format.order
      rw [hd]
      rcases Nat.eq_or_lt_of_le hc2 with e1 | hc2
      · subst e1; rw [read_inf]; rfl
      · obtain ⟨n, f, g, _⟩ := read_fin c hc2
        rw [g]; rfl
    · unfold isNaNW Format.order at hn
      rw [hd] at hn
      simp [Datum.order] at hn
  · exact h

theorem order_big (a b : Nat) (ha : 0 < a) (ha2 : a ≤ 9218868437227405312) (hb : 9218868437227405312 < b) (hb2 : b < 18446744073709551616) : D.order a b = none ∨ D.order a b = some .gt := by
  have hread : ∃ d, D.read b = d ∧ ((∃ m e, d = .number true m e) ∨ d = .infinity true ∨ ∃ s t, d = .nan s t) := by
    refine ⟨_, rfl, ?_⟩
    unfold Format.read
    simp only
    rw [D_binade, D_inf, D_least, D_sign]
    rcases Nat.lt_or_ge b 9223372036854775808 with h1 | h1
    · have : ¬ b % 9223372036854775808 < 4503599627370496 := by omega
      have : ¬ b % 9223372036854775808 < 9218868437227405312 := by omega
      have : ¬ b % 9223372036854775808 = 9218868437227405312 := by omega
      simp [*]
    · have e : b / 9223372036854775808 % 2 = 1 := by omega
      simp only [e]
      split
      · exact .inl ⟨_, _, rfl⟩
      · split
        · exact .inl ⟨_, _, rfl⟩
        · split
          · exact .inr (.inl rfl)
          · exact .inr (.inr ⟨_, _, rfl⟩)
  obtain ⟨d, hd, h⟩ := hread
  unfold Format.order
  rw [hd]
  rcases Nat.eq_or_lt_of_le ha2 with e1 | ha2
  · subst e1; rw [read_inf]
    rcases h with ⟨m, e, rfl⟩ | rfl | ⟨s, t, rfl⟩
    · exact .inr rfl
    · exact .inr (by decide)
    · exact .inl rfl
  · obtain ⟨n, f, g, hf, hw⟩ := read_fin a ha2
    have h0 : 0 < val a := Nat.lt_of_le_of_lt (Nat.zero_le _) (val_mono_lt ha)
    have hn0 : 0 < n := by
      rcases Nat.eq_zero_or_pos n with h | h
      · rw [hw, h] at h0; simp at h0
      · exact h
    rw [g]
    rcases h with ⟨m, e, rfl⟩ | rfl | ⟨s, t, rfl⟩
    · right
      simp only [Datum.order]
      rw [Int.compare_eq_gt.2]
      rw [signed_false]
      have : 0 < n * 2 ^ (f - min f e).toNat := Nat.mul_pos hn0 (Nat.two_pow_pos _)
      have h9 : signed true m (e - min f e).toNat ≤ 0 := by unfold signed; simp only [if_true]; exact Int.neg_nonpos_of_nonneg (Int.natCast_nonneg _)
      omega
    · exact .inr rfl
    · exact .inl rfl

def mulW (x y : Nat) : Nat := (D.mul x y).getD 0
theorem mul_fin (x y : Nat) (hx : x < 9218868437227405312) (hy : y < 9218868437227405312) : D.mul x y = some (RN 1074 (val x * val y)) := by
  obtain ⟨m, e, h, he, hv⟩ := read_fin x hx
  obtain ⟨n, f, g, hf, hw⟩ := read_fin y hy
  unfold Format.mul
  rw [h, g]
  simp only [Datum.product, Option.map_some, Format.write, Bool.xor_self]
  rw [nearest_RN 1074 _ _ (by omega), hv, hw]
  congr 2
  rw [show (e + f + 1074 + (1074 : Nat)).toNat = (e + 1074).toNat + (f + 1074).toNat by omega, Nat.pow_add]
  simp only [Nat.mul_assoc, Nat.mul_left_comm, Nat.mul_comm]
theorem mul_inf (x : Nat) (h0 : 0 < x) (hx : x < 9218868437227405312) : D.mul x 9218868437227405312 = some 9218868437227405312 := by
  obtain ⟨m, e, h, he, hv⟩ := read_fin x hx
  have h1 : 0 < val x := Nat.lt_of_le_of_lt (Nat.zero_le _) (val_mono_lt h0)
  have hm : m ≠ 0 := by rintro rfl; simp at hv; omega
  unfold Format.mul
  rw [h, read_inf]
  simp only [Datum.product, if_neg hm, Option.map_some]
  rfl
theorem mul_some (x y : Nat) (h0 : 0 < x) (hx : x < 9218868437227405312) (hy : y ≤ 9218868437227405312) : D.mul x y = some (mulW x y) ∧ mulW x y ≤ 9218868437227405312 := by
  unfold mulW
  rcases Nat.eq_or_lt_of_le hy with e | hy
  · subst e; rw [mul_inf x h0 hx]; exact ⟨rfl, Nat.le_refl _⟩
  · rw [mul_fin x y hx hy]; exact ⟨rfl, RN_le _ _⟩
theorem mulW_mono (x x' y y' : Nat) (h0 : 0 < x) (hx : x ≤ x') (hx' : x' < 9218868437227405312) (hy : y ≤ y') (hy' : y' ≤ 9218868437227405312) : mulW x y ≤ mulW x' y' := by
  rcases Nat.eq_or_lt_of_le hy' with e | hy'
  · subst e
    unfold mulW
    rw [mul_inf x' (by omega) hx']
    exact (mul_some x y h0 (by omega) (by omega)).2
  · unfold mulW
    rw [mul_fin x y (by omega) (by omega), mul_fin x' y' hx' hy']
    exact RN_mono _ (Nat.mul_le_mul (val_mono hx) (val_mono hy))

def T : Nat := 1074
theorem T_def : T = 1074 := rfl
theorem zero_place : (0 + 1074 + ((0 : Nat) : Int)).toNat = T := rfl
def floorW (x : Nat) : Nat := D.write ((D.read x).integral .down)
theorem cut_down (m i : Nat) (e : Int) (he : -1074 ≤ e) : Toward.down.cut false (m <<< e.toNat) (-e).toNat = m * 2 ^ (e + 1074).toNat / 2 ^ T := by
  unfold Toward.cut
  simp only [Bool.false_and, Bool.toNat_false, Nat.add_zero]
  rw [Nat.shiftLeft_eq, Nat.one_shiftLeft]
  rcases Int.le_total 0 e with h | h
  · have e1 : (-e).toNat = 0 := by omega
    have e2 : (e + 1074).toNat = e.toNat + T := by rw [T_def]; omega
    rw [e1, e2, Nat.pow_add, ← Nat.mul_assoc, Nat.mul_div_cancel _ (Nat.two_pow_pos _)]
    simp
  · have e1 : e.toNat = 0 := by omega
    obtain ⟨d, hd⟩ : ∃ d : Nat, (-e).toNat = d := ⟨_, rfl⟩
    have e2 : (e + 1074).toNat = T - d := by rw [T_def]; omega
    have e3 : d ≤ T := by rw [T_def]; omega
    rw [e1, hd, e2, Nat.pow_zero, Nat.mul_one]
    have e4 : m * 2 ^ (T - d) / 2 ^ T = m / 2 ^ d := by
      have : (2 : Nat) ^ T = 2 ^ d * 2 ^ (T - d) := by rw [← Nat.pow_add]; congr 1; omega
      rw [this, Nat.mul_div_mul_right _ _ (Nat.two_pow_pos _)]
    rw [e4]
    by_cases h : d ≤ m.log2 + 2
    · rw [Nat.min_eq_left h]
    · rw [Nat.min_eq_right (by omega)]
      have hn : m < 2 ^ (m.log2 + 1) := Nat.lt_log2_self
      have h2 : 2 ^ (m.log2 + 1) ≤ 2 ^ (m.log2 + 2) := Nat.pow_le_pow_right (by omega) (by omega)
      have h3 : 2 ^ (m.log2 + 2) ≤ 2 ^ d := Nat.pow_le_pow_right (by omega) (by omega)
      rw [Nat.div_eq_of_lt (by omega), Nat.div_eq_of_lt (by omega)]
theorem cut_zero (m : Nat) (e : Int) (he : -1074 ≤ e) : Toward.zero.cut false (m <<< e.toNat) (-e).toNat = m * 2 ^ (e + 1074).toNat / 2 ^ T := cut_down m 0 e he
theorem floorW_fin (x : Nat) (hx : x < 9218868437227405312) : floorW x = RN 0 (val x / 2 ^ T * 2 ^ T) := by
  obtain ⟨m, e, h, he, hv⟩ := read_fin x hx
  unfold floorW
  rw [h]
  simp only [Datum.integral, Format.write]
  rw [cut_down m 0 e he, nearest_RN 0 _ _ (by omega), hv, zero_place]
theorem floorW_inf : floorW 9218868437227405312 = 9218868437227405312 := by decide
theorem floorW_le (x : Nat) (hx : x ≤ 9218868437227405312) : floorW x ≤ 9218868437227405312 := by
  rcases Nat.eq_or_lt_of_le hx with e | hx
  · subst e; rw [floorW_inf]; exact Nat.le_refl _
  · rw [floorW_fin x hx]; exact RN_le _ _
theorem floorW_mono {x y : Nat} (h : x ≤ y) (hy : y ≤ 9218868437227405312) : floorW x ≤ floorW y := by
  rcases Nat.eq_or_lt_of_le hy with e | hy
  · subst e; rw [floorW_inf]; exact floorW_le x h
  · rw [floorW_fin x (by omega), floorW_fin y hy]
    exact RN_mono _ (Nat.mul_le_mul_right _ (Nat.div_le_div_right (val_mono h)))

def convW (x : Nat) : Int := ((D.read x).toInt .zero).getD 0
theorem conv_fin (x : Nat) (hx : x < 9218868437227405312) : (D.read x).toInt .zero = some ((val x / 2 ^ T : Nat) : Int) := by
  obtain ⟨m, e, h, he, hv⟩ := read_fin x hx
  rw [h]
  simp only [Datum.toInt, Datum.integral]
  rw [cut_zero m e he, hv, signed_false]
  simp
theorem convW_mono {x y : Nat} (h : x ≤ y) (hy : y < 9218868437227405312) : convW x ≤ convW y := by
  unfold convW
  rw [conv_fin x (by omega), conv_fin y hy]
  have := Nat.div_le_div_right (c := 2 ^ T) (val_mono h)
  simp only [Option.getD_some]
  omega

def ofNatW (n : Nat) : Nat := D.write (.number false n 0)
theorem ofNatW_RN (n : Nat) : ofNatW n = RN 0 (n * 2 ^ T) := by
  unfold ofNatW
  simp only [Format.write]
  rw [nearest_RN 0 _ _ (by omega), zero_place]
theorem ofNatW_mono {n m : Nat} (h : n ≤ m) : ofNatW n ≤ ofNatW m := by
  rw [ofNatW_RN, ofNatW_RN]; exact RN_mono _ (Nat.mul_le_mul_right _ h)
end Go.Proofs.Ytjlmcidmcdiklaa.FL
