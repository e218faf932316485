/- Decimal digits in plain words: what they spell, and that a spelt number is read again. No program in it. -/
import Derived.Test.YtpdbdobckjolkaaDoorNameA
import Derived.Lib.ItoaLen
set_option linter.unusedVariables false
set_option linter.unusedSimpArgs false
namespace Go.Proofs.YtpdbdobckjolkaaDoor
open Go

def isDig (c : UInt8) : Bool := decide (48 ≤ c.toNat) && decide (c.toNat ≤ 57)
def dvFrom (a : Nat) (l : List UInt8) : Nat := l.foldl (fun a c => 10 * a + (c.toNat - 48)) a
theorem dvFrom_snoc (a : Nat) (l : List UInt8) (c : UInt8) : dvFrom a (l ++ [c]) = 10 * dvFrom a l + (c.toNat - 48) := by
  unfold dvFrom; rw [List.foldl_append]; rfl
theorem dvFrom_ge (l : List UInt8) : ∀ a, a ≤ dvFrom a l := by
  induction l with
  | nil => intro a; exact Nat.le_refl _
  | cons c l ih => intro a; have := ih (10 * a + (c.toNat - 48)); show a ≤ dvFrom (10 * a + (c.toNat - 48)) l; omega
theorem dvFrom_lt (l : List UInt8) : ∀ a, (l.all isDig) = true → dvFrom a l < (a + 1) * 10 ^ l.length := by
  induction l with
  | nil => intro a _; show a < (a + 1) * 10 ^ 0; omega
  | cons c l ih =>
    intro a h
    rw [List.all_cons, Bool.and_eq_true] at h
    have hc : c.toNat ≤ 57 := by have := h.1; unfold isDig at this; simp at this; omega
    have h2 := ih (10 * a + (c.toNat - 48)) h.2
    show dvFrom (10 * a + (c.toNat - 48)) l < (a + 1) * 10 ^ (l.length + 1)
    have h3 : (10 * a + (c.toNat - 48) + 1) ≤ (a + 1) * 10 := by omega
    have h4 := Nat.mul_le_mul_right (10 ^ l.length) h3
    rw [Nat.pow_succ, Nat.mul_comm (10 ^ l.length) 10, ← Nat.mul_assoc]
    omega
theorem digit_byte (d : Nat) (h : d < 10) : (UInt8.ofNat (48 + d)).toNat = 48 + d := by
  rw [UInt8.toNat_ofNat']; omega
theorem dec_all (n : Nat) : ((Lib.decDigits n).all isDig) = true := by
  induction n using Lib.decDigits.induct with
  | case1 u h => rw [Lib.decDigits, dif_pos h]; simp [isDig, digit_byte u h]; omega
  | case2 u h ih =>
    rw [Lib.decDigits, dif_neg h, List.all_append, ih]
    simp [isDig, digit_byte (u % 10) (by omega)]; omega
theorem dec_dv (n : Nat) : dvFrom 0 (Lib.decDigits n) = n := by
  induction n using Lib.decDigits.induct with
  | case1 u h => rw [Lib.decDigits, dif_pos h]; show 10 * 0 + ((UInt8.ofNat (48 + u)).toNat - 48) = u; rw [digit_byte u h]; omega
  | case2 u h ih => rw [Lib.decDigits, dif_neg h, dvFrom_snoc, ih, digit_byte (u % 10) (by omega)]; omega
theorem dec_ne (n : Nat) : Lib.decDigits n ≠ [] := by
  rw [Lib.decDigits]; split <;> simp
theorem nDigits_le (k : Nat) : ∀ n, n < 10 ^ (k + 1) → Lib.nDigits n ≤ k + 1 := by
  induction k with
  | zero => intro n h; rw [Lib.nDigits_small (by simpa using h)]; omega
  | succ k ih =>
    intro n h
    by_cases h1 : n < 10
    · rw [Lib.nDigits_small h1]; omega
    · rw [Lib.nDigits_big h1]
      have := ih (n / 10) (by rw [Nat.div_lt_iff_lt_mul (by omega), ← Nat.pow_succ]; exact h)
      omega
theorem dec_len (n : Nat) (h : n ≤ 9007199254740992) : (Lib.decDigits n).length ≤ 16 := by
  rw [Lib.decDigits_length]
  exact nDigits_le 15 n (Nat.lt_of_le_of_lt h (by decide))
theorem dec_inj {a b : Nat} (h : Lib.decDigits a = Lib.decDigits b) : a = b := by
  rw [← dec_dv a, ← dec_dv b, h]
theorem dec_head (n : Nat) : ∃ c l, Lib.decDigits n = c :: l ∧ 48 ≤ c.toNat ∧ c.toNat ≤ 57 := by
  cases h : Lib.decDigits n with
  | nil => exact absurd h (dec_ne n)
  | cons c l =>
    have := dec_all n
    rw [h, List.all_cons, Bool.and_eq_true] at this
    have := this.1
    unfold isDig at this; simp at this
    exact ⟨c, l, rfl, by omega, by omega⟩
theorem parse_digits (l : List UInt8) : ∀ a, (l.all isDig) = true → dvFrom a l < 18446744073709551616 → Lib.parseUint10 a l = .ok (dvFrom a l) := by
  induction l with
  | nil => intro a _ _; rfl
  | cons c l ih =>
    intro a h hv
    rw [List.all_cons, Bool.and_eq_true] at h
    have hc : 48 ≤ c.toNat ∧ c.toNat ≤ 57 := by have := h.1; unfold isDig at this; simp at this; omega
    have hv' : dvFrom (10 * a + (c.toNat - 48)) l < 18446744073709551616 := hv
    have hge := dvFrom_ge l (10 * a + (c.toNat - 48))
    unfold Lib.parseUint10
    rw [if_pos hc, if_neg (by omega), if_neg (by omega), show a * 10 + (c.toNat - 48) = 10 * a + (c.toNat - 48) by omega]
    exact ih _ h.2 hv'
theorem atoi_dec (n : Nat) (h : n ≤ 9007199254740992) : Lib.atoiAll (Lib.decDigits n) = .ok (n : Int) := by
  obtain ⟨c, l, he, h1, h2⟩ := dec_head n
  have hp : Lib.parseMag (Lib.decDigits n) = .ok n := by
    unfold Lib.parseMag
    rw [if_neg (dec_ne n), parse_digits _ 0 (dec_all n) (by rw [dec_dv]; omega), dec_dv]
  rw [he] at hp ⊢
  unfold Lib.atoiAll
  simp only
  rw [if_neg (by omega), hp]
  simp only
  rw [if_neg (by omega), if_neg (by omega), if_neg (by omega)]
theorem itoa_nat (n : Nat) : Lib.itoa (n : Int) = Lib.decDigits n := by
  unfold Lib.itoa; rw [if_neg (by omega), Int.toNat_natCast]
theorem mayN_iff (n : Int) : mayN n = true ↔ 0 ≤ n ∧ n ≤ 9007199254740992 := by
  unfold mayN; simp
theorem num_dec (n : Nat) (h : n ≤ 9007199254740992) : numB (Lib.decDigits n) = true ∧ numV (Lib.decDigits n) = n := by
  unfold numB numV
  rw [atoi_dec n h]
  refine ⟨?_, rfl⟩
  simp only
  rw [(mayN_iff n).2 ⟨by omega, by omega⟩, itoa_nat, Bool.true_and, beq_self_eq_true]
theorem num_only (s : List UInt8) (h : numB s = true) : ∃ n : Nat, n ≤ 9007199254740992 ∧ s = Lib.decDigits n ∧ numV s = n := by
  unfold numB at h
  unfold numV
  split at h
  · rename_i v hv
    rw [Bool.and_eq_true, mayN_iff] at h
    obtain ⟨⟨h0, h1⟩, h2⟩ := h
    obtain ⟨n, rfl⟩ : ∃ n : Nat, v = n := ⟨v.toNat, by omega⟩
    rw [itoa_nat] at h2
    exact ⟨n, by omega, (eq_of_beq h2).symm, by rw [hv]⟩
  · cases h

/-- the reference's number: at most sixteen digits -/
def refNum (t : List UInt8) : Int := if t = [] ∨ 16 < t.length then -1 else if t.all isDig = true then (dvFrom 0 t : Int) else -1
theorem refNum_dec (n : Nat) (h : n ≤ 9007199254740992) : refNum (Lib.decDigits n) = n := by
  unfold refNum
  have := dec_len n h
  rw [if_neg (by simp [dec_ne n]; omega), if_pos (dec_all n), dec_dv]
theorem refNum_lt (t : List UInt8) : -1 ≤ refNum t ∧ refNum t < 10000000000000000 := by
  unfold refNum
  split
  · omega
  · rename_i h
    simp only [not_or, Nat.not_lt] at h
    split
    · rename_i h2
      have h3 := dvFrom_lt t 0 h2
      have h4 : (10 : Nat) ^ t.length ≤ 10 ^ 16 := Nat.pow_le_pow_right (by omega) h.2
      have h5 : (10 : Nat) ^ 16 = 10000000000000000 := by decide
      omega
    · omega
end Go.Proofs.YtpdbdobckjolkaaDoor
