/- The plain law of the filter: whatever keys it was made of, it says of each of them that it may be there. No program in it, but the words of the walks. -/
import Derived.Test.YtjlmcidmcdiklaaMay
set_option linter.unusedVariables false
set_option linter.unusedSimpArgs false
namespace Go.Proofs.Ytjlmcidmcdiklaa
open Go.RowKit

theorem bitAt_same (bs : List UInt8) (i : Nat) (h : i / 8 < bs.length) : bitAt (setBit bs i) i = true := by
  unfold bitAt setBit
  have e : (bs.set (i / 8) (orBit (bs.getD (i / 8) 0) (i % 8))).getD (i / 8) 0 = orBit (bs.getD (i / 8) 0) (i % 8) := by
    simp [h]
  rw [e, orBit_toNat _ _ (by omega), Nat.testBit_or, Nat.testBit_two_pow_self]
  simp
theorem bitAt_keep (bs : List UInt8) (i k : Nat) (h : bitAt bs k = true) : bitAt (setBit bs i) k = true := by
  unfold bitAt setBit at *
  by_cases he : i / 8 = k / 8
  · rcases Nat.lt_or_ge (i / 8) bs.length with hl | hl
    · have e : (bs.set (i / 8) (orBit (bs.getD (i / 8) 0) (i % 8))).getD (k / 8) 0 = orBit (bs.getD (i / 8) 0) (i % 8) := by
        rw [← he]; simp [hl]
      rw [e, orBit_toNat _ _ (by omega), Nat.testBit_or, he, h, Bool.true_or]
    · have e : bs.set (i / 8) (orBit (bs.getD (i / 8) 0) (i % 8)) = bs := List.set_eq_of_length_le hl
      rw [e]; exact h
  · have e : (bs.set (i / 8) (orBit (bs.getD (i / 8) 0) (i % 8))).getD (k / 8) 0 = bs.getD (k / 8) 0 := by
      simp [List.getElem?_set_ne he]
    rw [e]; exact h
theorem setAll_keep (bs : List UInt8) (h m : Int) (p k : Nat) (hb : bitAt bs k = true) : bitAt (setAll bs h m p) k = true := by
  induction p with
  | zero => exact hb
  | succ p ih => rw [setAll_succ]; exact bitAt_keep _ _ _ ih
theorem setAll_has (bs : List UInt8) (h m : Int) (p j : Nat) (hj : j < p) (hl : (place h m j).toNat / 8 < bs.length) : bitAt (setAll bs h m p) (place h m j).toNat = true := by
  induction p with
  | zero => omega
  | succ p ih =>
    rw [setAll_succ]
    rcases Nat.lt_or_ge j p with h1 | h1
    · exact bitAt_keep _ _ _ (ih h1)
    · obtain rfl : j = p := by omega
      exact bitAt_same _ _ (by rw [setAll_length]; exact hl)
theorem makeBits_keep (keys : List ByteArray) (m : Int) (p k : Nat) (bs : List UInt8) (hb : bitAt bs k = true) : bitAt (makeBits keys m p bs) k = true := by
  induction keys generalizing bs with
  | nil => exact hb
  | cons x l ih => exact ih _ (setAll_keep _ _ _ _ _ hb)
theorem makeBits_has (keys : List ByteArray) (m : Int) (p j : Nat) (bs : List UInt8) (key : ByteArray) (hk : key ∈ keys) (hj : j < p) (hl : (place (hash key.data.toList) m j).toNat / 8 < bs.length) :
    bitAt (makeBits keys m p bs) (place (hash key.data.toList) m j).toNat = true := by
  induction keys generalizing bs with
  | nil => cases hk
  | cons x l ih =>
    rcases List.mem_cons.1 hk with rfl | h
    · exact makeBits_keep l _ _ _ _ (setAll_has _ _ _ _ _ hj hl)
    · exact ih _ h (by rw [setAll_length]; exact hl)

theorem makeF_length (keys : List ByteArray) (b : Nat) (h : probes b ≠ 0) : (makeF keys b).length = m8Of b keys.length + 1 := by
  unfold makeF; rw [if_neg h, List.length_set, makeBits_length, List.length_replicate]
theorem makeF_may (keys : List ByteArray) (b : Nat) (hb : b < 18446744073709551616) (hk : keys.length ≤ 256) (key : ByteArray) (hm : key ∈ keys) : mayF (makeF keys b) key = true := by
  by_cases h0 : probes b = 0
  · have e : makeF keys b = [] := by unfold makeF; rw [if_pos h0]
    rw [e]; rfl
  · have hp1 : (FL.isNaNW b || ltOne b) = false := by
      have := mt (probes_zero b).2 h0
      simpa using this
    have hpos := pos_of b hb hp1
    have hm8 := m8_bd b keys.length hpos hk
    have hl := makeF_length keys b h0
    have hpb := probes_bd b
    have hlast : (makeF keys b).getD (m8Of b keys.length) 0 = UInt8.ofNat (probes b).toNat := by
      unfold makeF; rw [if_neg h0]; simp [makeBits_length]
    unfold mayF
    rw [if_neg (by omega), show (makeF keys b).length - 1 = m8Of b keys.length by omega, hlast]
    have hpn : (UInt8.ofNat (probes b).toNat).toNat = (probes b).toNat := by rw [UInt8.toNat_ofNat']; omega
    rw [hpn]
    split
    · rfl
    · rw [List.all_eq_true]
      intro j hj
      have hj := List.mem_range.1 hj
      have hpl := place_lt (hash key.data.toList) (8 * m8Of b keys.length : Nat) j (by omega)
      generalize hm' : m8Of b keys.length = m8 at *
      have hlt : (place (hash key.data.toList) (8 * m8 : Nat) j).toNat / 8 < m8 := by omega
      have hhas := makeBits_has keys (8 * m8 : Nat) (probes b).toNat j (List.replicate (m8 + 1) 0) key hm hj (by rw [List.length_replicate]; omega)
      unfold makeF
      rw [if_neg h0, hm']
      unfold bitAt at *
      rw [← hhas]
      congr 2
      rw [List.getD_eq_getElem?_getD, List.getD_eq_getElem?_getD, List.getElem?_set_ne (by omega)]
theorem probes_ten : probes 4621819117588971520 = 7 := by decide
theorem probes_inf : probes 9218868437227405312 = 12 := by decide
def greatS (l : List ByteArray) : Bool := (l.take 100).any (fun s => decide (300 < s.size)) || decide (80 < l.length)
end Go.Proofs.Ytjlmcidmcdiklaa
