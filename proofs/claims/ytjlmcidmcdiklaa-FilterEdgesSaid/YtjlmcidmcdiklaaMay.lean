/- The filter's question: what the walk of May answers for any bytes and any key. -/
import Derived.Test.YtjlmcidmcdiklaaMake2
set_option linter.unusedVariables false
set_option linter.unusedSimpArgs false
namespace Go.Proofs.Ytjlmcidmcdiklaa
open Go.RowKit

def bitAt (f : List UInt8) (i : Nat) : Bool := (f.getD (i / 8) 0).toNat.testBit (i % 8)
theorem bit_enc (u : UInt8) (k : Nat) : (bits BinOp.and IntKind.u8 ((u.toNat : Int) / 2 ^ k) 1 == 1) = u.toNat.testBit k := by
  have h1 : ((u.toNat : Int) / 2 ^ k) = ((u.toNat / 2 ^ k : Nat) : Int) := by simp
  have h2 : u.toNat / 2 ^ k < 256 := Nat.lt_of_le_of_lt (Nat.div_le_self _ _) u.toNat_lt
  rw [h1, show (1 : Int) = ((1 : Nat) : Int) from rfl, u8_and_nat _ _ h2 (by omega), Nat.testBit_eq_decide_div_mod_eq, Nat.and_one_is_mod]
  generalize u.toNat / 2 ^ k % 2 = x
  rw [Bool.eq_iff_iff]
  simp
  omega
set_option maxHeartbeats 400000 in
theorem ask_calls (i c n cp : Nat) (ad : Addr) (bs : List UInt8) (w : World) (hi : i / 8 < bs.length) (hn : n = bs.length) (hl : bs.length < 100000000) (hc : w.cell? ⟨c, 0, none⟩ = some (.slice (some ad) n cp)) (hr : Reads w w.heap.size 1 (some ad) n (bs.map encB)) :
    Calls Try.prog 39 #[.int .i64 i, .pointer (some ⟨c, 0, none⟩)] w fun e w' => e = .returned (.bool (bitAt bs i)) ∧ w = w' := by
  subst hn
  obtain ⟨ad', u, e, _, hx, hcell⟩ := hr.at_ hi
  obtain rfl : ad' = ad := by injection e with e; exact e.symm
  rw [List.getElem?_map, List.getElem?_eq_getElem hi] at hx
  obtain rfl : encB bs[i / 8] = u := Option.some.inj hx
  have hu : bs.getD (i / 8) 0 = bs[i / 8] := by simp [List.getElem?_eq_getElem hi]
  generalize bs[i / 8] = u at *
  have hb : bitAt bs i = u.toNat.testBit (i % 8) := by unfold bitAt; rw [hu]
  rw [hb, ← bit_enc]
  unfold encB at hcell
  have e1 : ((i : Int) / 8).toNat = i / 8 := by omega
  clear hr hx hu hb
  go_enter Try.func39, Try.ntmps39
  go_wp2
  go_ret
  exact ⟨rfl, rfl⟩

theorem map_enc_get (f : List UInt8) (n : Nat) (h : n < f.length) : (f.map encB)[n]? = some (encB (f.getD n 0)) := by
  simp [List.getElem?_eq_getElem h]
def mayF (f : List UInt8) (key : ByteArray) : Bool :=
  if f.length < 2 then true
  else if f.getD (f.length - 1) 0 = 0 ∨ 12 < (f.getD (f.length - 1) 0).toNat then true
  else (List.range (f.getD (f.length - 1) 0).toNat).all fun j => bitAt f (place (hash key.data.toList) (8 * (f.length - 1) : Nat) j).toNat

theorem places_ask (f : List UInt8) (key : ByteArray) (p n c cp : Nat) (ad : Addr) (W : World) (hs : key.size ≤ maxLen) (hp : p ≤ 12) (hn : 1 ≤ n) (hn2 : n < 99999999) (hf : f.length = n + 1)
    (hc : W.cell? ⟨c, 0, none⟩ = some (.slice (some ad) (n + 1) cp)) (hr : Reads W W.heap.size 1 (some ad) (n + 1) (f.map encB)) :
    Calls Try.prog 37 #[.string key, .int .i64 (p : Int), .int .i64 (8 * (n : Int)), .func (.func 39) #[] #[.pointer (some ⟨c, 0, none⟩)]] W
      fun e w' => e = .returned (.bool ((List.range p).all fun j => bitAt f (place (hash key.data.toList) (8 * n : Nat) j).toNat)) ∧ W = w' := by
  have e0 : 8 * (n : Int) = ((8 * n : Nat) : Int) := by omega
  rw [e0]
  refine (places_calls key p (8 * n : Nat) 39 #[.pointer (some ⟨c, 0, none⟩)] W (fun j wr => W = wr ∧ ∀ i, i < j → bitAt f (place (hash key.data.toList) (8 * n : Nat) i).toNat = true)
    (fun j wr => W = wr ∧ bitAt f (place (hash key.data.toList) (8 * n : Nat) j).toNat = false) hs (by omega) (by omega) (by omega) Try.call39 ?_ ⟨rfl, fun i hi => by omega⟩).mono ?_
  · rintro j wr hj ⟨rfl, hI⟩
    have hpl := place_lt (hash key.data.toList) (8 * n : Nat) j (by omega)
    obtain ⟨i, hi⟩ : ∃ i : Nat, place (hash key.data.toList) (8 * n : Nat) j = (i : Int) := ⟨(place (hash key.data.toList) (8 * n : Nat) j).toNat, by omega⟩
    show Calls Try.prog _ #[.int .i64 (place (hash key.data.toList) (8 * n : Nat) j), .pointer (some ⟨c, 0, none⟩)] W _
    rw [hi] at hpl ⊢
    refine (ask_calls i c (n + 1) cp ad f W (by omega) (by omega) (by omega) hc hr).mono ?_
    rintro e w' ⟨rfl, rfl⟩
    cases hbit : bitAt f i with
    | true =>
      refine .inl ⟨rfl, rfl, fun k hk => ?_⟩
      rcases Nat.lt_or_ge k j with h | h
      · exact hI k h
      · obtain rfl : k = j := by omega
        rw [hi, Int.toNat_natCast]; exact hbit
    | false => exact .inr ⟨rfl, rfl, by rw [hi, Int.toNat_natCast]; exact hbit⟩
  · rintro e w' (⟨rfl, rfl, h⟩ | ⟨rfl, j, hj, rfl, h⟩)
    · refine ⟨?_, rfl⟩
      have : ((List.range p).all fun j => bitAt f (place (hash key.data.toList) (8 * n : Nat) j).toNat) = true := by
        rw [List.all_eq_true]; intro j hj; exact h j (List.mem_range.1 hj)
      rw [this]
    · refine ⟨?_, rfl⟩
      have : ((List.range p).all fun j => bitAt f (place (hash key.data.toList) (8 * n : Nat) j).toNat) = false := by
        rw [List.all_eq_false]; exact ⟨j, List.mem_range.2 hj, by rw [h]; simp⟩
      rw [this]
set_option maxRecDepth 100000 in
set_option maxHeartbeats 400000 in
theorem may_calls (f : List UInt8) (key : ByteArray) (A : Option Addr) (cp : Nat) (w : World) (hr : Reads w w.heap.size 1 A f.length (f.map encB)) (hl : f.length < 100000000) (hs : key.size ≤ maxLen) :
    Calls Try.prog 17 #[.slice A f.length cp, .string key] w fun e w' => e = .returned (.bool (mayF f key)) ∧ Below w.heap.size w w' := by
  by_cases h1 : f.length < 2
  · have e : mayF f key = true := by unfold mayF; rw [if_pos h1]
    rw [e]
    have h3 : (f.length : Int) - 1 < 1 := by omega
    clear hr e
    go_enter Try.func17, Try.ntmps17
    go_wp2
    go_ret
    exact ⟨rfl, (Below.refl _ _).alloc (Nat.le_refl _) _⟩
  · obtain ⟨n, hn⟩ : ∃ n, f.length = n + 1 := ⟨f.length - 1, by omega⟩
    obtain ⟨ad, u, rfl, hab, hx, hcell⟩ := hr.at_ (show n < f.length by omega)
    rw [map_enc_get f n (by omega)] at hx
    obtain rfl : encB (f.getD n 0) = u := Option.some.inj hx
    have hspec : mayF f key = if f.getD n 0 = 0 ∨ 12 < (f.getD n 0).toNat then true else (List.range (f.getD n 0).toNat).all fun j => bitAt f (place (hash key.data.toList) (8 * n : Nat) j).toNat := by
      unfold mayF
      rw [if_neg h1]
      rw [show f.length - 1 = n by omega]
    rw [hspec]
    generalize f.getD n 0 = u at *
    have hcell2 : (w.alloc (.cells #[.slice (some ad) (n + 1) cp] 30)).cell? (ad.add n) = some (encB u) := by
      rw [World.cell?_alloc_lt _ _ _ (by rw [block_of_add]; exact hab)]; exact hcell
    rw [hn] at hr ⊢
    have HR := Lib.hid hr
    have HN := Lib.hid hn
    have h3 : 1 ≤ n := by omega
    unfold encB at hcell2
    clear hspec hx hcell hr h1
    have hn2 : n < 99999999 := by omega
    by_cases hz : u = 0
    · rw [if_pos (.inl hz)]
      subst hz
      have hz2 : ((UInt8.toNat 0 : Int) == 0) = true := rfl
      clear hn hl
      go_enter Try.func17, Try.ntmps17
      go_wp2
      go_ret
      exact ⟨rfl, (Below.refl _ _).alloc (Nat.le_refl _) _⟩
    · have hz2 : ((u.toNat : Int) == 0) = false := by
        have : u.toNat ≠ 0 := fun h => hz (UInt8.toNat_inj.1 h)
        simp; omega
      by_cases hb : 12 < u.toNat
      · rw [if_pos (.inr hb)]
        clear hn hl
        go_enter Try.func17, Try.ntmps17
        go_wp2
        go_ret
        exact ⟨rfl, (Below.refl _ _).alloc (Nat.le_refl _) _⟩
      · rw [if_neg (by simp [hz, hb])]
        have hb2 : u.toNat ≤ 12 := by omega
        clear hn hl hz hb
        go_enter Try.func17, Try.ntmps17
        have hc : (w.alloc (.cells #[.slice (some ad) (n + 1) cp] 30)).cell? ⟨w.heap.size, 0, none⟩ = some (.slice (some ad) (n + 1) cp) := (Blk.new w _ _).cell 0
        have hr2 : Reads (w.alloc (.cells #[.slice (some ad) (n + 1) cp] 30)) (w.alloc (.cells #[.slice (some ad) (n + 1) cp] 30)).heap.size 1 (some ad) (n + 1) (f.map encB) := (HR.out.alloc (Nat.le_refl _) _).more (by simp)
        have HC := Lib.hid hc
        have HR2 := Lib.hid hr2
        clear hc hr2
        go_wp2_with (go_at_call 37; refine (places_ask f key u.toNat n w.heap.size cp ad _ hs hb2 h3 hn2 HN.out HC.out HR2.out).mono ?_; rintro e w' ⟨rfl, rfl⟩)
        go_ret
        exact ⟨rfl, (Below.refl _ _).alloc (Nat.le_refl _) _⟩
end Go.Proofs.Ytjlmcidmcdiklaa
