/- The filter's making: the walk of the closure that sets a bit, and of the function that makes the bytes. -/
import Derived.Test.YtjlmcidmcdiklaaHash
import Derived.Test.YtjlmcidmcdiklaaProbes
import Derived.Laws.BitsAllLaws
set_option linter.unusedVariables false
set_option linter.unusedSimpArgs false
namespace Go.Proofs.Ytjlmcidmcdiklaa
open Go.RowKit

def encB (u : UInt8) : Value := .int .u8 (u.toNat : Int)
def cellsB (bs : List UInt8) : Array Value := (bs.map encB).toArray
theorem encB_one (bs : List UInt8) : ∀ u ∈ bs.map encB, u.oneCell' = true := by
  intro u hu; obtain ⟨b, _, rfl⟩ := List.mem_map.1 hu; rfl
def orBit (u : UInt8) (k : Nat) : UInt8 := UInt8.ofNat (u.toNat ||| 2 ^ k)
def setBit (bs : List UInt8) (i : Nat) : List UInt8 := bs.set (i / 8) (orBit (bs.getD (i / 8) 0) (i % 8))
theorem setBit_length (bs : List UInt8) (i : Nat) : (setBit bs i).length = bs.length := by simp [setBit]
theorem pow8_lt (k : Nat) (hk : k < 8) : 2 ^ k < 256 := Nat.pow_lt_pow_right (a := 2) (n := 8) (by omega) hk
theorem orBit_toNat (u : UInt8) (k : Nat) (hk : k < 8) : (orBit u k).toNat = u.toNat ||| 2 ^ k := by
  have h : u.toNat ||| 2 ^ k < 2 ^ 8 := Nat.or_lt_two_pow u.toNat_lt (pow8_lt k hk)
  unfold orBit
  rw [UInt8.toNat_ofNat']
  exact Nat.mod_eq_of_lt h
theorem pow_cast (k : Nat) (hk : k < 8) : ((2 : Int) ^ k % 256) = ((2 ^ k : Nat) : Int) := by
  have h1 := pow8_lt k hk
  have h2 : ((2 ^ k : Nat) : Int) = (2 : Int) ^ k := by simp
  rw [← h2]
  exact Int.emod_eq_of_lt (Int.natCast_nonneg _) (Int.ofNat_lt.2 h1)
theorem or_enc (u : UInt8) (k : Nat) (hk : k < 8) : bits BinOp.or IntKind.u8 (u.toNat : Int) (2 ^ k % 256) = ((orBit u k).toNat : Int) := by
  rw [pow_cast k hk, u8_or_nat _ _ u.toNat_lt (pow8_lt k hk), orBit_toNat u k hk]

set_option maxHeartbeats 400000 in
theorem set_calls (i c g : Nat) (bs : List UInt8) (w : World) (hi : i / 8 < bs.length) (hl : bs.length < 1000000) (hc : Blk w c 30 #[.slice (some ⟨g, 0, none⟩) bs.length bs.length]) (hg : Blk w g 5 (cellsB bs)) :
    Calls Try.prog 38 #[.int .i64 i, .pointer (some ⟨c, 0, none⟩)] w fun e w' => e = .returned (.bool true) ∧ Blk w' g 5 (cellsB (setBit bs i)) ∧ w.grownBy w' (some g) := by
  have h1 : w.cell? ⟨c, 0, none⟩ = some (.slice (some ⟨g, 0, none⟩) bs.length bs.length) := by rw [hc.cell]; rfl
  have h2 : w.cell? ⟨g, i / 8, none⟩ = some (encB (bs.getD (i / 8) 0)) := by
    rw [hg.cell]; simp [cellsB, List.getElem?_eq_getElem hi]
  have h3 : w.frozen? ⟨g, i / 8, none⟩ = false := hg.frozen _
  have e1 : ((i : Int) / 8).toNat = i / 8 := by omega
  generalize hu : bs.getD (i / 8) 0 = u at h2
  unfold encB at h2
  have HG := Lib.hid hg
  have HC := Lib.hid hc
  have HU := Lib.hid hu
  clear hg hc hu
  go_enter Try.func38, Try.ntmps38
  go_wp2
  go_region
  go_wp2
  go_ret
  refine ⟨rfl, ?_, only_drew (only_setCell (World.grownBy.refl _ _) (.inl rfl) _)⟩
  have hb := (HG.out.set_ (i / 8) (encB (orBit u (i % 8)))).drew
  rw [or_enc u (i % 8) (by omega)]
  have e2 : (cellsB bs).setIfInBounds (i / 8) (encB (orBit u (i % 8))) = cellsB (setBit bs i) := by
    unfold cellsB setBit
    rw [HU.out]; simp [List.map_set]
  rw [e2] at hb
  exact hb

/-- all places of a key, one behind the other -/
def setAll (bs : List UInt8) (h m : Int) (p : Nat) : List UInt8 := (List.range p).foldl (fun b j => setBit b (place h m j).toNat) bs
theorem setAll_succ (bs : List UInt8) (h m : Int) (p : Nat) : setAll bs h m (p + 1) = setBit (setAll bs h m p) (place h m p).toNat := by
  unfold setAll; rw [List.range_succ, List.foldl_append]; rfl
theorem setAll_length (bs : List UInt8) (h m : Int) (p : Nat) : (setAll bs h m p).length = bs.length := by
  induction p with
  | zero => rfl
  | succ p ih => rw [setAll_succ, setBit_length, ih]
def makeBits (keys : List ByteArray) (m : Int) (p : Nat) (bs : List UInt8) : List UInt8 := keys.foldl (fun b k => setAll b (hash k.data.toList) m p) bs
theorem makeBits_length (keys : List ByteArray) (m : Int) (p : Nat) (bs : List UInt8) : (makeBits keys m p bs).length = bs.length := by
  induction keys generalizing bs with
  | nil => rfl
  | cons k l ih => exact (ih _).trans (setAll_length _ _ _ _)

set_option maxHeartbeats 400000 in
theorem places_set (s : ByteArray) (p : Nat) (m8 c g : Nat) (bs : List UInt8) (w : World) (hs : s.size ≤ maxLen) (hp : p ≤ 255) (hm : 0 < m8) (hm2 : m8 < 100000) (hl : m8 < bs.length) (hl2 : bs.length < 1000000) (hcg : c ≠ g)
    (hc : Blk w c 30 #[.slice (some ⟨g, 0, none⟩) bs.length bs.length]) (hg : Blk w g 5 (cellsB bs)) :
    Calls Try.prog 37 #[.string s, .int .i64 p, .int .i64 (8 * m8 : Nat), .func (.func 38) #[] #[.pointer (some ⟨c, 0, none⟩)]] w
      fun e w' => e = .returned (.bool true) ∧ Blk w' g 5 (cellsB (setAll bs (hash s.data.toList) (8 * m8 : Nat) p)) ∧ w.grownBy w' (some g) := by
  refine (places_calls s p (8 * m8 : Nat) 38 #[.pointer (some ⟨c, 0, none⟩)] w (fun j wr => Blk wr g 5 (cellsB (setAll bs (hash s.data.toList) (8 * m8 : Nat) j)) ∧ w.grownBy wr (some g)) (fun _ _ => False) hs hp (by omega) (by omega)
    Try.call38 ?_ ⟨hg, World.grownBy.refl _ _⟩).mono ?_
  · rintro j wr hj ⟨hb, hgr⟩
    have hpl := place_lt (hash s.data.toList) (8 * m8 : Nat) j (by omega)
    obtain ⟨i, hi⟩ : ∃ i : Nat, place (hash s.data.toList) (8 * m8 : Nat) j = (i : Int) := ⟨(place (hash s.data.toList) (8 * m8 : Nat) j).toNat, by omega⟩
    have hlen := setAll_length bs (hash s.data.toList) (8 * m8 : Nat) j
    have hc' : Blk wr c 30 #[.slice (some ⟨g, 0, none⟩) bs.length bs.length] := hc.grown hgr (by simpa using hcg)
    rw [← hlen] at hc'
    show Calls Try.prog _ #[.int .i64 (place (hash s.data.toList) (8 * m8 : Nat) j), .pointer (some ⟨c, 0, none⟩)] wr _
    rw [hi]
    refine (set_calls i c g _ wr (by omega) (by omega) hc' hb).mono ?_
    rintro e w' ⟨rfl, h1, h2⟩
    refine .inl ⟨rfl, ?_, ?_⟩
    · rw [setAll_succ, hi, Int.toNat_natCast]; exact h1
    · exact ⟨h2.os.trans hgr.os, h2.tape.trans hgr.tape, h2.output.trans hgr.output, Nat.le_trans hgr.size h2.size, fun k hk hn => (h2.block k (Nat.lt_of_lt_of_le hk hgr.size) hn).trans (hgr.block k hk hn)⟩
  · rintro e w' (⟨rfl, h1, h2⟩ | ⟨_, _, _, h⟩)
    · exact ⟨rfl, h1, h2⟩
    · exact h.elim
end Go.Proofs.Ytjlmcidmcdiklaa
