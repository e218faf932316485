/- The walks of the check sum, of the rotation and of the filter's places: what each call answers, in plain words. -/
import Derived.Test.YtjlmcidmcdiklaaKit
import Derived.Test.YtjlmcidmcdiklaaProg
set_option linter.unusedVariables false
set_option linter.unusedSimpArgs false
namespace Go.Proofs.Ytjlmcidmcdiklaa
open Go.RowKit

def hstep (h : Int) (c : UInt8) : Int := (bits .xor .u32 h ((c.toNat : Int) % 4294967296)) * 16777619 % 4294967296
def hash (l : List UInt8) : Int := l.foldl hstep 2166136261
theorem take_snoc (s : ByteArray) (k : Nat) (h : k < s.size) : s.data.toList.take (k + 1) = s.data.toList.take k ++ [s[k]] := by
  rw [List.take_succ_eq_append_getElem (by simpa using h)]; rfl
theorem hash_snoc (s : ByteArray) (k : Nat) (h : k < s.size) : hash (s.data.toList.take (k + 1)) = (bits .xor .u32 (hash (s.data.toList.take k)) ((s[k].toNat : Int) % 4294967296)) * 16777619 % 4294967296 := by
  rw [take_snoc s k h, hash, List.foldl_append]; rfl
theorem hstep_lt (h : Int) (c : UInt8) : 0 ≤ hstep h c ∧ hstep h c < 4294967296 := by unfold hstep; omega
theorem hash_lt (l : List UInt8) : 0 ≤ hash l ∧ hash l < 4294967296 := by
  unfold hash
  have : ∀ (l : List UInt8) (h : Int), 0 ≤ h → h < 4294967296 → 0 ≤ l.foldl hstep h ∧ l.foldl hstep h < 4294967296 := by
    intro l
    induction l with
    | nil => intro h h0 h1; exact ⟨h0, h1⟩
    | cons c l ih => intro h _ _; exact ih _ (hstep_lt h c).1 (hstep_lt h c).2
  exact this l _ (by omega) (by omega)
theorem ret_int {k : IntKind} {a b : Int} (h : a = b) : Ending.returned (.int k a) = .returned (.int k b) := by rw [h]

set_option maxHeartbeats 400000 in
theorem hash_calls (s : ByteArray) (w : World) (hs : s.size ≤ maxLen) :
    Calls Try.prog 61 #[.string s] w fun e w' => e = .returned (.int .i64 (hash s.data.toList)) ∧ w = w' := by
  unfold maxLen at hs
  go_enter Try.func61, Try.ntmps61
  go_wp2
  go_loop [3, 4, 7] (fun h _ i => ∃ k : Nat, k ≤ s.size ∧ i = .int .i64 k ∧ h = .int .u32 (hash (s.data.toList.take k))) (fun _ _ i => s.size - (intOf i).toNat)
  case atStart => exact ⟨0, Nat.zero_le _, rfl, rfl⟩
  case round =>
    obtain ⟨k, hk, rfl, rfl⟩ := hrel
    by_cases hlt : k < s.size
    · go_wp2
      go_round
      case rel => exact ⟨k + 1, by omega, by go_num, by rw [hash_snoc s k hlt]⟩
      case measure => simp [intOf]; omega
    · have hl := hash_lt (s.data.toList.take k)
      go_wp2
      go_ret
      exact ⟨ret_int (by rw [List.take_of_length_le (by simp; omega)]), rfl⟩


def rot15 (h : Int) : Int := bits .or .u32 (h * 32768 % 4294967296) (h / 131072)
set_option maxHeartbeats 400000 in
theorem rot_calls (h : Int) (w : World) (h0 : 0 ≤ h) (h1 : h < 4294967296) :
    Calls Try.prog 62 #[.int .u32 h, .int .i64 (-17)] w fun e w' => e = .returned (.int .u32 (rot15 h)) ∧ w = w' := by
  have hb : bits BinOp.and IntKind.u64 (IntKind.u64.wrap (-17)) 31 = 15 := by decide
  go_enter Try.func62, Try.ntmps62
  go_wp2
  go_ret
  exact ⟨rfl, rfl⟩

set_option maxHeartbeats 400000 in

def place (h m : Int) (j : Nat) : Int := (h + (j : Int) * rot15 h) % 4294967296 % m
def PlacesPost (p : Nat) (Inv Stop : Nat → World → Prop) (e : Ending) (w' : World) : Prop :=
  (e = .returned (.bool true) ∧ Inv p w') ∨ (e = .returned (.bool false) ∧ ∃ j, j < p ∧ Stop j w')
def DoPost (j : Nat) (Inv Stop : Nat → World → Prop) (e : Ending) (w' : World) : Prop :=
  (e = .returned (.bool true) ∧ Inv (j + 1) w') ∨ (e = .returned (.bool false) ∧ Stop j w')
theorem place_lt (h m : Int) (j : Nat) (hm : 0 < m) : 0 ≤ place h m j ∧ place h m j < m :=
  ⟨Int.emod_nonneg _ (by omega), Int.emod_lt_of_pos _ hm⟩
theorem place_wrap (h m : Int) (j : Nat) (hm : 0 < m) (hm2 : m < 4294967296) : wrap64 ((h + (j : Int) * rot15 h) % 4294967296 % m) = place h m j := by
  have := place_lt h m j hm
  show wrap64 (place h m j) = _
  unfold wrap64; omega
set_option maxRecDepth 100000 in
set_option maxHeartbeats 400000 in
theorem places_calls (s : ByteArray) (p : Nat) (m : Int) (g : Nat) (lb : Array Value) (w : World) (Inv Stop : Nat → World → Prop) (hs : s.size ≤ maxLen) (hp : p ≤ 255) (hm : 0 < m) (hm2 : m < 4294967296)
    (eg : ∀ xs w, (callFunc g xs).run Try.prog w = .ok (.enter g xs) w)
    (hdo : ∀ j wr, j < p → Inv j wr → Calls Try.prog g (#[.int .i64 (place (hash s.data.toList) m j)] ++ lb) wr (DoPost j Inv Stop)) (h0 : Inv 0 w) :
    Calls Try.prog 37 #[.string s, .int .i64 p, .int .i64 m, .func (.func g) #[] lb] w (PlacesPost p Inv Stop) := by
  have Hdo := Lib.hid hdo
  have HI := Lib.hid h0
  clear hdo h0
  have hl := hash_lt s.data.toList
  go_enter Try.func37, Try.ntmps37
  go_wp2_with fail
  go_step3
  go_wp2_with (first | (go_at_call 61; refine (hash_calls _ _ hs).mono ?_; rintro e w' ⟨rfl, rfl⟩) | (go_at_call 62; refine (rot_calls _ _ (by omega) (by omega)).mono ?_; rintro e w' ⟨rfl, rfl⟩))
  go_step3
  go_wp2_with fail
  generalize hash s.data.toList = h at *
  go_loopw [8, 11, 18, 19, 20, 21, 22, 23, 24, 25, 26, 27, 28, 29, 30, 31, 32, 33] (fun _ _ i _ _ _ _ _ _ _ _ _ _ _ _ _ _ _ wr => ∃ k : Nat, k ≤ p ∧ i = .int .i64 k ∧ Inv k wr) (fun _ _ i _ _ _ _ _ _ _ _ _ _ _ _ _ _ _ _ => p - (intOf i).toNat)
  case atStart => exact ⟨0, Nat.zero_le _, rfl, HI.out⟩
  case round =>
    obtain ⟨k, hk, rfl, hI⟩ := hrel
    by_cases hlt : k < p
    · go_wp2_with fail
      rw [place_wrap h m k hm hm2]
      have HI2 := Lib.hid hI
      clear hI
      refine (Hdo.out k _ hlt HI2.out).mono ?_
      rintro e w' (⟨rfl, hI⟩ | ⟨rfl, hS⟩)
      · have HI3 := Lib.hid hI
        clear hI
        go_wp2_with fail
        go_roundw
        case rel => exact ⟨k + 1, by omega, by go_num, HI3.out⟩
        case measure => simp [intOf]; omega
      · have HS := Lib.hid hS
        clear hS
        go_wp2_with fail
        rw [Exit.noGoto_ret]
        go_ret
        exact .inr ⟨rfl, k, hlt, HS.out⟩
    · have HI2 := Lib.hid hI
      clear hI
      obtain rfl : k = p := by omega
      go_wp2_with fail
      rw [Exit.noGoto_ret]
      go_ret
      exact .inl ⟨rfl, HI2.out⟩
end Go.Proofs.Ytjlmcidmcdiklaa
