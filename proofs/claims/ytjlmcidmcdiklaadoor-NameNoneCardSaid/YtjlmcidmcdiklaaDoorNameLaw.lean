/- The statement NameAll: its walk. -/
import Derived.Test.YtjlmcidmcdiklaaDoorNameC
set_option linter.unusedVariables false
set_option linter.unusedSimpArgs false
namespace Go.Proofs.YtjlmcidmcdiklaaDoor
open Go.RowKit

theorem far312 : textL 7 3 12 = [102, 97, 114, 45, 51, 45, 49, 50] := by
  have h := text_far 3 12 (by omega) (by omega)
  have e : textL 7 3 12 = textL 7 (3 : Nat) (12 : Nat) := rfl
  rw [e, h, Lib.decDigits_one (by omega), Lib.decDigits_two (by omega) (by omega)]
  rfl
theorem awake19_calls (w : World) (hL : Laid w) : Calls Tryd.prog 6 #[] w fun e w' => e = .returned (.bool true) ∧ Below w.heap.size w w' := by
  have HL := Lib.hid hL
  clear hL
  go_enter Tryd.func6, Tryd.ntmps6
  go_wp2_with fail
  refine (text_calls 7 3 12 _ (by omega) (by omega) HL.out).mono ?_
  rintro e w1 ⟨rfl, hb1⟩
  rw [far312]
  have HB1 := Lib.hid hb1
  clear hb1
  go_wp2_with fail
  go_ret
  exact ⟨rfl, HB1.out⟩

set_option maxRecDepth 100000 in
set_option maxHeartbeats 1000000 in
theorem all_calls (k e n : Int) (s : ByteArray) (w : World) (he : -9223372036854775808 ≤ e ∧ e ≤ 9223372036854775807) (hn : -9223372036854775808 ≤ n ∧ n ≤ 9223372036854775807) (hL : Laid w) :
    Calls Tryd.prog 3 #[.int .i64 k, .int .i64 e, .int .i64 n, .string s] w fun e' w' => e' = .returned (.bool true) ∧ Below w.heap.size w w' := by
  have HL := Lib.hid hL
  clear hL
  by_cases h200 : 200 < s.size
  · go_enter Tryd.func3, Tryd.ntmps3
    go_wp2_with fail
    refine (awake19_calls _ HL.out).mono ?_
    rintro e w1 ⟨rfl, hb1⟩
    have HB1 := Lib.hid hb1
    clear hb1
    go_wp2_with fail
    go_ret
    exact ⟨rfl, HB1.out⟩
  · have hrr := read_ref s.data.toList
    obtain ⟨a, b, c, habc⟩ : ∃ a b c, readL s.data.toList = (a, b, c) := ⟨_, _, _, rfl⟩
    rw [habc] at hrr
    have hrd : ∀ w, Laid w → Calls Tryd.prog 7 #[.string s] w fun e w' => e = .returned (.tuple #[.int .i64 a, .int .i64 b, .int .i64 c]) ∧ Below w.heap.size w w' := fun w hL => by
      have := read_calls s w (by omega) hL
      rw [habc] at this; exact this
    have hrf : ∀ w, Calls Tryd.prog 8 #[.string s] w fun e w' => e = .returned (.tuple #[.int .i64 a, .int .i64 b, .int .i64 c]) ∧ Below w.heap.size w w' := fun w => by
      have := refread_calls s w (by omega)
      rw [← hrr] at this; exact this
    have HRD := Lib.hid hrd
    have HRF := Lib.hid hrf
    clear hrd hrf hrr habc
    go_enter Tryd.func3, Tryd.ntmps3
    go_wp2_with fail
    refine (HRD.out _ HL.out).mono ?_
    rintro e' w1 ⟨rfl, hb1⟩
    have HB1 := Lib.hid hb1
    clear hb1
    go_wp2_with fail
    refine (HRF.out _).mono ?_
    rintro e' w2 ⟨rfl, hb2⟩
    have HB2 := Lib.hid (HB1.out.trans (hb2.mono HB1.out.size))
    clear hb2
    go_wp2_with fail
    refine (text_calls k e n _ he hn (HL.out.below HB2.out)).mono ?_
    rintro e' w3 ⟨rfl, hb3⟩
    have HB3 := Lib.hid (HB2.out.trans (hb3.mono HB2.out.size))
    clear hb3
    go_wp2_with fail
    refine (name_calls k e n _).mono ?_
    rintro e' w4 ⟨rfl, hb4⟩
    have HB4 := Lib.hid (HB3.out.trans (hb4.mono HB3.out.size))
    clear hb4
    go_wp2_with fail
    refine (awake19_calls _ (HL.out.below HB4.out)).mono ?_
    rintro e' w5 ⟨rfl, hb5⟩
    have HB5 := Lib.hid (HB4.out.trans (hb5.mono HB4.out.size))
    clear hb5
    go_wp2_with fail
    go_ret
    exact ⟨rfl, HB5.out⟩
end Go.Proofs.YtjlmcidmcdiklaaDoor
