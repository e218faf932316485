/- Whether a table, an edit, a version may be: the reference's answers are answers, and leave the memory as it was. -/
import Derived.Test.YtpdbdobckjolkaaDoorRefTab
set_option linter.unusedVariables false
set_option linter.unusedSimpArgs false
namespace Go.Proofs.YtpdbdobckjolkaaDoor
open Go.RowKit

/-- some answer, all that was there as it was -/
def SomeB (w : World) (e : Ending) (w' : World) : Prop := ∃ b : Bool, e = .returned (.bool b) ∧ Below w.heap.size w w'
theorem SomeB.mk' {w w' : World} {b : Bool} (h : Below w.heap.size w w') : SomeB w (.returned (.bool b)) w' := ⟨b, rfl, h⟩
def Tab.box (t : Tab) : Obj := .cells #[.int .i64 t.num, .int .i64 t.ep, .int .i64 t.lev, .string t.lo, .string t.hi, .int .i64 t.size, .int .i64 t.count, .bool t.near, .bool t.far] 36
def Tab.arg (t : Tab) : Value := .agg #[.int .i64 t.num, .int .i64 t.ep, .int .i64 t.lev, .string t.lo, .string t.hi, .int .i64 t.size, .int .i64 t.count, .bool t.near, .bool t.far]

set_option maxRecDepth 100000 in
set_option maxHeartbeats 4000000 in
theorem maytable_calls (t : Tab) (w : World) : Calls Tryd.prog 43 #[t.arg] w (SomeB w) := by
  obtain ⟨num, ep, lev, lo, hi, size, count, near, far⟩ := t
  unfold Tab.arg
  simp only
  go_enter Tryd.func43, Tryd.ntmps43
  go_wp2_with (go_at_call 23; refine (rnumber_calls _ _).mono ?_; rintro e w' ⟨rfl, rfl⟩)
  all_goals (
    go_ret
    exact ⟨_, rfl, (Below.refl _ _).alloc (Nat.le_refl _) _⟩)

set_option maxRecDepth 100000 in
set_option maxHeartbeats 2000000 in
theorem place_calls (ts : List Tab) (A : Option Addr) (c : Nat) (num : Int) (w : World) (hr : Reads w w.heap.size 9 A ts.length (tabs ts)) (hn : ts.length ≤ 1000000) :
    Calls Tryd.prog 29 #[.slice A ts.length c, .int .i64 num] w fun e w' => (∃ p : Int, e = .returned (.int .i64 p)) ∧ w = w' := by
  obtain ⟨n, hnl⟩ : ∃ n, ts.length = n := ⟨_, rfl⟩
  have HN := Lib.hid hnl
  have HR := Lib.hid hr
  rw [hnl] at hn ⊢
  clear hr hnl
  go_enter Tryd.func29, Tryd.ntmps29
  go_wp2_with fail
  go_loop [5] (fun i => ∃ k : Nat, k ≤ n ∧ i = .int .i64 k) (fun i => n - (intOf i).toNat)
  case atStart => exact ⟨0, Nat.zero_le _, rfl⟩
  case round =>
    obtain ⟨k, hk, rfl⟩ := hrel
    by_cases hlt : k < n
    · have hkl : k < ts.length := by rw [HN.out]; exact hlt
      obtain ⟨ad, rfl, hab, hT⟩ := tab_at HR.out hkl
      have t0 := hT.h0
      clear hT
      generalize ts[k] = t at t0
      rcases he : (t.num == num) with _ | _
      · go_wp2_with fail
        go_round
        case rel => exact ⟨k + 1, by omega, by go_num⟩
        case measure => simp [intOf]; omega
      · go_wp2_with fail
        go_ret
        exact ⟨⟨_, rfl⟩, rfl⟩
    · obtain rfl : k = n := by omega
      go_wp2_with fail
      go_ret
      exact ⟨⟨_, rfl⟩, rfl⟩
end Go.Proofs.YtpdbdobckjolkaaDoor
