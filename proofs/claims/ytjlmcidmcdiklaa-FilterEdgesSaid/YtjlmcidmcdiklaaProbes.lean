/- The filter's number of probes: what the floating-point calls answer, and that it lies between 0 and 12 and rises with the bits. -/
import Derived.Test.YtjlmcidmcdiklaaKit
import Derived.Test.YtjlmcidmcdiklaaFloat
import Derived.Test.YtjlmcidmcdiklaaProg
import Derived.Laws.FloatArith
set_option linter.unusedVariables false
set_option linter.unusedSimpArgs false
namespace Go.Proofs.Ytjlmcidmcdiklaa
open Go.RowKit

theorem frombits_run (n : Int) (w : World) : (callFunc 34 #[.int .u64 n]).run Try.prog w = .ok (.value (.float .f64 n.toNat)) w := by
  rw [run_callFunc_extern Try.func34 (by kernel_rfl) rfl rfl rfl]; rfl
theorem bits_run (n : Nat) (w : World) : (callFunc 35 #[.float .f64 n]).run Try.prog w = .ok (.value (.int .u64 n)) w := by
  rw [run_callFunc_extern Try.func35 (by kernel_rfl) rfl rfl rfl]; rfl
def NotNaN (x : Nat) : Prop := FL.isNaNW x = false
theorem toIntegral_run (name : String) (x : Nat) (w : World) (h : FL.isNaNW x = false) : (Extern.MathFloor.toIntegral name .down #[.float .f64 x]).run Try.prog w = .ok (.float .f64 (FL.floorW x)) w := by
  have e : ∀ d, FL.D.read x = d → FloatKind.f64.decode x = d := fun _ h => h
  unfold FL.floorW
  rcases hd : FL.D.read x with ⟨s, m, p⟩ | s | ⟨s, t⟩
  · change Sem.run _ (Extern.MathFloor.toIntegral.match_1 (fun _ => Sem Value) (FloatKind.f64.decode x) _ _) w = _
    rw [e _ hd]
    rfl
  · change Sem.run _ (Extern.MathFloor.toIntegral.match_1 (fun _ => Sem Value) (FloatKind.f64.decode x) _ _) w = _
    rw [e _ hd]
    rfl
  · exfalso
    unfold FL.isNaNW Ieee.Format.order at h
    rw [hd] at h
    simp [Ieee.Datum.order] at h
theorem floor_run (x : Nat) (w : World) (h : FL.isNaNW x = false) : (callFunc 59 #[.float .f64 x]).run Try.prog w = .ok (.value (.float .f64 (FL.floorW x))) w := by
  rw [run_callFunc_extern Try.func59 (by kernel_rfl) rfl rfl rfl, toIntegral_run _ _ _ h]; rfl
attribute [local go_sem] frombits_run bits_run

theorem nan_calls (w : World) : Calls Try.prog 13 #[] w fun e w' => e = .returned (.float .f64 9221120237041090561) ∧ w = w' := by
  go_enter Try.func13, Try.ntmps13
  go_wp2
  go_ret
  exact ⟨rfl, rfl⟩
theorem inf_calls (w : World) : Calls Try.prog 14 #[.int .i64 1] w fun e w' => e = .returned (.float .f64 9218868437227405312) ∧ w = w' := by
  go_enter Try.func14, Try.ntmps14
  go_wp2
  go_ret
  exact ⟨rfl, rfl⟩
theorem neginf_calls (w : World) : Calls Try.prog 14 #[.int .i64 (-1)] w fun e w' => e = .returned (.float .f64 18442240474082181120) ∧ w = w' := by
  go_enter Try.func14, Try.ntmps14
  go_wp2
  go_ret
  exact ⟨rfl, rfl⟩
theorem copysign_calls (w : World) : Calls Try.prog 15 #[.float .f64 0, .float .f64 13830554455654793216] w fun e w' => e = .returned (.float .f64 9223372036854775808) ∧ w = w' := by
  have h1 : bits BinOp.andNot IntKind.u64 0 9223372036854775808 = 0 := by decide
  have h2 : bits BinOp.and IntKind.u64 13830554455654793216 9223372036854775808 = 9223372036854775808 := by decide
  have h3 : bits BinOp.or IntKind.u64 0 9223372036854775808 = 9223372036854775808 := by decide
  go_enter Try.func15, Try.ntmps15
  go_wp2
  go_ret
  exact ⟨rfl, rfl⟩
theorem isnan_calls (x : Nat) (w : World) : Calls Try.prog 40 #[.float .f64 x] w fun e w' => e = .returned (.bool (FL.isNaNW x)) ∧ w = w' := by
  go_enter Try.func40, Try.ntmps40
  go_wp2
  go_ret
  exact ⟨rfl, rfl⟩
def isInfW (x : Nat) : Bool := FL.D.order x 9218868437227405311 == some .gt
theorem isinf_calls (x : Nat) (w : World) : Calls Try.prog 41 #[.float .f64 x, .int .i64 1] w fun e w' => e = .returned (.bool (isInfW x)) ∧ w = w' := by
  go_enter Try.func41, Try.ntmps41
  go_wp2
  go_ret
  exact ⟨rfl, rfl⟩
theorem floor_calls (x : Nat) (w : World) (h : FL.isNaNW x = false) : Calls Try.prog 36 #[.float .f64 x] w fun e w' => e = .returned (.float .f64 (FL.floorW x)) ∧ w = w' := by
  have hf := fun w => floor_run x w h
  clear h
  go_enter Try.func36, Try.ntmps36
  go_wp2
  go_ret
  exact ⟨rfl, rfl⟩

/-! min, max, product, cutting -/
theorem min_float_run (ts : Array TypeId) (t : TypeId) (x y : Nat) (w : World) (hx : x ≤ 9218868437227405312) (hy : y ≤ 9218868437227405312) :
    (Builtin.min_ ts t #[.float .f64 x, .float .f64 y]).run Try.prog w = .ok (.float .f64 (min x y)) w := by
  have h := FL.order_pos x y hx hy
  have e : FloatKind.f64.format = FL.D := rfl
  rcases Nat.lt_trichotomy x y with h1 | h1 | h1
  · rw [Nat.compare_eq_lt.2 h1] at h
    rw [Nat.min_eq_left (by omega)]
    simp [Builtin.min_, Builtin.min2, e, h]
  · rw [Nat.compare_eq_eq.2 h1] at h
    subst h1
    rw [Nat.min_self]
    simp [Builtin.min_, Builtin.min2, e, h]
  · rw [Nat.compare_eq_gt.2 h1] at h
    rw [Nat.min_eq_right (by omega)]
    simp [Builtin.min_, Builtin.min2, e, h]
theorem max_float_run (ts : Array TypeId) (t : TypeId) (x y : Nat) (w : World) (hx : x ≤ 9218868437227405312) (hy : y ≤ 9218868437227405312) :
    (Builtin.max_ ts t #[.float .f64 x, .float .f64 y]).run Try.prog w = .ok (.float .f64 (max x y)) w := by
  have h := FL.order_pos x y hx hy
  have e : FloatKind.f64.format = FL.D := rfl
  rcases Nat.lt_trichotomy x y with h1 | h1 | h1
  · rw [Nat.compare_eq_lt.2 h1] at h
    rw [Nat.max_eq_right (by omega)]
    simp [Builtin.max_, Builtin.max2, e, h]
  · rw [Nat.compare_eq_eq.2 h1] at h
    subst h1
    rw [Nat.max_self]
    simp [Builtin.max_, Builtin.max2, e, h]
  · rw [Nat.compare_eq_gt.2 h1] at h
    rw [Nat.max_eq_left (by omega)]
    simp [Builtin.max_, Builtin.max2, e, h]
theorem mul_float_run (t : TypeId) (x y : Nat) (w : World) (h0 : 0 < x) (hx : x < 9218868437227405312) (hy : y ≤ 9218868437227405312) :
    (binOp .mul t (.float .f64 x) (.float .f64 y)).run Try.prog w = .ok (.float .f64 (FL.mulW x y)) w :=
  run_float_arith w .mul t .f64 x y _ (FL.mul_some x y h0 hx hy).1
theorem conv_float_run (x : Nat) (w : World) (hx : x ≤ 4886405595696988160) :
    (convert 23 3 (.float .f64 x)).run Try.prog w = .ok (.int .i64 (FL.convW x)) w := by
  refine run_convert_float_int w _ _ _ _ _ _ (by kernel_rfl) (by kernel_rfl) ?_
  have h1 : (FloatKind.f64.decode x).toInt .zero = some (FL.convW x) := by
    show (FL.D.read x).toInt .zero = _
    unfold FL.convW
    rw [FL.conv_fin x (by omega)]; rfl
  have h2 : FL.convW x ≤ FL.convW 4886405595696988160 := FL.convW_mono hx (by omega)
  have h3 : FL.convW 0 ≤ FL.convW x := FL.convW_mono (Nat.zero_le _) (by omega)
  have h4 : FL.convW 4886405595696988160 = 4611686018427387904 := by decide
  have h5 : FL.convW 0 = 0 := by decide
  unfold floatToIntVal
  rw [h1]
  simp only
  rw [if_pos]
  have e1 : IntKind.i64.min = -9223372036854775808 := by decide
  have e2 : IntKind.i64.max = 9223372036854775807 := by decide
  rw [e1, e2]
  omega

def clipped (b : Nat) : Nat := max 4607182418800017408 (min 4622945017495814144 (FL.floorW (FL.mulW 4604480259023595110 b)))
def ltOne (b : Nat) : Bool := FL.D.order b 4607182418800017408 == some .lt
def probes (b : Nat) : Int := if FL.isNaNW b || ltOne b then 0 else if isInfW b then 12 else FL.convW (clipped b)
theorem clipped_bd (b : Nat) : 4607182418800017408 ≤ clipped b ∧ clipped b ≤ 4622945017495814144 := by unfold clipped; omega
theorem conv_clipped (b : Nat) : 1 ≤ FL.convW (clipped b) ∧ FL.convW (clipped b) ≤ 12 := by
  have h := clipped_bd b
  have h1 : FL.convW 4607182418800017408 = 1 := by decide
  have h2 : FL.convW 4622945017495814144 = 12 := by decide
  have h3 : FL.convW 4607182418800017408 ≤ FL.convW (clipped b) := FL.convW_mono h.1 (by omega)
  have h4 : FL.convW (clipped b) ≤ FL.convW 4622945017495814144 := FL.convW_mono h.2 (by omega)
  omega
theorem probes_bd (b : Nat) : 0 ≤ probes b ∧ probes b ≤ 12 := by
  have := conv_clipped b
  unfold probes
  split
  · omega
  · split <;> omega
theorem probes_zero (b : Nat) : probes b = 0 ↔ (FL.isNaNW b || ltOne b) = true := by
  have := conv_clipped b
  unfold probes
  split
  · simp [*]
  · split <;> simp [*] <;> omega
theorem pos_of (b : Nat) (hb : b < 18446744073709551616) (h : (FL.isNaNW b || ltOne b) = false) : b ≤ 9218868437227405312 := by
  simp only [Bool.or_eq_false_iff] at h
  refine FL.pos_of_not_lt b 4607182418800017408 hb (by omega) (by omega) h.1 ?_
  intro e
  have h2 := h.2
  unfold ltOne at h2
  rw [e] at h2
  exact absurd h2 (by decide)
theorem not_nan (x : Nat) (h : x ≤ 9218868437227405312) : FL.isNaNW x = false := by
  unfold FL.isNaNW
  rw [FL.order_pos x x h h, Nat.compare_eq_eq.2 rfl]; rfl

set_option maxHeartbeats 400000 in
theorem probes_calls (b : Nat) (w : World) (hb : b < 18446744073709551616) : Calls Try.prog 18 #[.float .f64 b] w fun e w' => e = .returned (.int .i64 (probes b)) ∧ w = w' := by
  by_cases h1 : FL.isNaNW b = true
  · have hp : probes b = 0 := (probes_zero b).2 (by rw [h1]; rfl)
    rw [hp]
    clear hp
    go_enter Try.func18, Try.ntmps18
    go_wp2_with (go_at_call 40; refine (isnan_calls _ _).mono ?_; rintro e w' ⟨rfl, rfl⟩)
    go_ret
    exact ⟨rfl, rfl⟩
  · simp only [Bool.not_eq_true] at h1
    by_cases h2 : ltOne b = true
    · have hp : probes b = 0 := (probes_zero b).2 (by rw [h2, Bool.or_true])
      rw [hp]
      clear hp
      have h3 : (FloatKind.f64.format.order b 4607182418800017408 == some Ordering.lt) = true := h2
      clear h2
      go_enter Try.func18, Try.ntmps18
      go_wp2_with (go_at_call 40; refine (isnan_calls _ _).mono ?_; rintro e w' ⟨rfl, rfl⟩)
      go_ret
      exact ⟨rfl, rfl⟩
    · simp only [Bool.not_eq_true] at h2
      have hpos := pos_of b hb (by rw [h1, h2]; rfl)
      have h3 : (FloatKind.f64.format.order b 4607182418800017408 == some Ordering.lt) = false := h2
      by_cases h4 : isInfW b = true
      · have hp : probes b = 12 := by unfold probes; simp [h1, h2, h4]
        rw [hp]
        clear hp h2
        go_enter Try.func18, Try.ntmps18
        go_wp2_with (first | (go_at_call 40; refine (isnan_calls _ _).mono ?_; rintro e w' ⟨rfl, rfl⟩) | (go_at_call 41; refine (isinf_calls _ _).mono ?_; rintro e w' ⟨rfl, rfl⟩))
        go_ret
        exact ⟨rfl, rfl⟩
      · simp only [Bool.not_eq_true] at h4
        have hp : probes b = FL.convW (clipped b) := by unfold probes; simp [h1, h2, h4]
        rw [hp]
        have hc := clipped_bd b
        have hm : ∀ t w, (binOp .mul t (.float .f64 4604480259023595110) (.float .f64 b)).run Try.prog w = .ok (.float .f64 (FL.mulW 4604480259023595110 b)) w := fun t w => mul_float_run t _ _ w (by omega) (by omega) hpos
        have hml := (FL.mul_some 4604480259023595110 b (by omega) (by omega) hpos).2
        have hfl := FL.floorW_le _ hml
        have hnn := not_nan _ hml
        have hmin : ∀ ts t w, (Builtin.min_ ts t #[.float .f64 4622945017495814144, .float .f64 (FL.floorW (FL.mulW 4604480259023595110 b))]).run Try.prog w = .ok (.float .f64 (min 4622945017495814144 (FL.floorW (FL.mulW 4604480259023595110 b)))) w := fun ts t w => min_float_run ts t _ _ w (by omega) hfl
        have hmax : ∀ ts t w, (Builtin.max_ ts t #[.float .f64 4607182418800017408, .float .f64 (min 4622945017495814144 (FL.floorW (FL.mulW 4604480259023595110 b)))]).run Try.prog w = .ok (.float .f64 (clipped b)) w := fun ts t w => max_float_run ts t _ _ w (by omega) (by omega)
        have hcv : ∀ w, (convert 23 3 (.float .f64 (clipped b))).run Try.prog w = .ok (.int .i64 (FL.convW (clipped b))) w := fun w => conv_float_run _ w (by omega)
        clear hp h2 hfl hml
        go_enter Try.func18, Try.ntmps18
        go_wp2_with (first | (go_at_call 40; refine (isnan_calls _ _).mono ?_; rintro e w' ⟨rfl, rfl⟩) | (go_at_call 41; refine (isinf_calls _ _).mono ?_; rintro e w' ⟨rfl, rfl⟩) | (go_at_call 36; refine (floor_calls _ _ hnn).mono ?_; rintro e w' ⟨rfl, rfl⟩))
        go_ret
        exact ⟨rfl, rfl⟩

/-- more bits ask no less -/
theorem probes_mono (a b : Nat) (ha : a < 18446744073709551616) (hb : b < 18446744073709551616) (h : FL.D.order a b = some .lt ∨ FL.D.order a b = some .eq) : probes a ≤ probes b := by
  by_cases h1 : (FL.isNaNW a || ltOne a) = true
  · have := (probes_zero a).2 h1
    have := (probes_bd b).1
    omega
  · simp only [Bool.not_eq_true] at h1
    have pa := pos_of a ha h1
    have hlt : ¬ a < 4607182418800017408 := by
      intro hlt
      have := (FL.order_lt pa (by omega : (4607182418800017408 : Nat) ≤ 9218868437227405312)).2 hlt
      simp only [Bool.or_eq_false_iff] at h1
      have h2 := h1.2
      unfold ltOne at h2
      rw [this] at h2
      exact absurd h2 (by decide)
    have pb : b ≤ 9218868437227405312 := by
      rcases Nat.lt_or_ge 9218868437227405312 b with hbig | hok
      · exfalso
        rcases FL.order_big a b (by omega) pa hbig hb with e | e <;> rw [e] at h <;> rcases h with h | h <;> cases h
      · exact hok
    have hab : a ≤ b := by
      rw [FL.order_pos a b pa pb] at h
      rcases h with h | h
      · injection h with h; have := Nat.compare_eq_lt.1 h; omega
      · injection h with h; have := Nat.compare_eq_eq.1 h; omega
    have h2 : (FL.isNaNW b || ltOne b) = false := by
      rw [not_nan b pb, Bool.false_or]
      unfold ltOne
      rw [FL.order_pos b _ pb (by omega)]
      rcases Nat.eq_or_lt_of_le (by omega : 4607182418800017408 ≤ b) with e | e
      · rw [← e]; decide
      · rw [Nat.compare_eq_gt.2 e]; rfl
    by_cases h3 : isInfW b = true
    · have e : probes b = 12 := by unfold probes; simp [h2, h3]
      rw [e]; exact (probes_bd a).2
    · simp only [Bool.not_eq_true] at h3
      have hbi : b ≤ 9218868437227405311 := by
        rcases Nat.lt_or_ge 9218868437227405311 b with hbig | hok
        · exfalso
          have := (FL.order_gt pb (by omega : (9218868437227405311 : Nat) ≤ 9218868437227405312)).2 hbig
          unfold isInfW at h3
          rw [this] at h3
          exact absurd h3 (by decide)
        · exact hok
      have h4 : isInfW a = false := by
        unfold isInfW
        rw [FL.order_pos a _ pa (by omega)]
        rcases Nat.eq_or_lt_of_le (by omega : a ≤ 9218868437227405311) with e | e
        · rw [e]; decide
        · rw [Nat.compare_eq_lt.2 e]; rfl
      have e1 : probes a = FL.convW (clipped a) := by unfold probes; simp [h1, h4]
      have e2 : probes b = FL.convW (clipped b) := by unfold probes; simp [h2, h3]
      rw [e1, e2]
      refine FL.convW_mono ?_ (by have := clipped_bd b; omega)
      have h5 := FL.floorW_mono (FL.mulW_mono 4604480259023595110 4604480259023595110 a b (by omega) (Nat.le_refl _) (by omega) hab pb) (FL.mul_some 4604480259023595110 b (by omega) (by omega) pb).2
      unfold clipped
      omega
end Go.Proofs.Ytjlmcidmcdiklaa
