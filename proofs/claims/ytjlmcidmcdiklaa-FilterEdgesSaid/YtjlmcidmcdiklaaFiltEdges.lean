/- The statement FilterEdges: its walk, over the contracts of the functions that it calls. -/
import Derived.Test.YtjlmcidmcdiklaaFiltHas
set_option linter.unusedVariables false
set_option linter.unusedSimpArgs false
namespace Go.Proofs.Ytjlmcidmcdiklaa
open Go.RowKit
attribute [local go_sem] frombits_run bits_run

theorem nextafter_calls (w : World) : Calls Try.prog 19 #[.float .f64 4607182418800017408, .float .f64 0] w fun e w' => e = .returned (.float .f64 4607182418800017407) ∧ w = w' := by
  have h1 : FL.isNaNW 4607182418800017408 = false := by decide
  have h2 : FL.isNaNW 0 = false := by decide
  have h3 : (FloatKind.f64.format.order 4607182418800017408 0 == some Ordering.eq) = false := by decide
  have h4 : (FloatKind.f64.format.order 0 4607182418800017408 == some Ordering.gt) = false := by decide
  have h5 : (FloatKind.f64.format.order 4607182418800017408 0 == some Ordering.gt) = true := by decide
  go_enter Try.func19, Try.ntmps19
  go_wp2_with fail
  refine (isnan_calls _ _).mono ?_
  rintro e w' ⟨rfl, rfl⟩
  go_wp2_with fail
  refine (isnan_calls _ _).mono ?_
  rintro e w' ⟨rfl, rfl⟩
  go_wp2_with fail
  go_ret
  exact ⟨rfl, rfl⟩

theorem probesC (x : Nat) (r : Int) (w : World) (hx : x < 18446744073709551616) (h : probes x = r) : Calls Try.prog 18 #[.float .f64 x] w fun e w' => e = .returned (.int .i64 r) ∧ w = w' := by
  rw [← h]; exact probes_calls x w hx
def oneKey : List ByteArray := [⟨#[120]⟩]
theorem makeF_zero (b : Nat) (hb : b < 18446744073709551616) : ((makeF oneKey b).length = 0) ↔ probes b = 0 := by
  constructor
  · intro h
    by_cases h0 : probes b = 0
    · exact h0
    · rw [makeF_length _ _ h0] at h; omega
  · intro h; unfold makeF; rw [if_pos h]; rfl
theorem makeX_calls (b : Nat) (ad : Addr) (c : Nat) (w : World) (hb : b < 18446744073709551616) (hbk : ad.block < w.heap.size) (hc : w.cell? ad = some (.string ⟨#[120]⟩)) :
    Calls Try.prog 16 #[.slice (some ad) 1 c, .float .f64 b] w fun e w' => ∃ A c L, e = .returned (.slice A L c) ∧ (L = 0 ↔ probes b = 0) ∧ Below w.heap.size w w' := by
  refine (make_calls oneKey (some ad) c b w hb ⟨rfl, fun _ => ⟨ad, rfl, hbk, fun j u hu => ?_⟩⟩ (by decide) (fun k hk => ?_)).mono ?_
  · match j, hu with
    | 0, hu => 
      obtain rfl : Value.string ⟨#[120]⟩ = u := by simpa [oneKey] using hu
      exact hc
    | j + 1, hu => simp [oneKey] at hu
  · obtain rfl : k = ⟨#[120]⟩ := by simpa [oneKey] using hk
    show 1 ≤ maxLen
    unfold maxLen; omega
  · rintro e w' ⟨v, rfl, h1, h2⟩
    obtain ⟨A2, c2, rfl, _⟩ := h1.reads
    exact ⟨A2, c2, _, rfl, makeF_zero b hb, h2⟩

set_option maxRecDepth 100000 in
theorem probes_nan : probes 9221120237041090561 = 0 := by decide
theorem probes_mzero : probes 9223372036854775808 = 0 := by decide
theorem probes_minf : probes 18442240474082181120 = 0 := by decide
theorem probes_one : probes 4607182418800017408 = 1 := by decide
theorem probes_below : probes 4607182418800017407 = 0 := by decide
theorem probes_big : probes 9094988921128908188 = 12 := by decide +kernel

set_option maxRecDepth 100000 in
set_option maxHeartbeats 2000000 in
theorem edges_case (a b : Nat) (w : World) (x1 x2 : Bool) (ha : a < 18446744073709551616) (hb : b < 18446744073709551616) (h1 : (FloatKind.f64.format.order a b == some Ordering.lt) = x1) (h2 : (FloatKind.f64.format.order a b == some Ordering.eq) = x2) (hmono : (x1 || x2) = true → probes a ≤ probes b) :
    Calls Try.prog 4 #[.float .f64 a, .float .f64 b] w fun e w' => e = .returned (.bool true) ∧ Below w.heap.size w w' := by
  have hpa := probes_bd a
  obtain ⟨p, hp⟩ : ∃ p, probes a = p := ⟨_, rfl⟩
  obtain ⟨q, hq⟩ : ∃ q, probes b = q := ⟨_, rfl⟩
  rw [hp] at hpa hmono
  rw [hq] at hmono
  have HP := Lib.hid hp
  have HQ := Lib.hid hq
  clear hp hq
  cases x1 <;> cases x2 <;> simp only [Bool.or_true, Bool.or_false, Bool.true_or, Bool.false_or, forall_const, reduceCtorEq, false_implies] at hmono
  all_goals
    go_enter Try.func4, Try.ntmps4
    go_wp2_with fail
    refine (probesC a p _ ha HP.out).mono ?_
    rintro e w' ⟨rfl, rfl⟩
    go_wp2_with fail
    refine (probesC b q _ hb HQ.out).mono ?_
    rintro e w' ⟨rfl, rfl⟩
    go_wp2_with fail
    refine (nan_calls _).mono ?_
    rintro e w' ⟨rfl, rfl⟩
    go_wp2_with fail
    refine (probesC _ _ _ (by omega) probes_nan).mono ?_
    rintro e w' ⟨rfl, rfl⟩
    go_wp2_with fail
    refine (copysign_calls _).mono ?_
    rintro e w' ⟨rfl, rfl⟩
    go_wp2_with fail
    refine (probesC _ _ _ (by omega) probes_mzero).mono ?_
    rintro e w' ⟨rfl, rfl⟩
    go_wp2_with fail
    refine (neginf_calls _).mono ?_
    rintro e w' ⟨rfl, rfl⟩
    go_wp2_with fail
    refine (probesC _ _ _ (by omega) probes_minf).mono ?_
    rintro e w' ⟨rfl, rfl⟩
    go_wp2_with fail
    refine (probesC _ _ _ (by omega) probes_one).mono ?_
    rintro e w' ⟨rfl, rfl⟩
    go_wp2_with fail
    refine (nextafter_calls _).mono ?_
    rintro e w' ⟨rfl, rfl⟩
    go_wp2_with fail
    refine (probesC _ _ _ (by omega) probes_below).mono ?_
    rintro e w' ⟨rfl, rfl⟩
    go_wp2_with fail
    refine (probesC _ _ _ (by omega) probes_big).mono ?_
    rintro e w' ⟨rfl, rfl⟩
    go_wp2_with fail
    refine (makeX_calls a _ _ _ ha (by simp) ((Blk.new w _ _).cell 0)).mono ?_
    rintro e w' ⟨A, c, L, rfl, hL, hbw⟩
    have hLp : ((L : Int) == 0) = (p == 0) := by
      rw [HP.out] at hL
      rw [Bool.eq_iff_iff]; simp; omega
    have HB := Lib.hid hbw
    clear hL hbw
    go_wp2_with fail
    refine (awake11_calls _).mono ?_
    rintro e w' ⟨rfl, rfl⟩
    go_wp2_with fail
    go_ret
    exact ⟨rfl, ((Below.refl _ _).alloc (Nat.le_refl _) _).trans (HB.out.mono (by simp))⟩
theorem edges_calls (a b : Nat) (w : World) (ha : a < 18446744073709551616) (hb : b < 18446744073709551616) :
    Calls Try.prog 4 #[.float .f64 a, .float .f64 b] w fun e w' => e = .returned (.bool true) ∧ Below w.heap.size w w' := by
  refine edges_case a b w _ _ ha hb rfl rfl fun h => probes_mono a b ha hb ?_
  rw [Bool.or_eq_true] at h
  rcases h with h | h
  · exact .inl (eq_of_beq h)
  · exact .inr (eq_of_beq h)
end Go.Proofs.Ytjlmcidmcdiklaa
