/- What any versions and any mark need: the law RefsAll answers true, and its tied card holds. -/
import Derived.Test.YtpdbdobckjolkaaDoorRefDoor
import Derived.Test.YtpdbdobckjolkaaDoorRefRow
import Derived.Test.YtpdbdobckjolkaaDoorRefAllW
import Derived.SevenTiedAt
import Derived.ChangeMaps5
set_option linter.unusedVariables false
set_option linter.unusedSimpArgs false
namespace Go.Proofs.YtpdbdobckjolkaaDoor
open Go.RowKit Go.WideShapes Go.ChangeShapes Go.ChangeAt

set_option maxRecDepth 100000 in
theorem refsAll_lifted (os : Os) (started : os.Started) (H : Type) (enc : TypeId × Value → H) :
    ReturnsInHanded {} Tryd.checked os 3 .any (fun w args => (Rows.refsAllSpec.pre enc Tryd.prog Tryd.f3 [] false w args ∧ laidMetH Tryd.prog theList w) ∧ sizedMet enc Tryd.prog Tryd.f3 (OpenSpec.ofChange Rows.refsAllSpec) false w args) (Rows.refsAllSpec.post enc Tryd.prog Tryd.f3 false true false false) := by
  refine returns_laid started (by kernel_rfl) Tryd.func3
    (ChangeSpec.witness_shaped (enc := enc) (C := Tryd.checked) (os := os) (X := fun w _ => laidMetH Tryd.prog theList w) false (World.doorLaid Tryd.prog 400 os) #[.slice none 0 0, .slice none 0 0, .string ⟨#[]⟩, .int .i64 0, .string ⟨#[]⟩, .slice none 0 0, .int .i64 0] 8 rfl (World.shaped_of_RefB (by kernel_rfl) (by kernel_rfl)) (by kernel_rfl) (by kernel_rfl) (by kernel_rfl) (door_met os _)) ?_
  intro W base args ds gs before hval0 hW hL
  have hval : ∀ (j : Nat) t v, Tryd.f3.params[j]? = some t → args[j]? = some v → Value.okWide Tryd.prog W .any base t v := hval0
  have hW' := hW
  have hlt : ∀ x ∈ before, x.block < W.heap.size := fun x hx => hW'.lt x hx
  obtain ⟨p, q, hA0, hV, rfl, _, _⟩ := hW
  have hA : DataW.TrodAll enc Tryd.prog W 0 (fun _ => true) true Tryd.f3.params.toList args.toList ds p := hA0
  rw [Tryd.params3] at hA hval
  obtain ⟨v0, vs0, d0, ds0, p0, q0, hargs0, rfl, rfl, h0, r0⟩ := trodAll_cons hA
  obtain ⟨v1, vs1, d1, ds1, p1, q1, hargs1, rfl, rfl, h1, r1⟩ := trodAll_cons r0
  obtain ⟨v2, vs2, d2, ds2, p2, q2, hargs2, rfl, rfl, h2, r2⟩ := trodAll_cons r1
  obtain ⟨v3, vs3, d3, ds3, p3, q3, hargs3, rfl, rfl, h3, r3⟩ := trodAll_cons r2
  obtain ⟨v4, vs4, d4, ds4, p4, q4, hargs4, rfl, rfl, h4, r4⟩ := trodAll_cons r3
  obtain ⟨v5, vs5, d5, ds5, p5, q5, hargs5, rfl, rfl, h5, r5⟩ := trodAll_cons r4
  obtain ⟨v6, vs6, d6, ds6, p6, q6, hargs6, rfl, rfl, h6, r6⟩ := trodAll_cons r5
  obtain ⟨rfl, rfl, rfl⟩ := trodAll_nil r6
  obtain rfl : args = #[v0, v1, v2, v3, v4, v5, v6] := by cases args; simp_all
  obtain ⟨rfl, rfl⟩ := trodVars_none hV
  obtain ⟨A0, c0, bs0, rfl, hrd0, hln0⟩ := open_B Tryd.underlying22 (hval 0 _ _ rfl rfl) h0 (fun x hx => hlt x (by simp [hx]))
  obtain ⟨A1, c1, bs1, rfl, hrd1, hln1⟩ := open_B Tryd.underlying22 (hval 1 _ _ rfl rfl) h1 (fun x hx => hlt x (by simp [hx]))
  obtain ⟨s2, rfl, rfl, rfl, hs2⟩ := ChangeMaps.open_string Tryd.underlying9 (hval 2 _ _ rfl rfl) h2
  obtain ⟨n3, rfl, rfl, rfl, hw3⟩ := open_int Tryd.underlying3 (hval 3 _ _ rfl rfl) h3
  have hn3 : -9223372036854775808 ≤ n3 ∧ n3 ≤ 9223372036854775807 := by
    have := hw3
    simpa [Lit.wf, IntKind.min, IntKind.max, IntKind.signed, IntKind.bits] using this
  obtain ⟨s4, rfl, rfl, rfl, hs4⟩ := ChangeMaps.open_string Tryd.underlying9 (hval 4 _ _ rfl rfl) h4
  obtain ⟨A5, c5, ss5, rfl, hrd5, hln5⟩ := open_S Tryd.underlying23 (hval 5 _ _ rfl rfl) h5 (fun x hx => hlt x (by simp [hx]))
  obtain ⟨n6, rfl, rfl, rfl, hw6⟩ := open_int Tryd.underlying3 (hval 6 _ _ rfl rfl) h6
  have hn6 : -9223372036854775808 ≤ n6 ∧ n6 ≤ 9223372036854775807 := by
    have := hw6
    simpa [Lit.wf, IntKind.min, IntKind.max, IntKind.signed, IntKind.bits] using this
  have hres : Rows.refsAllSpec.fn H ([d0, d1, .lit (.string s2.data.toList), .lit (.int .i64 n3), .lit (.string s4.data.toList), d5, .lit (.int .i64 n6)] ++ []) = { results := [.lit (.bool true)], args := [d0, d1, .lit (.string s2.data.toList), .lit (.int .i64 n3), .lit (.string s4.data.toList), d5, .lit (.int .i64 n6)] } := rfl
  refine (refsAll_walk bs0 A0 c0 bs1 A1 c1 s2 n3 s4 ss5 A5 c5 n6 W hrd0 hln0 hrd1 hln1 hn3 hrd5 hln5 hn6 hL).mono fun e W' ⟨he, hbw⟩ => ?_
  subst he
  exact ⟨_, rfl, law_fin hW' rfl (by rw [hres]) (by rw [hres]) (by rw [hres]) (by kernel_rfl) rfl hbw⟩

theorem refsAll_holds : Rows.RefsAllSaid :=
  OpenClaim.holds_of_wide 3 Tryd.f3 rfl rfl rfl rfl rfl rfl rfl ⟨rfl, rfl, rfl, rfl, rfl⟩ rfl rfl rfl rfl rfl (by kernel_rfl) Tryd.func3 (by kernel_rfl)
    (of_decide_eq_true (by kernel_rfl)) (by unfold Func.isWrapper; first | (rw [if_pos (by decide +kernel)]; kernel_rfl) | (rw [if_neg (by decide +kernel)]; exact ⟨rfl, rfl⟩))
    (fun os started H enc _ => refsAll_lifted os started H enc)

theorem refsAllCard_holds : Rows.RefsAllCardSaid :=
  Claim7.holds_tied_plain_at .later [] [.data, .data, .data, .sentinel, .sentinel] true (true, "925d73091ce17d961ac0bd6d36362792aa6a898011a0b78cea4ac831cb411f95") true
    refsAll_holds (fun _ h => by cases h) (by kernel_rfl) (fun _ h => by cases h) refsAll_row_tie rfl ⟨rfl, rfl⟩ (by kernel_rfl) rfl
    (fun f fn hf hfn => by
      obtain rfl : f = 3 := Option.some.inj ((show Tryd.prog.funcNamed "icebox/iceboxlaw25.RefsAll" = some 3 by kernel_rfl).symm.trans hf) |>.symm
      obtain rfl : fn = Tryd.f3 := (Option.some.inj (Tryd.func3.symm.trans hfn)).symm
      exact ⟨by kernel_rfl, fun j t ht => by
        rw [Tryd.params3] at ht
        have hm : t ∈ [22, 22, 9, 3, 9, 23, 3] := by simpa using Array.mem_of_getElem? ht
        have hall : ([22, 22, 9, 3, 9, 23, 3].all fun u => !Tryd.prog.wantsStandIn u) = true := by kernel_rfl
        exact (show Tryd.prog.wantsStandIn t = false by simpa using List.all_eq_true.1 hall t hm)⟩)
    (by kernel_rfl)
end Go.Proofs.YtpdbdobckjolkaaDoor
