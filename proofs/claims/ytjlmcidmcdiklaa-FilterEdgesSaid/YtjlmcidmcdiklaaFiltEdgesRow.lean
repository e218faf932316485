/- Whatever two numbers of bits: the filter asks nothing where they are no number or below one, at most twelve bits, and more bits ask no less, so the law FilterEdges answers true. No condition. -/
import Derived.Test.YtjlmcidmcdiklaaRow
import Derived.Test.YtjlmcidmcdiklaaFiltEdges
set_option linter.unusedVariables false
set_option linter.unusedSimpArgs false
namespace Go.Proofs.Ytjlmcidmcdiklaa
open Go.RowKit Go.WideShapes Go.ChangeShapes Go.ChangeAt

set_option maxRecDepth 100000 in
theorem filterEdges_lifted (os : Os) (started : os.Started) (H : Type) (enc : TypeId × Value → H) :
    ReturnsInHanded {} Try.checked os 4 .any (Rows.filterEdgesSpec.pre6 enc Try.prog Try.f4 Rows.filterEdgesRow.domain false) (Rows.filterEdgesSpec.post enc Try.prog Try.f4 false true false false) := by
  refine returnsInHanded_of_change_sized (C := Try.checked) own started (by kernel_rfl) Try.func4
    (ChangeSpec.witness6 (enc := enc) (C := Try.checked) false ⟨#[], #[.float .f64 0, .float .f64 0], []⟩ 8 (by kernel_rfl) (by kernel_rfl) (by kernel_rfl) (by kernel_rfl)) ?_
  intro W base args ds gs before hval0 hW _ hsz0 _
  have hval : ∀ (j : Nat) t v, Try.f4.params[j]? = some t → args[j]? = some v → Value.okWide Try.prog W .any base t v := hval0
  have hW' := hW
  have hlt : ∀ x ∈ before, x.block < W.heap.size := fun x hx => hW'.lt x hx
  obtain ⟨p, q, hA0, hV, rfl, _, _⟩ := hW
  have hA : DataW.TrodAll enc Try.prog W 0 (fun _ => true) true Try.f4.params.toList args.toList ds p := hA0
  rw [Try.params4] at hA hval
  obtain ⟨v0, vs0, d0, ds0, p0, q0, hargs0, rfl, rfl, h0, r0⟩ := trodAll_cons hA
  obtain ⟨v1, vs1, d1, ds1, p1, q1, hargs1, rfl, rfl, h1, r1⟩ := trodAll_cons r0
  obtain ⟨rfl, rfl, rfl⟩ := trodAll_nil r1
  obtain rfl : args = #[v0, v1] := by cases args; simp_all
  obtain ⟨rfl, rfl⟩ := trodVars_none hV
  obtain ⟨b0, rfl, rfl, rfl, hb0⟩ := open_float Try.underlying23 (hval 0 _ _ rfl rfl) h0
  have hc0 : b0 < 18446744073709551616 := by simpa [Lit.wf] using hb0
  obtain ⟨b1, rfl, rfl, rfl, hb1⟩ := open_float Try.underlying23 (hval 1 _ _ rfl rfl) h1
  have hc1 : b1 < 18446744073709551616 := by simpa [Lit.wf] using hb1
  have hres : Rows.filterEdgesSpec.fn H ([.lit (.float .f64 b0), .lit (.float .f64 b1)] ++ []) = { results := [.lit (.bool true)], args := [.lit (.float .f64 b0), .lit (.float .f64 b1)] } := rfl
  refine (edges_calls b0 b1 W hc0 hc1).mono fun e W' ⟨he, hbw⟩ => ?_
  subst he
  exact ⟨_, rfl, law_fin hW' rfl (by rw [hres]) (by rw [hres]) (by rw [hres]) (by kernel_rfl) rfl hbw⟩

theorem filterEdges_holds : Rows.FilterEdgesSaid :=
  OpenClaim.holds_of_wide 4 Try.f4 rfl rfl rfl rfl rfl rfl rfl ⟨rfl, rfl, rfl, rfl, rfl⟩ rfl rfl rfl rfl rfl (by kernel_rfl) Try.func4 (by kernel_rfl)
    (of_decide_eq_true (by kernel_rfl)) (by unfold Func.isWrapper; first | (rw [if_pos (by decide +kernel)]; kernel_rfl) | (rw [if_neg (by decide +kernel)]; exact ⟨rfl, rfl⟩))
    (fun os started H enc _ => filterEdges_lifted os started H enc)
end Go.Proofs.Ytjlmcidmcdiklaa
