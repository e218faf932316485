/- The document's example of layer 25: the walk of awake. -/
import Derived.Test.YtpdbdobckjolkaaDoorRefEq
set_option linter.unusedVariables false
set_option linter.unusedSimpArgs false
namespace Go.Proofs.YtpdbdobckjolkaaDoor
open Go.RowKit Go.Sort

set_option maxRecDepth 100000 in
set_option maxHeartbeats 2000000 in
theorem awake25_calls (w : World) (hL : Laid w) : Calls Tryd.prog 5 #[] w fun e w' => e = .returned (.bool true) ∧ Below w.heap.size w w' := by
  have HN : Hid (∀ W, Laid W → Calls Tryd.prog 7 #[.agg #[.int .i64 0, .int .i64 0, .int .i64 0, .int .i64 0, .slice none 0 0], .string ⟨#[108, 105, 115, 116, 45, 49]⟩] W (PostNear W [cacheB, currentB, list1B] 0)) := Lib.hid (fun W hL => by
    have := near_calls ⟨0, 0, 0, 0, []⟩ none 0 list1B W Reads.none_ (by simp) (by simp) hL
    rw [show risB ([cacheB, currentB, list1B] ++ nearNames []) = [cacheB, currentB, list1B] from awake_list] at this
    exact this)
  have HF : Hid (∀ W, Laid W → Calls Tryd.prog 10 #[.agg #[.int .i64 0, .int .i64 0, .int .i64 0, .int .i64 0, .slice none 0 0], .agg #[.int .i64 0, .int .i64 0, .int .i64 0, .int .i64 0, .slice none 0 0], .int .i64 0] W (PostS W.heap.size W [])) := Lib.hid (fun W hL => by
    have := far_calls ⟨0, 0, 0, 0, []⟩ ⟨0, 0, 0, 0, []⟩ none none 0 0 0 W Reads.none_ Reads.none_ (by simp) (by simp) (by simp) (by simp) (by omega) hL
    rw [show risB (farNames [] ++ allNames [] ++ markName 0) = [] from risB_nil] at this
    exact this)
  have HL := Lib.hid hL
  clear hL
  go_enter Tryd.func5, Tryd.ntmps5
  go_wp2_with fail
  (with_reducible refine (HN.out w HL.out).mono ?_)
  rintro e w1 ⟨v, rfl, ho, hb⟩
  have HB1 := Lib.hid hb
  obtain ⟨A, c, rfl, hc, hr⟩ := ho.reads
  obtain ⟨ad, rfl, hab, hcell⟩ := hr.2 (by simp)
  have h2 := hcell 2 (.string list1B) rfl
  rw [show ad.add 2 = ⟨ad.block, ad.off + 2, none⟩ by unfold Addr.add; rw [if_neg (by omega)]] at h2
  have HC := Lib.hid h2
  have HAB := Lib.hid hab
  clear hb ho hr hcell h2 hab
  go_wp2_with fail
  (with_reducible refine (HF.out w1 (HL.out.below HB1.out)).mono ?_)
  rintro e w2 ⟨v2, rfl, ho2, hb2⟩
  obtain ⟨A2, c2, rfl, hc2, hr2⟩ := ho2.reads
  have h2 : w2.cell? ⟨ad.block, ad.off + 2, none⟩ = some (.string ⟨#[108, 105, 115, 116, 45, 49]⟩) := (hb2.cell (p := ⟨ad.block, ad.off + 2, none⟩) HAB.out).trans HC.out
  have HB2 := Lib.hid (HB1.out.trans (hb2.mono HB1.out.size))
  clear ho2 hr2 hb2
  go_wp2_with fail
  go_ret
  exact ⟨rfl, HB2.out⟩
end Go.Proofs.YtpdbdobckjolkaaDoor
