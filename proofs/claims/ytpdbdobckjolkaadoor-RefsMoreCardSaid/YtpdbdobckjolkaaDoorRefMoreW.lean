/- RefsMore, its hypotheses one by one. -/
import Derived.Test.YtpdbdobckjolkaaDoorRefMore
set_option linter.unusedVariables false
namespace Go.Proofs.YtpdbdobckjolkaaDoor
open Go.RowKit
theorem refsMore_walk (ns : List UInt8) (A0 : Option Addr) (c0 : Nat) (lg ep : Int) (w : World)
    (r0 : Reads w w.heap.size 1 A0 ns.length (ns.map encB)) (l0 : ns.length ≤ maxLen) (hlg : 0 ≤ lg ∧ lg ≤ 255) (hep : 0 ≤ ep ∧ ep ≤ 255) (hL : Laid w) :
    Calls Tryd.prog 4 #[.slice A0 ns.length c0, .int .u8 lg, .int .u8 ep] w fun e w' => e = .returned (.bool true) ∧ Below w.heap.size w w' :=
  refsMore_calls ns A0 c0 lg ep w r0 (by unfold maxLen at l0; omega) hlg hep hL
end Go.Proofs.YtpdbdobckjolkaaDoor
