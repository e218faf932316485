/- RefsAll, its hypotheses one by one. -/
import Derived.Test.YtpdbdobckjolkaaDoorRefAll
set_option linter.unusedVariables false
namespace Go.Proofs.YtpdbdobckjolkaaDoor
open Go.RowKit
theorem refsAll_walk (ns : List UInt8) (A0 : Option Addr) (c0 : Nat) (ms : List UInt8) (A1 : Option Addr) (c1 : Nat) (list : ByteArray) (num : Int) (s : ByteArray) (names : List ByteArray) (A5 : Option Addr) (c5 : Nat) (log : Int) (w : World)
    (r0 : Reads w w.heap.size 1 A0 ns.length (ns.map encB)) (l0 : ns.length ≤ maxLen) (r1 : Reads w w.heap.size 1 A1 ms.length (ms.map encB)) (l1 : ms.length ≤ maxLen)
    (hnum : -9223372036854775808 ≤ num ∧ num ≤ 9223372036854775807) (r5 : Reads w w.heap.size 1 A5 names.length (textsV names)) (l5 : names.length ≤ maxLen) (hlog : -9223372036854775808 ≤ log ∧ log ≤ 9223372036854775807) (hL : Laid w) :
    Calls Tryd.prog 3 #[.slice A0 ns.length c0, .slice A1 ms.length c1, .string list, .int .i64 num, .string s, .slice A5 names.length c5, .int .i64 log] w fun e w' => e = .returned (.bool true) ∧ Below w.heap.size w w' :=
  refsAll_calls ns A0 c0 ms A1 c1 list num s names A5 c5 log w ⟨r0, by unfold maxLen at l0; omega, r1, by unfold maxLen at l1; omega, r5, by unfold maxLen at l5; omega⟩ hnum hL
end Go.Proofs.YtpdbdobckjolkaaDoor
