/- Names of files and objects in plain words: what the program's text makes of a kind and numbers, and what it reads of a text. No program in it. -/
import Derived.Lib.ItoaNum
import Derived.Lib.AtoiAll
import Derived.Lib.Strings
import Derived.Lib.IndexMore
set_option linter.unusedVariables false
set_option linter.unusedSimpArgs false
namespace Go.Proofs.YtpdbdobckjolkaaDoor
open Go

def headL (k : Int) : List UInt8 :=
  if k = 1 then [108, 111, 103, 45] else if k = 2 then [116, 97, 98, 108, 101, 45] else if k = 3 then [108, 105, 115, 116, 45] else if k = 8 then [109, 97, 114, 107, 45] else if k = 7 then [102, 97, 114, 45] else []
def wholeL (k : Int) : List UInt8 :=
  if k = 4 then [99, 117, 114, 114, 101, 110, 116] else if k = 5 then [116, 101, 109, 112] else if k = 6 then [99, 97, 99, 104, 101] else []
def mayN (n : Int) : Bool := decide (0 ≤ n) && decide (n ≤ 9007199254740992)
def textL (k e n : Int) : List UInt8 :=
  if headL k = [] then wholeL k else if mayN n = false then [] else if k ≠ 7 then headL k ++ Lib.itoa n else if mayN e = false then [] else headL k ++ Lib.itoa e ++ [45] ++ Lib.itoa n
def numV (s : List UInt8) : Int := match Lib.atoiAll s with
  | .ok v => v
  | .range => Lib.atoiSat s
  | _ => 0
def numB (s : List UInt8) : Bool := match Lib.atoiAll s with
  | .ok v => mayN v && (Lib.itoa v == s)
  | _ => false
def readKs (s : List UInt8) : List Int → Int × Int × Int
  | [] => (0, 0, 0)
  | k :: ks =>
    if s ≠ [] ∧ s = wholeL k then (k, 0, 0)
    else if Lib.hasPrefix s (headL k) = false ∨ headL k = [] then readKs s ks
    else if k = 7 then
      let c := Lib.cut (s.drop (headL k).length) [45]
      if c.2.2 = true ∧ numB c.1 = true ∧ numB c.2.1 = true then (k, numV c.1, numV c.2.1) else (0, 0, 0)
    else if numB (s.drop (headL k).length) = true then (k, 0, numV (s.drop (headL k).length)) else (0, 0, 0)
def kindsFrom (k : Nat) : List Int := ((List.range (9 - k)).map fun i => ((k + i : Nat) : Int))
theorem kindsFrom_cons (k : Nat) (h : k < 9) : kindsFrom k = (k : Int) :: kindsFrom (k + 1) := by
  unfold kindsFrom
  rw [show 9 - k = (9 - (k + 1)) + 1 by omega, List.range_succ_eq_map, List.map_cons, List.map_map]
  congr 1
  apply List.map_congr_left
  intro i _
  show ((k + (i + 1) : Nat) : Int) = ((k + 1 + i : Nat) : Int)
  congr 1; omega
theorem kindsFrom_nine : kindsFrom 9 = [] := rfl
def readL (s : List UInt8) : Int × Int × Int := readKs s (kindsFrom 1)
end Go.Proofs.YtpdbdobckjolkaaDoor
