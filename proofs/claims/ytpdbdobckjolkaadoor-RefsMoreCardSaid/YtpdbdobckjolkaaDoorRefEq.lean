/- The names put one by one are the names sorted, each once: the program's lists and the reference's are one. -/
import Derived.Test.YtpdbdobckjolkaaDoorRefNeed
set_option linter.unusedVariables false
set_option linter.unusedSimpArgs false
namespace Go.Proofs.YtpdbdobckjolkaaDoor
open Go.RowKit Go.Sort

theorem less_iff : ∀ a b : List UInt8, Op.bytesLess a b = decide (a < b)
  | [], [] => by simp [Op.bytesLess]
  | [], b :: bs => by simp [Op.bytesLess]
  | a :: xs, [] => by simp [Op.bytesLess]
  | a :: xs, b :: bs => by
    rw [Bool.eq_iff_iff, decide_eq_true_eq, List.cons_lt_cons_iff]
    have ih := less_iff xs bs
    rw [Bool.eq_iff_iff, decide_eq_true_eq] at ih
    unfold Op.bytesLess
    simp [ih]
theorem putB_map (s : ByteArray) : ∀ ss : List ByteArray, (putB ss s).map toL = putS (ss.map toL) (toL s)
  | [] => rfl
  | x :: xs => by
    unfold putB
    rw [List.map_cons]
    unfold putS
    rw [toList_toL, toList_toL, less_iff]
    by_cases h : toL x < toL s
    · rw [if_pos (by simpa using h), if_pos h, List.map_cons, putB_map s xs]
    · rw [if_neg (by simpa using h), if_neg h]
      by_cases he : toL x = toL s
      · rw [if_pos he, if_pos he]; rfl
      · rw [if_neg he, if_neg he]; rfl
theorem putL_map (ss : List ByteArray) : ∀ acc : List ByteArray, (putL acc ss).map toL = (ss.map toL).foldl putS (acc.map toL) := by
  induction ss with
  | nil => intro acc; rfl
  | cons s ss ih =>
    intro acc
    show (putL (putB acc s) ss).map toL = _
    rw [ih, putB_map]; rfl
theorem map_back (ss : List ByteArray) : (ss.map toL).map ofL = ss := by
  rw [List.map_map, show ofL ∘ toL = id from funext fun b => ofL_toL b, List.map_id]
theorem ris_put (ss : List ByteArray) : risB ss = putL [] ss := by
  rw [← map_back (putL [] ss), putL_map]
  unfold risB
  rw [← putAll_eq]; rfl
theorem mem_risB (ss : List ByteArray) (x : ByteArray) : x ∈ risB ss ↔ x ∈ ss := by
  unfold risB
  constructor
  · intro h
    obtain ⟨l, hl, rfl⟩ := List.mem_map.1 h
    rw [mem_risingS] at hl
    obtain ⟨y, hy, rfl⟩ := List.mem_map.1 hl
    rw [ofL_toL]; exact hy
  · intro h
    exact List.mem_map.2 ⟨toL x, (mem_risingS _ _).2 (List.mem_map.2 ⟨x, h, rfl⟩), ofL_toL x⟩
abbrev list1B : ByteArray := ⟨#[108, 105, 115, 116, 45, 49]⟩
theorem awake_list : risB [cacheB, currentB, list1B] = [cacheB, currentB, list1B] := by
  have h : putAll ([cacheB, currentB, list1B].map toL) = [cacheB, currentB, list1B].map toL := by decide
  unfold risB
  rw [← putAll_eq, h, map_back]
end Go.Proofs.YtpdbdobckjolkaaDoor
