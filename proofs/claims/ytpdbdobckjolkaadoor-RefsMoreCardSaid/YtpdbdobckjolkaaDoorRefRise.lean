/- Names in order, each once: the walk of the program's rising (sort, compact, clone). -/
import Derived.Test.YtpdbdobckjolkaaDoorRefFar
import Derived.Test.YtpdbdobckjolkaaDoorRefLaw
import Derived.Test.YtpdbdobckjolkaaDoorShelf
import Derived.Sort.OwnSorted
set_option linter.unusedVariables false
set_option linter.unusedSimpArgs false
namespace Go.Proofs.YtpdbdobckjolkaaDoor
open Go.RowKit Go.Sort

def toL (b : ByteArray) : List UInt8 := b.data.toList
def ofL (l : List UInt8) : ByteArray := ⟨l.toArray⟩
theorem ofL_toL (b : ByteArray) : ofL (toL b) = b := by unfold ofL toL; simp
theorem toL_ofL (l : List UInt8) : toL (ofL l) = l := by unfold ofL toL; simp
theorem textsV_enc (ss : List ByteArray) : textsV ss = (ss.map toL).map encStr := by
  unfold textsV
  rw [List.map_map]
  apply List.map_congr_left
  intro b _
  show Value.string b = .string (ofL (toL b))
  rw [ofL_toL]
theorem textsV_ofL (zs : List (List UInt8)) : textsV (zs.map ofL) = zs.map encStr := by
  unfold textsV
  rw [List.map_map]
  rfl
def risB (ss : List ByteArray) : List ByteArray := (risingS (ss.map toL)).map ofL
theorem risB_nil : risB [] = [] := by
  unfold risB
  rw [show risingS (([] : List ByteArray).map toL) = [] from List.eq_nil_iff_forall_not_mem.2 (fun a h => by have := (mem_risingS _ _).1 h; simp at this)]
  rfl
theorem sort_len (zs : List (List UInt8)) : (sortS zs).length = zs.length := by unfold sortS; simp
theorem compact_len (zs : List (List UInt8)) : (Lib.compact zs).length ≤ zs.length := by
  unfold Lib.compact Lib.compactUpTo
  rw [List.length_map]
  exact Nat.le_trans (List.length_filter_le _ _) (by simp)
theorem pads_len (zs : List (List UInt8)) : (Lib.compact zs ++ List.replicate (zs.length - (Lib.compact zs).length) []).length = zs.length := by
  have := compact_len zs
  rw [List.length_append, List.length_replicate]; omega
theorem getD_ofL (zs : List (List UInt8)) (j : Nat) (h : j < zs.length) : encStr zs[j] = .string ((zs.map ofL).getD j ByteArray.empty) := by
  simp [ofL, h]

set_option maxHeartbeats 1000000 in
theorem rising_calls (v : Value) (ss : List ByteArray) (base : Nat) (w : World) (ho : OwnS w base v ss) (hb : base ≤ w.heap.size) (hn : ss.length ≤ 1000000) :
    Calls Tryd.prog 18 #[v] w fun e w' => ∃ v', e = .returned v' ∧ OwnS w' base v' (risB ss) ∧ Below base w w' := by
  rcases Nat.eq_zero_or_pos ss.length with h0 | hpos
  · obtain rfl := List.eq_nil_of_length_eq_zero h0
    rw [risB_nil]
    obtain ⟨A, c, rfl, _, _⟩ := ho.reads
    have HO := Lib.hid ho
    clear ho
    cases A with
    | none =>
      go_enter Tryd.func18, Tryd.ntmps18
      go_wp2_with (first
        | (go_at_call 35; refine (Tryd.slices_Sort_string_none _ _ _).mono ?_; rintro e w' ⟨rfl, rfl⟩)
        | (go_at_call 37; refine (Tryd.slices_Compact_string_empty _ _ _).mono ?_; rintro e w' ⟨rfl, rfl⟩)
        | (go_at_call 36; refine (Tryd.slices_Clone_string_nil _ _ _).mono ?_; rintro e w' ⟨rfl, rfl⟩))
      go_ret
      exact ⟨_, rfl, OwnS.nil _ _, Below.refl _ _⟩
    | some a =>
      go_enter Tryd.func18, Tryd.ntmps18
      go_wp2_with (first
        | (go_at_call 35; refine (Tryd.slices_Sort_string_none _ _ _).mono ?_; rintro e w' ⟨rfl, rfl⟩)
        | (go_at_call 37; refine (Tryd.slices_Compact_string_empty _ _ _).mono ?_; rintro e w' ⟨rfl, rfl⟩)
        | (go_at_call 36; refine (Tryd.slices_Clone_string_zero _ _ _).mono ?_; rintro e w' ⟨v', rfl, hc1, _, hc2⟩))
      go_ret
      exact ⟨_, rfl, OwnS.le hc1 hb, hc2.mono hb⟩
  · obtain ⟨g, cap, cur, hv, hbase, hblk, h1, h2, h3, h4⟩ : ∃ g cap cur, v = .slice (some ⟨g, 0, none⟩) ss.length cap ∧ base ≤ g ∧ w.heap[g]? = some (.cells cur 9 (0, 0)) ∧ ss.length ≤ cap ∧ cap ≤ maxLen ∧ cur.size = cap * 1 ∧ cur.toList.take (ss.length * 1) = textsV ss := by
      rcases ho.2 with ⟨_, hn0⟩ | ⟨g, cap, cur, rfl, q1, q2, q3, q4, q5, q6⟩
      · omega
      · exact ⟨g, cap, cur, rfl, q1, q2, q3, q4, q5, q6⟩
    subst hv
    obtain ⟨zs, hzs⟩ : ∃ zs, ss.map toL = zs := ⟨_, rfl⟩
    have hzl : ss.length = zs.length := by rw [← hzs]; simp
    have hris : risB ss = (Lib.compact (sortS zs)).map ofL := by unfold risB risingS; rw [hzs]
    rw [textsV_enc, hzs] at h4
    rw [hris]
    rw [hzl] at h1 h4 hn hpos ⊢
    clear ho hzl hris hzs
    have hg : g < w.heap.size := (Array.getElem?_eq_some_iff.1 hblk).1
    have hH0 : Holds encStr w g 0 zs.toArray := holds_of_block hblk (by simpa using h4)
    have HH0 := Lib.hid hH0
    have HBLK := Lib.hid hblk
    have H3 := Lib.hid h3
    have H4 := Lib.hid h4
    clear hH0 hblk h3 h4
    go_enter Tryd.func18, Tryd.ntmps18
    go_wp2_with fail
    refine (Tryd.slices_Sort_string g 0 cap zs w HH0.out hg (by omega)).mono ?_
    rintro e w1 ⟨rfl, n1, os1, hw1⟩
    rw [show (zs.mergeSort fun x y => decide (x ≤ y)) = sortS zs from rfl] at hw1
    have hl1 := sort_len zs
    have o1 : w1.ownsRow base 9 1 (.slice (some ⟨g, 0, none⟩) zs.length cap) zs.length ((sortS zs).map encStr) := by
      rw [hw1]; exact ownsRow_sorted hl1 hbase HBLK.out h1 h2 H3.out
    have g1 : w.grownBy w1 (some g) := by rw [hw1]; exact grownBy_sorted _
    generalize hts : sortS zs = ts at o1 hl1
    have HTS := Lib.hid hts
    obtain ⟨q, hq, hb1, hblk1, r1, r2, r3, r4⟩ : ∃ cur1, True ∧ base ≤ g ∧ w1.heap[g]? = some (.cells cur1 9 (0, 0)) ∧ zs.length ≤ cap ∧ cap ≤ maxLen ∧ cur1.size = cap * 1 ∧ cur1.toList.take (zs.length * 1) = ts.map encStr := by
      rcases o1.2 with ⟨hnil, _⟩ | ⟨g', cap', cur1, hv, q1, q2, q3, q4, q5, q6⟩
      · cases hnil
      · injection hv with ha hb hc
        injection ha with ha
        injection ha with ha
        subst ha; subst hc
        exact ⟨cur1, trivial, q1, q2, q3, q4, q5, q6⟩
    have HH1 : Hid (Holds encStr w1 g 0 ts.toArray) := Lib.hid (holds_of_block hblk1 (by rw [hl1]; simpa using r4))
    have hb01 : Below base w w1 := below_of_grown g1 hb (fun k e => by cases e; exact hbase)
    have HB01 := Lib.hid hb01
    have HBLK1 := Lib.hid hblk1
    have R3 := Lib.hid r3
    clear hw1 o1 g1 hts hblk1 r3 r4 hb01
    rw [← hl1] at r1 hn ⊢
    clear hl1
    go_wp2_with fail
    refine (Tryd.slices_Compact_string g 0 cap ts w1 HH1.out (by omega) r1).mono ?_
    rintro e w2 ⟨rfl, n2, hw2⟩
    have hl2 := pads_len ts
    have o2 : w2.ownsRow base 9 1 (.slice (some ⟨g, 0, none⟩) ts.length cap) ts.length ((Lib.compact ts ++ List.replicate (ts.length - (Lib.compact ts).length) []).map encStr) := by
      have := ownsRow_sorted (os := #[]) (n := n2) hl2 hbase HBLK1.out r1 r2 R3.out
      rw [grow_empty] at this
      rw [hw2]; exact this
    have g2 : w1.grownBy w2 (some g) := by
      have := grownBy_sorted (w := w1) (g := g) (n := n2) (os := #[]) (Lib.compact ts ++ List.replicate (ts.length - (Lib.compact ts).length) []).toArray
      rw [grow_empty] at this
      rw [hw2]; exact this
    have hcl := compact_len ts
    have hcells : ∀ j, j < ((Lib.compact ts).map ofL).length → w2.cell? ⟨g, 0 + j, none⟩ = some (.string (((Lib.compact ts).map ofL).getD j ByteArray.empty)) := by
      intro j hj
      rw [List.length_map] at hj
      have := o2.cells (g := g) rfl j (encStr ((Lib.compact ts)[j])) (by rw [List.getElem?_map, List.getElem?_append_left hj, List.getElem?_eq_getElem hj]; rfl)
      rw [← getD_ofL _ _ hj, Nat.zero_add]
      have ha : (⟨g, 0, none⟩ : Addr).add j = ⟨g, j, none⟩ := by unfold Addr.add; split <;> simp_all
      rw [ha] at this
      exact this
    have hb02 : Below base w w2 := HB01.out.trans (below_of_grown g2 (Nat.le_trans hb HB01.out.size) (fun k e => by cases e; exact hbase))
    have HC := Lib.hid hcells
    have HB02 := Lib.hid hb02
    have hb2 : base ≤ w2.heap.size := Nat.le_trans hb hb02.size
    obtain ⟨m, hm⟩ : ∃ m, (Lib.compact ts).length = m := ⟨_, rfl⟩
    have HM := Lib.hid hm
    rw [hm] at hcl ⊢
    clear hw2 o2 g2 hl2 hcells hb02 hm
    go_wp2_with fail
    refine (Tryd.slices_Clone_string g 0 m cap ((Lib.compact ts).map ofL) w2 (by rw [List.length_map, HM.out]; exact Nat.le_refl _) (by omega) HC.out).mono ?_
    rintro e w3 ⟨v', rfl, o3, _, hb3⟩
    go_wp2_with fail
    go_ret
    refine ⟨_, rfl, ?_, HB02.out.trans (hb3.mono hb2)⟩
    rw [HTS.out]
    rw [List.take_of_length_le (by rw [List.length_map, HM.out]; exact Nat.le_refl _)] at o3
    refine OwnS.le (base := w2.heap.size) ?_ hb2
    unfold OwnS
    rw [List.length_map, HM.out]
    exact o3
end Go.Proofs.YtpdbdobckjolkaaDoor
