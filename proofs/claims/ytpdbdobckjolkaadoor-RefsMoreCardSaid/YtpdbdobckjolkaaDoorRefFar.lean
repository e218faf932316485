/- What a version and a mark need far away, as the reference tells it: its walk of Far. -/
import Derived.Test.YtpdbdobckjolkaaDoorRefNear
set_option linter.unusedVariables false
set_option linter.unusedSimpArgs false
namespace Go.Proofs.YtpdbdobckjolkaaDoor
open Go.RowKit

def farNames (ts : List Tab) : List ByteArray := (ts.filter (·.far)).map fun t => nameB 7 t.ep t.num
def allNames (ts : List Tab) : List ByteArray := ts.map fun t => nameB 7 t.ep t.num
def markName (num : Int) : List ByteArray := if 0 < num then [nameB 8 0 num] else []
theorem farNames_snoc (ts : List Tab) (k : Nat) (hk : k < ts.length) : farNames (ts.take (k + 1)) = farNames (ts.take k) ++ if ts[k].far then [nameB 7 ts[k].ep ts[k].num] else [] := by
  unfold farNames
  rw [List.take_succ_eq_append_getElem hk, List.filter_append, List.map_append]
  congr 1
  cases h : ts[k].far <;> simp [h]
theorem allNames_snoc (ts : List Tab) (k : Nat) (hk : k < ts.length) : allNames (ts.take (k + 1)) = allNames (ts.take k) ++ [nameB 7 ts[k].ep ts[k].num] := by
  unfold allNames
  rw [List.take_succ_eq_append_getElem hk, List.map_append]; rfl
theorem farNames_len (ts : List Tab) : (farNames ts).length ≤ ts.length := by unfold farNames; rw [List.length_map]; exact List.length_filter_le _ _
theorem allNames_len (ts : List Tab) : (allNames ts).length = ts.length := by unfold allNames; rw [List.length_map]
def farL (v m : Ver) (num : Int) : List ByteArray := putL [] (farNames v.ts ++ allNames m.ts ++ markName num)
theorem acc_len (ss : List ByteArray) (n : Nat) (h : ss.length ≤ n) : (putL [] ss).length ≤ n := by have := putL_len ss []; simp at this; omega
theorem RelAcc.drewN {w w1 wr : World} {acc : List ByteArray} {v : Value} (h : RelAcc w w1 acc v wr) (n : Nat) : RelAcc w w1 acc v (wr.drewN n) := ⟨h.1, below_drewN h.2.1 n, below_drewN h.2.2 n⟩
theorem RelAcc.drew {w w1 wr : World} {acc : List ByteArray} {v : Value} (h : RelAcc w w1 acc v wr) : RelAcc w w1 acc v wr.drew := h.drewN 1
theorem RelAcc.own {w w1 wr : World} {acc : List ByteArray} {v : Value} (h : RelAcc w w1 acc v wr) : OwnS wr w.heap.size v acc := h.1
theorem RelAcc.le {w w1 wr : World} {acc : List ByteArray} {v : Value} (h : RelAcc w w1 acc v wr) : w.heap.size ≤ wr.heap.size := h.2.2.size
/-- what a round of Far reads, and what it has put together so far -/
def FarAt (w w1 : World) (g : Nat) (acc : List ByteArray) (v : Value) (ad : Addr) (L c k : Nat) (t : Tab) (wr : World) : Prop :=
  wr.cell? ⟨g, 4, none⟩ = some (.slice (some ad) L c) ∧ wr.cell? (ad.add (k * 9)) = some (.int .i64 t.num) ∧ wr.cell? ⟨(ad.add (k * 9)).block, (ad.add (k * 9)).off + 1, none⟩ = some (.int .i64 t.ep) ∧ RelAcc w w1 acc v wr
theorem FarAt.own {w w1 wr : World} {g : Nat} {acc : List ByteArray} {v : Value} {ad : Addr} {L c k : Nat} {t : Tab} (h : FarAt w w1 g acc v ad L c k t wr) : OwnS wr w.heap.size v acc := h.2.2.2.1
theorem FarAt.le {w w1 wr : World} {g : Nat} {acc : List ByteArray} {v : Value} {ad : Addr} {L c k : Nat} {t : Tab} (h : FarAt w w1 g acc v ad L c k t wr) : w.heap.size ≤ wr.heap.size := h.2.2.2.2.2.size
theorem FarAt.drew {w w1 wr : World} {g : Nat} {acc : List ByteArray} {v : Value} {ad : Addr} {L c k : Nat} {t : Tab} (h : FarAt w w1 g acc v ad L c k t wr) : FarAt w w1 g acc v ad L c k t wr.drew := ⟨h.1, h.2.1, h.2.2.1, h.2.2.2.drew⟩
theorem FarAt.then {w w1 wr w2 : World} {g : Nat} {acc : List ByteArray} {v : Value} {ad : Addr} {L c k : Nat} {t : Tab} (h : FarAt w w1 g acc v ad L c k t wr) (hl : w.heap.size ≤ w1.heap.size) (hb : Below wr.heap.size wr w2) : FarAt w w1 g acc v ad L c k t w2 :=
  ⟨(hb.cell (World.block_lt_of_cell? _ _ h.1)).trans h.1, (hb.cell (World.block_lt_of_cell? _ _ h.2.1)).trans h.2.1, (hb.cell (World.block_lt_of_cell? _ _ h.2.2.1)).trans h.2.2.1, h.2.2.2.then hl hb⟩

set_option maxRecDepth 100000 in
set_option maxHeartbeats 4000000 in
theorem rfar_calls (v m : Ver) (A A2 : Option Addr) (c c2 : Nat) (num : Int) (w : World) (hr : Reads w w.heap.size 9 A v.ts.length (tabs v.ts)) (hr2 : Reads w w.heap.size 9 A2 m.ts.length (tabs m.ts)) (hn : v.ts.length ≤ 400000) (hn2 : m.ts.length ≤ 400000) :
    Calls Tryd.prog 11 #[.agg #[.int .i64 v.e, .int .i64 v.n, .int .i64 v.l, .int .i64 v.g, .slice A v.ts.length c], .agg #[.int .i64 m.e, .int .i64 m.n, .int .i64 m.l, .int .i64 m.g, .slice A2 m.ts.length c2], .int .i64 num] w (PostS w.heap.size w (farL v m num)) := by
  obtain ⟨e, n, l, g, ts⟩ := v
  obtain ⟨e2, n2, l2, g2, ts2⟩ := m
  simp only at hr hn hr2 hn2 ⊢
  obtain ⟨L, hL⟩ : ∃ L, ts.length = L := ⟨_, rfl⟩
  obtain ⟨L2, hL2⟩ : ∃ L, ts2.length = L := ⟨_, rfl⟩
  have HR := Lib.hid hr
  have HL := Lib.hid hL
  have HR2 := Lib.hid hr2
  have HL2 := Lib.hid hL2
  rw [hL] at hn ⊢
  rw [hL2] at hn2 ⊢
  clear hr hL hr2 hL2
  obtain ⟨w1, hw1⟩ : ∃ w1, (w.alloc (.cells #[.int .i64 e, .int .i64 n, .int .i64 l, .int .i64 g, .slice A L c] 27)).alloc (.cells #[.int .i64 e2, .int .i64 n2, .int .i64 l2, .int .i64 g2, .slice A2 L2 c2] 27) = w1 := ⟨_, rfl⟩
  have hblk : Blk w1 w.heap.size 27 #[.int .i64 e, .int .i64 n, .int .i64 l, .int .i64 g, .slice A L c] := by rw [← hw1]; exact (Blk.new w _ _).alloc _
  have hblk2 : Blk w1 (w.heap.size + 1) 27 #[.int .i64 e2, .int .i64 n2, .int .i64 l2, .int .i64 g2, .slice A2 L2 c2] := by
    rw [← hw1]
    have := Blk.new (w.alloc (.cells #[.int .i64 e, .int .i64 n, .int .i64 l, .int .i64 g, .slice A L c] 27)) 27 #[.int .i64 e2, .int .i64 n2, .int .i64 l2, .int .i64 g2, .slice A2 L2 c2]
    rw [World.size_alloc] at this; exact this
  have hb01 : Below w.heap.size w w1 := by rw [← hw1]; exact ((Below.refl _ _).alloc (Nat.le_refl _) _).alloc (by simp) _
  have hsz : w1.heap.size = w.heap.size + 2 := by rw [← hw1]; simp
  have HB := Lib.hid hblk
  have HB2 := Lib.hid hblk2
  have H01 := Lib.hid hb01
  have HSZ := Lib.hid hsz
  have hs0 : w.heap.size ≤ w1.heap.size := by omega
  have HW1 := Lib.hid hw1
  clear hblk hblk2 hb01 hsz hw1
  have r0 : RelAcc w w1 [] (.slice none 0 0) w1 := ⟨OwnS.nil _ _, Below.refl _ _, H01.out⟩
  have R0 := Lib.hid r0
  clear r0
  go_enter Tryd.func11, Tryd.ntmps11
  go_wp2_with fail
  rw [HW1.out]
  go_loopw [7, 8] (fun v i wr => ∃ k : Nat, k ≤ L ∧ i = .int .i64 k ∧ RelAcc w w1 (putL [] (farNames (ts.take k))) v wr) (fun _ i _ => L - (intOf i).toNat)
  case atStart => exact ⟨0, Nat.zero_le _, rfl, R0.out⟩
  case round =>
    obtain ⟨k, hk, rfl, hR⟩ := hrel
    have c4 : wr.cell? ⟨w.heap.size, 4, none⟩ = some (.slice A L c) := by rw [hR.2.1.cell (by show w.heap.size < _; rw [HSZ.out]; omega), HB.out.cell]; rfl
    have HA := Lib.hid hR
    clear hR
    by_cases hlt : k < L
    · have hkl : k < ts.length := by rw [HL.out]; exact hlt
      obtain ⟨ad, rfl, hab, hT⟩ := tab_at HR.out hkl
      have hT2 := hT.keep HA.out.2.2 (by rw [add_block]; exact hab)
      have t0 := hT2.h0
      have t1 := hT2.h1
      have t8 := hT2.h8
      have HS := Lib.hid (farNames_snoc ts k hkl)
      clear hT hT2
      generalize ts[k] = t at t0 t1 t8 HS
      cases hfar : t.far with
      | false =>
        rw [hfar] at t8
        have HS2 := Lib.hid (show farNames (ts.take (k + 1)) = farNames (ts.take k) by rw [HS.out, hfar]; simp)
        clear hfar
        go_wp2_with fail
        go_roundw
        case rel => exact ⟨k + 1, by omega, by go_num, by rw [HS2.out]; exact HA.out⟩
        case measure => simp [intOf]; omega
      | true =>
        rw [hfar] at t8
        have HS2 := Lib.hid (show farNames (ts.take (k + 1)) = farNames (ts.take k) ++ [nameB 7 t.ep t.num] by rw [HS.out, hfar]; simp)
        clear hfar
        have hlen : (putL [] (farNames (ts.take k))).length ≤ 1000000 := by
          refine acc_len _ _ (Nat.le_trans (farNames_len _) ?_)
          rw [List.length_take]; omega
        go_wp2_with fail
        have hacc := HA.out
        go_region_held3 (fun w' => w'.cell? ⟨w.heap.size, 4, none⟩ = some (.slice (some ad) L c) ∧ w'.cell? (ad.add (k * 9)) = some (.int .i64 t.num) ∧ w'.cell? ⟨(ad.add (k * 9)).block, (ad.add (k * 9)).off + 1, none⟩ = some (.int .i64 t.ep) ∧ RelAcc w w1 (putL [] (farNames (ts.take k))) u7 w')
          (first
            | (exact ⟨by assumption, by assumption, by assumption, by first | assumption | exact HA.out.drew⟩)
            | (exact FarAt.then (g := w.heap.size) (by assumption) hs0 hb5)
            | assumption
            | (exact FarAt.drew (g := w.heap.size) (by assumption)))
          (first
            | (go_at_call 14; refine (name_calls 7 t.ep t.num _).mono ?_; rintro e' w5 ⟨rfl, hb5⟩)
            | (go_at_call 19; refine (put_calls _ _ (nameB 7 t.ep t.num) w.heap.size _ (FarAt.own (w1 := w1) (g := w.heap.size) (ad := ad) (L := L) (c := c) (k := k) (t := t) (by assumption)) (FarAt.le (w1 := w1) (g := w.heap.size) (ad := ad) (L := L) (c := c) (k := k) (t := t) (v := u7) (acc := putL [] (farNames (ts.take k))) (by assumption)) hlen).mono ?_; rintro e' w6 ⟨v6, rfl, ho6, hb5⟩))
        rename_i hq
        have HA6 := Lib.hid (show RelAcc w w1 (putB (putL [] (farNames (ts.take k))) (nameB 7 t.ep t.num)) v6 w6 from ⟨ho6, hq.2.2.2.2.1, hq.2.2.2.2.2⟩)
        clear hq ho6 hb5 t0 t1 t8 c4 hacc
        go_wp2_with fail
        go_roundw
        case rel => exact ⟨k + 1, by omega, by go_num, by rw [HS2.out, putL_app]; exact HA6.out⟩
        case measure => simp [intOf]; omega
    · obtain rfl : k = L := by omega
      have htk : ts.take k = ts := List.take_of_length_le (by rw [HL.out]; exact Nat.le_refl _)
      rw [htk] at HA
      clear htk
      go_wp2_with fail
      clear c4
      go_loopw [7, 9] (fun v i wr => ∃ k2 : Nat, k2 ≤ L2 ∧ i = .int .i64 k2 ∧ RelAcc w w1 (putL [] (farNames ts ++ allNames (ts2.take k2))) v wr) (fun _ i _ => L2 - (intOf i).toNat)
      case atStart => exact ⟨0, Nat.zero_le _, rfl, by simpa [allNames] using HA.out⟩
      case round =>
        clear HA
        obtain ⟨k2, hk2, rfl, hR⟩ := hrel
        have c4 : wr.cell? ⟨w.heap.size + 1, 4, none⟩ = some (.slice A2 L2 c2) := by rw [hR.2.1.cell (by show w.heap.size + 1 < _; rw [HSZ.out]; omega), HB2.out.cell]; rfl
        have HA := Lib.hid hR
        clear hR
        by_cases hlt2 : k2 < L2
        · have hkl : k2 < ts2.length := by rw [HL2.out]; exact hlt2
          obtain ⟨ad, rfl, hab, hT⟩ := tab_at HR2.out hkl
          have hT2 := hT.keep HA.out.2.2 (by rw [add_block]; exact hab)
          have t0 := hT2.h0
          have t1 := hT2.h1
          have HS := Lib.hid (allNames_snoc ts2 k2 hkl)
          clear hT hT2
          generalize ts2[k2] = t at t0 t1 HS
          have hlen : (putL [] (farNames ts ++ allNames (ts2.take k2))).length ≤ 1000000 := by
            refine acc_len _ _ ?_
            have h1 := farNames_len ts
            rw [HL.out] at h1
            rw [List.length_append, allNames_len, List.length_take]; omega
          have hacc := HA.out
          go_wp2_with fail
          go_region_held3 (fun w' => w'.cell? ⟨w.heap.size + 1, 4, none⟩ = some (.slice (some ad) L2 c2) ∧ w'.cell? (ad.add (k2 * 9)) = some (.int .i64 t.num) ∧ w'.cell? ⟨(ad.add (k2 * 9)).block, (ad.add (k2 * 9)).off + 1, none⟩ = some (.int .i64 t.ep) ∧ RelAcc w w1 (putL [] (farNames ts ++ allNames (ts2.take k2))) u7 w')
            (first
              | (exact ⟨by assumption, by assumption, by assumption, by first | assumption | exact HA.out.drew⟩)
              | (exact FarAt.then (g := w.heap.size + 1) (by assumption) hs0 hb5)
              | assumption
              | (exact FarAt.drew (g := w.heap.size + 1) (by assumption)))
            (first
              | (go_at_call 14; refine (name_calls 7 t.ep t.num _).mono ?_; rintro e' w5 ⟨rfl, hb5⟩)
              | (go_at_call 19; refine (put_calls _ _ (nameB 7 t.ep t.num) w.heap.size _ (FarAt.own (w1 := w1) (g := w.heap.size + 1) (ad := ad) (L := L2) (c := c2) (k := k2) (t := t) (by assumption)) (FarAt.le (w1 := w1) (g := w.heap.size + 1) (ad := ad) (L := L2) (c := c2) (k := k2) (t := t) (v := u7) (acc := putL [] (farNames ts ++ allNames (ts2.take k2))) (by assumption)) hlen).mono ?_; rintro e' w6 ⟨v6, rfl, ho6, hb5⟩))
          rename_i hq
          have HA6 := Lib.hid (show RelAcc w w1 (putB (putL [] (farNames ts ++ allNames (ts2.take k2))) (nameB 7 t.ep t.num)) v6 w6 from ⟨ho6, hq.2.2.2.2.1, hq.2.2.2.2.2⟩)
          clear hq ho6 hb5 t0 t1 c4 hacc
          go_wp2_with fail
          go_roundw
          case rel => exact ⟨k2 + 1, by omega, by go_num, by rw [HS.out, ← List.append_assoc, putL_app]; exact HA6.out⟩
          case measure => simp [intOf]; omega
        · obtain rfl : k2 = L2 := by omega
          have htk : ts2.take k2 = ts2 := List.take_of_length_le (by rw [HL2.out]; exact Nat.le_refl _)
          rw [htk] at HA
          clear htk
          by_cases hnum : 0 < num
          · have HM := Lib.hid (show markName num = [nameB 8 0 num] by unfold markName; rw [if_pos hnum])
            go_wp2_with fail
            refine (name_calls 8 0 num _).mono ?_
            rintro e' w5 ⟨rfl, hb5⟩
            have HA5 := Lib.hid (HA.out.then hs0 hb5)
            clear hb5
            go_wp2_with fail
            refine (put_calls _ _ (nameB 8 0 num) w.heap.size w5 HA5.out.1 HA5.out.2.2.size (by
              refine acc_len _ _ ?_
              have h1 := farNames_len ts
              rw [HL.out] at h1
              rw [List.length_append, allNames_len, HL2.out]; omega)).mono ?_
            rintro e' w6 ⟨v6, rfl, ho6, hb6⟩
            have HA6 := Lib.hid (HA5.out.step hs0 ho6 hb6)
            clear ho6 hb6
            go_wp2_with fail
            go_ret
            refine ⟨_, rfl, ?_, HA6.out.2.2⟩
            unfold farL
            simp only
            rw [HM.out, putL_app]
            exact HA6.out.1
          · have HM := Lib.hid (show markName num = [] by unfold markName; rw [if_neg hnum])
            go_wp2_with fail
            go_ret
            refine ⟨_, rfl, ?_, HA.out.2.2⟩
            unfold farL
            simp only
            rw [HM.out, List.append_nil]
            exact HA.out.1
end Go.Proofs.YtpdbdobckjolkaaDoor
