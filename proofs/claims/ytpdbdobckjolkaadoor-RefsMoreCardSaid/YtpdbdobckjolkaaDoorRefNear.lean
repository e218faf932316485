/- What a version needs near and far, as the reference tells it: its walks of Near and Far. -/
import Derived.Test.YtpdbdobckjolkaaDoorRefTab
import Derived.Test.YtpdbdobckjolkaaDoorRefVer
import Derived.Deep.RegionHeld3
set_option linter.unusedVariables false
set_option linter.unusedSimpArgs false
namespace Go.Proofs.YtpdbdobckjolkaaDoor
open Go.RowKit

theorem add_block (a : Addr) (n : Nat) : (a.add n).block = a.block := block_of_add a n
def nameB (k e n : Int) : ByteArray := ⟨(textL k e n).toArray⟩
def cacheB : ByteArray := ⟨#[99, 97, 99, 104, 101]⟩
def currentB : ByteArray := ⟨#[99, 117, 114, 114, 101, 110, 116]⟩
def nearNames (ts : List Tab) : List ByteArray := (ts.filter (·.near)).map fun t => nameB 2 0 t.num
def putL (acc : List ByteArray) (ss : List ByteArray) : List ByteArray := ss.foldl putB acc
theorem putL_len (ss : List ByteArray) : ∀ acc, (putL acc ss).length ≤ acc.length + ss.length := by
  induction ss with
  | nil => intro acc; exact Nat.le_refl _
  | cons s ss ih => intro acc; have := ih (putB acc s); have := putB_len s acc; show (putL (putB acc s) ss).length ≤ _; simp; omega
theorem putL_app (acc : List ByteArray) (a b : List ByteArray) : putL acc (a ++ b) = putL (putL acc a) b := by unfold putL; rw [List.foldl_append]
theorem nearNames_snoc (ts : List Tab) (k : Nat) (hk : k < ts.length) : nearNames (ts.take (k + 1)) = nearNames (ts.take k) ++ if ts[k].near then [nameB 2 0 ts[k].num] else [] := by
  unfold nearNames
  rw [List.take_succ_eq_append_getElem hk, List.filter_append, List.map_append]
  congr 1
  cases h : ts[k].near <;> simp [h]
theorem nearNames_len (ts : List Tab) : (nearNames ts).length ≤ ts.length := by unfold nearNames; rw [List.length_map]; exact List.length_filter_le _ _
def RelAcc (w w1 : World) (acc : List ByteArray) (v : Value) (wr : World) : Prop := OwnS wr w.heap.size v acc ∧ Below w1.heap.size w1 wr ∧ Below w.heap.size w wr
theorem RelAcc.step {w w1 wr w2 : World} {acc acc' : List ByteArray} {v v' : Value} (h : RelAcc w w1 acc v wr) (hl : w.heap.size ≤ w1.heap.size) (ho : OwnS w2 w.heap.size v' acc') (hb : Below wr.heap.size wr w2) : RelAcc w w1 acc' v' w2 :=
  ⟨ho, h.2.1.trans (hb.mono h.2.1.size), h.2.2.trans (hb.mono (Nat.le_trans hl h.2.1.size))⟩
theorem RelAcc.then {w w1 wr w2 : World} {acc : List ByteArray} {v : Value} (h : RelAcc w w1 acc v wr) (hl : w.heap.size ≤ w1.heap.size) (hb : Below wr.heap.size wr w2) : RelAcc w w1 acc v w2 :=
  h.step hl (h.1.below hb) hb
def nearL (v : Ver) (list : ByteArray) : List ByteArray := putL [] ([cacheB, currentB, list] ++ nearNames v.ts)
def PostNear (w : World) (ss : List ByteArray) (g : Int) (e : Ending) (w' : World) : Prop := ∃ v, e = .returned (.tuple #[v, .int .i64 g]) ∧ OwnS w' w.heap.size v ss ∧ Below w.heap.size w w'

set_option maxRecDepth 100000 in
set_option maxHeartbeats 2000000 in
theorem rnear_calls (v : Ver) (A : Option Addr) (c : Nat) (list : ByteArray) (w : World) (hr : Reads w w.heap.size 9 A v.ts.length (tabs v.ts)) (hn : v.ts.length ≤ 900000) :
    Calls Tryd.prog 8 #[.agg #[.int .i64 v.e, .int .i64 v.n, .int .i64 v.l, .int .i64 v.g, .slice A v.ts.length c], .string list] w (PostNear w (nearL v list) v.g) := by
  obtain ⟨e, n, l, g, ts⟩ := v
  simp only at hr hn ⊢
  obtain ⟨L, hL⟩ : ∃ L, ts.length = L := ⟨_, rfl⟩
  have HR := Lib.hid hr
  have HL := Lib.hid hL
  rw [hL] at hn ⊢
  clear hr hL
  obtain ⟨w1, hw1⟩ : ∃ w1, w.alloc (.cells #[.int .i64 e, .int .i64 n, .int .i64 l, .int .i64 g, .slice A L c] 27) = w1 := ⟨_, rfl⟩
  have hblk : Blk w1 w.heap.size 27 #[.int .i64 e, .int .i64 n, .int .i64 l, .int .i64 g, .slice A L c] := by rw [← hw1]; exact Blk.new w _ _
  have hb01 : Below w.heap.size w w1 := by rw [← hw1]; exact (Below.refl _ _).alloc (Nat.le_refl _) _
  have hsz : w1.heap.size = w.heap.size + 1 := by rw [← hw1]; simp
  have HB := Lib.hid hblk
  have H01 := Lib.hid hb01
  have HSZ := Lib.hid hsz
  have hs0 : w.heap.size ≤ w1.heap.size := by omega
  have HW1 := Lib.hid hw1
  clear hblk hb01 hsz hw1
  go_enter Tryd.func8, Tryd.ntmps8
  go_wp2_with fail
  rw [HW1.out]
  have r0 : RelAcc w w1 [] (.slice none 0 0) w1 := ⟨OwnS.nil _ _, Below.refl _ _, H01.out⟩
  have R0 := Lib.hid r0
  clear r0
  refine (put_calls _ [] cacheB w.heap.size w1 R0.out.1 hs0 (by simp)).mono ?_
  rintro e' w2 ⟨v2, rfl, ho2, hb2⟩
  have R2 := Lib.hid (R0.out.step hs0 ho2 hb2)
  clear ho2 hb2
  go_wp2_with fail
  refine (put_calls _ _ currentB w.heap.size w2 R2.out.1 R2.out.2.2.size (by have := putB_len cacheB []; simp at this ⊢; omega)).mono ?_
  rintro e' w3 ⟨v3, rfl, ho3, hb3⟩
  have R3 := Lib.hid (R2.out.step hs0 ho3 hb3)
  clear ho3 hb3
  go_wp2_with fail
  refine (put_calls _ _ list w.heap.size w3 R3.out.1 R3.out.2.2.size (by have := putB_len cacheB []; have := putB_len currentB (putB [] cacheB); simp at *; omega)).mono ?_
  rintro e' w4 ⟨v4, rfl, ho4, hb4⟩
  have R4 := Lib.hid (R3.out.step hs0 ho4 hb4)
  clear ho4 hb4
  have c4 : w4.cell? ⟨w.heap.size, 4, none⟩ = some (.slice A L c) := by rw [R4.out.2.1.cell (by show w.heap.size < _; rw [HSZ.out]; omega), HB.out.cell]; rfl
  have HC4 := Lib.hid c4
  clear c4
  go_wp2_with fail
  go_loopw [6, 7] (fun v i wr => ∃ k : Nat, k ≤ L ∧ i = .int .i64 k ∧ RelAcc w w1 (putL [] ([cacheB, currentB, list] ++ nearNames (ts.take k))) v wr) (fun _ i _ => L - (intOf i).toNat)
  case atStart => exact ⟨0, Nat.zero_le _, rfl, R4.out⟩
  case round =>
    obtain ⟨k, hk, rfl, hR⟩ := hrel
    have c4 : wr.cell? ⟨w.heap.size, 4, none⟩ = some (.slice A L c) := by rw [hR.2.1.cell (by show w.heap.size < _; rw [HSZ.out]; omega), HB.out.cell]; rfl
    have c3 : wr.cell? ⟨w.heap.size, 3, none⟩ = some (.int .i64 g) := by rw [hR.2.1.cell (by show w.heap.size < _; rw [HSZ.out]; omega), HB.out.cell]; rfl
    have HA := Lib.hid hR
    clear hR
    by_cases hlt : k < L
    · have hkl : k < ts.length := by rw [HL.out]; exact hlt
      obtain ⟨ad, rfl, hab, hT⟩ := tab_at HR.out hkl
      have hT2 := hT.keep HA.out.2.2 (by rw [add_block]; exact hab)
      have t0 := hT2.h0
      have t7 := hT2.h7
      have HS := Lib.hid (nearNames_snoc ts k hkl)
      clear hT hT2
      generalize ts[k] = t at t0 t7 HS
      cases hnear : t.near with
      | false =>
        rw [hnear] at t7
        have HS2 := Lib.hid (show nearNames (ts.take (k + 1)) = nearNames (ts.take k) by rw [HS.out, hnear]; simp)
        clear hnear
        go_wp2_with fail
        go_roundw
        case rel => exact ⟨k + 1, by omega, by go_num, by rw [HS2.out]; exact HA.out⟩
        case measure => simp [intOf]; omega
      | true =>
        rw [hnear] at t7
        have HS2 := Lib.hid (show nearNames (ts.take (k + 1)) = nearNames (ts.take k) ++ [nameB 2 0 t.num] by rw [HS.out, hnear]; simp)
        clear hnear
        go_wp2_with fail
        refine (name_calls 2 0 t.num wr).mono ?_
        rintro e' w5 ⟨rfl, hb5⟩
        have HA5 := Lib.hid (HA.out.then hs0 hb5)
        clear hb5 t0 t7 c4 c3
        go_wp2_with fail
        refine (put_calls _ _ (nameB 2 0 t.num) w.heap.size w5 HA5.out.1 HA5.out.2.2.size (by
          have h1 := putL_len ([cacheB, currentB, list] ++ nearNames (ts.take k)) []
          have h2 := nearNames_len (ts.take k)
          rw [List.length_take] at h2
          simp at h1 h2 ⊢; omega)).mono ?_
        rintro e' w6 ⟨v6, rfl, ho6, hb6⟩
        have HA6 := Lib.hid (HA5.out.step hs0 ho6 hb6)
        clear ho6 hb6
        go_wp2_with fail
        go_roundw
        case rel => exact ⟨k + 1, by omega, by go_num, by rw [HS2.out, ← List.append_assoc, putL_app]; exact HA6.out⟩
        case measure => simp [intOf]; omega
    · obtain rfl : k = L := by omega
      have htk : ts.take k = ts := List.take_of_length_le (by rw [HL.out]; exact Nat.le_refl _)
      go_wp2_with fail
      go_quiet ((fail))
      go_wp2_with fail
      go_ret2
      refine ⟨_, rfl, ?_, below_drewN HA.out.2.2 _⟩
      have := HA.out.1
      rw [htk] at this
      exact this
end Go.Proofs.YtpdbdobckjolkaaDoor
