/- Whether an edit, a version may be: the reference's answers are answers, and leave the memory as it was. -/
import Derived.Test.YtpdbdobckjolkaaDoorRefMay
set_option linter.unusedVariables false
set_option linter.unusedSimpArgs false
namespace Go.Proofs.YtpdbdobckjolkaaDoor
open Go.RowKit


set_option maxRecDepth 100000 in
set_option maxHeartbeats 4000000 in
theorem mayedit_calls (ts : List Tab) (A : Option Addr) (c : Nat) (e n l g : Int) (w : World) (hr : Reads w w.heap.size 9 A ts.length (tabs ts)) (hn : ts.length ≤ 1000000) :
    Calls Tryd.prog 28 #[.agg #[.int .i64 e, .int .i64 n, .int .i64 l, .int .i64 g, .slice A ts.length c, .slice none 0 0]] w (SomeB w) := by
  obtain ⟨L, hL⟩ : ∃ L, ts.length = L := ⟨_, rfl⟩
  have HL := Lib.hid hL
  have HR := Lib.hid hr
  rw [hL] at hn ⊢
  clear hr hL
  obtain ⟨w1, hw1⟩ : ∃ w1, w.alloc (.cells #[.int .i64 e, .int .i64 n, .int .i64 l, .int .i64 g, .slice A L c, .slice none 0 0] 44) = w1 := ⟨_, rfl⟩
  have hblk : Blk w1 w.heap.size 44 #[.int .i64 e, .int .i64 n, .int .i64 l, .int .i64 g, .slice A L c, .slice none 0 0] := by rw [← hw1]; exact Blk.new w _ _
  have hb01 : Below w.heap.size w w1 := by rw [← hw1]; exact (Below.refl _ _).alloc (Nat.le_refl _) _
  have hsz : w1.heap.size = w.heap.size + 1 := by rw [← hw1]; simp
  have d0 : w1.cell? ⟨w.heap.size, 0, none⟩ = some (.int .i64 e) := by rw [hblk.cell]; rfl
  have d1 : w1.cell? ⟨w.heap.size, 1, none⟩ = some (.int .i64 n) := by rw [hblk.cell]; rfl
  have d2 : w1.cell? ⟨w.heap.size, 2, none⟩ = some (.int .i64 l) := by rw [hblk.cell]; rfl
  have d3 : w1.cell? ⟨w.heap.size, 3, none⟩ = some (.int .i64 g) := by rw [hblk.cell]; rfl
  have d4 : w1.cell? ⟨w.heap.size, 4, none⟩ = some (.slice A L c) := by rw [hblk.cell]; rfl
  have d5 : w1.cell? ⟨w.heap.size, 5, none⟩ = some (.slice none 0 0) := by rw [hblk.cell]; rfl
  have HB := Lib.hid hblk
  have H01 := Lib.hid hb01
  have HSZ := Lib.hid hsz
  have hs0 : w.heap.size ≤ w1.heap.size := by omega
  have HW1 := Lib.hid hw1
  have HD := Lib.hid (And.intro d0 (And.intro d1 (And.intro d2 (And.intro d3 (And.intro d4 d5)))))
  clear hblk hb01 hsz hw1 d0 d1 d2 d3 d4 d5
  have hd5 := HD.out.2.2.2.2.2
  have hd4 := HD.out.2.2.2.2.1
  rw [← HW1.out] at hd4 hd5
  go_enter Tryd.func28, Tryd.ntmps28
  go_wp2_with (go_at_call 23; refine (rnumber_calls _ _).mono ?_; rintro e w' ⟨rfl, rfl⟩)
  all_goals first
    | (go_ret; exact ⟨_, rfl, (Below.refl _ _).alloc (Nat.le_refl _) _⟩)
    | skip
  clear hd4 hd5
  rw [HW1.out]
  go_loopw [3] (fun i wr => ∃ k : Nat, k ≤ L ∧ i = .int .i64 k ∧ Below w1.heap.size w1 wr) (fun i _ => L - (intOf i).toNat)
  case atStart => exact ⟨0, Nat.zero_le _, rfl, Below.refl _ _⟩
  case round =>
    obtain ⟨k, hk, rfl, hb⟩ := hrel
    have d4 : wr.cell? ⟨w.heap.size, 4, none⟩ = some (.slice A L c) := (hb.cell (by show w.heap.size < _; rw [HSZ.out]; omega)).trans HD.out.2.2.2.2.1
    have d5 : wr.cell? ⟨w.heap.size, 5, none⟩ = some (.slice none 0 0) := (hb.cell (by show w.heap.size < _; rw [HSZ.out]; omega)).trans HD.out.2.2.2.2.2
    have HBW := Lib.hid hb
    clear hb
    by_cases hlt : k < L
    · have hkl : k < ts.length := by rw [HL.out]; exact hlt
      obtain ⟨ad, rfl, hab, hT⟩ := tab_at HR.out hkl
      have hT2 := hT.keep (H01.out.trans (HBW.out.mono hs0)) (by rw [block_of_add]; exact hab)
      have t0 := hT2.h0
      have t1 := hT2.h1
      have t2 := hT2.h2
      have t3 := hT2.h3
      have t4 := hT2.h4
      have t5 := hT2.h5
      have t6 := hT2.h6
      have t7 := hT2.h7
      have t8 := hT2.h8
      clear hT hT2
      generalize ts[k] = t at t0 t1 t2 t3 t4 t5 t6 t7 t8
      go_wp2_with fail
      refine (maytable_calls t wr).mono ?_
      rintro e w2 ⟨b, rfl, hb2⟩
      have HB2 := Lib.hid (HBW.out.trans (hb2.mono HBW.out.size))
      clear hb2 t0 t1 t2 t3 t4 t5 t6 t7 t8 d4 d5
      cases b with
      | true =>
        go_wp2_with fail
        go_roundw
        case rel => exact ⟨k + 1, by omega, by go_num, HB2.out⟩
        case measure => simp [intOf]; omega
      | false =>
        go_wp2_with fail
        go_ret
        exact ⟨_, rfl, H01.out.trans (HB2.out.mono hs0)⟩
    · obtain rfl : k = L := by omega
      go_wp2_with fail
      go_loopw [4] (fun i wr2 => i = .int .i64 0 ∧ wr2 = wr) (fun i _ => 0)
      case atStart => exact ⟨rfl, rfl⟩
      case round =>
        obtain ⟨rfl, rfl⟩ := hrel
        go_wp2_with fail
        go_ret
        exact ⟨_, rfl, H01.out.trans (HBW.out.mono hs0)⟩

theorem boxed {w w2 : World} {t : Tab} (hb : Below (w.alloc t.box).heap.size (w.alloc t.box) w2) : TabAt w2 ⟨w.heap.size, 0, none⟩ t := by
  have hB : Blk w2 w.heap.size 36 #[.int .i64 t.num, .int .i64 t.ep, .int .i64 t.lev, .string t.lo, .string t.hi, .int .i64 t.size, .int .i64 t.count, .bool t.near, .bool t.far] := (Blk.new w 36 _).below hb (by rw [World.size_alloc]; omega)
  exact ⟨hB.cell 0, hB.cell 1, hB.cell 2, hB.cell 3, hB.cell 4, hB.cell 5, hB.cell 6, hB.cell 7, hB.cell 8⟩

set_option maxRecDepth 100000 in
set_option maxHeartbeats 8000000 in
theorem may_calls' (ts : List Tab) (A : Option Addr) (c : Nat) (e n l g : Int) (w : World) (hr : Reads w w.heap.size 9 A ts.length (tabs ts)) (hn : ts.length ≤ 1000000) :
    Calls Tryd.prog 27 #[.agg #[.int .i64 e, .int .i64 n, .int .i64 l, .int .i64 g, .slice A ts.length c]] w (SomeB w) := by
  obtain ⟨L, hL⟩ : ∃ L, ts.length = L := ⟨_, rfl⟩
  have HL := Lib.hid hL
  have HR := Lib.hid hr
  rw [hL] at hn ⊢
  clear hr hL
  obtain ⟨w1, hw1⟩ : ∃ w1, w.alloc (.cells #[.int .i64 e, .int .i64 n, .int .i64 l, .int .i64 g, .slice A L c] 27) = w1 := ⟨_, rfl⟩
  have hblk : Blk w1 w.heap.size 27 #[.int .i64 e, .int .i64 n, .int .i64 l, .int .i64 g, .slice A L c] := by rw [← hw1]; exact Blk.new w _ _
  have hb01 : Below w.heap.size w w1 := by rw [← hw1]; exact (Below.refl _ _).alloc (Nat.le_refl _) _
  have hsz : w1.heap.size = w.heap.size + 1 := by rw [← hw1]; simp
  have HB := Lib.hid hblk
  have H01 := Lib.hid hb01
  have HSZ := Lib.hid hsz
  have hs0 : w.heap.size ≤ w1.heap.size := by omega
  have HW1 := Lib.hid hw1
  clear hblk hb01 hsz hw1
  go_enter Tryd.func27, Tryd.ntmps27
  go_wp2_with (go_at_call 23; refine (rnumber_calls _ _).mono ?_; rintro e w' ⟨rfl, rfl⟩)
  all_goals first
    | (go_ret; exact ⟨_, rfl, (Below.refl _ _).alloc (Nat.le_refl _) _⟩)
    | skip
  rw [HW1.out]
  go_loopw [3] (fun i wr => ∃ k : Nat, k ≤ L ∧ i = .int .i64 k ∧ Below w1.heap.size w1 wr) (fun i _ => L - (intOf i).toNat)
  case atStart => exact ⟨0, Nat.zero_le _, rfl, Below.refl _ _⟩
  case round =>
    obtain ⟨k, hk, rfl, hb⟩ := hrel
    have d4 : wr.cell? ⟨w.heap.size, 4, none⟩ = some (.slice A L c) := (hb.cell (by show w.heap.size < _; rw [HSZ.out]; omega)).trans (HB.out.cell 4)
    have HBW := Lib.hid hb
    clear hb
    by_cases hlt : k < L
    · have hkl : k < ts.length := by rw [HL.out]; exact hlt
      obtain ⟨ad, rfl, hab, hT⟩ := tab_at HR.out hkl
      have hT2 := hT.keep (H01.out.trans (HBW.out.mono hs0)) (by rw [block_of_add]; exact hab)
      have t0 := hT2.h0
      have t1 := hT2.h1
      have t2 := hT2.h2
      have t3 := hT2.h3
      have t4 := hT2.h4
      have t5 := hT2.h5
      have t6 := hT2.h6
      have t7 := hT2.h7
      have t8 := hT2.h8
      clear hT hT2
      generalize ts[k] = t at t0 t1 t2 t3 t4 t5 t6 t7 t8
      go_wp2_with fail
      refine (maytable_calls t (wr.alloc t.box)).mono ?_
      rintro e' w2 ⟨b, rfl, hb2⟩
      obtain ⟨G, hG⟩ : ∃ G, wr.heap.size = G := ⟨_, rfl⟩
      have hTB := boxed hb2
      have hb12 : Below w1.heap.size w1 w2 := (HBW.out.alloc HBW.out.size t.box).trans (hb2.mono (by rw [World.size_alloc]; have := HBW.out.size; omega))
      have hGlt : wr.heap.size < w2.heap.size := Nat.lt_of_lt_of_le (by rw [World.size_alloc]; omega) hb2.size
      have d0 : w2.cell? ⟨w.heap.size, 0, none⟩ = some (.int .i64 e) := (hb12.cell (by show w.heap.size < _; rw [HSZ.out]; omega)).trans (HB.out.cell 0)
      have d1 : w2.cell? ⟨w.heap.size, 1, none⟩ = some (.int .i64 n) := (hb12.cell (by show w.heap.size < _; rw [HSZ.out]; omega)).trans (HB.out.cell 1)
      rw [hG] at hTB hGlt ⊢
      have b0 := hTB.h0
      have b1 := hTB.h1
      have HTB := Lib.hid hTB
      have HB12 := Lib.hid hb12
      have HGL := Lib.hid hGlt
      clear hb2 t0 t1 t2 t3 t4 t5 t6 t7 t8 d4 hTB hb12 hG hGlt
      cases b with
      | false =>
        go_wp2_with fail
        go_ret
        exact ⟨_, rfl, H01.out.trans (HB12.out.mono hs0)⟩
      | true =>
        go_wp2_with fail
        all_goals first
          | (go_ret; exact ⟨_, rfl, H01.out.trans (HB12.out.mono hs0)⟩)
          | skip
        clear b0 b1 d0 d1
        go_loopw [5] (fun i wr2 => ∃ k2 : Nat, k2 ≤ k ∧ i = .int .i64 k2 ∧ Below w2.heap.size w2 wr2) (fun i _ => k - (intOf i).toNat)
        case atStart => exact ⟨0, Nat.zero_le _, rfl, Below.refl _ _⟩
        case round =>
          obtain ⟨k2, hk2, rfl, hbb⟩ := hrel
          have HBB := Lib.hid hbb
          clear hbb
          have hW : Below w1.heap.size w1 wr := HB12.out.trans (HBB.out.mono HB12.out.size)
          have d4 : wr.cell? ⟨w.heap.size, 4, none⟩ = some (.slice (some ad) L c) := (hW.cell (by show w.heap.size < _; rw [HSZ.out]; omega)).trans (HB.out.cell 4)
          have hTB := HTB.out.keep HBB.out HGL.out
          have b0 := hTB.h0
          have b2 := hTB.h2
          have b3 := hTB.h3
          have b4 := hTB.h4
          have HW := Lib.hid hW
          clear hTB hW
          by_cases hlt2 : k2 < k
          · have hkl2 : k2 < ts.length := by rw [HL.out]; omega
            obtain ⟨ad2, hade, hab2, hT⟩ := tab_at HR.out hkl2
            obtain rfl : ad = ad2 := Option.some.inj hade
            have hT2 := hT.keep (H01.out.trans (HW.out.mono hs0)) (by rw [block_of_add]; exact hab2)
            have t0 := hT2.h0
            have t1 := hT2.h1
            have t2 := hT2.h2
            have t3 := hT2.h3
            have t4 := hT2.h4
            have t5 := hT2.h5
            have t6 := hT2.h6
            have t7 := hT2.h7
            have t8 := hT2.h8
            clear hT hT2 hade
            generalize ts[k2] = u at t0 t1 t2 t3 t4 t5 t6 t7 t8
            have hGw : G < wr.heap.size := Nat.lt_of_lt_of_le HGL.out HBB.out.size
            have e0 : (wr.alloc u.box).cell? ⟨G, 0, none⟩ = some (.int .i64 t.num) := by rw [World.cell?_alloc_lt _ _ _ hGw]; exact b0
            have e2 : (wr.alloc u.box).cell? ⟨G, 2, none⟩ = some (.int .i64 t.lev) := by rw [World.cell?_alloc_lt _ _ _ hGw]; exact b2
            have e3 : (wr.alloc u.box).cell? ⟨G, 3, none⟩ = some (.string t.lo) := by rw [World.cell?_alloc_lt _ _ _ hGw]; exact b3
            have e4 : (wr.alloc u.box).cell? ⟨G, 4, none⟩ = some (.string t.hi) := by rw [World.cell?_alloc_lt _ _ _ hGw]; exact b4
            have hU := boxed (w := wr) (t := u) (Below.refl _ _)
            have u0 := hU.h0
            have u2 := hU.h2
            have u3 := hU.h3
            have u4 := hU.h4
            have HAL := Lib.hid (HBB.out.alloc HBB.out.size u.box)
            have HAW := Lib.hid (HW.out.alloc HW.out.size u.box)
            obtain ⟨W2, hW2⟩ : ∃ W2, wr.alloc u.box = W2 := ⟨_, rfl⟩
            rw [hW2] at u0 u2 u3 u4 e0 e2 e3 e4 HAL HAW
            unfold Tab.box at hW2
            have HW2 := Lib.hid hW2
            obtain ⟨G2, hG2⟩ : ∃ G2, wr.heap.size = G2 := ⟨_, rfl⟩
            rw [hG2] at u0 u2 u3 u4
            have HG2 := Lib.hid hG2
            clear hGw b0 b2 b3 b4 hU hW2 hG2
            go_upto_region 13 with (fail)
            rw [HW2.out, HG2.out]
            clear HW2 HG2 t0 t1 t2 t3 t4 t5 t6 t7 t8 d4
            go_wp2_with fail
            all_goals first
              | (go_ret
                 exact ⟨_, rfl, H01.out.trans (HAW.out.mono hs0)⟩)
              | (go_roundw
                 case rel => exact ⟨k2 + 1, by omega, by go_num, HAL.out⟩
                 case measure => simp [intOf]; omega)
          · obtain rfl : k2 = k := by omega
            go_wp2_with fail
            go_roundw
            case rel => exact ⟨k2 + 1, by omega, by go_num, HW.out⟩
            case measure => simp [intOf]; omega
    · obtain rfl : k = L := by omega
      go_wp2_with fail
      go_ret
      exact ⟨_, rfl, H01.out.trans (HBW.out.mono hs0)⟩
end Go.Proofs.YtpdbdobckjolkaaDoor
