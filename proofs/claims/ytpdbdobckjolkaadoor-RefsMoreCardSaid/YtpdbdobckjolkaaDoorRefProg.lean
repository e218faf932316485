/- What a version needs near and far, as the program tells it: its walks of Near and Far. -/
import Derived.Test.YtpdbdobckjolkaaDoorRefRise
set_option linter.unusedVariables false
set_option linter.unusedSimpArgs false
namespace Go.Proofs.YtpdbdobckjolkaaDoor
open Go.RowKit Go.Sort

def TabOk (t : Tab) : Prop := (-9223372036854775808 ≤ t.num ∧ t.num ≤ 9223372036854775807) ∧ (-9223372036854775808 ≤ t.ep ∧ t.ep ≤ 9223372036854775807)
def RelApp (w1 : World) (acc : List ByteArray) (v : Value) (wr : World) : Prop := OwnS wr w1.heap.size v acc ∧ Below w1.heap.size w1 wr
theorem OwnS.of_blk {w : World} {base g n : Nat} {ss : List ByteArray} (h : Blk w g 9 (textsV ss).toArray) (hn : ss.length = n) (hb : base ≤ g) (hm : n ≤ maxLen) : OwnS w base (.slice (some ⟨g, 0, none⟩) n n) ss := by
  subst hn
  refine ⟨by simp [textsV], .inr ⟨g, ss.length, (textsV ss).toArray, rfl, hb, h, Nat.le_refl _, hm, by simp [textsV], ?_⟩⟩
  simp [textsV]
  exact List.take_of_length_le (by simp)
theorem OwnS.drewN' {w w' : World} {base : Nat} {v : Value} {ss : List ByteArray} (h : OwnS w base v ss) (hw : ∃ n, w' = w.drewN n) : OwnS w' base v ss := by obtain ⟨n, rfl⟩ := hw; exact h
theorem appOne {w1 wr : World} {acc : List ByteArray} {v : Value} (h : RelApp w1 acc v wr) (s : ByteArray) (hn : acc.length ≤ 1000000) :
    ∃ v' w', (Builtin.append_ #[23, 23] 23 #[v, .slice (some ⟨wr.heap.size, 0, none⟩) 1 1]).run Tryd.prog (wr.alloc (.cells #[.string s] 9)) = .ok v' w' ∧ RelApp w1 (acc ++ [s]) v' w' := by
  obtain ⟨v2, w2, r2, o2, _, b2, _⟩ := appSl (h.1.alloc (.cells #[.string s] 9)) (c := 1) (readsOne wr s) rfl (by simp; omega) (by rw [World.size_alloc]; have := h.2.size; omega)
  exact ⟨v2, w2, r2, o2, (h.2.alloc h.2.size (.cells #[.string s] 9)).trans b2⟩

set_option maxRecDepth 100000 in
set_option maxHeartbeats 2000000 in
theorem near_calls (v : Ver) (A : Option Addr) (c : Nat) (list : ByteArray) (w : World) (hr : Reads w w.heap.size 9 A v.ts.length (tabs v.ts)) (hn : v.ts.length ≤ 900000) (hok : ∀ t ∈ v.ts, TabOk t) (hL : Laid w) :
    Calls Tryd.prog 7 #[.agg #[.int .i64 v.e, .int .i64 v.n, .int .i64 v.l, .int .i64 v.g, .slice A v.ts.length c], .string list] w (PostNear w (risB ([cacheB, currentB, list] ++ nearNames v.ts)) v.g) := by
  obtain ⟨e, n, l, g, ts⟩ := v
  simp only at hr hn hok ⊢
  obtain ⟨L, hLe⟩ : ∃ L, ts.length = L := ⟨_, rfl⟩
  have HR := Lib.hid hr
  have HL := Lib.hid hLe
  have HOK := Lib.hid hok
  have HLaid := Lib.hid hL
  rw [hLe] at hn ⊢
  clear hr hLe hok hL
  obtain ⟨w1, hw1⟩ : ∃ w1, w.alloc (.cells #[.int .i64 e, .int .i64 n, .int .i64 l, .int .i64 g, .slice A L c] 27) = w1 := ⟨_, rfl⟩
  have hblk : Blk w1 w.heap.size 27 #[.int .i64 e, .int .i64 n, .int .i64 l, .int .i64 g, .slice A L c] := by rw [← hw1]; exact Blk.new w _ _
  have hb01 : Below w.heap.size w w1 := by rw [← hw1]; exact (Below.refl _ _).alloc (Nat.le_refl _) _
  have hsz : w1.heap.size = w.heap.size + 1 := by rw [← hw1]; simp
  have HB := Lib.hid hblk
  have H01 := Lib.hid hb01
  have HSZ := Lib.hid hsz
  have hs0 : w.heap.size ≤ w1.heap.size := by omega
  have HW1 := Lib.hid hw1
  clear hblk hb01 hsz hw1
  go_enter Tryd.func7, Tryd.ntmps7
  go_wp2_with fail
  rw [HW1.out]
  refine (text_calls 6 0 0 w1 (by omega) (by omega) (HLaid.out.below H01.out)).mono ?_
  rintro e' w2 ⟨rfl, hb2⟩
  have HB2 := Lib.hid hb2
  clear hb2
  go_wp2_with fail
  refine (text_calls 4 0 0 w2 (by omega) (by omega) (HLaid.out.below (H01.out.trans (HB2.out.mono hs0)))).mono ?_
  rintro e' w3 ⟨rfl, hb3⟩
  have HB3 := Lib.hid (HB2.out.trans (hb3.mono HB2.out.size))
  clear hb3
  have r0 : RelApp w1 [cacheB, currentB, list] (.slice (some ⟨w3.heap.size, 0, none⟩) 3 3) (w3.alloc (.cells #[str (textL 6 0 0), str (textL 4 0 0), .string list] 9)) := by
    refine ⟨OwnS.of_blk ?_ rfl HB3.out.size (by unfold maxLen; omega), HB3.out.alloc HB3.out.size _⟩
    exact Blk.new w3 9 _
  have R0 := Lib.hid r0
  have c4 : (w3.alloc (.cells #[str (textL 6 0 0), str (textL 4 0 0), .string list] 9)).cell? ⟨w.heap.size, 4, none⟩ = some (.slice A L c) := by rw [r0.2.cell (by show w.heap.size < _; rw [HSZ.out]; omega), HB.out.cell]; rfl
  clear r0
  go_wp2_with fail
  go_loopw [6, 16] (fun v i wr => ∃ k : Nat, k ≤ L ∧ i = .int .i64 k ∧ RelApp w1 ([cacheB, currentB, list] ++ nearNames (ts.take k)) v wr) (fun _ i _ => L - (intOf i).toNat)
  case atStart => exact ⟨0, Nat.zero_le _, rfl, R0.out⟩
  case round =>
    clear c4
    obtain ⟨k, hk, rfl, hR⟩ := hrel
    have c3 : wr.cell? ⟨w.heap.size, 3, none⟩ = some (.int .i64 g) := by rw [hR.2.cell (by show w.heap.size < _; rw [HSZ.out]; omega), HB.out.cell]; rfl
    have HA := Lib.hid hR
    clear hR
    have hlen : ([cacheB, currentB, list] ++ nearNames (ts.take k)).length ≤ 1000000 := by
      have h2 := nearNames_len (ts.take k)
      rw [List.length_take] at h2
      simp at h2 ⊢; omega
    have HLEN := Lib.hid hlen
    clear hlen
    by_cases hlt : k < L
    · have hkl : k < ts.length := by rw [HL.out]; exact hlt
      obtain ⟨ad, rfl, hab, hT⟩ := tab_at HR.out hkl
      have hT2 := hT.keep (H01.out.trans (HA.out.2.mono hs0)) (by rw [add_block]; exact hab)
      have hok := HOK.out _ (List.getElem_mem hkl)
      have t0 := hT2.h0
      have t1 := hT2.h1
      have t2 := hT2.h2
      have t3 := hT2.h3
      have t4 := hT2.h4
      have t5 := hT2.h5
      have t6 := hT2.h6
      have t7 := hT2.h7
      have t8 := hT2.h8
      have HS := Lib.hid (nearNames_snoc ts k hkl)
      clear hT hT2
      generalize ts[k] = t at t0 t1 t2 t3 t4 t5 t6 t7 t8 HS hok
      obtain ⟨num, ep, lev, lo, hi, size, count, near, far⟩ := t
      simp only at t0 t1 t2 t3 t4 t5 t6 t7 t8 HS
      cases near with
      | false =>
        have HS2 := Lib.hid (show nearNames (ts.take (k + 1)) = nearNames (ts.take k) by rw [HS.out]; simp)
        go_wp2_with fail
        go_roundw
        case rel => exact ⟨k + 1, by omega, by go_num, by rw [HS2.out]; exact ⟨HA.out.1.alloc _, HA.out.2.alloc HA.out.2.size _⟩⟩
        case measure => simp [intOf]; omega
      | true =>
        have HS2 := Lib.hid (show nearNames (ts.take (k + 1)) = nearNames (ts.take k) ++ [nameB 2 0 num] by rw [HS.out]; simp)
        go_wp2_with fail
        have hb5 := HA.out.2.alloc HA.out.2.size (.cells #[.int .i64 num, .int .i64 ep, .int .i64 lev, .string lo, .string hi, .int .i64 size, .int .i64 count, .bool true, .bool far] 36)
        refine (text_calls 2 0 num _ (by omega) hok.1 (HLaid.out.below (H01.out.trans (hb5.mono hs0)))).mono ?_
        rintro e' w6 ⟨rfl, hb6⟩
        have HA6 : Hid (RelApp w1 ([cacheB, currentB, list] ++ nearNames (ts.take k)) u6 w6) := Lib.hid ⟨(HA.out.1.alloc _).below hb6, hb5.trans (hb6.mono hb5.size)⟩
        obtain ⟨v7, w7, r7, h7⟩ := appOne HA6.out (nameB 2 0 num) HLEN.out
        have H7 := Lib.hid h7
        clear hb5 hb6 h7 t0 t1 t2 t3 t4 t5 t6 t7 t8 c3
        go_wp2_with (at_builtin; refine wpList_app r7 rfl rfl rfl rfl rfl ?_)
        go_roundw
        case rel => exact ⟨k + 1, by omega, by go_num, by rw [HS2.out, ← List.append_assoc]; exact H7.out⟩
        case measure => simp [intOf]; omega
    · obtain rfl : k = L := by omega
      have htk : ts.take k = ts := List.take_of_length_le (by rw [HL.out]; exact Nat.le_refl _)
      rw [htk] at HA HLEN
      have g3 : w.heap.size < w1.heap.size := by rw [HSZ.out]; omega
      go_wp2_with fail
      go_region_held3 (fun w' => w'.cell? ⟨w.heap.size, 3, none⟩ = some (.int .i64 g))
        (first | assumption | (rw [hb9.cell (by show w.heap.size < _; assumption)]; assumption))
        (first | (go_at_call 18; refine (rising_calls _ _ w1.heap.size _ (OwnS.drewN' HA.out.1 (by first | exact ⟨0, rfl⟩ | exact ⟨1, rfl⟩)) (by first | exact HA.out.2.size) HLEN.out).mono ?_; rintro e' w9 ⟨v9, rfl, ho9, hb9⟩))
      go_wp2_with fail
      go_ret2
      exact ⟨_, rfl, ho9.le hs0, H01.out.trans ((HA.out.2.drew.trans hb9).mono hs0)⟩

theorem farL_snoc' (acc : List ByteArray) (ts : List Tab) (k : Nat) (hk : k < ts.length) : acc ++ allNames (ts.take (k + 1)) = (acc ++ allNames (ts.take k)) ++ [nameB 7 ts[k].ep ts[k].num] := by rw [allNames_snoc ts k hk, List.append_assoc]
set_option maxRecDepth 100000 in
set_option maxHeartbeats 4000000 in
theorem far_calls (v m : Ver) (A A2 : Option Addr) (c c2 : Nat) (num : Int) (w : World) (hr : Reads w w.heap.size 9 A v.ts.length (tabs v.ts)) (hr2 : Reads w w.heap.size 9 A2 m.ts.length (tabs m.ts)) (hn : v.ts.length ≤ 400000) (hn2 : m.ts.length ≤ 400000)
    (hok : ∀ t ∈ v.ts, TabOk t) (hok2 : ∀ t ∈ m.ts, TabOk t) (hnum : -9223372036854775808 ≤ num ∧ num ≤ 9223372036854775807) (hL : Laid w) :
    Calls Tryd.prog 10 #[.agg #[.int .i64 v.e, .int .i64 v.n, .int .i64 v.l, .int .i64 v.g, .slice A v.ts.length c], .agg #[.int .i64 m.e, .int .i64 m.n, .int .i64 m.l, .int .i64 m.g, .slice A2 m.ts.length c2], .int .i64 num] w (PostS w.heap.size w (risB (farNames v.ts ++ allNames m.ts ++ markName num))) := by
  obtain ⟨e, n, l, g, ts⟩ := v
  obtain ⟨e2, n2, l2, g2, ts2⟩ := m
  simp only at hr hn hr2 hn2 hok hok2 ⊢
  obtain ⟨L, hLe⟩ : ∃ L, ts.length = L := ⟨_, rfl⟩
  obtain ⟨L2, hLe2⟩ : ∃ L, ts2.length = L := ⟨_, rfl⟩
  have HR := Lib.hid hr
  have HL := Lib.hid hLe
  have HR2 := Lib.hid hr2
  have HL2 := Lib.hid hLe2
  have HOK := Lib.hid hok
  have HOK2 := Lib.hid hok2
  have HLaid := Lib.hid hL
  rw [hLe] at hn ⊢
  rw [hLe2] at hn2 ⊢
  clear hr hLe hr2 hLe2 hok hok2 hL
  obtain ⟨w1, hw1⟩ : ∃ w1, (w.alloc (.cells #[.int .i64 e, .int .i64 n, .int .i64 l, .int .i64 g, .slice A L c] 27)).alloc (.cells #[.int .i64 e2, .int .i64 n2, .int .i64 l2, .int .i64 g2, .slice A2 L2 c2] 27) = w1 := ⟨_, rfl⟩
  have hblk : Blk w1 w.heap.size 27 #[.int .i64 e, .int .i64 n, .int .i64 l, .int .i64 g, .slice A L c] := by rw [← hw1]; exact (Blk.new w _ _).alloc _
  have hblk2 : Blk w1 (w.heap.size + 1) 27 #[.int .i64 e2, .int .i64 n2, .int .i64 l2, .int .i64 g2, .slice A2 L2 c2] := by
    rw [← hw1]
    have := Blk.new (w.alloc (.cells #[.int .i64 e, .int .i64 n, .int .i64 l, .int .i64 g, .slice A L c] 27)) 27 #[.int .i64 e2, .int .i64 n2, .int .i64 l2, .int .i64 g2, .slice A2 L2 c2]
    rw [World.size_alloc] at this; exact this
  have hb01 : Below w.heap.size w w1 := by rw [← hw1]; exact ((Below.refl _ _).alloc (Nat.le_refl _) _).alloc (by simp) _
  have hsz : w1.heap.size = w.heap.size + 2 := by rw [← hw1]; simp
  have c04 : w1.cell? ⟨w.heap.size, 4, none⟩ = some (.slice A L c) := by rw [hblk.cell]; rfl
  have HB := Lib.hid hblk
  have HB2 := Lib.hid hblk2
  have H01 := Lib.hid hb01
  have HSZ := Lib.hid hsz
  have hs0 : w.heap.size ≤ w1.heap.size := by omega
  have HW1 := Lib.hid hw1
  clear hblk hblk2 hb01 hsz hw1
  have R0 : Hid (RelApp w1 [] (.slice none 0 0) w1) := Lib.hid ⟨OwnS.nil _ _, Below.refl _ _⟩
  go_enter Tryd.func10, Tryd.ntmps10
  have HC := Lib.hid c04
  clear c04
  go_wp2_with fail
  rw [HW1.out]
  have c04 := HC.out
  clear HC
  go_wp2_with fail
  clear c04
  go_loopw [7, 15] (fun v i wr => ∃ k : Nat, k ≤ L ∧ i = .int .i64 k ∧ RelApp w1 (farNames (ts.take k)) v wr) (fun _ i _ => L - (intOf i).toNat)
  case atStart => exact ⟨0, Nat.zero_le _, rfl, R0.out⟩
  case round =>
    obtain ⟨k, hk, rfl, hR⟩ := hrel
    have HA := Lib.hid hR
    clear hR
    have hlen : (farNames (ts.take k)).length ≤ 1000000 := by
      have h2 := farNames_len (ts.take k)
      rw [List.length_take] at h2
      omega
    have HLEN := Lib.hid hlen
    clear hlen
    by_cases hlt : k < L
    · have hkl : k < ts.length := by rw [HL.out]; exact hlt
      obtain ⟨ad, rfl, hab, hT⟩ := tab_at HR.out hkl
      have hT2 := hT.keep (H01.out.trans (HA.out.2.mono hs0)) (by rw [add_block]; exact hab)
      have hok := HOK.out _ (List.getElem_mem hkl)
      have t0 := hT2.h0
      have t1 := hT2.h1
      have t2 := hT2.h2
      have t3 := hT2.h3
      have t4 := hT2.h4
      have t5 := hT2.h5
      have t6 := hT2.h6
      have t7 := hT2.h7
      have t8 := hT2.h8
      have HS := Lib.hid (farNames_snoc ts k hkl)
      clear hT hT2
      generalize ts[k] = t at t0 t1 t2 t3 t4 t5 t6 t7 t8 HS hok
      obtain ⟨num, ep, lev, lo, hi, size, count, near, far⟩ := t
      simp only at t0 t1 t2 t3 t4 t5 t6 t7 t8 HS
      cases far with
      | false =>
        have HS2 := Lib.hid (show farNames (ts.take (k + 1)) = farNames (ts.take k) by rw [HS.out]; simp)
        go_wp2_with fail
        go_roundw
        case rel => exact ⟨k + 1, by omega, by go_num, by rw [HS2.out]; exact ⟨HA.out.1.alloc _, HA.out.2.alloc HA.out.2.size _⟩⟩
        case measure => simp [intOf]; omega
      | true =>
        have HS2 := Lib.hid (show farNames (ts.take (k + 1)) = farNames (ts.take k) ++ [nameB 7 ep num] by rw [HS.out]; simp)
        go_wp2_with fail
        have hb5 := HA.out.2.alloc HA.out.2.size (.cells #[.int .i64 num, .int .i64 ep, .int .i64 lev, .string lo, .string hi, .int .i64 size, .int .i64 count, .bool near, .bool true] 36)
        refine (text_calls 7 ep num _ hok.2 hok.1 (HLaid.out.below (H01.out.trans (hb5.mono hs0)))).mono ?_
        rintro e' w6 ⟨rfl, hb6⟩
        have HA6 : Hid (RelApp w1 (farNames (ts.take k)) u7 w6) := Lib.hid ⟨(HA.out.1.alloc _).below hb6, hb5.trans (hb6.mono hb5.size)⟩
        obtain ⟨v7, w7, r7, h7⟩ := appOne HA6.out (nameB 7 ep num) HLEN.out
        have H7 := Lib.hid h7
        clear hb5 hb6 h7 t0 t1 t2 t3 t4 t5 t6 t7 t8
        go_wp2_with (at_builtin; refine wpList_app r7 rfl rfl rfl rfl rfl ?_)
        go_roundw
        case rel => exact ⟨k + 1, by omega, by go_num, by rw [HS2.out]; exact H7.out⟩
        case measure => simp [intOf]; omega
    · obtain rfl : k = L := by omega
      have htk : ts.take k = ts := List.take_of_length_le (by rw [HL.out]; exact Nat.le_refl _)
      rw [htk] at HA
      clear htk HLEN
      have c4 : wr.cell? ⟨w.heap.size + 1, 4, none⟩ = some (.slice A2 L2 c2) := by rw [HA.out.2.cell (by show w.heap.size + 1 < _; rw [HSZ.out]; omega), HB2.out.cell]; rfl
      go_wp2_with fail
      clear c4
      go_loopw [7, 33] (fun v i wr => ∃ k2 : Nat, k2 ≤ L2 ∧ i = .int .i64 k2 ∧ RelApp w1 (farNames ts ++ allNames (ts2.take k2)) v wr) (fun _ i _ => L2 - (intOf i).toNat)
      case atStart => exact ⟨0, Nat.zero_le _, rfl, by simpa [allNames] using HA.out⟩
      case round =>
        clear HA
        obtain ⟨k2, hk2, rfl, hR⟩ := hrel
        have HA := Lib.hid hR
        clear hR
        have hlen : (farNames ts ++ allNames (ts2.take k2)).length ≤ 1000000 := by
          have h2 := farNames_len ts
          rw [HL.out] at h2
          rw [List.length_append, allNames_len, List.length_take]
          omega
        have HLEN := Lib.hid hlen
        clear hlen
        by_cases hlt2 : k2 < L2
        · have hkl : k2 < ts2.length := by rw [HL2.out]; exact hlt2
          obtain ⟨ad, rfl, hab, hT⟩ := tab_at HR2.out hkl
          have hT2 := hT.keep (H01.out.trans (HA.out.2.mono hs0)) (by rw [add_block]; exact hab)
          have hok := HOK2.out _ (List.getElem_mem hkl)
          have t0 := hT2.h0
          have t1 := hT2.h1
          have t2 := hT2.h2
          have t3 := hT2.h3
          have t4 := hT2.h4
          have t5 := hT2.h5
          have t6 := hT2.h6
          have t7 := hT2.h7
          have t8 := hT2.h8
          have HS := Lib.hid (farL_snoc' (farNames ts) ts2 k2 hkl)
          clear hT hT2
          generalize ts2[k2] = t at t0 t1 t2 t3 t4 t5 t6 t7 t8 HS hok
          obtain ⟨num, ep, lev, lo, hi, size, count, near, far⟩ := t
          simp only at t0 t1 t2 t3 t4 t5 t6 t7 t8 HS
          go_wp2_with fail
          have hb5 := HA.out.2.alloc HA.out.2.size (.cells #[.int .i64 num, .int .i64 ep, .int .i64 lev, .string lo, .string hi, .int .i64 size, .int .i64 count, .bool near, .bool far] 36)
          refine (text_calls 7 ep num _ hok.2 hok.1 (HLaid.out.below (H01.out.trans (hb5.mono hs0)))).mono ?_
          rintro e' w6 ⟨rfl, hb6⟩
          have HA6 : Hid (RelApp w1 (farNames ts ++ allNames (ts2.take k2)) u7 w6) := Lib.hid ⟨(HA.out.1.alloc _).below hb6, hb5.trans (hb6.mono hb5.size)⟩
          obtain ⟨v7, w7, r7, h7⟩ := appOne HA6.out (nameB 7 ep num) HLEN.out
          have H7 := Lib.hid h7
          clear hb5 hb6 h7 t0 t1 t2 t3 t4 t5 t6 t7 t8
          go_wp2_with (at_builtin; refine wpList_app r7 rfl rfl rfl rfl rfl ?_)
          go_roundw
          case rel => exact ⟨k2 + 1, by omega, by go_num, by rw [HS.out]; exact H7.out⟩
          case measure => simp [intOf]; omega
        · obtain rfl : k2 = L2 := by omega
          have htk : ts2.take k2 = ts2 := List.take_of_length_le (by rw [HL2.out]; exact Nat.le_refl _)
          rw [htk] at HA HLEN
          clear htk
          by_cases hnum0 : 0 < num
          · have HM := Lib.hid (show markName num = [nameB 8 0 num] by unfold markName; rw [if_pos hnum0])
            go_wp2_with fail
            refine (text_calls 8 0 num _ (by omega) hnum (HLaid.out.below (H01.out.trans (HA.out.2.mono hs0)))).mono ?_
            rintro e' w6 ⟨rfl, hb6⟩
            have HA6 : Hid (RelApp w1 (farNames ts ++ allNames ts2) u7 w6) := Lib.hid ⟨HA.out.1.below hb6, HA.out.2.trans (hb6.mono HA.out.2.size)⟩
            obtain ⟨v7, w7, r7, h7⟩ := appOne HA6.out (nameB 8 0 num) HLEN.out
            have H7 := Lib.hid h7
            clear hb6 h7
            go_wp2_with (at_builtin; refine wpList_app r7 rfl rfl rfl rfl rfl ?_)
            refine (rising_calls _ _ w1.heap.size _ H7.out.1 H7.out.2.size (by
              have h2 := farNames_len ts
              rw [HL.out] at h2
              rw [List.length_append, List.length_append, allNames_len, HL2.out]
              simp; omega)).mono ?_
            rintro e' w9 ⟨v9, rfl, ho9, hb9⟩
            go_wp2_with fail
            go_ret
            exact ⟨_, rfl, by rw [HM.out]; exact ho9.le hs0, H01.out.trans ((H7.out.2.trans hb9).mono hs0)⟩
          · have HM := Lib.hid (show markName num = [] by unfold markName; rw [if_neg hnum0])
            go_wp2_with fail
            refine (rising_calls _ _ w1.heap.size _ HA.out.1 HA.out.2.size HLEN.out).mono ?_
            rintro e' w9 ⟨v9, rfl, ho9, hb9⟩
            go_wp2_with fail
            go_ret
            exact ⟨_, rfl, by rw [HM.out, List.append_nil]; exact ho9.le hs0, H01.out.trans ((HA.out.2.trans hb9).mono hs0)⟩
end Go.Proofs.YtpdbdobckjolkaaDoor
