/- The filter's making, whole: what bytes the function makes of any keys and bits. -/
import Derived.Test.YtjlmcidmcdiklaaMake
set_option linter.unusedVariables false
set_option linter.unusedSimpArgs false
namespace Go.Proofs.Ytjlmcidmcdiklaa
open Go.RowKit

def OwnB (w : World) (base : Nat) (v : Value) (bs : List UInt8) : Prop := w.ownsRow base 5 1 v bs.length (bs.map encB)
def sizeW (b n : Nat) : Int := FL.convW (FL.floorW (FL.mulW (min b 4634204016564240384) (FL.ofNatW n)))
def m8Of (b n : Nat) : Nat := ((max 64 (sizeW b n) + 7) / 8).toNat
def makeF (keys : List ByteArray) (b : Nat) : List UInt8 :=
  if probes b = 0 then [] else (makeBits keys (8 * m8Of b keys.length : Nat) (probes b).toNat (List.replicate (m8Of b keys.length + 1) 0)).set (m8Of b keys.length) (UInt8.ofNat (probes b).toNat)
theorem size_word_le (b n : Nat) (hb : b ≤ 9218868437227405312) (hn : n ≤ 256) : FL.mulW (min b 4634204016564240384) (FL.ofNatW n) ≤ 4670232813583204352 := by
  have h1 : FL.mulW (min b 4634204016564240384) (FL.ofNatW n) ≤ FL.mulW 4634204016564240384 (FL.ofNatW 256) := by
    rcases Nat.eq_zero_or_pos (min b 4634204016564240384) with h | h
    · have hlt : FL.ofNatW n < 9218868437227405312 := Nat.lt_of_le_of_lt (FL.ofNatW_mono hn) (by decide)
      rw [h]; unfold FL.mulW
      rw [FL.mul_fin 0 _ (by omega) hlt]
      have : FL.val 0 = 0 := rfl
      rw [this, Nat.zero_mul]
      exact Nat.zero_le _
    · exact FL.mulW_mono _ _ _ _ h (by omega) (by omega) (FL.ofNatW_mono hn) (by decide)
  have h2 : FL.mulW 4634204016564240384 (FL.ofNatW 256) = 4670232813583204352 := by decide
  omega
theorem sizeW_bd (b n : Nat) (hb : b ≤ 9218868437227405312) (hn : n ≤ 256) : 0 ≤ sizeW b n ∧ sizeW b n ≤ 16384 := by
  have h1 := size_word_le b n hb hn
  have h2 := FL.floorW_mono h1 (by omega)
  have h3 : FL.floorW 4670232813583204352 = 4670232813583204352 := by decide
  have h4 : FL.convW 4670232813583204352 = 16384 := by decide
  have h5 : FL.convW 0 = 0 := by decide
  have h6 : sizeW b n ≤ FL.convW 4670232813583204352 := FL.convW_mono (by omega) (by omega)
  have h7 : FL.convW 0 ≤ sizeW b n := FL.convW_mono (Nat.zero_le _) (by omega)
  omega
theorem m8_bd (b n : Nat) (hb : b ≤ 9218868437227405312) (hn : n ≤ 256) : 8 ≤ m8Of b n ∧ m8Of b n ≤ 2049 := by
  have := sizeW_bd b n hb hn
  unfold m8Of
  omega
theorem max_int_run (ts : Array TypeId) (t : TypeId) (x y : Int) (w : World) : (Builtin.max_ ts t #[.int .i64 x, .int .i64 y]).run Try.prog w = .ok (.int .i64 (max x y)) w := by
  have h : (if y > x then y else x) = max x y := by omega
  simp [Builtin.max_, Builtin.max2]
  omega
theorem floatOfInt_nat (n : Nat) : floatOfInt FloatKind.f64 (n : Int) = FL.ofNatW n := by
  have h : decide ((n : Int) < 0) = false := by simp
  show FL.D.write (.number (decide ((n : Int) < 0)) (n : Int).natAbs 0) = _
  rw [h, Int.natAbs_natCast]; rfl
theorem makeBits_snoc (keys : List ByteArray) (k : Nat) (hk : k < keys.length) (m : Int) (p : Nat) (bs : List UInt8) :
    makeBits (keys.take (k + 1)) m p bs = setAll (makeBits (keys.take k) m p bs) (hash keys[k].data.toList) m p := by
  rw [List.take_succ_eq_append_getElem hk]
  unfold makeBits
  rw [List.foldl_append]; rfl
theorem places_set' (s : ByteArray) (p : Nat) (m8 c g n : Nat) (bs : List UInt8) (w : World) (hs : s.size ≤ maxLen) (hp : p ≤ 255) (hm : 0 < m8) (hm2 : m8 < 100000) (hl : bs.length = m8 + 1) (hn : n = m8 + 1) (hcg : c ≠ g)
    (hc : Blk w c 30 #[.slice (some ⟨g, 0, none⟩) n n]) (hg : Blk w g 5 (cellsB bs)) :
    Calls Try.prog 37 #[.string s, .int .i64 p, .int .i64 ((m8 : Int) * 8), .func (.func 38) #[] #[.pointer (some ⟨c, 0, none⟩)]] w
      fun e w' => e = .returned (.bool true) ∧ Blk w' g 5 (cellsB (setAll bs (hash s.data.toList) (8 * m8 : Nat) p)) ∧ w.grownBy w' (some g) := by
  have e : (m8 : Int) * 8 = ((8 * m8 : Nat) : Int) := by omega
  rw [e]
  rw [hn, ← hl] at hc
  exact places_set s p m8 c g bs w hs hp hm hm2 (by omega) (by omega) hcg hc hg
def RelMake (w : World) (keys : List ByteArray) (m8 p k : Nat) (wr : World) : Prop :=
  Blk wr w.heap.size 5 (cellsB (makeBits (keys.take k) (8 * m8 : Nat) p (List.replicate (m8 + 1) 0))) ∧
  Blk wr (w.heap.size + 1) 30 #[.slice (some ⟨w.heap.size, 0, none⟩) (m8 + 1) (m8 + 1)] ∧ Below w.heap.size w wr
theorem OwnB.of_blk {w : World} {base g n : Nat} {bs : List UInt8} (h : Blk w g 5 (cellsB bs)) (hn : bs.length = n) (hb : base ≤ g) (hm : n ≤ maxLen) : OwnB w base (.slice (some ⟨g, 0, none⟩) n n) bs := by
  subst hn
  refine ⟨by simp, .inr ⟨g, bs.length, cellsB bs, rfl, hb, h, Nat.le_refl _, hm, by simp [cellsB], ?_⟩⟩
  simp [cellsB]
  exact List.take_of_length_le (by simp)
theorem infoB : (Try.prog.info? 5).map (fun i => (i.zero, i.size, i.bytes)) = some (some (.int .u8 0), 1, 1) := by kernel_rfl
theorem make_bytes (n : Nat) (hn : n < 1000000) (w : World) : (Instr.makeSlice 30 (.int .i64 ((n : Int) + 1)) (.int .i64 ((n : Int) + 1))).run Try.prog w = .ok (.slice (some ⟨w.heap.size, 0, none⟩) (n + 1) (n + 1)) (w.alloc (.cells (cellsB (List.replicate (n + 1) 0)) 5)) := by
  obtain ⟨i0, hi, hz0, hz1, hz2⟩ := info_parts infoB
  have h := run_make_rowN (P := Try.prog) 30 5 i0 _ Try.underlying30 hi hz0 .i64 .i64 (n + 1) (n + 1) (Nat.le_refl _) (by rw [hz2]; omega) (by omega) w
  rw [hz1, Nat.mul_one] at h
  have e : madeCells (Value.cells (.int .u8 0)) (n + 1) = cellsB (List.replicate (n + 1) 0) := by
    apply Array.ext'
    show (madeCells #[.int .u8 0] (n + 1)).toList = _
    rw [toList_madeCells_one]
    simp [cellsB, encB]
  rw [e] at h
  exact h
set_option maxRecDepth 100000 in
set_option maxHeartbeats 400000 in
theorem make_calls (keys : List ByteArray) (A : Option Addr) (c b : Nat) (w : World) (hb : b < 18446744073709551616) (hr : Reads w w.heap.size 1 A keys.length (keys.map .string)) (hk : keys.length ≤ 256) (hks : ∀ k ∈ keys, k.size ≤ maxLen) :
    Calls Try.prog 16 #[.slice A keys.length c, .float .f64 b] w fun e w' => ∃ v, e = .returned v ∧ OwnB w' w.heap.size v (makeF keys b) ∧ Below w.heap.size w w' := by
  have HR := Lib.hid hr
  have HKS := Lib.hid hks
  clear hr hks
  by_cases hp : probes b = 0
  · have e : makeF keys b = [] := by unfold makeF; rw [if_pos hp]
    rw [e]
    clear e
    go_enter Try.func16, Try.ntmps16
    go_wp2_with (go_at_call 18; refine (probes_calls _ _ hb).mono ?_; rintro e w' ⟨rfl, rfl⟩)
    go_ret
    exact ⟨_, rfl, World.ownsRow_nil _ _ _ _, Below.refl _ _⟩
  · have hp1 : (FL.isNaNW b || ltOne b) = false := by
      have := mt (probes_zero b).2 hp
      simpa using this
    have hpos := pos_of b hb hp1
    have hpb := probes_bd b
    have hp0 : (probes b == 0) = false := by simpa using hp
    have hsz := sizeW_bd b keys.length hpos hk
    have hm8 := m8_bd b keys.length hpos hk
    obtain ⟨p, hpe⟩ : ∃ p : Nat, probes b = (p : Int) := ⟨(probes b).toNat, by omega⟩
    have hp12 : p ≤ 12 := by omega
    have hpz : ((p : Int) == 0) = false := by rw [← hpe]; exact hp0
    have hpc : ∀ w, Calls Try.prog 18 #[.float .f64 b] w fun e w' => e = .returned (.int .i64 p) ∧ w = w' := fun w => by rw [← hpe]; exact probes_calls b w hb
    have HPC := Lib.hid hpc
    obtain ⟨m8, hm8e⟩ : ∃ m8, m8Of b keys.length = m8 := ⟨_, rfl⟩
    have hspec : makeF keys b = (makeBits keys (8 * m8 : Nat) p (List.replicate (m8 + 1) 0)).set m8 (UInt8.ofNat p) := by
      unfold makeF; rw [if_neg hp, hm8e, hpe, Int.toNat_natCast]
    rw [hspec]
    have hfw : FL.mulW (min b 4634204016564240384) (FL.ofNatW keys.length) ≤ 4670232813583204352 := size_word_le b _ hpos hk
    have hb1 : 4607182418800017408 ≤ b := by
      rcases Nat.lt_or_ge b 4607182418800017408 with h | h
      · exfalso
        have := (FL.order_lt hpos (by omega : (4607182418800017408 : Nat) ≤ 9218868437227405312)).2 h
        simp only [Bool.or_eq_false_iff] at hp1
        have h2 := hp1.2
        unfold ltOne at h2
        rw [this] at h2
        exact absurd h2 (by decide)
      · exact h
    have hmin : ∀ ts t w, (Builtin.min_ ts t #[.float .f64 b, .float .f64 4634204016564240384]).run Try.prog w = .ok (.float .f64 (min b 4634204016564240384)) w := fun ts t w => min_float_run ts t _ _ w hpos (by omega)
    obtain ⟨fw, hfwe⟩ : ∃ fw, FL.mulW (min b 4634204016564240384) (FL.ofNatW keys.length) = fw := ⟨_, rfl⟩
    have hmul : ∀ t w, (binOp .mul t (.float .f64 (min b 4634204016564240384)) (.float .f64 (floatOfInt FloatKind.f64 (keys.length : Int)))).run Try.prog w = .ok (.float .f64 fw) w := fun t w => by
      rw [floatOfInt_nat, ← hfwe]
      exact mul_float_run t _ _ w (by omega) (by omega) (Nat.le_trans (FL.ofNatW_mono hk) (by decide))
    rw [hfwe] at hfw
    have hnn := not_nan fw (by omega)
    have hcv : ∀ w, (convert 23 3 (.float .f64 (FL.floorW fw))).run Try.prog w = .ok (.int .i64 (sizeW b keys.length)) w := fun w => by
      have e : sizeW b keys.length = FL.convW (FL.floorW fw) := by unfold sizeW; rw [hfwe]
      rw [e]
      have := FL.floorW_mono hfw (by omega)
      have h3 : FL.floorW 4670232813583204352 = 4670232813583204352 := by decide
      exact conv_float_run _ w (by omega)
    obtain ⟨M, hM⟩ : ∃ M : Int, max 64 (sizeW b keys.length) = M := ⟨_, rfl⟩
    have hmx : ∀ ts t w, (Builtin.max_ ts t #[.int .i64 64, .int .i64 (sizeW b keys.length)]).run Try.prog w = .ok (.int .i64 M) w := fun ts t w => by rw [← hM]; exact max_int_run ts t _ _ w
    have hM0 : 64 ≤ M := by omega
    have hM1 : M ≤ 16384 := by omega
    have hMm : (M + 7) / 8 = (m8 : Int) := by rw [← hm8e]; unfold m8Of; omega
    rw [hm8e] at hm8
    have hmk := fun w => make_bytes m8 (by omega) w
    have HFW := Lib.hid hfwe
    have HPE := Lib.hid hpe
    have HME := Lib.hid hM
    have HM8 := Lib.hid hm8e
    clear hp hpe hspec hpc hfwe hM hm8e hp0 hp1
    go_enter Try.func16, Try.ntmps16
    go_wp2_with (first | (go_at_call 18; refine (HPC.out _).mono ?_; rintro e w' ⟨rfl, rfl⟩) | (go_at_call 36; refine (floor_calls _ _ hnn).mono ?_; rintro e w' ⟨rfl, rfl⟩))
    have HMm := Lib.hid hMm
    clear hMm hmk hmx hcv hmul hmin
    go_loopw [9, 33, 34, 35, 36, 37, 38, 39, 40, 41, 42] (fun _ i _ _ _ _ _ _ _ _ _ wr => ∃ k : Nat, k ≤ keys.length ∧ i = .int .i64 k ∧ RelMake w keys m8 p k wr) (fun _ i _ _ _ _ _ _ _ _ _ _ => keys.length - (intOf i).toNat)
    case atStart =>
      refine ⟨0, Nat.zero_le _, rfl, ?_, ?_, ?_⟩
      · exact (Blk.new w 5 _).alloc _
      · exact heap_alloc2_new _ _ _
      · exact ((Below.refl _ _).alloc (Nat.le_refl _) _).alloc (by simp) _
    case round =>
      obtain ⟨k, hk1, rfl, hR⟩ := hrel
      have HRel := Lib.hid hR
      clear hR
      by_cases hlt : k < keys.length
      · obtain ⟨ad, u, rfl, hab, hx, hcell⟩ := (HR.out.below HRel.out.2.2).at_ hlt
        obtain rfl : Value.string keys[k] = u := by
          rw [List.getElem?_map, List.getElem?_eq_getElem hlt] at hx
          exact Option.some.inj hx
        have hks := HKS.out keys[k] (List.getElem_mem hlt)
        have hbig : (makeBits (keys.take k) (8 * m8 : Nat) p (List.replicate (m8 + 1) 0)).length = m8 + 1 := by rw [makeBits_length]; simp
        have HX := Lib.hid hx
        have HB := Lib.hid hbig
        have HKK := Lib.hid hks
        clear hx hbig hks
        go_wp2_with (go_at_call 37; refine (places_set' _ p m8 (w.heap.size + 1) w.heap.size _ _ _ HKK.out (by omega) (by omega) (by omega) HB.out rfl (by omega) HRel.out.2.1 HRel.out.1).mono ?_; rintro e w' ⟨rfl, h1, h2⟩)
        go_roundw
        case rel =>
          refine ⟨k + 1, by omega, by go_num, ?_, ?_, ?_⟩
          · rw [makeBits_snoc keys k hlt]; exact h1
          · exact HRel.out.2.1.grown h2 (by simp)
          · exact HRel.out.2.2.grown h2 HRel.out.2.2.size (by intro k e; cases e; exact Nat.le_refl _)
        case measure => simp [intOf]; omega
      · obtain rfl : k = keys.length := by omega
        have hb1 := HRel.out.1
        have hb2 := HRel.out.2.1
        rw [List.take_length] at hb1
        have hbig : (makeBits keys (8 * m8 : Nat) p (List.replicate (m8 + 1) 0)).length = m8 + 1 := by rw [makeBits_length]; simp
        obtain ⟨bs, hbs⟩ : ∃ bs, makeBits keys (8 * m8 : Nat) p (List.replicate (m8 + 1) 0) = bs := ⟨_, rfl⟩
        rw [hbs] at hb1 hbig
        have HBS := Lib.hid hbs
        clear hbs
        have g1 : wr.cell? ⟨w.heap.size + 1, 0, none⟩ = some (.slice (some ⟨w.heap.size, 0, none⟩) (m8 + 1) (m8 + 1)) := by rw [hb2.cell]; rfl
        have g2 : wr.cell? ⟨w.heap.size, m8, none⟩ = some (encB (bs.getD m8 0)) := by
          rw [hb1.cell]; simp [cellsB, List.getElem?_eq_getElem (show m8 < bs.length by omega)]
        generalize hu : bs.getD m8 0 = u at g2
        unfold encB at g2
        have g3 : wr.frozen? ⟨w.heap.size, m8, none⟩ = false := hb1.frozen _
        have e1 : ((m8 : Int) * 8 / 8) = m8 := by omega
        have HB := Lib.hid hbig
        have HB1 := Lib.hid hb1
        have HB2 := Lib.hid hb2
        have HU := Lib.hid hu
        clear hbig hb1 hb2 hu
        go_wp2
        go_ret
        refine ⟨_, rfl, ?_, HRel.out.2.2.setCell (Nat.le_refl _) _⟩
        rw [HBS.out]
        have hb := HB1.out.set_ m8 (encB (UInt8.ofNat p))
        have e2 : (cellsB bs).setIfInBounds m8 (encB (UInt8.ofNat p)) = cellsB (bs.set m8 (UInt8.ofNat p)) := by
          unfold cellsB; simp [List.map_set]
        have e3 : encB (UInt8.ofNat p) = .int .u8 (p : Int) := by
          unfold encB; rw [UInt8.toNat_ofNat']; congr 2; omega
        rw [e2, e3] at hb
        exact OwnB.of_blk hb (by simpa using HB.out) (Nat.le_refl _) (by unfold maxLen; omega)
end Go.Proofs.Ytjlmcidmcdiklaa
