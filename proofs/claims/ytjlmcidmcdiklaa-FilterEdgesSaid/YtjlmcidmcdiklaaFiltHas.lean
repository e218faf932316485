/- The statement FilterHas: its walk, over the contracts of the functions that it calls. -/
import Derived.Test.YtjlmcidmcdiklaaFiltLaw
set_option linter.unusedVariables false
set_option linter.unusedSimpArgs false
namespace Go.Proofs.Ytjlmcidmcdiklaa
open Go.RowKit

theorem ret_bool {a b : Bool} (h : a = b) : Ending.returned (.bool a) = .returned (.bool b) := by rw [h]
theorem greatS_of (l : List ByteArray) (h : greatS l = false) : l.length ≤ 80 := by
  unfold greatS at h
  simp only [Bool.or_eq_false_iff, decide_eq_false_iff_not] at h
  omega
theorem greatS_any (l : List ByteArray) (k : Nat) (h1 : k < l.length) (h2 : k < 100) (h3 : 300 < l[k].size) : greatS l = true := by
  unfold greatS
  rw [Bool.or_eq_true]
  left
  rw [List.any_eq_true]
  refine ⟨l[k], ?_, by simpa using h3⟩
  rw [List.mem_take_iff_getElem]
  exact ⟨k, by omega, rfl⟩
theorem greatS_none (l : List ByteArray) (h : ∀ k, (h1 : k < l.length) → k < 100 → l[k].size ≤ 300) : greatS l = decide (80 < l.length) := by
  unfold greatS
  have : ((l.take 100).any fun s => decide (300 < s.size)) = false := by
    rw [List.any_eq_false]
    intro s hs
    obtain ⟨k, hk, rfl⟩ := List.mem_take_iff_getElem.1 hs
    have := h k (by omega) (by omega)
    simp; omega
  rw [this, Bool.false_or]

set_option maxHeartbeats 400000 in
theorem great_calls (l : List ByteArray) (A : Option Addr) (c : Nat) (w : World) (hr : Reads w w.heap.size 1 A l.length (l.map .string)) (hl : l.length ≤ maxLen) :
    Calls Try.prog 11 #[.slice A l.length c] w fun e w' => e = .returned (.bool (greatS l)) ∧ w = w' := by
  unfold maxLen at hl
  have HR := Lib.hid hr
  clear hr
  go_enter Try.func11, Try.ntmps11
  go_wp2
  go_loop [3, 4, 5, 6, 7, 8, 9, 10, 11, 12, 13, 14, 15, 16, 17, 18, 19] (fun i _ _ _ _ _ _ _ _ _ _ _ _ _ _ _ _ => ∃ k : Nat, k ≤ l.length ∧ k ≤ 100 ∧ i = .int .i64 k ∧ Hid (∀ j, (h1 : j < l.length) → j < k → l[j].size ≤ 300)) (fun i _ _ _ _ _ _ _ _ _ _ _ _ _ _ _ _ => l.length - (intOf i).toNat)
  case atStart => exact ⟨0, Nat.zero_le _, by omega, rfl, fun j _ h => by omega⟩
  case round =>
    obtain ⟨k, hk, hk2, rfl, HI⟩ := hrel
    by_cases hlt : k < l.length ∧ k < 100
    · obtain ⟨hlt, h100⟩ := hlt
      obtain ⟨ad, u, rfl, hab, hx, hcell⟩ := HR.out.at_ hlt
      rw [List.getElem?_map, List.getElem?_eq_getElem hlt] at hx
      obtain rfl : Value.string l[k] = u := Option.some.inj hx
      clear hx
      by_cases hbig : 300 < l[k].size
      · go_wp2
        go_ret
        rw [greatS_any l k hlt h100 hbig]
        exact ⟨rfl, rfl⟩
      · go_wp2
        go_round
        case rel =>
          refine ⟨k + 1, by omega, by omega, by go_num, fun j h1 h2 => ?_⟩
          rcases Nat.lt_or_ge j k with h | h
          · exact HI.out j h1 h
          · obtain rfl : j = k := by omega
            omega
        case measure => simp [intOf]; omega
    · have hg : greatS l = decide (80 < l.length) := greatS_none l fun j h1 h2 => HI.out j h1 (by omega)
      have HG := Lib.hid hg
      clear hg
      by_cases hlt : k < l.length
      · have h100 : (100 : Int) ≤ k := by omega
        go_wp2
        go_ret
        refine ⟨?_, rfl⟩
        rw [HG.out]
        exact ret_bool (decide_eq_decide.2 (by omega))
      · go_wp2
        go_ret
        refine ⟨?_, rfl⟩
        rw [HG.out]
        exact ret_bool (decide_eq_decide.2 (by omega))

theorem awake11_calls (w : World) : Calls Try.prog 12 #[] w fun e w' => e = .returned (.bool true) ∧ w = w' := by
  have h1 := probes_calls 4621819117588971520
  have h2 := probes_calls 9218868437227405312
  rw [probes_ten] at h1
  rw [probes_inf] at h2
  have H1 := Lib.hid h1
  have H2 := Lib.hid h2
  clear h1 h2
  go_enter Try.func12, Try.ntmps12
  go_wp2_with fail
  refine (H1.out _ (by omega)).mono ?_
  rintro e w' ⟨rfl, rfl⟩
  go_wp2_with fail
  refine (inf_calls _).mono ?_
  rintro e w' ⟨rfl, rfl⟩
  go_wp2_with fail
  refine (H2.out _ (by omega)).mono ?_
  rintro e w' ⟨rfl, rfl⟩
  go_wp2_with fail
  go_ret
  exact ⟨rfl, rfl⟩

def bitsList (b : Nat) : List Nat := [b, 9221120237041090561, 9218868437227405312, 18442240474082181120, 9223372036854775808, 0, 4607182418800017408, 1, 9214871658872686752]
def cellsF (l : List Nat) : Array Value := (l.map (Value.float .f64)).toArray
theorem bitsList_lt (b : Nat) (hb : b < 18446744073709551616) (j : Nat) (hj : j < 9) : (bitsList b).getD j 0 < 18446744073709551616 := by
  unfold bitsList
  match j, hj with
  | 0, _ => exact hb
  | 1, _ => exact (by omega : (9221120237041090561 : Nat) < 18446744073709551616)
  | 2, _ => exact (by omega : (9218868437227405312 : Nat) < 18446744073709551616)
  | 3, _ => exact (by omega : (18442240474082181120 : Nat) < 18446744073709551616)
  | 4, _ => exact (by omega : (9223372036854775808 : Nat) < 18446744073709551616)
  | 5, _ => exact (by omega : (0 : Nat) < 18446744073709551616)
  | 6, _ => exact (by omega : (4607182418800017408 : Nat) < 18446744073709551616)
  | 7, _ => exact (by omega : (1 : Nat) < 18446744073709551616)
  | 8, _ => exact (by omega : (9214871658872686752 : Nat) < 18446744073709551616)
def RelOut (w : World) (b : Nat) (wr : World) : Prop := Blk wr w.heap.size 23 (cellsF (bitsList b)) ∧ Below w.heap.size w wr
theorem OwnB.reads {w : World} {base : Nat} {v : Value} {bs : List UInt8} (h : OwnB w base v bs) : ∃ A c, v = .slice A bs.length c ∧ Reads w w.heap.size 1 A bs.length (bs.map encB) := by
  rcases h.2 with ⟨rfl, hn⟩ | ⟨g, cap, cur, rfl, _⟩
  · obtain rfl := List.eq_nil_of_length_eq_zero hn
    exact ⟨none, 0, rfl, Reads.none_⟩
  · exact ⟨_, cap, rfl, Reads.of_own h⟩

set_option maxRecDepth 100000 in
set_option maxHeartbeats 1000000 in
theorem has_calls (l : List ByteArray) (A : Option Addr) (c b : Nat) (w : World) (hb : b < 18446744073709551616) (hr : Reads w w.heap.size 1 A l.length (l.map .string)) (hl : l.length ≤ maxLen) (hls : ∀ k ∈ l, k.size ≤ maxLen) :
    Calls Try.prog 3 #[.slice A l.length c, .float .f64 b] w fun e w' => e = .returned (.bool true) ∧ Below w.heap.size w w' := by
  have HR := Lib.hid hr
  have HLS := Lib.hid hls
  clear hr hls
  by_cases hg : greatS l = true
  · have hgc : ∀ w, Reads w w.heap.size 1 A l.length (l.map .string) → Calls Try.prog 11 #[.slice A l.length c] w fun e w' => e = .returned (.bool true) ∧ w = w' := fun w hr => by rw [← hg]; exact great_calls l A c w hr hl
    have HGC := Lib.hid hgc
    clear hgc hg
    go_enter Try.func3, Try.ntmps3
    go_wp2_with (first | (go_at_call 11; refine (HGC.out _ HR.out).mono ?_; rintro e w' ⟨rfl, rfl⟩) | (go_at_call 12; refine (awake11_calls _).mono ?_; rintro e w' ⟨rfl, rfl⟩))
    go_ret
    exact ⟨rfl, Below.refl _ _⟩
  · simp only [Bool.not_eq_true] at hg
    have h80 := greatS_of l hg
    have hgc : ∀ w, Reads w w.heap.size 1 A l.length (l.map .string) → Calls Try.prog 11 #[.slice A l.length c] w fun e w' => e = .returned (.bool false) ∧ w = w' := fun w hr => by rw [← hg]; exact great_calls l A c w hr hl
    have HGC := Lib.hid hgc
    clear hgc hg
    go_enter Try.func3, Try.ntmps3
    go_wp2_with fail
    refine (HGC.out _ HR.out).mono ?_
    rintro e w' ⟨rfl, rfl⟩
    go_wp2_with fail
    refine (nan_calls _).mono ?_
    rintro e w' ⟨rfl, rfl⟩
    go_wp2_with fail
    refine (inf_calls _).mono ?_
    rintro e w' ⟨rfl, rfl⟩
    go_wp2_with fail
    refine (neginf_calls _).mono ?_
    rintro e w' ⟨rfl, rfl⟩
    go_wp2_with fail
    refine (copysign_calls _).mono ?_
    rintro e w' ⟨rfl, rfl⟩
    go_wp2_with fail
    go_loopw [4, 6, 7, 8, 18, 19, 20, 21, 22, 23, 24, 25, 26, 27, 28, 29, 30, 31, 32, 33, 34, 35, 36, 37, 38, 39, 40, 41, 42] (fun _ i _ _ _ _ _ _ _ _ _ _ _ _ _ _ _ _ _ _ _ _ _ _ _ _ _ _ _ wr => ∃ k : Nat, k ≤ 9 ∧ i = .int .i64 k ∧ RelOut w b wr) (fun _ i _ _ _ _ _ _ _ _ _ _ _ _ _ _ _ _ _ _ _ _ _ _ _ _ _ _ _ _ => 9 - (intOf i).toNat)
    case atStart => exact ⟨0, by omega, rfl, Blk.new w _ _, (Below.refl _ _).alloc (Nat.le_refl _) _⟩
    case round =>
      obtain ⟨j, hj, rfl, hR⟩ := hrel
      have HRel := Lib.hid hR
      clear hR
      by_cases hlt : j < 9
      · have hcell : wr.cell? ⟨w.heap.size, j, none⟩ = some (.float .f64 ((bitsList b).getD j 0)) := by
          rw [HRel.out.1.cell]
          have : j < (bitsList b).length := hlt
          simp [cellsF, List.getElem?_eq_getElem this]
        have hx := bitsList_lt b hb j hlt
        generalize (bitsList b).getD j 0 = x at *
        have hrr := (HR.out.below HRel.out.2).more HRel.out.2.size
        have HRR := Lib.hid hrr
        clear hrr
        go_wp2_with fail
        refine (make_calls l A c _ _ hx HRR.out (by omega) HLS.out).mono ?_
        rintro e wm ⟨v, rfl, h1, h2⟩
        obtain ⟨A2, c2, rfl, hrd⟩ := h1.reads
        have HF := Lib.hid hrd
        have HB2 := Lib.hid h2
        clear h1 h2 hrd
        have hfl : (makeF l x).length < 100000000 := by
          by_cases h0 : probes x = 0
          · have : makeF l x = [] := by unfold makeF; rw [if_pos h0]
            rw [this]; simp
          · have hp1 : (FL.isNaNW x || ltOne x) = false := by
              have := mt (probes_zero x).2 h0
              simpa using this
            have := m8_bd x l.length (pos_of x hx hp1) (by omega)
            rw [makeF_length l x h0]; omega
        have hmay : ∀ key ∈ l, mayF (makeF l x) key = true := fun key hk => makeF_may l x hx (by omega) key hk
        generalize makeF l x = f at *
        have HMAY := Lib.hid hmay
        clear hmay
        go_wp2_with fail
        go_loopw [4, 8, 30, 31, 32, 33, 34, 35, 36, 37, 38, 39, 40, 41, 42] (fun _ i _ _ _ _ _ _ _ _ _ _ _ _ _ wr' => ∃ k : Nat, k ≤ l.length ∧ i = .int .i64 k ∧ Hid (Below wm.heap.size wm wr')) (fun _ i _ _ _ _ _ _ _ _ _ _ _ _ _ _ => l.length - (intOf i).toNat)
        case atStart => exact ⟨0, by omega, rfl, Below.refl _ _⟩
        case round =>
          obtain ⟨k, hk, rfl, HW⟩ := hrel
          by_cases hlk : k < l.length
          · obtain ⟨ad, u, rfl, hab, hx, hcell⟩ := (HRR.out.below (HB2.out.trans (HW.out.mono HB2.out.size))).at_ hlk
            obtain rfl : Value.string l[k] = u := by
              rw [List.getElem?_map, List.getElem?_eq_getElem hlk] at hx
              exact Option.some.inj hx
            have hks := HLS.out l[k] (List.getElem_mem hlk)
            have hmc : ∀ w, Reads w w.heap.size 1 A2 f.length (f.map encB) → Calls Try.prog 17 #[.slice A2 f.length c2, .string l[k]] w fun e w' => e = .returned (.bool true) ∧ Below w.heap.size w w' := fun w hr => by
              have := may_calls f l[k] A2 c2 w hr hfl hks
              rw [HMAY.out _ (List.getElem_mem hlk)] at this; exact this
            have HMC := Lib.hid hmc
            have hf2 := (HF.out.below HW.out).more HW.out.size
            have HF2 := Lib.hid hf2
            clear hx hks hmc hf2
            go_wp2_with fail
            refine (HMC.out _ HF2.out).mono ?_
            rintro e wn ⟨rfl, hb3⟩
            have HB3 := Lib.hid hb3
            clear hb3
            go_wp2_with fail
            go_roundw
            case rel => exact ⟨k + 1, by omega, by go_num, HW.out.trans (HB3.out.mono HW.out.size)⟩
            case measure => simp [intOf]; omega
          · go_wp2_with fail
            go_roundw
            case rel =>
              have hb4 := HB2.out.trans (HW.out.mono HB2.out.size)
              exact ⟨j + 1, by omega, by go_num, HRel.out.1.below hb4 HRel.out.1.lt, HRel.out.2.trans (hb4.mono HRel.out.2.size)⟩
            case measure => simp [intOf]; omega
      · go_wp2_with fail
        refine (awake11_calls _).mono ?_
        rintro e w' ⟨rfl, rfl⟩
        go_wp2_with fail
        go_ret
        exact ⟨rfl, HRel.out.2⟩
end Go.Proofs.Ytjlmcidmcdiklaa
