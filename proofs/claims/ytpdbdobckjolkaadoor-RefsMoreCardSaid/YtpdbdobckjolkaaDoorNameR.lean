/- The walks of the reference's name functions: word, Number, Digits, number, Name. -/
import Derived.Test.YtpdbdobckjolkaaDoorNameW
import Derived.Test.YtpdbdobckjolkaaDoorNameB
import Derived.Test.YtpdbdobckjolkaaDoorBytes
set_option linter.unusedVariables false
set_option linter.unusedSimpArgs false
namespace Go.Proofs.YtpdbdobckjolkaaDoor
open Go.RowKit

def wordL (k : Int) : List UInt8 := if k = 7 then [] else headL k
set_option maxHeartbeats 400000 in
theorem word_calls (k : Int) (w : World) : Calls Tryd.prog 25 #[.int .i64 k] w fun e w' => e = .returned (str (wordL k)) ∧ w = w' := by
  go_enter Tryd.func25, Tryd.ntmps25
  go_wp2
  all_goals (go_ret; refine ⟨?_, rfl⟩; simp_all [wordL, headL, str])
theorem rnumber_calls (n : Int) (w : World) : Calls Tryd.prog 23 #[.int .i64 n] w fun e w' => e = .returned (.bool (mayN n)) ∧ w = w' := by
  by_cases h : 0 ≤ n
  · have e : mayN n = decide (n ≤ 9007199254740992) := by simp [mayN, h]
    rw [e]
    go_enter Tryd.func23, Tryd.ntmps23
    go_wp2
    go_ret
    exact ⟨rfl, rfl⟩
  · have e : mayN n = false := by simp [mayN, h]
    rw [e]
    go_enter Tryd.func23, Tryd.ntmps23
    go_wp2
    go_ret
    exact ⟨rfl, rfl⟩

theorem one_text (d : Nat) (hd : d < 10) (w : World) : (convert 22 9 (.slice (some ⟨w.heap.size, 0, none⟩) 1 1)).run Tryd.prog (w.alloc (.cells #[.int .u8 (48 + (d : Int))] 5)) = .ok (.string ⟨#[UInt8.ofNat (48 + d)]⟩) (w.alloc (.cells #[.int .u8 (48 + (d : Int))] 5)) := by
  have e : encB (UInt8.ofNat (48 + d)) = .int .u8 (48 + (d : Int)) := by unfold encB; rw [digit_byte d hd]; congr 1
  have hb : Blk (w.alloc (.cells #[.int .u8 (48 + (d : Int))] 5)) w.heap.size 5 #[encB (UInt8.ofNat (48 + d))] := by rw [e]; exact Blk.new w _ _
  exact text_of_bytes 22 9 (by kernel_rfl) Tryd.underlying9 _ _ _ 1 [UInt8.ofNat (48 + d)] (Reads.one hb)
set_option maxRecDepth 100000 in
set_option maxHeartbeats 400000 in
theorem digits_calls (n : Nat) (w : World) (hn : n ≤ 9007199254740992) : Calls Tryd.prog 24 #[.int .i64 (n : Int)] w fun e w' => e = .returned (str (Lib.decDigits n)) ∧ Below w.heap.size w w' := by
  have hlen := dec_len n hn
  have HLEN := Lib.hid hlen
  clear hlen
  go_enter Tryd.func24, Tryd.ntmps24
  go_wp2_with fail
  go_loopw [0, 3, 4, 5, 6, 7, 8, 9, 10, 11, 12, 13, 14, 15] (fun x y _ _ _ _ _ _ _ _ _ _ _ _ wr => ∃ (m : Nat) (l : List UInt8), m ≤ 9007199254740992 ∧ x = .int .i64 m ∧ y = str l ∧ l.length ≤ 16 ∧ Hid (Lib.decDigits n = Lib.decDigits m ++ l) ∧ Hid (Below w.heap.size w wr)) (fun x _ _ _ _ _ _ _ _ _ _ _ _ _ _ => (intOf x).toNat)
  case atStart => exact ⟨n, [], hn, rfl, rfl, by simp, by simp [Hid], Below.refl _ _⟩
  case round =>
    obtain ⟨m, l, hm, rfl, rfl, hl, HD, HB⟩ := hrel
    by_cases h10 : 10 ≤ m
    · have hcv := one_text (m % 10) (by omega) wr
      have ec : (((m % 10 : Nat) : Int)) = (m : Int) % 10 := by omega
      rw [ec] at hcv
      clear ec
      go_wp2
      go_roundw
      case rel =>
        have hd : Lib.decDigits m = Lib.decDigits (m / 10) ++ [UInt8.ofNat (48 + m % 10)] := by rw [Lib.decDigits, dif_neg (by omega)]
        have hlen := HLEN.out
        have hD := HD.out
        rw [hd] at hD
        refine ⟨m / 10, UInt8.ofNat (48 + m % 10) :: l, by omega, by go_num, ?_, ?_, by rw [hD]; simp [Hid], HB.out.alloc HB.out.size _⟩
        · show Value.string _ = Value.string _
          congr 1
          rw [show UInt8.ofNat (48 + m % 10) = 48 + UInt8.ofNat (m % 10) from UInt8.ofNat_add 48 _]
          exact ByteArray.mk_append_mk [48 + UInt8.ofNat (m % 10)] l
        · rw [hD] at hlen; simp at hlen ⊢; omega
      case measure => simp [intOf]; omega
    · have hcv := one_text m (by omega) wr
      go_wp2
      go_ret
      refine ⟨?_, HB.out.alloc HB.out.size _⟩
      have hd : Lib.decDigits m = [UInt8.ofNat (48 + m)] := Lib.decDigits_one (by omega)
      rw [HD.out, hd]
      rw [show UInt8.ofNat (48 + m) = 48 + UInt8.ofNat m from UInt8.ofNat_add 48 _]
      exact ret_str (ByteArray.mk_append_mk [48 + UInt8.ofNat m] l)

theorem digits_int (n : Int) (w : World) (hn : mayN n = true) : Calls Tryd.prog 24 #[.int .i64 n] w fun e w' => e = .returned (str (Lib.itoa n)) ∧ Below w.heap.size w w' := by
  rw [mayN_iff] at hn
  obtain ⟨m, rfl⟩ : ∃ m : Nat, n = m := ⟨n.toNat, by omega⟩
  rw [itoa_nat]
  exact digits_calls m w (by omega)
set_option maxHeartbeats 400000 in
theorem name_calls (k e n : Int) (w : World) : Calls Tryd.prog 14 #[.int .i64 k, .int .i64 e, .int .i64 n] w fun e' w' => e' = .returned (str (textL k e n)) ∧ Below w.heap.size w w' := by
  have l1 := headL_len k
  have l3 : mayN n = true → (Lib.itoa n).length ≤ 16 := fun h => by
    rw [mayN_iff] at h
    obtain ⟨m, rfl⟩ : ∃ m : Nat, n = m := ⟨n.toNat, by omega⟩
    rw [itoa_nat]; exact dec_len m (by omega)
  have l2 : mayN e = true → (Lib.itoa e).length ≤ 16 := fun h => by
    rw [mayN_iff] at h
    obtain ⟨m, rfl⟩ : ∃ m : Nat, e = m := ⟨e.toNat, by omega⟩
    rw [itoa_nat]; exact dec_len m (by omega)
  by_cases h4 : k = 4
  · subst h4
    have hs : textL 4 e n = [99, 117, 114, 114, 101, 110, 116] := rfl
    rw [hs]; clear hs l1 l2 l3
    go_enter Tryd.func14, Tryd.ntmps14
    go_wp2
    go_ret
    exact ⟨rfl, Below.refl _ _⟩
  by_cases h5 : k = 5
  · subst h5
    have hs : textL 5 e n = [116, 101, 109, 112] := rfl
    rw [hs]; clear hs l1 l2 l3
    go_enter Tryd.func14, Tryd.ntmps14
    go_wp2
    go_ret
    exact ⟨rfl, Below.refl _ _⟩
  by_cases h6 : k = 6
  · subst h6
    have hs : textL 6 e n = [99, 97, 99, 104, 101] := rfl
    rw [hs]; clear hs l1 l2 l3
    go_enter Tryd.func14, Tryd.ntmps14
    go_wp2
    go_ret
    exact ⟨rfl, Below.refl _ _⟩
  have g4 : (k == 4) = false := by simpa using h4
  have g5 : (k == 5) = false := by simpa using h5
  have g6 : (k == 6) = false := by simpa using h6
  have hw : wholeL k = [] := by unfold wholeL; rw [if_neg h4, if_neg h5, if_neg h6]
  by_cases h7 : k = 7
  · subst h7
    have hh : headL 7 = [102, 97, 114, 45] := rfl
    have hwd : (wordL 7 == []) = true := rfl
    by_cases he : mayN e = true
    · by_cases hn : mayN n = true
      · have hs : textL 7 e n = headL 7 ++ Lib.itoa e ++ [45] ++ Lib.itoa n := by unfold textL; simp [hh, he, hn]
        rw [hs, hh]
        have l2 := l2 he
        have l3 := l3 hn
        clear hs l1 hw hh hwd h4 h5 h6
        go_enter Tryd.func14, Tryd.ntmps14
        go_wp2_with fail
        refine (rnumber_calls _ _).mono ?_
        rintro e' w' ⟨rfl, rfl⟩
        go_wp2_with fail
        refine (rnumber_calls _ _).mono ?_
        rintro e' w' ⟨rfl, rfl⟩
        go_wp2_with fail
        refine (digits_int _ _ he).mono ?_
        rintro e' w1 ⟨rfl, hb1⟩
        have HB1 := Lib.hid hb1
        clear hb1
        go_wp2_with fail
        refine (digits_int _ _ hn).mono ?_
        rintro e' w2 ⟨rfl, hb2⟩
        have HB2 := Lib.hid hb2
        clear hb2
        go_wp2_with fail
        go_ret
        refine ⟨?_, HB1.out.trans (HB2.out.mono HB1.out.size)⟩
        exact ret_str (by rw [ByteArray.mk_append_mk [102, 97, 114, 45] (Lib.itoa e), ByteArray.mk_append_mk ([102, 97, 114, 45] ++ Lib.itoa e) [45], ByteArray.mk_append_mk ([102, 97, 114, 45] ++ Lib.itoa e ++ [45]) (Lib.itoa n)]; rfl)
      · simp only [Bool.not_eq_true] at hn
        have hs : textL 7 e n = [] := by unfold textL; simp [hh, he, hn]
        rw [hs]
        clear hs l1 l2 l3 hw hh h4 h5 h6
        go_enter Tryd.func14, Tryd.ntmps14
        go_wp2_with (first | (go_at_call 23; refine (rnumber_calls _ _).mono ?_; rintro e' w' ⟨rfl, rfl⟩) | (go_at_call 25; refine (word_calls _ _).mono ?_; rintro e' w' ⟨rfl, rfl⟩))
        go_ret
        exact ⟨rfl, Below.refl _ _⟩
    · simp only [Bool.not_eq_true] at he
      have hs : textL 7 e n = [] := by unfold textL; simp [hh, he]
      rw [hs]
      clear hs l1 l2 l3 hw hh h4 h5 h6
      go_enter Tryd.func14, Tryd.ntmps14
      go_wp2_with (first | (go_at_call 23; refine (rnumber_calls _ _).mono ?_; rintro e' w' ⟨rfl, rfl⟩) | (go_at_call 25; refine (word_calls _ _).mono ?_; rintro e' w' ⟨rfl, rfl⟩))
      go_ret
      exact ⟨rfl, Below.refl _ _⟩
  have g7 : (k == 7) = false := by simpa using h7
  have hwd : wordL k = headL k := by unfold wordL; rw [if_neg h7]
  by_cases hh : headL k = []
  · have hs : textL k e n = [] := by unfold textL; rw [if_pos hh, hw]
    rw [hs]
    have gw : (wordL k == []) = true := by rw [hwd, hh]; rfl
    clear hs l1 l2 l3 hw hh hwd h4 h5 h6 h7
    go_enter Tryd.func14, Tryd.ntmps14
    go_wp2_with (first | (go_at_call 23; refine (rnumber_calls _ _).mono ?_; rintro e' w' ⟨rfl, rfl⟩) | (go_at_call 25; refine (word_calls _ _).mono ?_; rintro e' w' ⟨rfl, rfl⟩))
    go_ret
    exact ⟨rfl, Below.refl _ _⟩
  · have gw : (wordL k == []) = false := by rw [hwd]; simpa using hh
    by_cases hn : mayN n = true
    · have hs : textL k e n = wordL k ++ Lib.itoa n := by unfold textL; rw [if_neg hh, if_neg (by simp [hn]), if_pos h7, hwd]
      rw [hs]
      have l3 := l3 hn
      rw [← hwd] at l1
      clear hs l2 hw hh hwd h4 h5 h6 h7
      go_enter Tryd.func14, Tryd.ntmps14
      go_wp2_with (first | (go_at_call 23; refine (rnumber_calls _ _).mono ?_; rintro e' w' ⟨rfl, rfl⟩) | (go_at_call 25; refine (word_calls _ _).mono ?_; rintro e' w' ⟨rfl, rfl⟩))
      refine (digits_int _ _ hn).mono ?_
      rintro e' w1 ⟨rfl, hb1⟩
      have HB1 := Lib.hid hb1
      clear hb1
      go_wp2_with fail
      go_ret
      refine ⟨?_, HB1.out⟩
      exact ret_str (by rw [← ByteArray.mk_append_mk (wordL k) (Lib.itoa n)])
    · simp only [Bool.not_eq_true] at hn
      have hs : textL k e n = [] := by unfold textL; rw [if_neg hh, if_pos hn]
      rw [hs]
      clear hs l1 l2 l3 hw hh hwd h4 h5 h6 h7
      go_enter Tryd.func14, Tryd.ntmps14
      go_wp2_with (first | (go_at_call 23; refine (rnumber_calls _ _).mono ?_; rintro e' w' ⟨rfl, rfl⟩) | (go_at_call 25; refine (word_calls _ _).mono ?_; rintro e' w' ⟨rfl, rfl⟩))
      go_ret
      exact ⟨rfl, Below.refl _ _⟩

theorem val_int {k : IntKind} {a b : Int} (h : a = b) : Value.int k a = .int k b := by rw [h]
theorem sub_drop (l : List UInt8) (a b : Nat) (h : b ≤ l.length) : (l.take b).drop a = if a < b then l.getD a 0 :: (l.take b).drop (a + 1) else [] := by
  split
  · rename_i hab
    have hl : a < (l.take b).length := by rw [List.length_take]; omega
    rw [List.drop_eq_getElem_cons hl]
    congr 1
    rw [List.getElem_take]
    simp [List.getElem?_eq_getElem (show a < l.length by omega)]
  · rename_i hab
    exact List.drop_eq_nil_of_le (by rw [List.length_take]; omega)
set_option maxHeartbeats 400000 in
theorem refnumber_calls (s : ByteArray) (a b : Nat) (w : World) (hb4 : a < b → b ≤ s.size) (hs : s.size ≤ 281474976710656) (ha : a ≤ 281474976710657) :
    Calls Tryd.prog 42 #[.string s, .int .i64 (a : Int), .int .i64 (b : Int)] w fun e w' => e = .returned (.int .i64 (refNum ((s.data.toList.take b).drop a))) ∧ w = w' := by
  have hlen : s.data.toList.length = s.size := by rw [Array.length_toList]; rfl
  by_cases h1 : b ≤ a
  · have e : refNum ((s.data.toList.take b).drop a) = -1 := by
      unfold refNum
      rw [if_pos (.inl (List.eq_nil_of_length_eq_zero (by rw [List.length_drop, List.length_take]; omega)))]
    rw [e]
    clear e hlen hb4
    go_enter Tryd.func42, Tryd.ntmps42
    go_wp2
    go_ret
    exact ⟨rfl, rfl⟩
  have hb : b ≤ s.size := hb4 (by omega)
  have hsub : ((s.data.toList.take b).drop a).length = b - a := by rw [List.length_drop, List.length_take, hlen]; omega
  clear hb4
  by_cases h2 : 16 < b - a
  · have e : refNum ((s.data.toList.take b).drop a) = -1 := by
      unfold refNum
      rw [if_pos (.inr (by omega))]
    rw [e]
    have h3 : (16 : Int) < (b : Int) - a := by omega
    have h4 : (a : Int) < b := by omega
    clear e hsub hlen
    go_enter Tryd.func42, Tryd.ntmps42
    go_wp2
    go_ret
    exact ⟨rfl, rfl⟩
  have h3 : (b : Int) - a ≤ 16 := by omega
  have h4 : (a : Int) < b := by omega
  obtain ⟨t, ht⟩ : ∃ t, (s.data.toList.take b).drop a = t := ⟨_, rfl⟩
  have hspec : refNum t = if t.all isDig = true then (dvFrom 0 t : Int) else -1 := by
    unfold refNum
    rw [if_neg]
    rw [ht] at hsub
    rintro (h | h)
    · rw [h] at hsub; simp at hsub; omega
    · omega
  rw [ht]
  have HSPEC := Lib.hid hspec
  have HT := Lib.hid ht
  have HS := Lib.hid hsub
  have HL := Lib.hid hlen
  clear ht hspec hsub hlen
  go_enter Tryd.func42, Tryd.ntmps42
  go_wp2_with fail
  go_loop [6, 7, 8, 19, 20, 21, 22, 23, 24, 25, 26, 27, 28, 29, 30, 31, 32, 33, 34, 35, 36, 37, 38, 39, 40, 41] (fun _ n i _ _ _ _ _ _ _ _ _ _ _ _ _ _ _ _ _ _ _ _ _ _ _ => ∃ (k v : Nat), a ≤ k ∧ k ≤ b ∧ i = .int .i64 k ∧ n = .int .i64 v ∧ v < 10000000000000000 ∧ Hid (∃ u, t = u ++ (s.data.toList.take b).drop k ∧ u.all isDig = true ∧ dvFrom 0 u = v ∧ u.length = k - a)) (fun _ _ i _ _ _ _ _ _ _ _ _ _ _ _ _ _ _ _ _ _ _ _ _ _ _ => b - (intOf i).toNat)
  case atStart => exact ⟨a, 0, Nat.le_refl _, by omega, rfl, rfl, by omega, [], by rw [HT.out]; rfl, rfl, rfl, by simp⟩
  case round =>
    obtain ⟨k, v, hk0, hk, rfl, rfl, hv, HI⟩ := hrel
    by_cases hlt : k < b
    · have hc := sub_drop s.data.toList k b (by rw [HL.out]; exact hb)
      rw [if_pos hlt] at hc
      have hks : k < s.size := by omega
      have hg : s.data.toList.getD k 0 = s[k] := by
        simp [List.getElem?_eq_getElem (show k < s.data.toList.length by rw [HL.out]; exact hks)]; rfl
      rw [hg] at hc
      have HC := Lib.hid hc
      clear hc hg
      by_cases hlo : s[k].toNat < 48
      · go_wp2
        go_ret
        refine ⟨?_, rfl⟩
        obtain ⟨u, hu, _⟩ := HI.out
        have : t.all isDig = false := by
          rw [hu, HC.out, List.all_append, List.all_cons]
          have : isDig s[k] = false := by unfold isDig; simp; omega
          rw [this]; simp
        rw [HSPEC.out, this]; rfl
      · by_cases hhi : 57 < s[k].toNat
        · go_wp2
          go_ret
          refine ⟨?_, rfl⟩
          obtain ⟨u, hu, _⟩ := HI.out
          have : t.all isDig = false := by
            rw [hu, HC.out, List.all_append, List.all_cons]
            have : isDig s[k] = false := by unfold isDig; simp; omega
            rw [this]; simp
          rw [HSPEC.out, this]; rfl
        · have hw : 10 * v + (s[k].toNat - 48) < 10000000000000000 := by
            obtain ⟨u, hu, hall, hdv, hul⟩ := HI.out
            have h5 := dvFrom_lt (u ++ [s[k]]) 0 (by rw [List.all_append, hall]; unfold isDig; simp; omega)
            rw [dvFrom_snoc, hdv, List.length_append, hul] at h5
            have h6 : (10 : Nat) ^ (k - a + 1) ≤ 10 ^ 16 := Nat.pow_le_pow_right (by omega) (by omega)
            have h7 : (10 : Nat) ^ 16 = 10000000000000000 := by decide
            simp only [List.length_cons, List.length_nil, Nat.zero_add, Nat.one_mul] at h5
            omega
          have HW := Lib.hid hw
          clear hw
          go_wp2
          go_round
          case rel =>
            obtain ⟨u, hu, hall, hdv, hul⟩ := HI.out
            exact ⟨k + 1, 10 * v + (s[k].toNat - 48), by omega, by omega, by go_num, val_int (by omega), HW.out, u ++ [s[k]], by rw [hu, HC.out]; simp, by rw [List.all_append, hall]; unfold isDig; simp; omega, by rw [dvFrom_snoc, hdv], by rw [List.length_append, hul]; simp; omega⟩
          case measure => simp [intOf]; omega
    · obtain rfl : k = b := by omega
      go_wp2
      go_ret
      refine ⟨?_, rfl⟩
      obtain ⟨u, hu, hall, hdv, hul⟩ := HI.out
      have e : (s.data.toList.take k).drop k = [] := List.drop_eq_nil_of_le (by rw [List.length_take]; omega)
      rw [e, List.append_nil] at hu
      subst hu
      rw [HSPEC.out, hall, hdv]; rfl
end Go.Proofs.YtpdbdobckjolkaaDoor
