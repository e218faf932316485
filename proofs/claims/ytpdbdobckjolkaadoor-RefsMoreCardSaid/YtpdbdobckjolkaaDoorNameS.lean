/- The walk of the reference's ReadName. -/
import Derived.Test.YtpdbdobckjolkaaDoorNameR
set_option linter.unusedVariables false
set_option linter.unusedSimpArgs false
namespace Go.Proofs.YtpdbdobckjolkaaDoor
open Go.RowKit

def dashAt (s : List UInt8) : Nat := 4 + ((s.drop 4).takeWhile fun c => c != 45).length
def refE (s : List UInt8) (k : Int) : Int := if k = 7 then refNum ((s.take (dashAt s)).drop 4) else 0
def refN (s : List UInt8) (k : Int) : Int := if k = 7 then refNum (s.drop (dashAt s + 1)) else if wordL k = [] then 0 else refNum (s.drop (wordL k).length)
def refKs (s : List UInt8) : List Int → Int × Int × Int
  | [] => (0, 0, 0)
  | k :: ks => if s ≠ [] ∧ 0 ≤ refE s k ∧ 0 ≤ refN s k ∧ textL k (refE s k) (refN s k) = s then (k, refE s k, refN s k) else refKs s ks
def refL (s : List UInt8) : Int × Int × Int := refKs s (kindsFrom 1)
def RelRef (w : World) (s : List UInt8) (k : Nat) (wr : World) : Prop := refL s = refKs s (kindsFrom k) ∧ Below w.heap.size w wr
theorem takeWhile_le (l : List UInt8) : (l.takeWhile fun c => c != 45).length ≤ l.length := by
  induction l with
  | nil => exact Nat.le_refl _
  | cons c l ih =>
    rw [List.takeWhile_cons]
    split
    · simp only [List.length_cons]; omega
    · simp
theorem takeWhile_stop (l : List UInt8) (j : Nat) (h : ∀ i, i < j → i < l.length ∧ l.getD i 0 ≠ 45) (h2 : j < l.length → l.getD j 0 = 45) (hj : j ≤ l.length) : (l.takeWhile fun c => c != 45).length = j := by
  induction l generalizing j with
  | nil => simp at hj; subst hj; rfl
  | cons c l ih =>
    cases j with
    | zero => have := h2 (by simp); simp at this; subst this; rfl
    | succ j =>
      have h0 := (h 0 (by omega)).2
      simp at h0
      rw [List.takeWhile_cons_of_pos (by simpa using h0), List.length_cons]
      rw [ih j (fun i hi => by have := h (i + 1) (by omega); simpa using this) (fun hl => by have := h2 (by simpa using hl); simpa using this) (by simpa using hj)]
theorem dashAt_of (s : List UInt8) (j : Nat) (h4 : 4 ≤ j) (h : ∀ i, 4 ≤ i → i < j → i < s.length ∧ s.getD i 0 ≠ 45) (h2 : j < s.length → s.getD j 0 = 45) (hj : 4 < j → j ≤ s.length) : dashAt s = j := by
  unfold dashAt
  have hd : ∀ i, (s.drop 4).getD i 0 = s.getD (4 + i) 0 := fun i => by rw [List.getD_eq_getElem?_getD, List.getElem?_drop, List.getD_eq_getElem?_getD]
  rw [takeWhile_stop (s.drop 4) (j - 4)]
  · omega
  · intro i hi
    have := h (4 + i) (by omega) (by omega)
    exact ⟨by rw [List.length_drop]; omega, by rw [hd]; exact this.2⟩
  · intro hl
    rw [List.length_drop] at hl
    rw [hd, show 4 + (j - 4) = j by omega]
    exact h2 (by omega)
  · rw [List.length_drop]
    rcases Nat.eq_or_lt_of_le h4 with e | e
    · omega
    · have := hj e; omega
theorem dashAt_le (s : List UInt8) : dashAt s ≤ s.length + 4 := by
  unfold dashAt
  have := takeWhile_le (s.drop 4)
  rw [List.length_drop] at this
  omega
theorem dashAt_in (s : List UInt8) (h : 4 < dashAt s) : dashAt s ≤ s.length := by
  unfold dashAt at *
  have := takeWhile_le (s.drop 4)
  rw [List.length_drop] at this
  omega
theorem refE_bd (s : List UInt8) (k : Int) : -1 ≤ refE s k ∧ refE s k < 10000000000000000 := by
  unfold refE; split
  · exact refNum_lt _
  · omega
theorem refN_bd (s : List UInt8) (k : Int) : -1 ≤ refN s k ∧ refN s k < 10000000000000000 := by
  unfold refN; split
  · exact refNum_lt _
  · split
    · omega
    · exact refNum_lt _

set_option maxRecDepth 100000 in
set_option maxHeartbeats 2000000 in
theorem refread_calls (s : ByteArray) (w : World) (hs : s.size ≤ 281474976710656) :
    Calls Tryd.prog 22 #[.string s] w fun e w' => e = .returned (tup3 (refL s.data.toList)) ∧ Below w.heap.size w w' := by
  have hlen : s.data.toList.length = s.size := by rw [Array.length_toList]; rfl
  have HLEN := Lib.hid hlen
  clear hlen
  go_enter Tryd.func22, Tryd.ntmps22
  go_wp2_with fail
  go_loopw [2, 3, 4, 5, 6, 7, 8, 9, 10, 11, 12, 13, 14, 15, 16, 17, 18, 19, 20, 21, 22, 23, 24, 25, 26, 27, 28, 29, 30, 31, 32, 33, 34, 35, 36, 37, 38, 39, 40, 41, 42, 43, 44, 45, 46, 47, 48, 49, 50, 51, 52, 53, 54, 55, 56, 57, 58, 59, 60, 61, 62, 63, 64, 65, 66, 67] (fun _ _ _ i _ _ _ _ _ _ _ _ _ _ _ _ _ _ _ _ _ _ _ _ _ _ _ _ _ _ _ _ _ _ _ _ _ _ _ _ _ _ _ _ _ _ _ _ _ _ _ _ _ _ _ _ _ _ _ _ _ _ _ _ _ _ wr => ∃ k : Nat, 1 ≤ k ∧ k ≤ 9 ∧ i = .int .i64 k ∧ RelRef w s.data.toList k wr) (fun _ _ _ i _ _ _ _ _ _ _ _ _ _ _ _ _ _ _ _ _ _ _ _ _ _ _ _ _ _ _ _ _ _ _ _ _ _ _ _ _ _ _ _ _ _ _ _ _ _ _ _ _ _ _ _ _ _ _ _ _ _ _ _ _ _ _ => 9 - (intOf i).toNat)
  case atStart => exact ⟨1, by omega, by omega, rfl, rfl, Below.refl _ _⟩
  case round =>
    obtain ⟨k, hk0, hk, rfl, hR⟩ := hrel
    have HR := Lib.hid hR
    clear hR
    by_cases hlt : k < 9
    · have hu := HR.out.1
      rw [kindsFrom_cons k hlt] at hu
      unfold refKs at hu
      have be := refE_bd s.data.toList k
      have bn := refN_bd s.data.toList k
      obtain ⟨e, he⟩ : ∃ e, refE s.data.toList k = e := ⟨_, rfl⟩
      obtain ⟨n, hn⟩ : ∃ n, refN s.data.toList k = n := ⟨_, rfl⟩
      rw [he] at hu be
      rw [hn] at hu bn
      by_cases h7 : k = 7
      · subst h7
        have he2 : refNum ((s.data.toList.take (dashAt s.data.toList)).drop 4) = e := by rw [← he]; unfold refE; rw [if_pos (show ((7 : Nat) : Int) = 7 from rfl)]
        have hn2 : refNum (s.data.toList.drop (dashAt s.data.toList + 1)) = n := by rw [← hn]; unfold refN; rw [if_pos (show ((7 : Nat) : Int) = 7 from rfl)]
        have hdl := dashAt_le s.data.toList
        have hdi := dashAt_in s.data.toList
        rw [HLEN.out] at hdl hdi
        obtain ⟨dk, hdk⟩ : ∃ dk, dashAt s.data.toList = dk := ⟨_, rfl⟩
        rw [hdk] at he2 hn2 hdl hdi
        have hE : ∀ w, Calls Tryd.prog 42 #[.string s, .int .i64 4, .int .i64 (dk : Int)] w fun e' w' => e' = .returned (.int .i64 e) ∧ w = w' := fun w => by
          rw [← he2]; exact refnumber_calls s 4 dk w hdi hs (by omega)
        have hN : ∀ w, Calls Tryd.prog 42 #[.string s, .int .i64 ((dk : Int) + 1), .int .i64 (s.size : Int)] w fun e' w' => e' = .returned (.int .i64 n) ∧ w = w' := fun w => by
          have := refnumber_calls s (dk + 1) s.size w (fun _ => Nat.le_refl _) hs (by omega)
          rw [← HLEN.out, List.take_length, HLEN.out] at this
          rw [← hn2]; exact this
        have HE := Lib.hid hE
        have HN := Lib.hid hN
        have HDK := Lib.hid hdk
        have h4dk : 4 ≤ dk := by have := hdk; unfold dashAt at this; omega
        clear hE hN he hn he2 hn2 hdk hdi
        have hu : refL s.data.toList = if s.data.toList ≠ [] ∧ 0 ≤ e ∧ 0 ≤ n ∧ textL 7 e n = s.data.toList then (7, e, n) else refKs s.data.toList (kindsFrom 8) := hu
        by_cases hz1 : s.data.toList = []
        · have g1 : (s.toList == []) = true := by rw [ByteArray.toList_eq]; simpa using hz1
          rw [if_neg (fun h => h.1 hz1)] at hu
          have HU := Lib.hid hu
          clear hu hz1

          go_wp2_with fail
          refine (word_calls _ _).mono ?_
          rintro e' w' ⟨rfl, rfl⟩

          go_wp2_with fail
          go_loop [9, 18, 19, 20, 21, 22, 23, 24, 25, 26, 27, 28, 29] (fun i _ _ _ _ _ _ _ _ _ _ _ _ => ∃ j : Nat, 4 ≤ j ∧ (4 < j → j ≤ s.size) ∧ i = .int .i64 j ∧ Hid (∀ x, 4 ≤ x → x < j → x < s.data.toList.length ∧ s.data.toList.getD x 0 ≠ 45)) (fun i _ _ _ _ _ _ _ _ _ _ _ _ => s.size - (intOf i).toNat)
          case atStart => exact ⟨4, by omega, by omega, rfl, fun x h1 h2 => by omega⟩
          case round =>
            obtain ⟨j, hj4, hjs, rfl, HJ⟩ := hrel
            by_cases hjl : j < s.size
            · have hgj : s.data.toList.getD j 0 = s[j] := by
                simp [List.getElem?_eq_getElem (show j < s.data.toList.length by rw [HLEN.out]; exact hjl)]; rfl
              have HGJ := Lib.hid hgj
              clear hgj
              by_cases hd : s[j] = 45
              · have hd2 : ((s[j].toNat : Int) == 45) = true := by rw [hd]; rfl
                have hd3 : ((s[j].toNat : Int) != 45) = false := by rw [hd]; rfl
                have hda : dashAt s.data.toList = j := dashAt_of _ j hj4 HJ.out (fun _ => by rw [HGJ.out]; exact hd) (fun h => by rw [HLEN.out]; exact hjs h)
                obtain rfl : dk = j := HDK.out.symm.trans hda
                clear hda hd
                go_wp2_with fail
                refine (HE.out _).mono ?_
                rintro e' w' ⟨rfl, rfl⟩
                go_wp2_with fail
                refine (HN.out _).mono ?_
                rintro e' w' ⟨rfl, rfl⟩
                go_wp2_with fail

                go_roundw
                case rel => exact ⟨8, by omega, by omega, by go_num, HU.out, HR.out.2⟩
                case measure => first | (simp [intOf]; done) | (simp [intOf]; omega)
              · have hd3 : ((s[j].toNat : Int) != 45) = true := by
                  have : s[j].toNat ≠ 45 := fun h => hd (UInt8.toNat_inj.1 h)
                  simp; omega
                have HD := Lib.hid hd
                clear hd
                go_wp2_with fail
                go_round
                case rel =>
                  refine ⟨j + 1, by omega, by omega, by go_num, fun x h1 h2 => ?_⟩
                  rcases Nat.lt_or_ge x j with h | h
                  · exact HJ.out x h1 h
                  · obtain rfl : x = j := by omega
                    exact ⟨by rw [HLEN.out]; exact hjl, by rw [HGJ.out]; exact HD.out⟩
                case measure => simp [intOf]; omega
            · have hda : dashAt s.data.toList = j := dashAt_of _ j hj4 HJ.out (fun h => by rw [HLEN.out] at h; omega) (fun h => by rw [HLEN.out]; exact hjs h)
              obtain rfl : dk = j := HDK.out.symm.trans hda
              clear hda
              go_wp2_with fail
              refine (HE.out _).mono ?_
              rintro e' w' ⟨rfl, rfl⟩
              go_wp2_with fail
              refine (HN.out _).mono ?_
              rintro e' w' ⟨rfl, rfl⟩
              go_wp2_with fail

              go_roundw
              case rel => exact ⟨8, by omega, by omega, by go_num, HU.out, HR.out.2⟩
              case measure => first | (simp [intOf]; done) | (simp [intOf]; omega)
        · have g1 : (s.toList == []) = false := by rw [ByteArray.toList_eq]; simpa using hz1
          by_cases g2 : 0 ≤ e
          case neg =>
            have g2 : e < 0 := by omega
            rw [if_neg (fun h => by omega)] at hu
            have HU := Lib.hid hu
            clear hu hz1

            go_wp2_with fail
            refine (word_calls _ _).mono ?_
            rintro e' w' ⟨rfl, rfl⟩

            go_wp2_with fail
            go_loop [9, 18, 19, 20, 21, 22, 23, 24, 25, 26, 27, 28, 29] (fun i _ _ _ _ _ _ _ _ _ _ _ _ => ∃ j : Nat, 4 ≤ j ∧ (4 < j → j ≤ s.size) ∧ i = .int .i64 j ∧ Hid (∀ x, 4 ≤ x → x < j → x < s.data.toList.length ∧ s.data.toList.getD x 0 ≠ 45)) (fun i _ _ _ _ _ _ _ _ _ _ _ _ => s.size - (intOf i).toNat)
            case atStart => exact ⟨4, by omega, by omega, rfl, fun x h1 h2 => by omega⟩
            case round =>
              obtain ⟨j, hj4, hjs, rfl, HJ⟩ := hrel
              by_cases hjl : j < s.size
              · have hgj : s.data.toList.getD j 0 = s[j] := by
                  simp [List.getElem?_eq_getElem (show j < s.data.toList.length by rw [HLEN.out]; exact hjl)]; rfl
                have HGJ := Lib.hid hgj
                clear hgj
                by_cases hd : s[j] = 45
                · have hd2 : ((s[j].toNat : Int) == 45) = true := by rw [hd]; rfl
                  have hd3 : ((s[j].toNat : Int) != 45) = false := by rw [hd]; rfl
                  have hda : dashAt s.data.toList = j := dashAt_of _ j hj4 HJ.out (fun _ => by rw [HGJ.out]; exact hd) (fun h => by rw [HLEN.out]; exact hjs h)
                  obtain rfl : dk = j := HDK.out.symm.trans hda
                  clear hda hd
                  go_wp2_with fail
                  refine (HE.out _).mono ?_
                  rintro e' w' ⟨rfl, rfl⟩
                  go_wp2_with fail
                  refine (HN.out _).mono ?_
                  rintro e' w' ⟨rfl, rfl⟩
                  go_wp2_with fail

                  go_roundw
                  case rel => exact ⟨8, by omega, by omega, by go_num, HU.out, HR.out.2⟩
                  case measure => first | (simp [intOf]; done) | (simp [intOf]; omega)
                · have hd3 : ((s[j].toNat : Int) != 45) = true := by
                    have : s[j].toNat ≠ 45 := fun h => hd (UInt8.toNat_inj.1 h)
                    simp; omega
                  have HD := Lib.hid hd
                  clear hd
                  go_wp2_with fail
                  go_round
                  case rel =>
                    refine ⟨j + 1, by omega, by omega, by go_num, fun x h1 h2 => ?_⟩
                    rcases Nat.lt_or_ge x j with h | h
                    · exact HJ.out x h1 h
                    · obtain rfl : x = j := by omega
                      exact ⟨by rw [HLEN.out]; exact hjl, by rw [HGJ.out]; exact HD.out⟩
                  case measure => simp [intOf]; omega
              · have hda : dashAt s.data.toList = j := dashAt_of _ j hj4 HJ.out (fun h => by rw [HLEN.out] at h; omega) (fun h => by rw [HLEN.out]; exact hjs h)
                obtain rfl : dk = j := HDK.out.symm.trans hda
                clear hda
                go_wp2_with fail
                refine (HE.out _).mono ?_
                rintro e' w' ⟨rfl, rfl⟩
                go_wp2_with fail
                refine (HN.out _).mono ?_
                rintro e' w' ⟨rfl, rfl⟩
                go_wp2_with fail

                go_roundw
                case rel => exact ⟨8, by omega, by omega, by go_num, HU.out, HR.out.2⟩
                case measure => first | (simp [intOf]; done) | (simp [intOf]; omega)
          by_cases g3 : 0 ≤ n
          case neg =>
            have g3 : n < 0 := by omega
            rw [if_neg (fun h => by omega)] at hu
            have HU := Lib.hid hu
            clear hu hz1

            go_wp2_with fail
            refine (word_calls _ _).mono ?_
            rintro e' w' ⟨rfl, rfl⟩

            go_wp2_with fail
            go_loop [9, 18, 19, 20, 21, 22, 23, 24, 25, 26, 27, 28, 29] (fun i _ _ _ _ _ _ _ _ _ _ _ _ => ∃ j : Nat, 4 ≤ j ∧ (4 < j → j ≤ s.size) ∧ i = .int .i64 j ∧ Hid (∀ x, 4 ≤ x → x < j → x < s.data.toList.length ∧ s.data.toList.getD x 0 ≠ 45)) (fun i _ _ _ _ _ _ _ _ _ _ _ _ => s.size - (intOf i).toNat)
            case atStart => exact ⟨4, by omega, by omega, rfl, fun x h1 h2 => by omega⟩
            case round =>
              obtain ⟨j, hj4, hjs, rfl, HJ⟩ := hrel
              by_cases hjl : j < s.size
              · have hgj : s.data.toList.getD j 0 = s[j] := by
                  simp [List.getElem?_eq_getElem (show j < s.data.toList.length by rw [HLEN.out]; exact hjl)]; rfl
                have HGJ := Lib.hid hgj
                clear hgj
                by_cases hd : s[j] = 45
                · have hd2 : ((s[j].toNat : Int) == 45) = true := by rw [hd]; rfl
                  have hd3 : ((s[j].toNat : Int) != 45) = false := by rw [hd]; rfl
                  have hda : dashAt s.data.toList = j := dashAt_of _ j hj4 HJ.out (fun _ => by rw [HGJ.out]; exact hd) (fun h => by rw [HLEN.out]; exact hjs h)
                  obtain rfl : dk = j := HDK.out.symm.trans hda
                  clear hda hd
                  go_wp2_with fail
                  refine (HE.out _).mono ?_
                  rintro e' w' ⟨rfl, rfl⟩
                  go_wp2_with fail
                  refine (HN.out _).mono ?_
                  rintro e' w' ⟨rfl, rfl⟩
                  go_wp2_with fail

                  go_roundw
                  case rel => exact ⟨8, by omega, by omega, by go_num, HU.out, HR.out.2⟩
                  case measure => first | (simp [intOf]; done) | (simp [intOf]; omega)
                · have hd3 : ((s[j].toNat : Int) != 45) = true := by
                    have : s[j].toNat ≠ 45 := fun h => hd (UInt8.toNat_inj.1 h)
                    simp; omega
                  have HD := Lib.hid hd
                  clear hd
                  go_wp2_with fail
                  go_round
                  case rel =>
                    refine ⟨j + 1, by omega, by omega, by go_num, fun x h1 h2 => ?_⟩
                    rcases Nat.lt_or_ge x j with h | h
                    · exact HJ.out x h1 h
                    · obtain rfl : x = j := by omega
                      exact ⟨by rw [HLEN.out]; exact hjl, by rw [HGJ.out]; exact HD.out⟩
                  case measure => simp [intOf]; omega
              · have hda : dashAt s.data.toList = j := dashAt_of _ j hj4 HJ.out (fun h => by rw [HLEN.out] at h; omega) (fun h => by rw [HLEN.out]; exact hjs h)
                obtain rfl : dk = j := HDK.out.symm.trans hda
                clear hda
                go_wp2_with fail
                refine (HE.out _).mono ?_
                rintro e' w' ⟨rfl, rfl⟩
                go_wp2_with fail
                refine (HN.out _).mono ?_
                rintro e' w' ⟨rfl, rfl⟩
                go_wp2_with fail

                go_roundw
                case rel => exact ⟨8, by omega, by omega, by go_num, HU.out, HR.out.2⟩
                case measure => first | (simp [intOf]; done) | (simp [intOf]; omega)
          by_cases hz4 : textL 7 e n = s.data.toList
          · have g4 : (textL 7 e n == s.toList) = true := by rw [ByteArray.toList_eq]; simpa using hz4
            rw [if_pos ⟨hz1, g2, g3, hz4⟩] at hu
            have HU := Lib.hid hu
            clear hu hz1 hz4

            go_wp2_with fail
            refine (word_calls _ _).mono ?_
            rintro e' w' ⟨rfl, rfl⟩

            go_wp2_with fail
            go_loop [9, 18, 19, 20, 21, 22, 23, 24, 25, 26, 27, 28, 29] (fun i _ _ _ _ _ _ _ _ _ _ _ _ => ∃ j : Nat, 4 ≤ j ∧ (4 < j → j ≤ s.size) ∧ i = .int .i64 j ∧ Hid (∀ x, 4 ≤ x → x < j → x < s.data.toList.length ∧ s.data.toList.getD x 0 ≠ 45)) (fun i _ _ _ _ _ _ _ _ _ _ _ _ => s.size - (intOf i).toNat)
            case atStart => exact ⟨4, by omega, by omega, rfl, fun x h1 h2 => by omega⟩
            case round =>
              obtain ⟨j, hj4, hjs, rfl, HJ⟩ := hrel
              by_cases hjl : j < s.size
              · have hgj : s.data.toList.getD j 0 = s[j] := by
                  simp [List.getElem?_eq_getElem (show j < s.data.toList.length by rw [HLEN.out]; exact hjl)]; rfl
                have HGJ := Lib.hid hgj
                clear hgj
                by_cases hd : s[j] = 45
                · have hd2 : ((s[j].toNat : Int) == 45) = true := by rw [hd]; rfl
                  have hd3 : ((s[j].toNat : Int) != 45) = false := by rw [hd]; rfl
                  have hda : dashAt s.data.toList = j := dashAt_of _ j hj4 HJ.out (fun _ => by rw [HGJ.out]; exact hd) (fun h => by rw [HLEN.out]; exact hjs h)
                  obtain rfl : dk = j := HDK.out.symm.trans hda
                  clear hda hd
                  go_wp2_with fail
                  refine (HE.out _).mono ?_
                  rintro e' w' ⟨rfl, rfl⟩
                  go_wp2_with fail
                  refine (HN.out _).mono ?_
                  rintro e' w' ⟨rfl, rfl⟩
                  go_wp2_with fail

                  refine (name_calls _ _ _ _).mono ?_
                  rintro e' wz ⟨rfl, hbz⟩
                  have HBZ := Lib.hid hbz
                  clear hbz
                  go_wp2_with fail

                  go_ret3
                  exact ⟨by rw [HU.out]; rfl, (HR.out.2).trans (HBZ.out.mono (HR.out.2).size)⟩
                · have hd3 : ((s[j].toNat : Int) != 45) = true := by
                    have : s[j].toNat ≠ 45 := fun h => hd (UInt8.toNat_inj.1 h)
                    simp; omega
                  have HD := Lib.hid hd
                  clear hd
                  go_wp2_with fail
                  go_round
                  case rel =>
                    refine ⟨j + 1, by omega, by omega, by go_num, fun x h1 h2 => ?_⟩
                    rcases Nat.lt_or_ge x j with h | h
                    · exact HJ.out x h1 h
                    · obtain rfl : x = j := by omega
                      exact ⟨by rw [HLEN.out]; exact hjl, by rw [HGJ.out]; exact HD.out⟩
                  case measure => simp [intOf]; omega
              · have hda : dashAt s.data.toList = j := dashAt_of _ j hj4 HJ.out (fun h => by rw [HLEN.out] at h; omega) (fun h => by rw [HLEN.out]; exact hjs h)
                obtain rfl : dk = j := HDK.out.symm.trans hda
                clear hda
                go_wp2_with fail
                refine (HE.out _).mono ?_
                rintro e' w' ⟨rfl, rfl⟩
                go_wp2_with fail
                refine (HN.out _).mono ?_
                rintro e' w' ⟨rfl, rfl⟩
                go_wp2_with fail

                refine (name_calls _ _ _ _).mono ?_
                rintro e' wz ⟨rfl, hbz⟩
                have HBZ := Lib.hid hbz
                clear hbz
                go_wp2_with fail

                go_ret3
                exact ⟨by rw [HU.out]; rfl, (HR.out.2).trans (HBZ.out.mono (HR.out.2).size)⟩
          · have g4 : (textL 7 e n == s.toList) = false := by rw [ByteArray.toList_eq]; simpa using hz4
            rw [if_neg (fun h => hz4 h.2.2.2)] at hu
            have HU := Lib.hid hu
            clear hu hz1 hz4

            go_wp2_with fail
            refine (word_calls _ _).mono ?_
            rintro e' w' ⟨rfl, rfl⟩

            go_wp2_with fail
            go_loop [9, 18, 19, 20, 21, 22, 23, 24, 25, 26, 27, 28, 29] (fun i _ _ _ _ _ _ _ _ _ _ _ _ => ∃ j : Nat, 4 ≤ j ∧ (4 < j → j ≤ s.size) ∧ i = .int .i64 j ∧ Hid (∀ x, 4 ≤ x → x < j → x < s.data.toList.length ∧ s.data.toList.getD x 0 ≠ 45)) (fun i _ _ _ _ _ _ _ _ _ _ _ _ => s.size - (intOf i).toNat)
            case atStart => exact ⟨4, by omega, by omega, rfl, fun x h1 h2 => by omega⟩
            case round =>
              obtain ⟨j, hj4, hjs, rfl, HJ⟩ := hrel
              by_cases hjl : j < s.size
              · have hgj : s.data.toList.getD j 0 = s[j] := by
                  simp [List.getElem?_eq_getElem (show j < s.data.toList.length by rw [HLEN.out]; exact hjl)]; rfl
                have HGJ := Lib.hid hgj
                clear hgj
                by_cases hd : s[j] = 45
                · have hd2 : ((s[j].toNat : Int) == 45) = true := by rw [hd]; rfl
                  have hd3 : ((s[j].toNat : Int) != 45) = false := by rw [hd]; rfl
                  have hda : dashAt s.data.toList = j := dashAt_of _ j hj4 HJ.out (fun _ => by rw [HGJ.out]; exact hd) (fun h => by rw [HLEN.out]; exact hjs h)
                  obtain rfl : dk = j := HDK.out.symm.trans hda
                  clear hda hd
                  go_wp2_with fail
                  refine (HE.out _).mono ?_
                  rintro e' w' ⟨rfl, rfl⟩
                  go_wp2_with fail
                  refine (HN.out _).mono ?_
                  rintro e' w' ⟨rfl, rfl⟩
                  go_wp2_with fail

                  refine (name_calls _ _ _ _).mono ?_
                  rintro e' wz ⟨rfl, hbz⟩
                  have HBZ := Lib.hid hbz
                  clear hbz
                  go_wp2_with fail

                  go_roundw
                  case rel => exact ⟨8, by omega, by omega, by go_num, HU.out, (HR.out.2).trans (HBZ.out.mono (HR.out.2).size)⟩
                  case measure => first | (simp [intOf]; done) | (simp [intOf]; omega)
                · have hd3 : ((s[j].toNat : Int) != 45) = true := by
                    have : s[j].toNat ≠ 45 := fun h => hd (UInt8.toNat_inj.1 h)
                    simp; omega
                  have HD := Lib.hid hd
                  clear hd
                  go_wp2_with fail
                  go_round
                  case rel =>
                    refine ⟨j + 1, by omega, by omega, by go_num, fun x h1 h2 => ?_⟩
                    rcases Nat.lt_or_ge x j with h | h
                    · exact HJ.out x h1 h
                    · obtain rfl : x = j := by omega
                      exact ⟨by rw [HLEN.out]; exact hjl, by rw [HGJ.out]; exact HD.out⟩
                  case measure => simp [intOf]; omega
              · have hda : dashAt s.data.toList = j := dashAt_of _ j hj4 HJ.out (fun h => by rw [HLEN.out] at h; omega) (fun h => by rw [HLEN.out]; exact hjs h)
                obtain rfl : dk = j := HDK.out.symm.trans hda
                clear hda
                go_wp2_with fail
                refine (HE.out _).mono ?_
                rintro e' w' ⟨rfl, rfl⟩
                go_wp2_with fail
                refine (HN.out _).mono ?_
                rintro e' w' ⟨rfl, rfl⟩
                go_wp2_with fail

                refine (name_calls _ _ _ _).mono ?_
                rintro e' wz ⟨rfl, hbz⟩
                have HBZ := Lib.hid hbz
                clear hbz
                go_wp2_with fail

                go_roundw
                case rel => exact ⟨8, by omega, by omega, by go_num, HU.out, (HR.out.2).trans (HBZ.out.mono (HR.out.2).size)⟩
                case measure => first | (simp [intOf]; done) | (simp [intOf]; omega)
      · have h7' : ¬ (k : Int) = 7 := by omega
        have g7 : ((k : Int) == 7) = false := by simpa using h7'
        have e0 : e = 0 := by rw [← he]; unfold refE; rw [if_neg h7']
        subst e0
        by_cases hwd : wordL k = []
        · have n0 : n = 0 := by rw [← hn]; unfold refN; rw [if_neg h7', if_pos hwd]
          subst n0
          clear he hn h7' be bn
          by_cases hz1 : s.data.toList = []
          · have g1 : (s.toList == []) = true := by rw [ByteArray.toList_eq]; simpa using hz1
            rw [if_neg (fun h => h.1 hz1)] at hu
            have HU := Lib.hid hu
            clear hu hz1

            go_wp2_with fail
            refine (word_calls _ _).mono ?_
            rintro e' w' ⟨rfl, rfl⟩

            rw [hwd]
            go_wp2_with fail

            go_roundw
            case rel => exact ⟨k + 1, by omega, by omega, by go_num, HU.out, HR.out.2⟩
            case measure => first | (simp [intOf]; done) | (simp [intOf]; omega)
          · have g1 : (s.toList == []) = false := by rw [ByteArray.toList_eq]; simpa using hz1
            have g2 : (0 : Int) ≤ 0 := by omega
            have g3 : (0 : Int) ≤ 0 := by omega
            by_cases hz4 : textL k 0 0 = s.data.toList
            · have g4 : (textL k 0 0 == s.toList) = true := by rw [ByteArray.toList_eq]; simpa using hz4
              rw [if_pos ⟨hz1, g2, g3, hz4⟩] at hu
              have HU := Lib.hid hu
              clear hu hz1 hz4

              go_wp2_with fail
              refine (word_calls _ _).mono ?_
              rintro e' w' ⟨rfl, rfl⟩

              rw [hwd]
              go_wp2_with fail

              refine (name_calls _ _ _ _).mono ?_
              rintro e' wz ⟨rfl, hbz⟩
              have HBZ := Lib.hid hbz
              clear hbz
              go_wp2_with fail

              go_ret3
              exact ⟨by rw [HU.out]; rfl, (HR.out.2).trans (HBZ.out.mono (HR.out.2).size)⟩
            · have g4 : (textL k 0 0 == s.toList) = false := by rw [ByteArray.toList_eq]; simpa using hz4
              rw [if_neg (fun h => hz4 h.2.2.2)] at hu
              have HU := Lib.hid hu
              clear hu hz1 hz4

              go_wp2_with fail
              refine (word_calls _ _).mono ?_
              rintro e' w' ⟨rfl, rfl⟩

              rw [hwd]
              go_wp2_with fail

              refine (name_calls _ _ _ _).mono ?_
              rintro e' wz ⟨rfl, hbz⟩
              have HBZ := Lib.hid hbz
              clear hbz
              go_wp2_with fail

              go_roundw
              case rel => exact ⟨k + 1, by omega, by omega, by go_num, HU.out, (HR.out.2).trans (HBZ.out.mono (HR.out.2).size)⟩
              case measure => first | (simp [intOf]; done) | (simp [intOf]; omega)
        · have gw : (wordL k == []) = false := by simpa using hwd
          have hn2 : refNum (s.data.toList.drop (wordL k).length) = n := by rw [← hn]; unfold refN; rw [if_neg h7', if_neg hwd]
          have hwl : (wordL k).length ≤ 6 := by unfold wordL; split; decide; exact headL_len _
          have hN : ∀ w, Calls Tryd.prog 42 #[.string s, .int .i64 ((wordL k).length : Int), .int .i64 (s.size : Int)] w fun e' w' => e' = .returned (.int .i64 n) ∧ w = w' := fun w => by
            have := refnumber_calls s (wordL k).length s.size w (fun _ => Nat.le_refl _) hs (by omega)
            rw [← HLEN.out, List.take_length, HLEN.out] at this
            rw [← hn2]; exact this
          have HN := Lib.hid hN
          clear hN he hn hn2 h7' be hwd
          by_cases hz1 : s.data.toList = []
          · have g1 : (s.toList == []) = true := by rw [ByteArray.toList_eq]; simpa using hz1
            rw [if_neg (fun h => h.1 hz1)] at hu
            have HU := Lib.hid hu
            clear hu hz1

            go_wp2_with fail
            refine (word_calls _ _).mono ?_
            rintro e' w' ⟨rfl, rfl⟩

            go_wp2_with fail
            refine (HN.out _).mono ?_
            rintro e' w' ⟨rfl, rfl⟩
            go_wp2_with fail

            go_roundw
            case rel => exact ⟨k + 1, by omega, by omega, by go_num, HU.out, HR.out.2⟩
            case measure => first | (simp [intOf]; done) | (simp [intOf]; omega)
          · have g1 : (s.toList == []) = false := by rw [ByteArray.toList_eq]; simpa using hz1
            have g2 : (0 : Int) ≤ 0 := by omega
            by_cases g3 : 0 ≤ n
            case neg =>
              have g3 : n < 0 := by omega
              rw [if_neg (fun h => by omega)] at hu
              have HU := Lib.hid hu
              clear hu hz1

              go_wp2_with fail
              refine (word_calls _ _).mono ?_
              rintro e' w' ⟨rfl, rfl⟩

              go_wp2_with fail
              refine (HN.out _).mono ?_
              rintro e' w' ⟨rfl, rfl⟩
              go_wp2_with fail

              go_roundw
              case rel => exact ⟨k + 1, by omega, by omega, by go_num, HU.out, HR.out.2⟩
              case measure => first | (simp [intOf]; done) | (simp [intOf]; omega)
            by_cases hz4 : textL k 0 n = s.data.toList
            · have g4 : (textL k 0 n == s.toList) = true := by rw [ByteArray.toList_eq]; simpa using hz4
              rw [if_pos ⟨hz1, g2, g3, hz4⟩] at hu
              have HU := Lib.hid hu
              clear hu hz1 hz4

              go_wp2_with fail
              refine (word_calls _ _).mono ?_
              rintro e' w' ⟨rfl, rfl⟩

              go_wp2_with fail
              refine (HN.out _).mono ?_
              rintro e' w' ⟨rfl, rfl⟩
              go_wp2_with fail

              refine (name_calls _ _ _ _).mono ?_
              rintro e' wz ⟨rfl, hbz⟩
              have HBZ := Lib.hid hbz
              clear hbz
              go_wp2_with fail

              go_ret3
              exact ⟨by rw [HU.out]; rfl, (HR.out.2).trans (HBZ.out.mono (HR.out.2).size)⟩
            · have g4 : (textL k 0 n == s.toList) = false := by rw [ByteArray.toList_eq]; simpa using hz4
              rw [if_neg (fun h => hz4 h.2.2.2)] at hu
              have HU := Lib.hid hu
              clear hu hz1 hz4

              go_wp2_with fail
              refine (word_calls _ _).mono ?_
              rintro e' w' ⟨rfl, rfl⟩

              go_wp2_with fail
              refine (HN.out _).mono ?_
              rintro e' w' ⟨rfl, rfl⟩
              go_wp2_with fail

              refine (name_calls _ _ _ _).mono ?_
              rintro e' wz ⟨rfl, hbz⟩
              have HBZ := Lib.hid hbz
              clear hbz
              go_wp2_with fail

              go_roundw
              case rel => exact ⟨k + 1, by omega, by omega, by go_num, HU.out, (HR.out.2).trans (HBZ.out.mono (HR.out.2).size)⟩
              case measure => first | (simp [intOf]; done) | (simp [intOf]; omega)
    · obtain rfl : k = 9 := by omega
      have hu := HR.out.1
      rw [kindsFrom_nine] at hu
      have HU := Lib.hid hu
      clear hu
      go_wp2_with fail
      go_ret3
      exact ⟨by rw [HU.out]; rfl, HR.out.2⟩
end Go.Proofs.YtpdbdobckjolkaaDoor
