/- The walk of the law NameBack. -/
import Derived.Test.YtjlmcidmcdiklaaDoorNameLaw
import Derived.Test.YtjlmcidmcdiklaaDoorNameBackLaw
set_option linter.unusedVariables false
set_option linter.unusedSimpArgs false
namespace Go.Proofs.YtjlmcidmcdiklaaDoor
open Go.RowKit

theorem str_of (l : List UInt8) : ∃ s : ByteArray, str l = .string s ∧ s.data.toList = l := ⟨⟨l.toArray⟩, rfl, by simp⟩
theorem ok_cases (c : UInt8) (h : okC c = true) : (97 ≤ (c.toNat : Int) ∧ (c.toNat : Int) ≤ 122) ∨ ((c.toNat : Int) < 97 ∧ 48 ≤ (c.toNat : Int) ∧ (c.toNat : Int) ≤ 57) ∨ c = 45 := by
  simp only [okC, Bool.or_eq_true, Bool.and_eq_true, decide_eq_true_eq] at h
  rcases h with (h | h) | h
  · left; omega
  · right; left; omega
  · right; right; exact UInt8.toNat_inj.1 (by simpa using h)

def EqB (a b : Bool) : Prop := a = b
set_option maxRecDepth 100000 in
set_option maxHeartbeats 8000000 in
theorem back_walk (kind other : Int) (epoch num more : Int) (w : World) (K O E N M E' N' : Int) (s t : ByteArray) (b4 b5 b6 b7 cE cN bko bnm : Bool)
    (ek : 1 + kind % 8 = K) (eo : 1 + other % 8 = O) (ee : epoch / 2048 = E) (en : num / 2048 = N) (em : more / 2048 = M)
    (hk : 0 ≤ kind ∧ kind ≤ 255) (ho : 0 ≤ other ∧ other ≤ 255) (he : 0 ≤ epoch ∧ epoch ≤ 18446744073709551615) (hn : 0 ≤ num ∧ num ≤ 18446744073709551615) (hm : 0 ≤ more ∧ more ≤ 18446744073709551615) (hL : Laid w)
    (f4 : (K == 4) = b4) (f5 : (K == 5) = b5) (f6 : (K == 6) = b6) (f7 : (K == 7) = b7) (fE : (E' != E) = cE) (fN : (N' != N) = cN) (fko : (K == O) = bko) (fnm : (N == M) = bnm)
    (c1 : (cE && b7) = false) (c2 : (cN && !(b4 || b5 || b6)) = false) (fst : (s.toList == t.toList) = (bko && (b4 || b5 || b6 || bnm)))
    (HT1 : Hid (∀ w, Laid w → Calls Tryd.prog 9 #[.int .i64 K, .int .i64 E, .int .i64 N] w fun e' w' => e' = .returned (.string s) ∧ Below w.heap.size w w'))
    (HT2 : Hid (∀ w, Laid w → Calls Tryd.prog 9 #[.int .i64 O, .int .i64 E, .int .i64 M] w fun e' w' => e' = .returned (.string t) ∧ Below w.heap.size w w'))
    (HR : Hid (∀ w, Laid w → Calls Tryd.prog 7 #[.string s] w fun e' w' => e' = .returned (.tuple #[.int .i64 K, .int .i64 E', .int .i64 N']) ∧ Below w.heap.size w w'))
    (hs40 : s.size ≤ 40) (g1 : (s.toList == []) = false) (HOK : Hid (∀ j (h : j < s.size), okC s[j] = true)) :
    Calls Tryd.prog 4 #[.int .u8 kind, .int .u8 other, .int .u64 epoch, .int .u64 num, .int .u64 more] w fun e' w' => e' = .returned (.bool true) ∧ Below w.heap.size w w' := by
  have HL := Lib.hid hL
  clear hL
  have hsplit : (b4 = true) ∨ (b4 = false ∧ b5 = true) ∨ (b4 = false ∧ b5 = false ∧ b6 = true) ∨ (b4 = false ∧ b5 = false ∧ b6 = false ∧ cN = false) := by
    revert c2; cases b4 <;> cases b5 <;> cases b6 <;> cases cN <;> simp
  have hsE : cE = false ∨ (cE = true ∧ b7 = false) := by revert c1; cases cE <;> cases b7 <;> simp
  clear c1 c2
  have fst2 : (s.toList == t.toList) = ((bko && (b4 || b5 || b6 || bnm)) : Bool) := fst
  clear fst
  rcases hsE with rfl | ⟨rfl, rfl⟩ <;> rcases hsplit with rfl | ⟨rfl, rfl⟩ | ⟨rfl, rfl, rfl⟩ | ⟨rfl, rfl, rfl, rfl⟩ <;> (try (rcases cN with _ | _)) <;> (
    simp only [Bool.true_or, Bool.false_or, Bool.and_true, Bool.or_false] at fst2
    have FST := Lib.hid fst2
    clear fst2
    have FKO := Lib.hid fko
    have FNM := Lib.hid fnm
    clear fko fnm
    go_enter Tryd.func4, Tryd.ntmps4
    go_wp2_with fail
    refine (HT1.out _ HL.out).mono ?_
    rintro e' w1 ⟨rfl, hb1⟩
    have HB1 := Lib.hid hb1
    clear hb1
    go_wp2_with fail
    refine (HR.out _ (HL.out.below HB1.out)).mono ?_
    rintro e' w2 ⟨rfl, hb2⟩
    have HB2 := Lib.hid (HB1.out.trans (hb2.mono HB1.out.size))
    clear hb2
    go_wp2_with fail
    go_loop [21, 90, 91, 92, 93, 94, 95, 96, 97, 98, 99, 100, 101, 102, 103, 104, 105, 106, 107, 108, 109, 110, 111, 112, 113, 114, 115, 116, 117, 118, 119, 120, 121, 122, 123, 124] (fun i _ _ _ _ _ _ _ _ _ _ _ _ _ _ _ _ _ _ _ _ _ _ _ _ _ _ _ _ _ _ _ _ _ _ _ => ∃ j : Nat, j ≤ s.size ∧ i = .int .i64 j) (fun i _ _ _ _ _ _ _ _ _ _ _ _ _ _ _ _ _ _ _ _ _ _ _ _ _ _ _ _ _ _ _ _ _ _ _ => s.size - (intOf i).toNat)
    case atStart => exact ⟨0, by omega, rfl⟩
    case round =>
      obtain ⟨j, hj, rfl⟩ := hrel
      by_cases hjl : j < s.size
      · rcases ok_cases _ (HOK.out j hjl) with ⟨q1, q2⟩ | ⟨q1, q2, q3⟩ | q1
        · go_wp2_with fail
          go_round
          case rel => exact ⟨j + 1, by omega, by go_num⟩
          case measure => simp [intOf]; omega
        · go_wp2_with fail
          go_round
          case rel => exact ⟨j + 1, by omega, by go_num⟩
          case measure => simp [intOf]; omega
        · have q2 : (s[j].toNat : Int) = 45 := by rw [q1]; rfl
          have q3 : ((s[j].toNat : Int) == 45) = true := by rw [q1]; rfl
          clear q1
          go_wp2_with fail
          go_round
          case rel => exact ⟨j + 1, by omega, by go_num⟩
          case measure => simp [intOf]; omega
      · go_wp2_with fail
        refine (HT2.out _ (HL.out.below HB2.out)).mono ?_
        rintro e' w3 ⟨rfl, hb3⟩
        have HB3 := Lib.hid (HB2.out.trans (hb3.mono HB2.out.size))
        clear hb3
        have g2 := FST.out
        have g3 := FKO.out
        have g4 := FNM.out
        rcases bko with _ | _ <;> rcases bnm with _ | _ <;> (
          try simp only [Bool.true_and, Bool.false_and] at g2
          go_wp2_with fail
          refine (awake19_calls _ (HL.out.below HB3.out)).mono ?_
          rintro e' w4 ⟨rfl, hb4⟩
          have HB4 := Lib.hid (HB3.out.trans (hb4.mono HB3.out.size))
          clear hb4
          go_wp2_with fail
          go_ret
          exact ⟨rfl, HB4.out⟩))

theorem back_calls (kind other : Int) (epoch num more : Int) (w : World) (hk : 0 ≤ kind ∧ kind ≤ 255) (ho : 0 ≤ other ∧ other ≤ 255) (he : 0 ≤ epoch ∧ epoch ≤ 18446744073709551615) (hn : 0 ≤ num ∧ num ≤ 18446744073709551615) (hm : 0 ≤ more ∧ more ≤ 18446744073709551615) (hL : Laid w) :
    Calls Tryd.prog 4 #[.int .u8 kind, .int .u8 other, .int .u64 epoch, .int .u64 num, .int .u64 more] w fun e' w' => e' = .returned (.bool true) ∧ Below w.heap.size w w' := by
  obtain ⟨k, ek⟩ : ∃ k : Nat, 1 + kind % 8 = (k : Int) := ⟨(1 + kind % 8).toNat, by omega⟩
  obtain ⟨o, eo⟩ : ∃ o : Nat, 1 + other % 8 = (o : Int) := ⟨(1 + other % 8).toNat, by omega⟩
  obtain ⟨e, ee⟩ : ∃ e : Nat, epoch / 2048 = (e : Int) := ⟨(epoch / 2048).toNat, by omega⟩
  obtain ⟨n, en⟩ : ∃ n : Nat, num / 2048 = (n : Int) := ⟨(num / 2048).toNat, by omega⟩
  obtain ⟨m, em⟩ : ∃ m : Nat, more / 2048 = (m : Int) := ⟨(more / 2048).toNat, by omega⟩
  have hk8 : 1 ≤ k ∧ k ≤ 8 := by omega
  have ho8 : 1 ≤ o ∧ o ≤ 8 := by omega
  have he8 : e ≤ 9007199254740992 := by omega
  have hn8 : n ≤ 9007199254740992 := by omega
  have hm8 : m ≤ 9007199254740992 := by omega
  obtain ⟨s, es, hs⟩ := str_of (textL k e n)
  obtain ⟨t, et, ht⟩ := str_of (textL o e m)
  have hrd := text_read k e n hk8 he8 hn8
  have hal := text_alike k o e n m hk8 ho8 he8 hn8 hm8
  have hok := text_ok k e n hk8 he8 hn8
  have hne := (is_text k e n hk8 he8 hn8).ne
  rw [← hs] at hrd hok hne hal
  rw [← ht] at hal
  have hpl := plain_iff k hk8
  have hlen : s.data.toList.length = s.size := by rw [Array.length_toList]; rfl
  have hs40 : s.size ≤ 40 := by omega
  refine back_walk kind other epoch num more w k o e n m (e1 k e) (n1 k n) s t _ _ _ _ _ _ _ _ ek eo ee en em hk ho he hn hm hL rfl rfl rfl rfl rfl rfl rfl rfl ?_ ?_ ?_
    (Lib.hid fun w hL => ?_) (Lib.hid fun w hL => ?_) (Lib.hid fun w hL => ?_) hs40 (by rw [ByteArray.toList_eq]; simpa using hne) (Lib.hid fun j h => ?_)
  · by_cases h7 : k = 7
    · simp [e1, h7]
    · have : ((k : Int) == 7) = false := by simp; omega
      rw [this, Bool.and_false]
  · by_cases hp : headL k = []
    · have := hpl.1 hp
      have h3 : (((k : Int) == 4) || ((k : Int) == 5) || ((k : Int) == 6)) = true := by
        rcases this with h | h | h <;> simp [h]
      rw [h3]; simp
    · simp [n1, hp]
  · rw [ByteArray.toList_eq, ByteArray.toList_eq]
    rw [Bool.eq_iff_iff]
    simp only [beq_iff_eq, Bool.and_eq_true, Bool.or_eq_true, hal, hpl]
    omega
  · refine (text_calls k e n w (by omega) (by omega) hL).mono fun e' w' h => ?_
    rw [es] at h; exact h
  · refine (text_calls o e m w (by omega) (by omega) hL).mono fun e' w' h => ?_
    rw [et] at h; exact h
  · refine (read_calls s w (by omega) hL).mono fun e' w' h => ?_
    rw [hrd] at h; exact h
  · refine List.all_eq_true.1 hok.1 _ ?_
    have : s[j] = s.data.toList[j]'(by rw [hlen]; exact h) := by simp; rfl
    rw [this]; exact List.getElem_mem _
end Go.Proofs.YtjlmcidmcdiklaaDoor
