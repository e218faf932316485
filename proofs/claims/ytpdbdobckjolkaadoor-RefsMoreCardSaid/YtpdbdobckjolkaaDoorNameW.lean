/- The walks of the program's name functions: head, whole, may, number, Text, Read. -/
import Derived.Test.YtpdbdobckjolkaaDoorKit
import Derived.Test.YtpdbdobckjolkaaDoorNameA
import Derived.Test.YtpdbdobckjolkaaDoorShelf
import Derived.Test.YtpdbdobckjolkaaDoorProg
import Derived.Lib.AppendIntMem
import Derived.Lib.LaidTab
import Derived.Lib.ItoaLen
import Derived.Lib.AtoiAllCases
set_option linter.unusedVariables false
set_option linter.unusedSimpArgs false
namespace Go.Proofs.YtpdbdobckjolkaaDoor
open Go.RowKit
abbrev str (l : List UInt8) : Value := .string ⟨l.toArray⟩

/-- what the library's tables and errors hold -/
structure Laid (w : World) : Prop where
  tab : Lib.TabIs Tryd.prog w "internal/strconv.uint64pow10" .u64 Lib.pow10Tab
  syn : ∃ tp p, w.var? Tryd.prog "strconv.ErrSyntax" = some #[.iface tp p]
  rng : ∃ tp p, w.var? Tryd.prog "strconv.ErrRange" = some #[.iface tp p]
  mx : ∃ m, w.cell? ⟨0, 0, none⟩ = some (.int .i64 m)
theorem var?_below {w w' : World} (h : Below w.heap.size w w') {n : String} {cs : Array Value} (hv : w.var? Tryd.prog n = some cs) : w'.var? Tryd.prog n = some cs := by
  unfold World.var? at *
  cases hg : Tryd.prog.globalNamed n with
  | none => simp [hg] at hv
  | some g =>
    simp only [hg, Option.bind_some] at *
    have hlt : g < w.heap.size := by
      rcases Nat.lt_or_ge g w.heap.size with h1 | h1
      · exact h1
      · rw [Array.getElem?_eq_none h1] at hv; cases hv
    rw [h.block g hlt]; exact hv
theorem Laid.below {w w' : World} (h : Laid w) (hb : Below w.heap.size w w') : Laid w' := by
  obtain ⟨tp, p, h1⟩ := h.syn
  obtain ⟨tp2, p2, h2⟩ := h.rng
  obtain ⟨m, h3⟩ := h.mx
  exact ⟨var?_below hb h.tab, ⟨tp, p, var?_below hb h1⟩, ⟨tp2, p2, var?_below hb h2⟩, ⟨m, by rw [hb.cell (block_lt_of_cell h3)]; exact h3⟩⟩

theorem itoa_calls (n : Int) (w : World) (h0 : -9223372036854775808 ≤ n) (h1 : n ≤ 9223372036854775807) (hL : Laid w) :
    Calls Tryd.prog 34 #[.int .i64 n] w fun e w' => e = .returned (str (Lib.itoa n)) ∧ Below w.heap.size w w' :=
  (Tryd.strconv_Itoa n h0 h1 w hL.tab).mono fun e w' ⟨he, k, os, hw⟩ => ⟨he, by rw [hw]; exact Lib.below_grow _ _ (Nat.le_refl _) _ _⟩

set_option maxHeartbeats 400000 in
theorem head_calls (k : Int) (w : World) : Calls Tryd.prog 31 #[.int .i64 k] w fun e w' => e = .returned (str (headL k)) ∧ w = w' := by
  go_enter Tryd.func31, Tryd.ntmps31
  go_wp2
  all_goals (go_ret; refine ⟨?_, rfl⟩; simp_all [headL, str])
set_option maxHeartbeats 400000 in
theorem whole_calls (k : Int) (w : World) : Calls Tryd.prog 32 #[.int .i64 k] w fun e w' => e = .returned (str (wholeL k)) ∧ w = w' := by
  go_enter Tryd.func32, Tryd.ntmps32
  go_wp2
  all_goals (go_ret; refine ⟨?_, rfl⟩; simp_all [wholeL, str])
theorem may_calls (n : Int) (w : World) : Calls Tryd.prog 33 #[.int .i64 n] w fun e w' => e = .returned (.bool (mayN n)) ∧ w = w' := by
  by_cases h : 0 ≤ n
  · have e : mayN n = decide (n ≤ 9007199254740992) := by simp [mayN, h]
    rw [e]
    go_enter Tryd.func33, Tryd.ntmps33
    go_wp2
    go_ret
    exact ⟨rfl, rfl⟩
  · have e : mayN n = false := by simp [mayN, h]
    rw [e]
    go_enter Tryd.func33, Tryd.ntmps33
    go_wp2
    go_ret
    exact ⟨rfl, rfl⟩

theorem ret_str {a b : ByteArray} (h : a = b) : Ending.returned (.string a) = .returned (.string b) := by rw [h]
theorem headL_len (k : Int) : (headL k).length ≤ 6 := by
  unfold headL; repeat' split
  all_goals decide
set_option maxHeartbeats 400000 in
theorem text_calls (k e n : Int) (w : World) (he : -9223372036854775808 ≤ e ∧ e ≤ 9223372036854775807) (hn : -9223372036854775808 ≤ n ∧ n ≤ 9223372036854775807) (hL : Laid w) :
    Calls Tryd.prog 17 #[.int .i64 k, .int .i64 e, .int .i64 n] w fun e' w' => e' = .returned (str (textL k e n)) ∧ Below w.heap.size w w' := by
  have HL := Lib.hid hL
  clear hL
  have l1 := headL_len k
  have l2 := Lib.itoa_length_le e he.1 he.2
  have l3 := Lib.itoa_length_le n hn.1 hn.2
  by_cases h1 : headL k = []
  · have hs : textL k e n = wholeL k := by unfold textL; rw [if_pos h1]
    rw [hs]
    clear hs
    go_enter Tryd.func17, Tryd.ntmps17
    go_wp2_with fail
    refine (head_calls _ _).mono ?_
    rintro e w' ⟨rfl, rfl⟩
    rw [h1]
    go_wp2_with fail
    refine (whole_calls _ _).mono ?_
    rintro e w' ⟨rfl, rfl⟩
    go_wp2_with fail
    go_ret
    exact ⟨rfl, Below.refl _ _⟩
  · have g1 : (headL k == []) = false := by simpa using h1
    by_cases h2 : mayN n = true
    · by_cases h3 : k = 7
      · subst h3
        by_cases h4 : mayN e = true
        · have hs : textL 7 e n = headL 7 ++ Lib.itoa e ++ [45] ++ Lib.itoa n := by unfold textL; simp [h1, h2, h4]
          rw [hs]
          clear hs
          go_enter Tryd.func17, Tryd.ntmps17
          go_wp2_with fail
          refine (head_calls _ _).mono ?_
          rintro e' w' ⟨rfl, rfl⟩
          go_wp2_with fail
          refine (may_calls _ _).mono ?_
          rintro e' w' ⟨rfl, rfl⟩
          go_wp2_with fail
          refine (may_calls _ _).mono ?_
          rintro e' w' ⟨rfl, rfl⟩
          go_wp2_with fail
          refine (itoa_calls _ _ he.1 he.2 HL.out).mono ?_
          rintro e' w1 ⟨rfl, hb1⟩
          have HB1 := Lib.hid hb1
          clear hb1
          go_wp2_with fail
          refine (itoa_calls _ _ hn.1 hn.2 (HL.out.below HB1.out)).mono ?_
          rintro e' w2 ⟨rfl, hb2⟩
          have HB2 := Lib.hid hb2
          clear hb2
          go_wp2_with fail
          go_ret
          refine ⟨?_, HB1.out.trans (HB2.out.mono HB1.out.size)⟩
          exact ret_str (by rw [← ByteArray.mk_append_mk (headL 7 ++ Lib.itoa e ++ [45]) (Lib.itoa n), ← ByteArray.mk_append_mk (headL 7 ++ Lib.itoa e) [45], ← ByteArray.mk_append_mk (headL 7) (Lib.itoa e)])
        · simp only [Bool.not_eq_true] at h4
          have hs : textL 7 e n = [] := by unfold textL; simp [h1, h2, h4]
          rw [hs]
          clear hs
          go_enter Tryd.func17, Tryd.ntmps17
          go_wp2_with (first | (go_at_call 31; refine (head_calls _ _).mono ?_; rintro e' w' ⟨rfl, rfl⟩) | (go_at_call 33; refine (may_calls _ _).mono ?_; rintro e' w' ⟨rfl, rfl⟩))
          go_ret
          exact ⟨rfl, Below.refl _ _⟩
      · have hs : textL k e n = headL k ++ Lib.itoa n := by unfold textL; simp [h1, h2, h3]
        rw [hs]
        clear hs
        have g3 : (k != 7) = true := by simpa using h3
        have g4 : (k == 7) = false := by simpa using h3
        go_enter Tryd.func17, Tryd.ntmps17
        go_wp2_with (first | (go_at_call 31; refine (head_calls _ _).mono ?_; rintro e' w' ⟨rfl, rfl⟩) | (go_at_call 33; refine (may_calls _ _).mono ?_; rintro e' w' ⟨rfl, rfl⟩))
        refine (itoa_calls _ _ hn.1 hn.2 HL.out).mono ?_
        rintro e' w1 ⟨rfl, hb1⟩
        have HB1 := Lib.hid hb1
        clear hb1
        go_wp2_with fail
        go_ret
        refine ⟨?_, HB1.out⟩
        exact ret_str (by rw [← ByteArray.mk_append_mk (headL k) (Lib.itoa n)])
    · simp only [Bool.not_eq_true] at h2
      have hs : textL k e n = [] := by unfold textL; simp [h1, h2]
      rw [hs]
      clear hs
      go_enter Tryd.func17, Tryd.ntmps17
      go_wp2_with (first | (go_at_call 31; refine (head_calls _ _).mono ?_; rintro e' w' ⟨rfl, rfl⟩) | (go_at_call 33; refine (may_calls _ _).mono ?_; rintro e' w' ⟨rfl, rfl⟩))
      go_ret
      exact ⟨rfl, Below.refl _ _⟩

theorem numB_ok {s : List UInt8} {v : Int} (h : Lib.atoiAll s = .ok v) : numB s = (mayN v && (Lib.itoa v == s)) ∧ numV s = v := by
  unfold numB numV; rw [h]; exact ⟨rfl, rfl⟩
theorem atoi_ok (s : ByteArray) (v : Int) (h : Lib.atoiAll s.data.toList = .ok v) (w : World) (hs : s.size ≤ 281474976710656) :
    Calls Tryd.prog 49 #[.string s] w fun e w' => e = .returned (.tuple #[.int .i64 v, .nilIface]) ∧ Below w.heap.size w w' := by
  refine (Tryd.strconv_Atoi_ok s (by omega) v h w).mono ?_
  rintro e w' ⟨rfl, hw⟩
  refine ⟨rfl, ?_⟩
  rcases hw with rfl | ⟨t, rfl⟩
  · exact Below.refl _ _
  · exact Lib.bytesWorld_below _ _ _
theorem atoi_bad (s : ByteArray) (h : ∀ v, Lib.atoiAll s.data.toList ≠ .ok v) (w : World) (hs : s.size ≤ 281474976710656) (hL : Laid w) :
    Calls Tryd.prog 49 #[.string s] w fun e w' => ∃ N, e = .returned (.tuple #[.int .i64 (numV s.data.toList), .iface 104 (.pointer (some ⟨N, 0, none⟩))]) ∧ Below w.heap.size w w' := by
  obtain ⟨tp, p, h1⟩ := hL.syn
  obtain ⟨tp2, p2, h2⟩ := hL.rng
  rcases h' : Lib.atoiAll s.data.toList with v | _ | _
  · exact absurd h' (h v)
  · refine (Tryd.strconv_Atoi_syntax_var s hs h' tp p w h1).mono ?_
    rintro e w' ⟨N, rfl, _, _, hb⟩
    refine ⟨N, ?_, hb⟩
    unfold numV; rw [h']
  · refine (Tryd.strconv_Atoi_range_var s hs h' tp2 p2 w h2).mono ?_
    rintro e w' ⟨N, rfl, _, _, hb⟩
    refine ⟨N, ?_, hb⟩
    unfold numV; rw [h']
theorem ret_tib {a : Int} {b c : Bool} (h : b = c) : Ending.returned (.tuple #[.int .i64 a, .bool b]) = .returned (.tuple #[.int .i64 a, .bool c]) := by rw [h]
theorem numB_bad {s : List UInt8} (h : ∀ v, Lib.atoiAll s ≠ .ok v) : numB s = false := by
  unfold numB
  split
  · rename_i v hv; exact absurd hv (h v)
  · rfl
set_option maxHeartbeats 400000 in
theorem number_calls (s : ByteArray) (w : World) (hs : s.size ≤ 281474976710656) (hL : Laid w) :
    Calls Tryd.prog 40 #[.string s] w fun e w' => e = .returned (.tuple #[.int .i64 (numV s.data.toList), .bool (numB s.data.toList)]) ∧ Below w.heap.size w w' := by
  have HL := Lib.hid hL
  clear hL
  by_cases hok : ∃ v, Lib.atoiAll s.data.toList = .ok v
  · obtain ⟨v, hv⟩ := hok
    obtain ⟨hB, hV⟩ := numB_ok hv
    rw [hB, hV]
    have hbits := Lib.atoiAll_bounds hv
    have HV := Lib.hid hv
    clear hB hV hv
    by_cases hm : mayN v = true
    · rw [hm, Bool.true_and]
      go_enter Tryd.func40, Tryd.ntmps40
      go_wp2_with fail
      refine (atoi_ok s v HV.out w hs).mono ?_
      rintro e w1 ⟨rfl, hb⟩
      have HB := Lib.hid hb
      clear hb
      go_wp2_with fail
      refine (may_calls _ _).mono ?_
      rintro e w' ⟨rfl, rfl⟩
      go_wp2_with fail
      refine (itoa_calls _ _ hbits.1 hbits.2 (HL.out.below HB.out)).mono ?_
      rintro e w2 ⟨rfl, hb2⟩
      have HB2 := Lib.hid hb2
      clear hb2
      go_wp2_with fail
      go_ret2
      exact ⟨ret_tib (by rw [ByteArray.toList_eq]), HB.out.trans (HB2.out.mono HB.out.size)⟩
    · simp only [Bool.not_eq_true] at hm
      rw [hm, Bool.false_and]
      go_enter Tryd.func40, Tryd.ntmps40
      go_wp2_with fail
      refine (atoi_ok s v HV.out w hs).mono ?_
      rintro e w1 ⟨rfl, hb⟩
      have HB := Lib.hid hb
      clear hb
      go_wp2_with fail
      refine (may_calls _ _).mono ?_
      rintro e w' ⟨rfl, rfl⟩
      go_wp2_with fail
      go_ret2
      exact ⟨rfl, HB.out⟩
  · have hne : ∀ v, Lib.atoiAll s.data.toList ≠ .ok v := fun v hv => hok ⟨v, hv⟩
    rw [numB_bad hne]
    have HN := Lib.hid hne
    clear hne hok
    go_enter Tryd.func40, Tryd.ntmps40
    go_wp2_with fail
    refine (atoi_bad s HN.out w hs HL.out).mono ?_
    rintro e w1 ⟨N, rfl, hb⟩
    have HB := Lib.hid hb
    clear hb
    go_wp2_with fail
    go_ret2
    exact ⟨rfl, HB.out⟩

theorem number_list (l : List UInt8) (w : World) (hs : l.length ≤ 281474976710656) (hL : Laid w) :
    Calls Tryd.prog 40 #[str l] w fun e w' => e = .returned (.tuple #[.int .i64 (numV l), .bool (numB l)]) ∧ Below w.heap.size w w' :=
  number_calls ⟨l.toArray⟩ w (by simpa [ByteArray.size] using hs) hL
theorem cutp_calls (s : ByteArray) (p : List UInt8) (w : World) :
    Calls Tryd.prog 38 #[.string s, str p] w fun e w' => e = .returned (.tuple #[str (Lib.trimPrefix s.data.toList p), .bool (Lib.hasPrefix s.data.toList p)]) ∧ w = w' :=
  (Tryd.strings_CutPrefix s ⟨p.toArray⟩ w).mono fun e w' ⟨he, hw⟩ => ⟨he, hw.symm⟩
theorem cut_calls (s : List UInt8) (w : World) (hs : s.length < 4294967281) (hL : Laid w) :
    Calls Tryd.prog 39 #[str s, .string ⟨#[45]⟩] w fun e w' => e = .returned (.tuple #[str (Lib.cut s [45]).1, str (Lib.cut s [45]).2.1, .bool (Lib.cut s [45]).2.2]) ∧ ∃ n, w' = w.drewN n := by
  obtain ⟨m, hm⟩ := hL.mx
  exact Tryd.strings_Cut ⟨s.toArray⟩ ⟨#[45]⟩ m w (by simpa [ByteArray.size] using hs) hm
def RelRead (w : World) (s : List UInt8) (k : Nat) (wr : World) : Prop := readL s = readKs s (kindsFrom k) ∧ Laid wr ∧ Below w.heap.size w wr
def tup3 (x : Int × Int × Int) : Value := .tuple #[.int .i64 x.1, .int .i64 x.2.1, .int .i64 x.2.2]

set_option maxRecDepth 100000 in
set_option maxHeartbeats 1000000 in
theorem read_calls (s : ByteArray) (w : World) (hs : s.size < 4294967281) (hL : Laid w) :
    Calls Tryd.prog 20 #[.string s] w fun e w' => e = .returned (tup3 (readL s.data.toList)) ∧ Below w.heap.size w w' := by
  have HL := Lib.hid hL
  clear hL
  go_enter Tryd.func20, Tryd.ntmps20
  go_wp2_with fail
  go_step3
  go_wp2_with fail
  go_step3
  go_wp2_with fail
  go_loopw [2, 3, 4, 5, 6, 7, 8, 9, 10, 11, 12, 13, 14, 15, 16, 17, 18, 19, 20, 21, 22, 23, 24, 25, 26, 27, 28, 29, 30, 31, 32, 33, 34, 35, 36, 37, 38, 39, 40, 41, 42, 43, 44, 45, 46, 47, 48, 49, 50, 51, 52, 53, 54, 55, 56, 57, 58, 59, 60, 61, 62, 63, 64, 65, 66] (fun _ _ _ i _ _ _ _ _ _ _ _ _ _ _ _ _ _ _ _ _ _ _ _ _ _ _ _ _ _ _ _ _ _ _ _ _ _ _ _ _ _ _ _ _ _ _ _ _ _ _ _ _ _ _ _ _ _ _ _ _ _ _ _ _ wr => ∃ k : Nat, 1 ≤ k ∧ k ≤ 9 ∧ i = .int .i64 k ∧ RelRead w s.data.toList k wr) (fun _ _ _ i _ _ _ _ _ _ _ _ _ _ _ _ _ _ _ _ _ _ _ _ _ _ _ _ _ _ _ _ _ _ _ _ _ _ _ _ _ _ _ _ _ _ _ _ _ _ _ _ _ _ _ _ _ _ _ _ _ _ _ _ _ _ => 9 - (intOf i).toNat)
  case atStart => exact ⟨1, by omega, by omega, rfl, rfl, HL.out, Below.refl _ _⟩
  case round =>
    obtain ⟨k, hk0, hk, rfl, hR⟩ := hrel
    have HR := Lib.hid hR
    clear hR
    by_cases hlt : k < 9
    · have hu := HR.out.1
      rw [kindsFrom_cons k hlt] at hu
      unfold readKs at hu
      by_cases hA : s.data.toList ≠ [] ∧ s.data.toList = wholeL k
      · rw [if_pos hA] at hu
        obtain ⟨hA1, hA2⟩ := hA
        have g1 : (s.toList == []) = false := by rw [ByteArray.toList_eq]; simpa using hA1
        have g2 : (s.toList == wholeL k) = true := by rw [ByteArray.toList_eq]; simpa using hA2
        have HU := Lib.hid hu
        clear hu hA1 hA2
        go_wp2_with fail
        refine (whole_calls _ _).mono ?_
        rintro e w' ⟨rfl, rfl⟩
        go_wp2_with fail
        try rw [Exit.noGoto_ret]
        go_ret3
        exact ⟨by rw [HU.out]; rfl, HR.out.2.2⟩
      · rw [if_neg hA] at hu
        by_cases hA1 : s.data.toList = []
        · have g1 : (s.toList == []) = true := by rw [ByteArray.toList_eq]; simpa using hA1
          have hB : Lib.hasPrefix s.data.toList (headL k) = false ∨ headL k = [] := by
            rw [hA1]
            cases h : headL k with
            | nil => exact .inr rfl
            | cons a l => exact .inl rfl
          clear hA
          have hA3 := Lib.hid hA1
          clear hA1
          · rw [if_pos hB] at hu
            have HU := Lib.hid hu
            clear hu
            by_cases hp : Lib.hasPrefix s.data.toList (headL k) = false
            · clear hB
              go_wp2_with fail

              refine (head_calls _ _).mono ?_
              rintro e w' ⟨rfl, rfl⟩
              go_wp2_with fail
              refine (cutp_calls _ _ _).mono ?_
              rintro e w' ⟨rfl, rfl⟩
              go_wp2_with fail

              go_roundw
              case rel => exact ⟨k + 1, by omega, by omega, by go_num, HU.out, HR.out.2.1, HR.out.2.2⟩
              case measure => simp [intOf]; omega
            · simp only [Bool.not_eq_false] at hp
              have hh : headL k = [] := by simpa [hp] using hB
              have g3 : (headL k == []) = true := by simpa using hh
              clear hB hh
              go_wp2_with fail

              refine (head_calls _ _).mono ?_
              rintro e w' ⟨rfl, rfl⟩
              go_wp2_with fail
              refine (cutp_calls _ _ _).mono ?_
              rintro e w' ⟨rfl, rfl⟩
              go_wp2_with fail
              refine (head_calls _ _).mono ?_
              rintro e w' ⟨rfl, rfl⟩
              go_wp2_with fail
              go_roundw
              case rel => exact ⟨k + 1, by omega, by omega, by go_num, HU.out, HR.out.2.1, HR.out.2.2⟩
              case measure => simp [intOf]; omega

        · have g1 : (s.toList == []) = false := by rw [ByteArray.toList_eq]; simpa using hA1
          have g2 : (s.toList == wholeL k) = false := by
            rw [ByteArray.toList_eq]
            have : s.data.toList ≠ wholeL k := fun h => hA ⟨hA1, h⟩
            simpa using this
          have hA3 := Lib.hid hA1
          clear hA hA1
          by_cases hB : Lib.hasPrefix s.data.toList (headL k) = false ∨ headL k = []
          · rw [if_pos hB] at hu
            have HU := Lib.hid hu
            clear hu
            by_cases hp : Lib.hasPrefix s.data.toList (headL k) = false
            · clear hB
              go_wp2_with fail
              refine (whole_calls _ _).mono ?_
              rintro e w' ⟨rfl, rfl⟩
              go_wp2_with fail

              refine (head_calls _ _).mono ?_
              rintro e w' ⟨rfl, rfl⟩
              go_wp2_with fail
              refine (cutp_calls _ _ _).mono ?_
              rintro e w' ⟨rfl, rfl⟩
              go_wp2_with fail

              go_roundw
              case rel => exact ⟨k + 1, by omega, by omega, by go_num, HU.out, HR.out.2.1, HR.out.2.2⟩
              case measure => simp [intOf]; omega
            · simp only [Bool.not_eq_false] at hp
              have hh : headL k = [] := by simpa [hp] using hB
              have g3 : (headL k == []) = true := by simpa using hh
              clear hB hh
              go_wp2_with fail
              refine (whole_calls _ _).mono ?_
              rintro e w' ⟨rfl, rfl⟩
              go_wp2_with fail

              refine (head_calls _ _).mono ?_
              rintro e w' ⟨rfl, rfl⟩
              go_wp2_with fail
              refine (cutp_calls _ _ _).mono ?_
              rintro e w' ⟨rfl, rfl⟩
              go_wp2_with fail
              refine (head_calls _ _).mono ?_
              rintro e w' ⟨rfl, rfl⟩
              go_wp2_with fail
              go_roundw
              case rel => exact ⟨k + 1, by omega, by omega, by go_num, HU.out, HR.out.2.1, HR.out.2.2⟩
              case measure => simp [intOf]; omega

          · rw [if_neg hB] at hu
            have hp : Lib.hasPrefix s.data.toList (headL k) = true := by
              cases h : Lib.hasPrefix s.data.toList (headL k) with
              | true => rfl
              | false => exact absurd (Or.inl h) hB
            have hh : headL k ≠ [] := fun h => hB (Or.inr h)
            have g3 : (headL k == []) = false := by simpa using hh
            have ht : Lib.trimPrefix s.data.toList (headL k) = s.data.toList.drop (headL k).length := by unfold Lib.trimPrefix; rw [if_pos hp]
            obtain ⟨r, hr⟩ : ∃ r, s.data.toList.drop (headL k).length = r := ⟨_, rfl⟩
            have hrl : r.length ≤ s.size := by rw [← hr, List.length_drop]; show _ ≤ s.data.size; rw [← Array.length_toList]; omega
            rw [hr] at hu ht
            have hcp : ∀ w, Calls Tryd.prog 38 #[.string s, str (headL k)] w fun e w' => e = .returned (.tuple #[str r, .bool true]) ∧ w = w' := fun w => by
              have := cutp_calls s (headL k) w
              rw [ht, hp] at this; exact this
            have HCP := Lib.hid hcp
            have HRR := Lib.hid hr
            clear hcp hB hp hh ht hr
            by_cases h7 : k = 7
            · subst h7
              rw [if_pos (show ((7 : Nat) : Int) = 7 from rfl)] at hu
              have g2' : (s.toList == wholeL 7) = false := g2
              have g3' : (headL 7 == []) = false := g3
              have HCP2 : RowKit.Hid (∀ w, Calls Tryd.prog 38 #[.string s, str (headL 7)] w fun e w' => e = .returned (.tuple #[str r, .bool true]) ∧ w = w') := HCP
              clear g2 g3 HCP
              have HCP := HCP2
              obtain ⟨c1, c2, c3, hc⟩ : ∃ c1 c2 c3, Lib.cut r [45] = (c1, c2, c3) := ⟨_, _, _, rfl⟩
              have hcl : c1.length ≤ r.length ∧ c2.length ≤ r.length := by
                unfold Lib.cut at hc
                split at hc
                · simp only [Prod.mk.injEq] at hc
                  obtain ⟨rfl, rfl, _⟩ := hc
                  exact ⟨by rw [List.length_take]; omega, by rw [List.length_drop]; omega⟩
                · simp only [Prod.mk.injEq] at hc
                  obtain ⟨rfl, rfl, _⟩ := hc
                  exact ⟨Nat.le_refl _, by simp⟩
              simp only [hc] at hu
              have hcc : ∀ w, Laid w → Calls Tryd.prog 39 #[str r, .string ⟨#[45]⟩] w fun e w' => e = .returned (.tuple #[str c1, str c2, .bool c3]) ∧ ∃ n, w' = w.drewN n := fun w hL => by
                have := cut_calls r w (by omega) hL
                rw [hc] at this; exact this
              have HCC := Lib.hid hcc
              clear hcc hc
              cases c3 with
              | false =>
                simp only [Bool.false_eq_true, false_and, if_false] at hu
                have HU := Lib.hid hu
                clear hu
                go_wp2_with fail
                refine (whole_calls _ _).mono ?_
                rintro e w' ⟨rfl, rfl⟩
                go_wp2_with fail

                refine (head_calls _ _).mono ?_
                rintro e w' ⟨rfl, rfl⟩
                go_wp2_with fail
                refine (HCP.out _).mono ?_
                rintro e w' ⟨rfl, rfl⟩
                go_wp2_with fail
                refine (head_calls _ _).mono ?_
                rintro e w' ⟨rfl, rfl⟩
                go_wp2_with fail
                refine (HCC.out _ HR.out.2.1).mono ?_
                rintro e w' ⟨rfl, n, rfl⟩
                have hd : Below wr.heap.size wr (wr.drewN n) := below_drewN (Below.refl _ _) n
                have HD := Lib.hid hd
                clear hd
                go_wp2_with fail
                refine (number_list c2 _ (by omega) (HR.out.2.1.below HD.out)).mono ?_
                rintro e hqw ⟨rfl, hq⟩
                have HQ := Lib.hid hq
                clear hq
                go_wp2_with fail
                try rw [Exit.noGoto_ret]
                go_ret3
                exact ⟨by rw [HU.out]; rfl, HR.out.2.2.trans ((HD.out.trans (HQ.out.mono HD.out.size)).mono HR.out.2.2.size)⟩
              | true =>
                cases hn1 : numB c1 with
                | false =>
                  simp only [hn1, Bool.false_eq_true, false_and, and_false, if_false] at hu
                  have HU := Lib.hid hu
                  clear hu
                  go_wp2_with fail
                  refine (whole_calls _ _).mono ?_
                  rintro e w' ⟨rfl, rfl⟩
                  go_wp2_with fail

                  refine (head_calls _ _).mono ?_
                  rintro e w' ⟨rfl, rfl⟩
                  go_wp2_with fail
                  refine (HCP.out _).mono ?_
                  rintro e w' ⟨rfl, rfl⟩
                  go_wp2_with fail
                  refine (head_calls _ _).mono ?_
                  rintro e w' ⟨rfl, rfl⟩
                  go_wp2_with fail
                  refine (HCC.out _ HR.out.2.1).mono ?_
                  rintro e w' ⟨rfl, n, rfl⟩
                  have hd : Below wr.heap.size wr (wr.drewN n) := below_drewN (Below.refl _ _) n
                  have HD := Lib.hid hd
                  clear hd
                  go_wp2_with fail
                  refine (number_list c1 _ (by omega) (HR.out.2.1.below HD.out)).mono ?_
                  rintro e hp1w ⟨rfl, hp1⟩
                  have HP1 := Lib.hid hp1
                  clear hp1
                  go_wp2_with fail
                  refine (number_list c2 _ (by omega) ((HR.out.2.1.below HD.out).below HP1.out)).mono ?_
                  rintro e hqw ⟨rfl, hq⟩
                  have HQ := Lib.hid hq
                  clear hq
                  go_wp2_with fail
                  try rw [Exit.noGoto_ret]
                  go_ret3
                  exact ⟨by rw [HU.out]; rfl, HR.out.2.2.trans (((HD.out.trans (HP1.out.mono HD.out.size)).trans (HQ.out.mono (Nat.le_trans HD.out.size HP1.out.size))).mono HR.out.2.2.size)⟩
                | true =>
                  cases hn2 : numB c2 with
                  | false =>
                    simp only [hn1, hn2, Bool.false_eq_true, and_false, if_false] at hu
                    have HU := Lib.hid hu
                    clear hu
                    go_wp2_with fail
                    refine (whole_calls _ _).mono ?_
                    rintro e w' ⟨rfl, rfl⟩
                    go_wp2_with fail

                    refine (head_calls _ _).mono ?_
                    rintro e w' ⟨rfl, rfl⟩
                    go_wp2_with fail
                    refine (HCP.out _).mono ?_
                    rintro e w' ⟨rfl, rfl⟩
                    go_wp2_with fail
                    refine (head_calls _ _).mono ?_
                    rintro e w' ⟨rfl, rfl⟩
                    go_wp2_with fail
                    refine (HCC.out _ HR.out.2.1).mono ?_
                    rintro e w' ⟨rfl, n, rfl⟩
                    have hd : Below wr.heap.size wr (wr.drewN n) := below_drewN (Below.refl _ _) n
                    have HD := Lib.hid hd
                    clear hd
                    go_wp2_with fail
                    refine (number_list c1 _ (by omega) (HR.out.2.1.below HD.out)).mono ?_
                    rintro e hp1w ⟨rfl, hp1⟩
                    have HP1 := Lib.hid hp1
                    clear hp1
                    go_wp2_with fail
                    refine (number_list c2 _ (by omega) ((HR.out.2.1.below HD.out).below HP1.out)).mono ?_
                    rintro e hqw ⟨rfl, hq⟩
                    have HQ := Lib.hid hq
                    clear hq
                    go_wp2_with fail
                    try rw [Exit.noGoto_ret]
                    go_ret3
                    exact ⟨by rw [HU.out]; rfl, HR.out.2.2.trans (((HD.out.trans (HP1.out.mono HD.out.size)).trans (HQ.out.mono (Nat.le_trans HD.out.size HP1.out.size))).mono HR.out.2.2.size)⟩
                  | true =>
                    simp only [hn1, hn2, and_self, if_true] at hu
                    have HU := Lib.hid hu
                    clear hu
                    go_wp2_with fail
                    refine (whole_calls _ _).mono ?_
                    rintro e w' ⟨rfl, rfl⟩
                    go_wp2_with fail

                    refine (head_calls _ _).mono ?_
                    rintro e w' ⟨rfl, rfl⟩
                    go_wp2_with fail
                    refine (HCP.out _).mono ?_
                    rintro e w' ⟨rfl, rfl⟩
                    go_wp2_with fail
                    refine (head_calls _ _).mono ?_
                    rintro e w' ⟨rfl, rfl⟩
                    go_wp2_with fail
                    refine (HCC.out _ HR.out.2.1).mono ?_
                    rintro e w' ⟨rfl, n, rfl⟩
                    have hd : Below wr.heap.size wr (wr.drewN n) := below_drewN (Below.refl _ _) n
                    have HD := Lib.hid hd
                    clear hd
                    go_wp2_with fail
                    refine (number_list c1 _ (by omega) (HR.out.2.1.below HD.out)).mono ?_
                    rintro e hp1w ⟨rfl, hp1⟩
                    have HP1 := Lib.hid hp1
                    clear hp1
                    go_wp2_with fail
                    refine (number_list c2 _ (by omega) ((HR.out.2.1.below HD.out).below HP1.out)).mono ?_
                    rintro e hqw ⟨rfl, hq⟩
                    have HQ := Lib.hid hq
                    clear hq
                    go_wp2_with fail
                    try rw [Exit.noGoto_ret]
                    go_ret3
                    exact ⟨by rw [HU.out]; rfl, HR.out.2.2.trans (((HD.out.trans (HP1.out.mono HD.out.size)).trans (HQ.out.mono (Nat.le_trans HD.out.size HP1.out.size))).mono HR.out.2.2.size)⟩
            · have h7' : ¬ (k : Int) = 7 := by omega
              rw [if_neg h7'] at hu
              have g7 : ((k : Int) == 7) = false := by simpa using h7'
              cases hn2 : numB r with
              | false =>
                simp only [hn2, Bool.false_eq_true, if_false] at hu
                have HU := Lib.hid hu
                clear hu h7'
                go_wp2_with fail
                refine (whole_calls _ _).mono ?_
                rintro e w' ⟨rfl, rfl⟩
                go_wp2_with fail

                refine (head_calls _ _).mono ?_
                rintro e w' ⟨rfl, rfl⟩
                go_wp2_with fail
                refine (HCP.out _).mono ?_
                rintro e w' ⟨rfl, rfl⟩
                go_wp2_with fail
                refine (head_calls _ _).mono ?_
                rintro e w' ⟨rfl, rfl⟩
                go_wp2_with fail
                refine (number_list r _ (by omega) HR.out.2.1).mono ?_
                rintro e hqw ⟨rfl, hq⟩
                have HQ := Lib.hid hq
                clear hq
                go_wp2_with fail
                try rw [Exit.noGoto_ret]
                go_ret3
                exact ⟨by rw [HU.out]; rfl, HR.out.2.2.trans (HQ.out.mono HR.out.2.2.size)⟩
              | true =>
                simp only [hn2, if_true] at hu
                have HU := Lib.hid hu
                clear hu h7'
                go_wp2_with fail
                refine (whole_calls _ _).mono ?_
                rintro e w' ⟨rfl, rfl⟩
                go_wp2_with fail

                refine (head_calls _ _).mono ?_
                rintro e w' ⟨rfl, rfl⟩
                go_wp2_with fail
                refine (HCP.out _).mono ?_
                rintro e w' ⟨rfl, rfl⟩
                go_wp2_with fail
                refine (head_calls _ _).mono ?_
                rintro e w' ⟨rfl, rfl⟩
                go_wp2_with fail
                refine (number_list r _ (by omega) HR.out.2.1).mono ?_
                rintro e hqw ⟨rfl, hq⟩
                have HQ := Lib.hid hq
                clear hq
                go_wp2_with fail
                try rw [Exit.noGoto_ret]
                go_ret3
                exact ⟨by rw [HU.out]; rfl, HR.out.2.2.trans (HQ.out.mono HR.out.2.2.size)⟩
    · obtain rfl : k = 9 := by omega
      have hu := HR.out.1
      rw [kindsFrom_nine] at hu
      have HU := Lib.hid hu
      clear hu
      go_wp2_with fail
      try rw [Exit.noGoto_ret]
      go_ret3
      exact ⟨by rw [HU.out]; rfl, HR.out.2.2⟩
end Go.Proofs.YtpdbdobckjolkaaDoor
