/- Whether a name is needed: the walks of the program's and the reference's Needed. -/
import Derived.Test.YtpdbdobckjolkaaDoorRefProg
import Derived.Lib.SlicesS
set_option linter.unusedVariables false
set_option linter.unusedSimpArgs false
namespace Go.Proofs.YtpdbdobckjolkaaDoor
open Go.RowKit Go.Sort

theorem spot_none {w : World} {a : Addr} {u : Value} (h : w.cell? a = some u) : a.spot = none := by
  unfold World.cell? at h
  split at h
  · split at h
    · cases h
    · rename_i h2; simpa using h2
  · cases h
theorem toList_toL (b : ByteArray) : b.toList = toL b := by rw [ByteArray.toList_eq]; rfl
theorem eq_of_toL {a b : ByteArray} (h : toL a = toL b) : a = b := by rw [← ofL_toL a, ← ofL_toL b, h]
theorem contains_snoc (ss : List ByteArray) (s : ByteArray) (k : Nat) (hk : k < ss.length) : Lib.containsS (ss.take (k + 1)) s = (Lib.containsS (ss.take k) s || (ss[k].toList == s.toList)) := by
  rw [Bool.eq_iff_iff, Bool.or_eq_true, Lib.containsS_iff, Lib.containsS_iff, List.take_succ_eq_append_getElem hk, List.mem_append, List.mem_singleton, beq_iff_eq, toList_toL, toList_toL]
  constructor
  · rintro (h | h)
    · exact .inl h
    · exact .inr (by rw [h])
  · rintro (h | h)
    · exact .inl h
    · exact .inr (eq_of_toL h).symm
theorem ret_bool {a b : Bool} (h : a = b) : Ending.returned (.bool a) = .returned (.bool b) := by rw [h]
theorem val_bool {a b : Bool} (h : a = b) : Value.bool a = .bool b := by rw [h]
def neededB (s : ByteArray) (ss : List ByteArray) (log : Int) : Bool := Lib.containsS ss s || ((readL (toL s)).1 == 1 && decide (log ≤ (readL (toL s)).2.2))

set_option maxRecDepth 100000 in
set_option maxHeartbeats 1000000 in
theorem needed_calls (s : ByteArray) (ss : List ByteArray) (A : Option Addr) (c : Nat) (log : Int) (w : World) (hs : s.size < 4294967281) (hr : Reads w w.heap.size 1 A ss.length (textsV ss)) (hn : ss.length ≤ 9223372036854775807) (hL : Laid w) :
    Calls Tryd.prog 12 #[.string s, .slice A ss.length c, .int .i64 log] w fun e w' => e = .returned (.bool (neededB s ss log)) ∧ Below w.heap.size w w' := by
  have hc : ∀ w', Below w.heap.size w w' → Calls Tryd.prog 21 #[.slice A ss.length c, .string s] w' fun e w'' => e = .returned (.bool (Lib.containsS ss s)) ∧ w'' = w' := by
    intro w' hw'
    rcases Nat.eq_zero_or_pos ss.length with h0 | hpos
    · obtain rfl := List.eq_nil_of_length_eq_zero h0
      exact Tryd.slices_Contains_string_empty A c s w'
    · obtain ⟨ad, rfl, hb, hcell⟩ := hr.2 hpos
      obtain ⟨b, o, rfl⟩ : ∃ b o, ad = ⟨b, o, none⟩ := by
        have h0 := spot_none (hcell 0 _ (textsV_get ss 0 hpos))
        obtain ⟨b, o, sp⟩ := ad
        exact ⟨b, o, by simp [Addr.add] at h0; rw [h0]⟩
      have := Tryd.slices_Contains_string b o ss.length c ss s w' (Nat.le_refl _) hn (fun j hj => by
        have ha : (⟨b, o, none⟩ : Addr).add j = ⟨b, o + j, none⟩ := by unfold Addr.add; split <;> simp_all
        rw [← ha, hw'.cell (by rw [block_of_add]; exact hb), hcell j _ (textsV_get ss j hj)]
        simp [hj])
      rw [List.take_length] at this
      exact this
  have HC := Lib.hid hc
  obtain ⟨n, hnl⟩ : ∃ n, ss.length = n := ⟨_, rfl⟩
  rw [hnl] at HC ⊢
  have HR := Lib.hid (read_calls s w hs hL)
  rw [show s.data.toList = toL s from rfl] at HR
  unfold neededB
  obtain ⟨⟨a, b, d⟩, hx⟩ : ∃ x, readL (toL s) = x := ⟨_, rfl⟩
  rw [hx] at HR ⊢
  unfold tup3 at HR
  simp only at HR ⊢
  clear hc hr hn hL hnl hx
  go_enter Tryd.func12, Tryd.ntmps12
  go_wp2_with fail
  refine HR.out.mono ?_
  rintro e w1 ⟨rfl, hb1⟩
  have HB1 := Lib.hid hb1
  have HC1 := Lib.hid (HC.out w1 hb1)
  clear hb1
  go_wp2_with fail
  refine HC1.out.mono ?_
  rintro e w2 ⟨rfl, rfl⟩
  cases hcon : Lib.containsS ss s with
  | true =>
    go_wp2_with fail
    all_goals (
      go_ret
      exact ⟨ret_bool (by rw [hcon]; rfl), HB1.out⟩)
  | false =>
    rcases ha : (a == 1) with _ | _
    · go_wp2_with fail
      all_goals (
        go_ret
        exact ⟨ret_bool (by rw [hcon, ha]; rfl), HB1.out⟩)
    · go_wp2_with fail
      all_goals (
        go_ret
        exact ⟨ret_bool (by rw [hcon, ha]; first | rfl | (simp; done) | (simp at *; omega)), HB1.out⟩)

set_option maxRecDepth 100000 in
set_option maxHeartbeats 1000000 in
theorem rneeded_calls (s : ByteArray) (ss : List ByteArray) (A : Option Addr) (c : Nat) (log : Int) (w : World) (hs : s.size < 4294967281) (hr : Reads w w.heap.size 1 A ss.length (textsV ss)) (hn : ss.length ≤ 9223372036854775807) :
    Calls Tryd.prog 13 #[.string s, .slice A ss.length c, .int .i64 log] w fun e w' => e = .returned (.bool (neededB s ss log)) ∧ Below w.heap.size w w' := by
  have HR := Lib.hid (refread_calls s w (by omega))
  rw [show s.data.toList = toL s from rfl, ← read_ref] at HR
  have HRR := Lib.hid hr
  obtain ⟨n, hnl⟩ : ∃ n, ss.length = n := ⟨_, rfl⟩
  have HN := Lib.hid hnl
  rw [hnl] at hn ⊢
  unfold neededB
  obtain ⟨⟨a, b, d⟩, hx⟩ : ∃ x, readL (toL s) = x := ⟨_, rfl⟩
  rw [hx] at HR ⊢
  unfold tup3 at HR
  simp only at HR ⊢
  obtain ⟨q, hq⟩ : ∃ q, (a == 1 && decide (log ≤ d)) = q := ⟨_, rfl⟩
  rw [hq]
  clear hr hnl hx
  go_enter Tryd.func13, Tryd.ntmps13
  go_wp2_with fail
  refine HR.out.mono ?_
  rintro e w1 ⟨rfl, hb1⟩
  have HB1 := Lib.hid hb1
  clear hb1
  have h3 : (Hid (q = true) ∧ (a == 1) = true ∧ decide (log ≤ d) = true) ∨ (Hid (q = false) ∧ (a == 1) = true ∧ decide (log ≤ d) = false) ∨ (Hid (q = false) ∧ (a == 1) = false) := by
    rcases ha : (a == 1) with _ | _
    · exact .inr (.inr ⟨Lib.hid (by rw [← hq, ha]; rfl), rfl⟩)
    · rcases hd : decide (log ≤ d) with _ | _
      · exact .inr (.inl ⟨Lib.hid (by rw [← hq, ha, hd]; rfl), rfl, rfl⟩)
      · exact .inl ⟨Lib.hid (by rw [← hq, ha, hd]; rfl), rfl, rfl⟩
  clear hq
  rcases h3 with ⟨HQ, ha, hd⟩ | ⟨HQ, ha, hd⟩ | ⟨HQ, ha⟩
  all_goals (
    go_wp2_with fail
    go_loop [10, 11] (fun x i => ∃ k : Nat, k ≤ n ∧ i = .int .i64 k ∧ x = .bool (Lib.containsS (ss.take k) s || q)) (fun _ i => n - (intOf i).toNat)
    case atStart => exact ⟨0, Nat.zero_le _, rfl, by rw [HQ.out]; rfl⟩
    case round =>
      clear HQ
      obtain ⟨k, hk, rfl, rfl⟩ := hrel
      by_cases hlt : k < n
      · have hkl : k < ss.length := by rw [HN.out]; exact hlt
        obtain ⟨ad, u, rfl, hab, hx, hcell⟩ := (HRR.out.below HB1.out).at_ hkl
        rw [textsV_get ss k hkl] at hx
        obtain rfl : Value.string ss[k] = u := Option.some.inj hx
        have HS := Lib.hid (contains_snoc ss s k hkl)
        clear hx
        generalize ss[k] = t at hcell HS
        rcases hv : (Lib.containsS (ss.take k) s || q) with _ | _
        · have HV := Lib.hid hv
          clear hv
          go_wp2_with fail
          go_round
          case rel => exact ⟨k + 1, by omega, by go_num, val_bool (by
            rw [HS.out]
            have h := HV.out
            rw [Bool.or_eq_false_iff] at h
            rw [h.1, h.2]; simp)⟩
          case measure => simp [intOf]; omega
        · have HV := Lib.hid hv
          clear hv
          go_wp2_with fail
          go_round
          case rel => exact ⟨k + 1, by omega, by go_num, val_bool (by
            rw [HS.out, Bool.or_right_comm, HV.out]; rfl)⟩
          case measure => simp [intOf]; omega
      · obtain rfl : k = n := by omega
        have htk : ss.take k = ss := List.take_of_length_le (by rw [HN.out]; exact Nat.le_refl _)
        rw [htk]
        go_wp2_with fail
        go_ret
        exact ⟨rfl, HB1.out⟩)
end Go.Proofs.YtpdbdobckjolkaaDoor
