/- Lists of texts in memory, and the reference's put: a text goes into a rising list once. -/
import Derived.Test.YtpdbdobckjolkaaDoorKit
import Derived.Test.YtpdbdobckjolkaaDoorProg
set_option linter.unusedVariables false
set_option linter.unusedSimpArgs false
namespace Go.Proofs.YtpdbdobckjolkaaDoor
open Go.RowKit

def textsV (ss : List ByteArray) : List Value := ss.map Value.string
theorem textsV_one (ss : List ByteArray) : ∀ u ∈ textsV ss, u.oneCell' = true := by
  intro u hu; obtain ⟨b, _, rfl⟩ := List.mem_map.1 hu; rfl
theorem textsV_len (ss : List ByteArray) : (textsV ss).length = ss.length := by simp [textsV]
theorem textsV_get (ss : List ByteArray) (k : Nat) (h : k < ss.length) : (textsV ss)[k]? = some (.string ss[k]) := by simp [textsV, List.getElem?_eq_getElem h]
def OwnS (w : World) (base : Nat) (v : Value) (ss : List ByteArray) : Prop := w.ownsRow base 9 1 v ss.length (textsV ss)
theorem infoS : (Tryd.prog.info? 9).map (fun i => (i.zero, i.size, i.bytes)) = some (some (.string ⟨#[]⟩), 1, 16) := by kernel_rfl
theorem OwnS.reads {w : World} {base : Nat} {v : Value} {ss : List ByteArray} (h : OwnS w base v ss) : ∃ A c, v = .slice A ss.length c ∧ ss.length ≤ c ∧ Reads w w.heap.size 1 A ss.length (textsV ss) := by
  rcases h.2 with ⟨rfl, hn⟩ | ⟨g, cap, cur, rfl, _, _, hcap, _⟩
  · obtain rfl := List.eq_nil_of_length_eq_zero hn
    exact ⟨none, 0, rfl, Nat.le_refl _, Reads.none_⟩
  · exact ⟨_, cap, rfl, hcap, Reads.of_own h⟩
theorem OwnS.nil (w : World) (base : Nat) : OwnS w base (.slice none 0 0) [] := World.ownsRow_nil _ _ _ _
theorem OwnS.below {w w' : World} {base : Nat} {v : Value} {ss : List ByteArray} (h : OwnS w base v ss) (hb : Below w.heap.size w w') : OwnS w' base v ss :=
  World.ownsRow.kept h (only_of_below hb none) (by
    rcases h.2 with ⟨rfl, _⟩ | ⟨g, cap, cur, rfl, _⟩
    · exact .inl rfl
    · exact .inr (by simp [Value.ownBlock]))
theorem OwnS.alloc {w : World} {base : Nat} {v : Value} {ss : List ByteArray} (h : OwnS w base v ss) (o : Obj) : OwnS (w.alloc o) base v ss := World.ownsRow.alloc h o
theorem OwnS.block {w : World} {base : Nat} {v : Value} {ss : List ByteArray} (h : OwnS w base v ss) : ∀ k, v.ownBlock = some k → base ≤ k ∧ k < w.heap.size := World.ownsRow.lt h
theorem OwnS.le {w : World} {base base' : Nat} {v : Value} {ss : List ByteArray} (h : OwnS w base v ss) (hb : base' ≤ base) : OwnS w base' v ss := by
  rcases h.2 with ⟨rfl, hn⟩ | ⟨g, cap, cur, rfl, h1, h2⟩
  · exact ⟨h.1, .inl ⟨rfl, hn⟩⟩
  · exact ⟨h.1, .inr ⟨g, cap, cur, rfl, Nat.le_trans hb h1, h2⟩⟩
theorem OwnS.blank (w : World) : OwnS (w.alloc (.cells #[] 9)) w.heap.size (.slice (some ⟨w.heap.size, 0, none⟩) 0 0) [] :=
  ⟨by simp [textsV], .inr ⟨w.heap.size, 0, #[], rfl, Nat.le_refl _, Blk.new w 9 #[], Nat.le_refl _, Nat.zero_le _, rfl, rfl⟩⟩
theorem below_of_grown {w w' : World} {row : Option Nat} {B : Nat} (h : w.grownBy w' row) (hB : B ≤ w.heap.size) (hr : ∀ g, row = some g → B ≤ g) : Below B w w' :=
  ⟨h.os, h.tape, h.output, h.size, fun i hi => h.block i (by omega) (fun e => by have := hr _ e.symm; omega)⟩
theorem appSl {w : World} {base : Nat} {v : Value} {ss : List ByteArray} (ho : OwnS w base v ss) {B : Nat} {A : Option Addr} {news : List ByteArray} {m c : Nat} (hr : Reads w B 1 A m (textsV news)) (hm : m = news.length)
    (hlen : ss.length + news.length ≤ 1099511627776) (hbase : base ≤ w.heap.size) :
    ∃ v' w', (Builtin.append_ #[23, 23] 23 #[v, .slice A m c]).run Tryd.prog w = .ok v' w' ∧ OwnS w' base v' (ss ++ news) ∧ w.grownBy w' v.ownBlock ∧ Below base w w' ∧ (v'.ownBlock = v.ownBlock ∨ v'.ownBlock = some w.heap.size) := by
  subst hm
  obtain ⟨i, hi, hz0, hz1, hz2⟩ := info_parts infoS
  obtain ⟨v', w', h1, h2, h3, h4⟩ := run_append_any (P := Tryd.prog) w base 23 23 9 i (.string ⟨#[]⟩) 1 16 Tryd.underlying23 hi hz0 hz1 hz2 rfl (by decide) v ss.length (textsV ss) ho B A news.length c (textsV news) hr (textsV_one news) (by unfold maxLen; omega) (by omega) hbase
  refine ⟨v', w', h1, ?_, h3, below_of_grown h3 hbase (fun g hg => (ho.block g hg).1), h4⟩
  unfold OwnS
  rw [List.length_append, show textsV (ss ++ news) = textsV ss ++ textsV news from List.map_append]
  exact h2
theorem wpList_app {P : Program} {w w' : World} {ops : Array Oper} {rest : List Oper} {o : Oper} {a : Act} {Q : Exit → Act → World → Prop} {s x : Operand} {t u ty : TypeId} {v1 v2 v' : Value}
    (hrun : (Builtin.append_ #[t, u] ty #[v1, v2]).run P w = .ok v' w') (hty : o.type = ty) (hgd : o.guard = none)
    (ho : o.op = .call { callee := .builtin .append, args := #[s, x], argTypes := #[t, u] }) (hs : a.eval s = v1) (hx : a.eval x = v2)
    (h : wpList P ops Q rest (a.put o.dst v') w') : wpList P ops Q (o :: rest) a w := by
  refine wpList_plain hgd fun _ hK => ?_
  unfold Oper.wp execOp
  simp only [ho, hty, resolve, invoke, builtin, Sem.run_bind, Sem.run_pure, Result.andThen_ok, List.map_toArray, List.map_cons, List.map_nil, hs, hx, hrun]
  exact hK _ _ h
theorem readsOne (w : World) (s : ByteArray) : Reads (w.alloc (.cells #[.string s] 9)) (w.heap.size + 1) 1 (some ⟨w.heap.size, 0, none⟩) 1 (textsV [s]) := by
  refine ⟨rfl, fun _ => ⟨_, rfl, Nat.lt_succ_self _, ?_⟩⟩
  intro j u' hu
  exact cell_one_new w _ _ j u' hu
theorem Reads.front {w : World} {B n : Nat} {A : Option Addr} {ss : List ByteArray} (h : Reads w B 1 A n (textsV ss)) {k : Nat} (hk : k ≤ ss.length) : Reads w B 1 A k (textsV (ss.take k)) := by
  have hl := h.1
  rw [textsV_len] at hl
  refine ⟨by rw [textsV_len, List.length_take]; omega, fun hk0 => ?_⟩
  obtain ⟨ad, e, hb, hc⟩ := h.2 (by omega)
  refine ⟨ad, e, hb, fun j u hu => hc j u ?_⟩
  unfold textsV at hu ⊢
  rw [List.map_take, List.getElem?_take] at hu
  split at hu
  · exact hu
  · cases hu
theorem Reads.back {w : World} {B n : Nat} {A : Option Addr} {ss : List ByteArray} (h : Reads w B 1 A n (textsV ss)) {k c : Nat} (hk : k ≤ n) (hc : n ≤ c) : Reads w B 1 (if c = k then A else A.map (·.add k)) (n - k) (textsV (ss.drop k)) := by
  have := h.cut hk hc
  rw [Nat.mul_one] at this
  rw [show textsV (ss.drop k) = (textsV ss).drop k by simp [textsV]]
  exact this

def putB : List ByteArray → ByteArray → List ByteArray
  | [], s => [s]
  | x :: xs, s => if Op.bytesLess x.toList s.toList = true then x :: putB xs s else if x.toList = s.toList then x :: xs else s :: x :: xs
theorem putB_len (s : ByteArray) : ∀ ss, (putB ss s).length ≤ ss.length + 1
  | [] => by simp [putB]
  | x :: xs => by
    unfold putB
    have := putB_len s xs
    split
    · simp; exact this
    · split <;> simp
theorem putB_end (s : ByteArray) : ∀ ss : List ByteArray, (∀ j (h : j < ss.length), Op.bytesLess ss[j].toList s.toList = true) → putB ss s = ss ++ [s]
  | [], _ => rfl
  | x :: xs, h => by
    have h0 : Op.bytesLess x.toList s.toList = true := h 0 (by simp)
    unfold putB
    rw [if_pos h0, putB_end s xs (fun j hj => h (j + 1) (by simpa using hj))]
    rfl
theorem putB_stop (s : ByteArray) : ∀ (k : Nat) (ss : List ByteArray), (∀ j (h : j < ss.length), j < k → Op.bytesLess ss[j].toList s.toList = true) → (hk : k < ss.length) → Op.bytesLess ss[k].toList s.toList = false →
    putB ss s = if ss[k].toList = s.toList then ss else ss.take k ++ s :: ss.drop k
  | 0, x :: xs, _, _, h2 => by
    unfold putB
    rw [if_neg (by simpa using h2)]
    rfl
  | k + 1, x :: xs, h, hk, h2 => by
    have h0 : Op.bytesLess x.toList s.toList = true := h 0 (by simp) (by omega)
    unfold putB
    rw [if_pos h0, putB_stop s k xs (fun j hj hjk => h (j + 1) (by simpa using hj) (by omega)) (by simpa using hk) (by simpa using h2)]
    simp only [List.getElem_cons_succ, List.take_succ_cons, List.drop_succ_cons]
    split <;> rfl
  | k, [], _, hk, _ => by simp at hk

theorem put_runs {w : World} {A : Option Addr} {c : Nat} {ss : List ByteArray} (s : ByteArray) {k : Nat} (hr : Reads w w.heap.size 1 A ss.length (textsV ss)) (hc : ss.length ≤ c) (hk : k ≤ ss.length) (hn : ss.length ≤ 1000000) :
    ∃ v1 w1 v2 w2 v3 w3, (Builtin.append_ #[23, 23] 23 #[.slice (some ⟨w.heap.size, 0, none⟩) 0 0, .slice A k c]).run Tryd.prog (w.alloc (.cells #[] 9)) = .ok v1 w1 ∧
      (Builtin.append_ #[23, 23] 23 #[v1, .slice (some ⟨w1.heap.size, 0, none⟩) 1 1]).run Tryd.prog (w1.alloc (.cells #[.string s] 9)) = .ok v2 w2 ∧
      (Builtin.append_ #[23, 23] 23 #[v2, .slice (if c = k then A else A.map (·.add k)) (ss.length - k) (c - k)]).run Tryd.prog w2 = .ok v3 w3 ∧
      OwnS w3 w.heap.size v3 (ss.take k ++ s :: ss.drop k) ∧ Below w.heap.size w w3 := by
  have b0 : Below w.heap.size w (w.alloc (.cells #[] 9)) := (Below.refl _ _).alloc (Nat.le_refl _) _
  obtain ⟨v1, w1, r1, o1, _, b1, _⟩ := appSl (OwnS.blank w) (c := c) ((hr.front hk).alloc (Nat.le_refl _) _) (by rw [List.length_take]; omega) (by simp; omega) (by rw [World.size_alloc]; omega)
  have b01 := b0.trans b1
  obtain ⟨v2, w2, r2, o2, _, b2, _⟩ := appSl (o1.alloc (.cells #[.string s] 9)) (c := 1) (readsOne w1 s) rfl (by simp; omega) (by rw [World.size_alloc]; have := b01.size; omega)
  have b02 := (b01.alloc b01.size (.cells #[.string s] 9)).trans b2
  obtain ⟨v3, w3, r3, o3, _, b3, _⟩ := appSl o2 (c := c - k) ((hr.below b02).back hk hc) (by rw [List.length_drop]) (by simp; omega) b02.size
  refine ⟨v1, w1, v2, w2, v3, w3, r1, r2, r3, ?_, b02.trans b3⟩
  simpa using o3

def PostS (base : Nat) (w : World) (ss : List ByteArray) (e : Ending) (w' : World) : Prop := ∃ v, e = .returned v ∧ OwnS w' base v ss ∧ Below w.heap.size w w'
set_option maxRecDepth 100000 in
set_option maxHeartbeats 1000000 in
theorem put_calls (v : Value) (ss : List ByteArray) (s : ByteArray) (base : Nat) (w : World) (ho : OwnS w base v ss) (hb : base ≤ w.heap.size) (hn : ss.length ≤ 1000000) :
    Calls Tryd.prog 19 #[v, .string s] w (PostS base w (putB ss s)) := by
  obtain ⟨A, c, rfl, hc, hr⟩ := ho.reads
  obtain ⟨n, hnl⟩ : ∃ n, ss.length = n := ⟨_, rfl⟩
  have HN := Lib.hid hnl
  have HO := Lib.hid ho
  have HR := Lib.hid hr
  rw [hnl] at hn hc ⊢
  clear ho hr hnl
  go_enter Tryd.func19, Tryd.ntmps19
  go_wp2_with fail
  go_loop [5] (fun i => ∃ k : Nat, k ≤ n ∧ i = .int .i64 k ∧ Hid (∀ j (h : j < ss.length), j < k → Op.bytesLess ss[j].toList s.toList = true)) (fun i => n - (intOf i).toNat)
  case atStart => exact ⟨0, Nat.zero_le _, rfl, fun j _ h => absurd h (by omega)⟩
  case round =>
    obtain ⟨k, hk, rfl, HL⟩ := hrel
    obtain ⟨v1, w1, v2, w2, v3, w3, r1, r2, r3, o3, b3⟩ := put_runs s (k := k) HR.out (by rw [HN.out]; exact hc) (by rw [HN.out]; exact hk) (by rw [HN.out]; exact hn)
    rw [HN.out] at r3
    have HO3 := Lib.hid (o3.le hb)
    have HB3 := Lib.hid b3
    clear o3 b3
    by_cases hlt : k < n
    · have hkl : k < ss.length := by rw [HN.out]; exact hlt
      obtain ⟨ad, u, rfl, hab, hx, hcell⟩ := HR.out.at_ hkl
      rw [textsV_get ss k hkl] at hx
      obtain rfl : Value.string ss[k] = u := Option.some.inj hx
      clear hx
      rcases hless : Op.bytesLess ss[k].toList s.toList with _ | _
      · have hstop := putB_stop s k ss HL.out hkl hless
        by_cases he : ss[k].toList = s.toList
        · have he1 : (ss[k].toList == s.toList) = true := by simpa using he
          rw [if_pos he] at hstop
          have HS := Lib.hid hstop
          clear hstop he r1 r2 r3
          go_wp2_with fail
          go_ret
          refine ⟨_, rfl, ?_, Below.refl _ _⟩
          rw [HS.out]
          have := HO.out
          rw [HN.out] at this
          exact this
        · have he1 : (ss[k].toList == s.toList) = false := by simpa using he
          rw [if_neg he] at hstop
          have HS := Lib.hid hstop
          clear hstop he
          by_cases hck : c = k
          · exfalso; omega
          · rw [if_neg hck] at r3
            go_wp2_with (at_builtin; first | refine wpList_app r1 rfl rfl rfl rfl rfl ?_ | refine wpList_app r2 rfl rfl rfl rfl rfl ?_ | refine wpList_app r3 rfl rfl rfl rfl rfl ?_)
            go_ret
            exact ⟨_, rfl, by rw [HS.out]; exact HO3.out, HB3.out⟩
      · clear r1 r2 r3
        go_wp2_with fail
        go_round
        case rel => exact ⟨k + 1, by omega, by go_num, fun j h hj => by
          rcases Nat.lt_or_ge j k with h1 | h1
          · exact HL.out j h h1
          · obtain rfl : j = k := by omega
            exact hless⟩
        case measure => simp [intOf]; omega
    · obtain rfl : k = n := by omega
      have hend := putB_end s ss (fun j h => HL.out j h (by rw [← HN.out]; exact h))
      have HS := Lib.hid (show ss.take k ++ s :: ss.drop k = putB ss s by rw [hend, List.take_of_length_le (by rw [HN.out]; exact Nat.le_refl _), List.drop_eq_nil_of_le (by rw [HN.out]; exact Nat.le_refl _)])
      rw [Nat.sub_self] at r3
      clear hend
      by_cases hck : c = k
      · rw [if_pos hck] at r3
        subst hck
        rw [Nat.sub_self] at r3
        go_wp2_with (at_builtin; first | refine wpList_app r1 rfl rfl rfl rfl rfl ?_ | refine wpList_app r2 rfl rfl rfl rfl rfl ?_ | refine wpList_app r3 rfl rfl rfl rfl rfl ?_)
        go_ret
        exact ⟨_, rfl, by rw [← HS.out]; exact HO3.out, HB3.out⟩
      · rw [if_neg hck] at r3
        go_wp2_with (at_builtin; first | refine wpList_app r1 rfl rfl rfl rfl rfl ?_ | refine wpList_app r2 rfl rfl rfl rfl rfl ?_ | refine wpList_app r3 rfl rfl rfl rfl rfl ?_)
        go_ret
        exact ⟨_, rfl, by rw [← HS.out]; exact HO3.out, HB3.out⟩
end Go.Proofs.YtpdbdobckjolkaaDoor
