/- A table more among tables: the walk of the reference's with. -/
import Derived.Test.YtpdbdobckjolkaaDoorRefMay2
set_option linter.unusedVariables false
set_option linter.unusedSimpArgs false
namespace Go.Proofs.YtpdbdobckjolkaaDoor
open Go.RowKit

def OwnT (w : World) (base : Nat) (v : Value) (ts : List Tab) : Prop := w.ownsRow base 36 9 v ts.length (tabs ts)
theorem infoT : (Tryd.prog.info? 36).map (fun i => (i.zero, i.size, i.bytes)) = some (some (.agg #[.int .i64 0, .int .i64 0, .int .i64 0, .string ⟨#[]⟩, .string ⟨#[]⟩, .int .i64 0, .int .i64 0, .bool false, .bool false]), 9, 80) := by kernel_rfl
theorem OwnT.reads {w : World} {base : Nat} {v : Value} {ts : List Tab} (h : OwnT w base v ts) : ∃ A c, v = .slice A ts.length c ∧ ts.length ≤ c ∧ Reads w w.heap.size 9 A ts.length (tabs ts) := by
  rcases h.2 with ⟨rfl, hn⟩ | ⟨g, cap, cur, rfl, _, _, hcap, _⟩
  · obtain rfl := List.eq_nil_of_length_eq_zero hn
    exact ⟨none, 0, rfl, Nat.le_refl _, Reads.none_⟩
  · exact ⟨_, cap, rfl, hcap, Reads.of_own h⟩
theorem OwnT.nil (w : World) (base : Nat) : OwnT w base (.slice none 0 0) [] := World.ownsRow_nil _ _ _ _
theorem OwnT.below {w w' : World} {base : Nat} {v : Value} {ts : List Tab} (h : OwnT w base v ts) (hb : Below w.heap.size w w') : OwnT w' base v ts :=
  World.ownsRow.kept h (only_of_below hb none) (by
    rcases h.2 with ⟨rfl, _⟩ | ⟨g, cap, cur, rfl, _⟩
    · exact .inl rfl
    · exact .inr (by simp [Value.ownBlock]))
theorem OwnT.alloc {w : World} {base : Nat} {v : Value} {ts : List Tab} (h : OwnT w base v ts) (o : Obj) : OwnT (w.alloc o) base v ts := World.ownsRow.alloc h o
theorem OwnT.block {w : World} {base : Nat} {v : Value} {ts : List Tab} (h : OwnT w base v ts) : ∀ k, v.ownBlock = some k → base ≤ k ∧ k < w.heap.size := World.ownsRow.lt h
theorem OwnT.le {w : World} {base base' : Nat} {v : Value} {ts : List Tab} (h : OwnT w base v ts) (hb : base' ≤ base) : OwnT w base' v ts := by
  rcases h.2 with ⟨rfl, hn⟩ | ⟨g, cap, cur, rfl, h1, h2⟩
  · exact ⟨h.1, .inl ⟨rfl, hn⟩⟩
  · exact ⟨h.1, .inr ⟨g, cap, cur, rfl, Nat.le_trans hb h1, h2⟩⟩
theorem OwnT.blank (w : World) : OwnT (w.alloc (.cells #[] 36)) w.heap.size (.slice (some ⟨w.heap.size, 0, none⟩) 0 0) [] :=
  ⟨by simp [tabs], .inr ⟨w.heap.size, 0, #[], rfl, Nat.le_refl _, Blk.new w 36 #[], Nat.le_refl _, Nat.zero_le _, rfl, rfl⟩⟩
theorem tabs_append (a b : List Tab) : tabs (a ++ b) = tabs a ++ tabs b := by unfold tabs; rw [List.flatMap_append]
theorem appTl {w : World} {base : Nat} {v : Value} {ts : List Tab} (ho : OwnT w base v ts) {B : Nat} {A : Option Addr} {news : List Tab} {m c : Nat} (hr : Reads w B 9 A m (tabs news)) (hm : m = news.length)
    (hlen : ts.length + news.length ≤ 1099511627776) (hbase : base ≤ w.heap.size) :
    ∃ v' w', (Builtin.append_ #[25, 25] 25 #[v, .slice A m c]).run Tryd.prog w = .ok v' w' ∧ OwnT w' base v' (ts ++ news) ∧ w.grownBy w' v.ownBlock ∧ Below base w w' ∧ (v'.ownBlock = v.ownBlock ∨ v'.ownBlock = some w.heap.size) := by
  subst hm
  obtain ⟨i, hi, hz0, hz1, hz2⟩ := info_parts infoT
  obtain ⟨v', w', h1, h2, h3, h4⟩ := run_append_any (P := Tryd.prog) w base 25 25 36 i _ 9 80 Tryd.underlying25 hi hz0 hz1 hz2 rfl (by decide) v ts.length (tabs ts) ho B A news.length c (tabs news) hr (tabs_one news) (by unfold maxLen; omega) (by omega) hbase
  refine ⟨v', w', h1, ?_, h3, below_of_grown h3 hbase (fun g hg => (ho.block g hg).1), h4⟩
  unfold OwnT
  rw [List.length_append, tabs_append]
  exact h2
theorem readsTab (w : World) (t : Tab) : Reads (w.alloc t.box) (w.heap.size + 1) 9 (some ⟨w.heap.size, 0, none⟩) 1 (tabs [t]) := by
  refine ⟨rfl, fun _ => ⟨_, rfl, Nat.lt_succ_self _, ?_⟩⟩
  intro j u' hu
  have ha : (⟨w.heap.size, 0, none⟩ : Addr).add j = ⟨w.heap.size, j, none⟩ := by unfold Addr.add; split <;> simp_all
  rw [ha, show w.alloc t.box = w.alloc (.cells t.cells.toArray 36) from rfl, (Blk.new w _ _).cell]
  simpa [tabs] using hu
theorem Reads.frontT {w : World} {B n : Nat} {A : Option Addr} {ts : List Tab} (h : Reads w B 9 A n (tabs ts)) {k : Nat} (hn : n = ts.length) (hk : k ≤ ts.length) : Reads w B 9 A k (tabs (ts.take k)) := by
  refine ⟨by rw [tabs_len, List.length_take]; congr 1; omega, fun hk0 => ?_⟩
  obtain ⟨ad, e, hb, hc⟩ := h.2 (by omega)
  refine ⟨ad, e, hb, fun j u hu => hc j u ?_⟩
  have hs : tabs ts = tabs (ts.take k) ++ tabs (ts.drop k) := by rw [← tabs_append, List.take_append_drop]
  have hj : j < (tabs (ts.take k)).length := (List.getElem?_eq_some_iff.1 hu).1
  rw [hs, List.getElem?_append_left hj]; exact hu
theorem tabs_drop (ts : List Tab) (k : Nat) : tabs (ts.drop k) = (tabs ts).drop (k * 9) := by
  rcases Nat.lt_or_ge ts.length k with h | h
  · rw [List.drop_eq_nil_of_le (by omega), List.drop_eq_nil_of_le (by rw [tabs_len]; omega)]; rfl
  · have hs : tabs ts = tabs (ts.take k) ++ tabs (ts.drop k) := by rw [← tabs_append, List.take_append_drop]
    have hl : (tabs (ts.take k)).length = k * 9 := by rw [tabs_len, List.length_take]; congr 1; omega
    generalize tabs (ts.take k) = a at hs hl
    generalize tabs (ts.drop k) = b at hs ⊢
    rw [hs, ← hl, List.drop_left]
theorem Reads.backT {w : World} {B n : Nat} {A : Option Addr} {ts : List Tab} (h : Reads w B 9 A n (tabs ts)) {k c : Nat} (hk : k ≤ n) (hc : n ≤ c) : Reads w B 9 (if c = k then A else A.map (·.add (k * 9))) (n - k) (tabs (ts.drop k)) := by
  rw [tabs_drop]; exact h.cut hk hc
theorem with_runs {w : World} {A : Option Addr} {c : Nat} {ts : List Tab} (t : Tab) {k : Nat} (hr : Reads w w.heap.size 9 A ts.length (tabs ts)) (hc : ts.length ≤ c) (hk : k ≤ ts.length) (hn : ts.length ≤ 1000000) :
    ∃ v1 w1 v2 w2 v3 w3, (Builtin.append_ #[25, 25] 25 #[.slice (some ⟨w.heap.size, 0, none⟩) 0 0, .slice A k c]).run Tryd.prog (w.alloc (.cells #[] 36)) = .ok v1 w1 ∧
      (Builtin.append_ #[25, 25] 25 #[v1, .slice (some ⟨w1.heap.size, 0, none⟩) 1 1]).run Tryd.prog (w1.alloc t.box) = .ok v2 w2 ∧
      (Builtin.append_ #[25, 25] 25 #[v2, .slice (if c = k then A else A.map (·.add (k * 9))) (ts.length - k) (c - k)]).run Tryd.prog w2 = .ok v3 w3 ∧
      OwnT w3 w.heap.size v3 (ts.take k ++ t :: ts.drop k) ∧ Below w.heap.size w w3 ∧ Below w.heap.size w w1 := by
  have b0 : Below w.heap.size w (w.alloc (.cells #[] 36)) := (Below.refl _ _).alloc (Nat.le_refl _) _
  obtain ⟨v1, w1, r1, o1, _, b1, _⟩ := appTl (OwnT.blank w) (c := c) ((hr.frontT rfl hk).alloc (Nat.le_refl _) _) (by rw [List.length_take]; omega) (by simp; omega) (by rw [World.size_alloc]; omega)
  have b01 := b0.trans b1
  obtain ⟨v2, w2, r2, o2, _, b2, _⟩ := appTl (o1.alloc t.box) (c := 1) (readsTab w1 t) rfl (by simp; omega) (by rw [World.size_alloc]; have := b01.size; omega)
  have b02 := (b01.alloc b01.size t.box).trans b2
  obtain ⟨v3, w3, r3, o3, _, b3, _⟩ := appTl o2 (c := c - k) ((hr.below b02).backT hk hc) (by rw [List.length_drop]) (by simp; omega) b02.size
  refine ⟨v1, w1, v2, w2, v3, w3, r1, r2, r3, ?_, b02.trans b3, b01⟩
  simpa using o3
def PostT (w : World) (P : List Tab → Prop) (e : Ending) (w' : World) : Prop := ∃ v ts, e = .returned v ∧ P ts ∧ OwnT w' w.heap.size v ts ∧ Below w.heap.size w w'
def Inserted (ts : List Tab) (t : Tab) (r : List Tab) : Prop := ∃ k, k ≤ ts.length ∧ r = ts.take k ++ t :: ts.drop k

set_option maxRecDepth 100000 in
set_option maxHeartbeats 8000000 in
theorem with_calls (ts : List Tab) (t : Tab) (A : Option Addr) (c : Nat) (w : World) (hr : Reads w w.heap.size 9 A ts.length (tabs ts)) (hc : ts.length ≤ c) (hn : ts.length ≤ 1000000) :
    Calls Tryd.prog 30 #[.slice A ts.length c, t.arg] w (PostT w (Inserted ts t)) := by
  obtain ⟨n, hnl⟩ : ∃ n, ts.length = n := ⟨_, rfl⟩
  have HN := Lib.hid hnl
  have HR := Lib.hid hr
  rw [hnl] at hn hc ⊢
  clear hr hnl
  have hTB := boxed (w := w) (t := t) (Below.refl _ _)
  have HB1 := Lib.hid ((Below.refl w.heap.size w).alloc (Nat.le_refl _) t.box)
  have hlt1 : w.heap.size < (w.alloc t.box).heap.size := by rw [World.size_alloc]; omega
  obtain ⟨w1, hw1⟩ : ∃ w1, w.alloc t.box = w1 := ⟨_, rfl⟩
  rw [hw1] at hTB HB1 hlt1
  unfold Tab.box at hw1
  have HW1 := Lib.hid hw1
  have HTB := Lib.hid hTB
  have HLT := Lib.hid hlt1
  have hs0 : w.heap.size ≤ w1.heap.size := Nat.le_of_lt hlt1
  obtain ⟨g, hg⟩ : ∃ g, w.heap.size = g := ⟨_, rfl⟩
  have HG := Lib.hid hg
  clear hw1 hTB hlt1 hg
  unfold Tab.arg
  go_enter Tryd.func30, Tryd.ntmps30
  go_wp2_with fail
  rw [HW1.out, HG.out]
  rw [HG.out] at HTB
  go_loopw [5] (fun i wr => ∃ k : Nat, k ≤ n ∧ i = .int .i64 k ∧ ∃ m, wr = w1.drewN m) (fun i _ => n - (intOf i).toNat)
  case atStart => exact ⟨0, Nat.zero_le _, rfl, 0, rfl⟩
  case round =>
    obtain ⟨k, hk, rfl, m, rfl⟩ := hrel
    have b0 : w1.cell? ⟨g, 0, none⟩ = some (.int .i64 t.num) := HTB.out.h0
    have b2 : w1.cell? ⟨g, 2, none⟩ = some (.int .i64 t.lev) := HTB.out.h2
    by_cases hlt : k < n
    · have hkl : k < ts.length := by rw [HN.out]; exact hlt
      obtain ⟨ad, rfl, hab, hT⟩ := tab_at (HR.out.below HB1.out) hkl
      have t0 := hT.h0
      have t2 := hT.h2
      clear hT
      generalize ts[k] = x at t0 t2
      rcases q1 : decide (x.lev < t.lev) with _ | _ <;> rcases q2 : (x.lev == t.lev) with _ | _ <;> rcases q3 : decide (x.num < t.num) with _ | _
      all_goals (
        go_wp2_with fail
        go_quiet ((fail))
        obtain ⟨v1, w1', v2, w2', v3, w3', r1, r2, r3, o3, b3, b31⟩ := with_runs (w := w1.drewN (m + nq)) t (k := k) (by rw [HN.out]; have := ((HR.out.below HB1.out).more hs0).drewN (m + nq); rw [HN.out] at this; exact this) (by rw [HN.out]; exact hc) (by rw [HN.out]; exact hk) (by rw [HN.out]; exact hn)
        have hTB := HTB.out
        have hTB' : TabAt (w1.drewN (m + nq)) ⟨g, 0, none⟩ t := ⟨hTB.h0, hTB.h1, hTB.h2, hTB.h3, hTB.h4, hTB.h5, hTB.h6, hTB.h7, hTB.h8⟩
        have hT2 := hTB'.keep b31 (by show g < w1.heap.size; rw [← HG.out]; exact HLT.out)
        have s0 := hT2.h0
        have s1 := hT2.h1
        have s2 := hT2.h2
        have s3 := hT2.h3
        have s4 := hT2.h4
        have s5 := hT2.h5
        have s6 := hT2.h6
        have s7 := hT2.h7
        have s8 := hT2.h8
        have HO3 := Lib.hid (o3.le (base' := w.heap.size) hs0)
        have HB3 := Lib.hid (HB1.out.trans ((show Below w1.heap.size w1 w3' from (below_drewN (Below.refl _ _) (m + nq)).trans b3).mono hs0))
        rw [HN.out] at r3
        unfold Tab.box at r2
        have hck : ¬ c = k := by omega
        rw [if_neg hck] at r3
        clear hTB hTB' hT2 b31 o3 b3 t0 t2 q1 q2 q3 b0 b2
        go_wp2_with (at_builtin; first | refine wpList_app r1 rfl rfl rfl rfl rfl ?_ | refine wpList_app r2 rfl rfl rfl rfl rfl ?_ | refine wpList_app r3 rfl rfl rfl rfl rfl ?_))
      all_goals first
        | (go_roundw
           case rel => exact ⟨k + 1, by omega, by go_num, m + nq, rfl⟩
           case measure => simp [intOf]; omega)
        | (go_ret
           exact ⟨_, _, rfl, ⟨k, by rw [HN.out]; exact hk, rfl⟩, HO3.out, HB3.out⟩)
    · obtain rfl : k = n := by omega
      go_wp2_with fail
      go_quiet ((fail))
      obtain ⟨v1, w1', v2, w2', v3, w3', r1, r2, r3, o3, b3, b31⟩ := with_runs (w := w1.drewN (m + nq)) t (k := k) (by rw [HN.out]; have := ((HR.out.below HB1.out).more hs0).drewN (m + nq); rw [HN.out] at this; exact this) (by rw [HN.out]; exact hc) (by rw [HN.out]; exact hk) (by rw [HN.out]; exact hn)
      have hTB := HTB.out
      have hTB' : TabAt (w1.drewN (m + nq)) ⟨g, 0, none⟩ t := ⟨hTB.h0, hTB.h1, hTB.h2, hTB.h3, hTB.h4, hTB.h5, hTB.h6, hTB.h7, hTB.h8⟩
      have hT2 := hTB'.keep b31 (by show g < w1.heap.size; rw [← HG.out]; exact HLT.out)
      have s0 := hT2.h0
      have s1 := hT2.h1
      have s2 := hT2.h2
      have s3 := hT2.h3
      have s4 := hT2.h4
      have s5 := hT2.h5
      have s6 := hT2.h6
      have s7 := hT2.h7
      have s8 := hT2.h8
      have HO3 := Lib.hid (o3.le (base' := w.heap.size) hs0)
      have HB3 := Lib.hid (HB1.out.trans ((show Below w1.heap.size w1 w3' from (below_drewN (Below.refl _ _) (m + nq)).trans b3).mono hs0))
      rw [HN.out, Nat.sub_self] at r3
      unfold Tab.box at r2
      clear hTB hTB' hT2 b31 o3 b3 b0 b2
      by_cases hck : c = k
      · rw [if_pos hck] at r3
        subst hck
        rw [Nat.sub_self] at r3
        go_wp2_with (at_builtin; first | refine wpList_app r1 rfl rfl rfl rfl rfl ?_ | refine wpList_app r2 rfl rfl rfl rfl rfl ?_ | refine wpList_app r3 rfl rfl rfl rfl rfl ?_)
        go_ret
        exact ⟨_, _, rfl, ⟨c, by rw [HN.out]; exact hk, rfl⟩, HO3.out, HB3.out⟩
      · rw [if_neg hck] at r3
        go_wp2_with (at_builtin; first | refine wpList_app r1 rfl rfl rfl rfl rfl ?_ | refine wpList_app r2 rfl rfl rfl rfl rfl ?_ | refine wpList_app r3 rfl rfl rfl rfl rfl ?_)
        go_ret
        exact ⟨_, _, rfl, ⟨k, by rw [HN.out]; exact hk, rfl⟩, HO3.out, HB3.out⟩
end Go.Proofs.YtpdbdobckjolkaaDoor
