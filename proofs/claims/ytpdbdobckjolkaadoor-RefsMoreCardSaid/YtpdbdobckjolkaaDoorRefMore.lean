/- What a version needs one with a table more needs too: the walk of the law RefsMore. -/
import Derived.Test.YtpdbdobckjolkaaDoorRefAll
import Derived.Test.YtpdbdobckjolkaaDoorRefMoreL
set_option linter.unusedVariables false
set_option linter.unusedSimpArgs false
namespace Go.Proofs.YtpdbdobckjolkaaDoor
open Go.RowKit Go.Sort

theorem OwnT.one (X : World) (t : Tab) : OwnT (X.alloc t.box) X.heap.size (.slice (some ⟨X.heap.size, 0, none⟩) 1 1) [t] :=
  ⟨by simp [tabs]; rfl, .inr ⟨X.heap.size, 1, t.cells.toArray, rfl, Nat.le_refl _, Blk.new X 36 t.cells.toArray, Nat.le_refl _, by unfold maxLen; omega, rfl, by simp [tabs, Tab.cells]⟩⟩
theorem text_size (k e n : Int) : (textL k e n).length ≤ 60 := by
  have hh : (headL k).length ≤ 6 := by
    unfold headL
    repeat (first | (split; decide) | decide | split)
  have hd : ∀ x : Int, mayN x = true → (Lib.itoa x).length ≤ 16 := by
    intro x hx
    rw [mayN_iff] at hx
    obtain ⟨m, rfl⟩ : ∃ m : Nat, x = (m : Int) := ⟨x.toNat, by omega⟩
    rw [itoa_nat]; exact dec_len m (by omega)
  unfold textL
  split
  · unfold wholeL
    repeat (first | (split; decide) | decide | split)
  · split
    · simp
    · rename_i hn
      have h1 := hd n (by simpa using hn)
      split
      · rw [List.length_append]; omega
      · split
        · simp
        · rename_i he
          have h2 := hd e (by simpa using he)
          simp only [List.length_append, List.length_cons, List.length_nil]; omega
theorem name_size (k e n : Int) : (nameB k e n).size < 4294967281 := by
  have : (nameB k e n).size = (textL k e n).length := rfl
  have := text_size k e n
  omega

structure RB (w : World) (e n l lg : Int) (A : Option Addr) (TL c : Nat) (ts : List Tab) (t : Tab) (A2 : Option Addr) (M c2 p : Nat) (a : Value) (la : List ByteArray) (b : Value) (lb : List ByteArray) (f : Value) (lf : List ByteArray) (g : Value) (lh : List ByteArray) (W : World) : Prop where
  bv : Blk W p 27 #[.int .i64 e, .int .i64 n, .int .i64 l, .int .i64 lg, .slice A TL c]
  bt : Blk W (p + 1) 36 #[.int .i64 t.num, .int .i64 t.ep, .int .i64 t.lev, .string t.lo, .string t.hi, .int .i64 t.size, .int .i64 t.count, .bool t.near, .bool t.far]
  bw : Blk W (p + 2) 27 #[.int .i64 e, .int .i64 (n + 1), .int .i64 l, .int .i64 lg, .slice A2 M c2]
  ov : OwnT W w.heap.size (.slice A TL c) ts
  ow : OwnT W w.heap.size (.slice A2 M c2) (t :: ts)
  oa : OwnS W w.heap.size a la
  ob : OwnS W w.heap.size b lb
  of : OwnS W w.heap.size f lf
  og : OwnS W w.heap.size g lh
  bel : Below w.heap.size w W
section
variable {w : World} {e n l lg : Int} {A : Option Addr} {TL c : Nat} {ts : List Tab} {t : Tab} {A2 : Option Addr} {M c2 p : Nat} {a : Value} {la : List ByteArray} {b : Value} {lb : List ByteArray} {f : Value} {lf : List ByteArray} {g : Value} {lh : List ByteArray} {W W2 : World}
theorem RB.then (h : RB w e n l lg A TL c ts t A2 M c2 p a la b lb f lf g lh W) (hb : Below W.heap.size W W2) : RB w e n l lg A TL c ts t A2 M c2 p a la b lb f lf g lh W2 :=
  ⟨h.bv.below hb h.bv.lt, h.bt.below hb h.bt.lt, h.bw.below hb h.bw.lt, h.ov.below hb, h.ow.below hb, h.oa.below hb, h.ob.below hb, h.of.below hb, h.og.below hb, h.bel.trans (hb.mono h.bel.size)⟩
theorem RB.drew (h : RB w e n l lg A TL c ts t A2 M c2 p a la b lb f lf g lh W) : RB w e n l lg A TL c ts t A2 M c2 p a la b lb f lf g lh W.drew := h.then ((Below.refl _ _).drew)
theorem RB.drewN (h : RB w e n l lg A TL c ts t A2 M c2 p a la b lb f lf g lh W) (k : Nat) : RB w e n l lg A TL c ts t A2 M c2 p a la b lb f lf g lh (W.drewN k) := h.then (below_drewN (Below.refl _ _) _)
theorem RB.seta {x : Value} {lx : List ByteArray} (h : RB w e n l lg A TL c ts t A2 M c2 p a la b lb f lf g lh W) (hb : Below W.heap.size W W2) (ho : OwnS W2 W.heap.size x lx) : RB w e n l lg A TL c ts t A2 M c2 p x lx b lb f lf g lh W2 := { h.then hb with oa := ho.le h.bel.size }
theorem RB.setb {x : Value} {lx : List ByteArray} (h : RB w e n l lg A TL c ts t A2 M c2 p a la b lb f lf g lh W) (hb : Below W.heap.size W W2) (ho : OwnS W2 W.heap.size x lx) : RB w e n l lg A TL c ts t A2 M c2 p a la x lx f lf g lh W2 := { h.then hb with ob := ho.le h.bel.size }
theorem RB.setf {x : Value} {lx : List ByteArray} (h : RB w e n l lg A TL c ts t A2 M c2 p a la b lb f lf g lh W) (ho : OwnS W w.heap.size x lx) : RB w e n l lg A TL c ts t A2 M c2 p a la b lb x lx g lh W := { h with of := ho }
theorem RB.setg {x : Value} {lx : List ByteArray} (h : RB w e n l lg A TL c ts t A2 M c2 p a la b lb f lf g lh W) (ho : OwnS W w.heap.size x lx) : RB w e n l lg A TL c ts t A2 M c2 p a la b lb f lf x lx W := { h with og := ho }
end
section
variable {w : World} {e n l lg : Int} {A : Option Addr} {TL c : Nat} {ts : List Tab} {t : Tab} {A2 : Option Addr} {M c2 p : Nat} {a : Value} {la : List ByteArray} {b : Value} {lb : List ByteArray} {f : Value} {lf : List ByteArray} {g : Value} {lh : List ByteArray} {W W2 : World}
abbrev SB (w : World) (e n l lg : Int) (A : Option Addr) (TL c : Nat) (ts : List Tab) (t : Tab) (A2 : Option Addr) (M c2 p : Nat) (a : Value) (la : List ByteArray) (b : Value) (lb : List ByteArray) (f : Value) (lf : List ByteArray) (g : Value) (lh : List ByteArray) (W : World) : Prop := W.cell? ⟨p, 0, none⟩ = some (.int .i64 e) ∧ W.cell? ⟨p, 1, none⟩ = some (.int .i64 n) ∧ W.cell? ⟨p, 2, none⟩ = some (.int .i64 l) ∧ W.cell? ⟨p, 3, none⟩ = some (.int .i64 lg) ∧ W.cell? ⟨p, 4, none⟩ = some (.slice A TL c) ∧ W.cell? ⟨p + 2, 0, none⟩ = some (.int .i64 e) ∧ W.cell? ⟨p + 2, 1, none⟩ = some (.int .i64 (n + 1)) ∧ W.cell? ⟨p + 2, 2, none⟩ = some (.int .i64 l) ∧ W.cell? ⟨p + 2, 3, none⟩ = some (.int .i64 lg) ∧ W.cell? ⟨p + 2, 4, none⟩ = some (.slice A2 M c2) ∧ RB w e n l lg A TL c ts t A2 M c2 p a la b lb f lf g lh W
theorem SB.of (h : RB w e n l lg A TL c ts t A2 M c2 p a la b lb f lf g lh W) : SB w e n l lg A TL c ts t A2 M c2 p a la b lb f lf g lh W := ⟨h.bv.cell 0, h.bv.cell 1, h.bv.cell 2, h.bv.cell 3, h.bv.cell 4, h.bw.cell 0, h.bw.cell 1, h.bw.cell 2, h.bw.cell 3, h.bw.cell 4, h⟩
theorem SB.rel (h : SB w e n l lg A TL c ts t A2 M c2 p a la b lb f lf g lh W) : RB w e n l lg A TL c ts t A2 M c2 p a la b lb f lf g lh W := h.2.2.2.2.2.2.2.2.2.2
theorem SB.then (h : SB w e n l lg A TL c ts t A2 M c2 p a la b lb f lf g lh W) (hb : Below W.heap.size W W2) : SB w e n l lg A TL c ts t A2 M c2 p a la b lb f lf g lh W2 := SB.of (h.rel.then hb)
theorem SB.drew (h : SB w e n l lg A TL c ts t A2 M c2 p a la b lb f lf g lh W) : SB w e n l lg A TL c ts t A2 M c2 p a la b lb f lf g lh W.drew := SB.of h.rel.drew
abbrev SC (w : World) (e n l lg : Int) (A : Option Addr) (TL c : Nat) (ts : List Tab) (t : Tab) (A2 : Option Addr) (M c2 p : Nat) (a : Value) (la : List ByteArray) (b : Value) (lb : List ByteArray) (f : Value) (lf : List ByteArray) (g : Value) (lh : List ByteArray) (W : World) : Prop := W.cell? ⟨p + 1, 0, none⟩ = some (.int .i64 t.num) ∧ W.cell? ⟨p + 1, 1, none⟩ = some (.int .i64 t.ep) ∧ RB w e n l lg A TL c ts t A2 M c2 p a la b lb f lf g lh W
theorem SC.of (h : RB w e n l lg A TL c ts t A2 M c2 p a la b lb f lf g lh W) : SC w e n l lg A TL c ts t A2 M c2 p a la b lb f lf g lh W := ⟨h.bt.cell 0, h.bt.cell 1, h⟩
theorem SC.rel (h : SC w e n l lg A TL c ts t A2 M c2 p a la b lb f lf g lh W) : RB w e n l lg A TL c ts t A2 M c2 p a la b lb f lf g lh W := h.2.2
theorem SC.then (h : SC w e n l lg A TL c ts t A2 M c2 p a la b lb f lf g lh W) (hb : Below W.heap.size W W2) : SC w e n l lg A TL c ts t A2 M c2 p a la b lb f lf g lh W2 := SC.of (h.rel.then hb)
theorem SC.drew (h : SC w e n l lg A TL c ts t A2 M c2 p a la b lb f lf g lh W) : SC w e n l lg A TL c ts t A2 M c2 p a la b lb f lf g lh W.drew := SC.of h.rel.drew
end
theorem near_size (ts : List Tab) (x : ByteArray) (h : x ∈ nearR ts) : x.size < 4294967281 := by
  rw [mem_nearR] at h
  rcases h with rfl | rfl | rfl | ⟨u, _, _, rfl⟩
  · decide
  · decide
  · decide
  · exact name_size _ _ _
theorem far_size (ts : List Tab) (x : ByteArray) (h : x ∈ farR ts [] 0) : x.size < 4294967281 := by
  unfold farR at h
  rw [mem_risB] at h
  have h2 : x ∈ farNames ts := by simpa [allNames, markName] using h
  obtain ⟨u, _, _, rfl⟩ := (mem_farNames _ _).1 h2
  exact name_size _ _ _
theorem nearR_len (ts : List Tab) : (nearR ts).length ≤ ts.length + 3 := by
  unfold nearR
  rw [ris_put]
  exact acc_len _ _ (by have := nearNames_len ts; simp only [List.length_append, List.length_cons, List.length_nil]; omega)
theorem farR_len (ts old : List Tab) (num : Int) : (farR ts old num).length ≤ ts.length + old.length + 1 := by
  unfold farR
  rw [ris_put]
  exact acc_len _ _ (by have := farNames_len ts; have := allNames_len old; have := markName_len num; simp only [List.length_append]; omega)

set_option maxRecDepth 100000 in
set_option maxHeartbeats 8000000 in
theorem refsMore_calls (ns : List UInt8) (A0 : Option Addr) (c0 : Nat) (lg ep : Int) (w : World)
    (r0 : Reads w w.heap.size 1 A0 ns.length (ns.map encB)) (l0 : ns.length ≤ 9223372036854775807) (hlg : 0 ≤ lg ∧ lg ≤ 255) (hep : 0 ≤ ep ∧ ep ≤ 255) (hL : Laid w) :
    Calls Tryd.prog 4 #[.slice A0 ns.length c0, .int .u8 lg, .int .u8 ep] w (TrueBelow w) := by
  have HL := Lib.hid hL
  obtain ⟨n0, hn0⟩ : ∃ n, ns.length = n := ⟨_, rfl⟩
  have HM0 := Lib.hid (made_calls ns A0 c0 w r0 l0)
  rw [hn0] at HM0 ⊢
  clear hL r0 l0 hn0
  have e1 : IntKind.i64.wrap lg = lg := IntWalk.i64_in _ (by omega)
  have e2 : IntKind.i64.wrap ep = ep := IntWalk.i64_in _ (by omega)
  obtain ⟨q, hq⟩ : ∃ q : Int, ep.tmod 4 = q := ⟨_, rfl⟩
  have hq3 : 0 ≤ q ∧ q ≤ 3 := by rw [← hq, Int.tmod_eq_emod_of_nonneg hep.1]; omega
  have e3 : IntKind.i64.wrap q = q := IntWalk.i64_in _ (by omega)
  go_enter Tryd.func4, Tryd.ntmps4
  go_wp2_with fail
  (with_reducible refine HM0.out.mono ?_)
  rintro e' w1 ⟨v0, vv, rfl, hok1, ho1, hb1⟩
  obtain ⟨e, n, l, vg, ts⟩ := v0
  simp only at hok1 ho1 ⊢
  obtain ⟨A, c, rfl, hcv, _⟩ := ho1.reads
  have hn1 : 1 ≤ n ∧ n ≤ 21 := hok1.2.1
  have e4 : IntKind.i64.wrap (n + 1) = n + 1 := IntWalk.i64_in _ (by omega)
  obtain ⟨TL, hTL⟩ : ∃ TL, ts.length = TL := ⟨_, rfl⟩
  rw [hTL] at ho1 hcv ⊢
  have HTL := Lib.hid hTL
  have HB1 := Lib.hid hb1
  have HO1 := Lib.hid ho1
  have HK1 := Lib.hid hok1
  have hTL20 : TL ≤ 20 := by rw [← hTL]; exact hok1.1
  clear hb1 ho1 hok1 hTL
  go_upto_region 6 with (fail)
  obtain ⟨p, hp⟩ : ∃ p, w1.heap.size = p := ⟨_, rfl⟩
  rw [hp]
  (try rw [show p + 1 + 1 = p + 2 from rfl])
  obtain ⟨W6, hW6⟩ : ∃ W6, ((w1.alloc (.cells #[.int .i64 e, .int .i64 n, .int .i64 l, .int .i64 lg, .slice A TL c] 27)).alloc (.cells #[.int .i64 n, .int .i64 q, .int .i64 0, .string ⟨#[97]⟩, .string ⟨#[98]⟩, .int .i64 0, .int .i64 1, .bool true, .bool true] 36)).alloc (.cells #[.int .i64 e, .int .i64 (n + 1), .int .i64 l, .int .i64 lg, .slice A TL c] 27) = W6 := ⟨_, rfl⟩
  rw [hW6]
  have hsz : w.heap.size ≤ p := by rw [← hp]; exact HB1.out.size
  have hz6 : W6.heap.size = p + 3 := by rw [← hW6]; simp; omega
  have b16 : Below w.heap.size w W6 := by
    rw [← hW6]
    exact ((HB1.out.alloc (by omega) _).alloc (by simp; omega) _).alloc (by simp; omega) _
  have bv6 : Blk W6 p 27 #[.int .i64 e, .int .i64 n, .int .i64 l, .int .i64 lg, .slice A TL c] := by rw [← hW6, ← hp]; exact ((Blk.new _ _ _).alloc _).alloc _
  have bt6 : Blk W6 (p + 1) 36 #[.int .i64 n, .int .i64 q, .int .i64 0, .string ⟨#[97]⟩, .string ⟨#[98]⟩, .int .i64 0, .int .i64 1, .bool true, .bool true] := by rw [← hW6, ← hp]; exact (Blk.new2 _ _ _ _).alloc _
  have bw6 : Blk W6 (p + 2) 27 #[.int .i64 e, .int .i64 (n + 1), .int .i64 l, .int .i64 lg, .slice A TL c] := by
    rw [← hW6, ← hp]
    have := Blk.new ((w1.alloc (.cells #[.int .i64 e, .int .i64 n, .int .i64 l, .int .i64 lg, .slice A TL c] 27)).alloc (.cells #[.int .i64 n, .int .i64 q, .int .i64 0, .string ⟨#[97]⟩, .string ⟨#[98]⟩, .int .i64 0, .int .i64 1, .bool true, .bool true] 36)) 27 #[.int .i64 e, .int .i64 (n + 1), .int .i64 l, .int .i64 lg, .slice A TL c]
    rw [World.size_alloc, World.size_alloc] at this; exact this
  have ov6 : OwnT W6 w.heap.size (.slice A TL c) ts := by rw [← hW6]; exact ((HO1.out.alloc _).alloc _).alloc _
  obtain ⟨t, ht⟩ : ∃ t : Tab, t = { num := n, ep := q, lev := 0, lo := ⟨#[97]⟩, hi := ⟨#[98]⟩, size := 0, count := 1, near := true, far := true } := ⟨_, rfl⟩
  have bt6' : Blk W6 (p + 1) 36 #[.int .i64 t.num, .int .i64 t.ep, .int .i64 t.lev, .string t.lo, .string t.hi, .int .i64 t.size, .int .i64 t.count, .bool t.near, .bool t.far] := by rw [ht]; exact bt6
  have hr6 := ov6.alloc t.box
  obtain ⟨v9, w9, r9, o9, _, b9, _⟩ := appTl (OwnT.one W6 t) (c := c) hr6.rd rfl (by simp; rw [HTL.out]; omega) (by rw [World.size_alloc]; omega)
  have b69 : Below W6.heap.size W6 w9 := ((Below.refl _ _).alloc (Nat.le_refl _) _).trans b9
  obtain ⟨A2, c2, rfl, hc2, _⟩ := o9.reads
  obtain ⟨M, hM⟩ : ∃ M, ([t] ++ ts).length = M := ⟨_, rfl⟩
  have hMT : M = TL + 1 := by rw [← hM, ← HTL.out]; first | (simp; done) | (simp; omega)
  rw [hM] at r9 o9 hc2
  rw [HTL.out] at r9
  have r9' := r9
  unfold Tab.box at r9
  rw [ht] at r9
  simp only at r9
  have bw9 := bw6.below b69 (by omega)
  have x4 := (bv6.alloc (.cells #[.int .i64 n, .int .i64 q, .int .i64 0, .string ⟨#[97]⟩, .string ⟨#[98]⟩, .int .i64 0, .int .i64 1, .bool true, .bool true] 36)).cell 4
  simp only [List.getElem?_toArray, List.getElem?_cons_succ, List.getElem?_cons_zero] at x4
  obtain ⟨⟨y0, y1, y2, y3, y4, y5, y6, y7, y8⟩, _⟩ := bt6.nine
  obtain ⟨⟨z0, z1, z2, z3, z4⟩, ⟨f0, f1, f2, f3, f4⟩⟩ := bw9.five
  have r7 : RB w e n l lg A TL c ts t A2 M c2 p (.slice none 0 0) [] (.slice none 0 0) [] (.slice none 0 0) [] (.slice none 0 0) [] (w9.setCell ⟨p + 2, 4, none⟩ (.slice A2 M c2)) := by
    have bv9 := bv6.below b69 (by omega)
    have bt9 := bt6'.below b69 (by omega)
    have ov9 := ov6.below b69
    refine ⟨bv9.far (by show p ≠ p + 2; omega) _, bt9.far (by show p + 1 ≠ p + 2; omega) _, by simpa using bw9.set_ 4 (.slice A2 M c2), ?_, ?_, OwnS.nil _ _, OwnS.nil _ _, OwnS.nil _ _, OwnS.nil _ _, (b16.trans (b69.mono b16.size)).setCell (by show w.heap.size ≤ p + 2; omega) _⟩
    · refine ov9.setOff (fun h => ?_) _
      have h1 := (HO1.out.block (p + 2) h).2
      omega
    · exact (o9.setFar (by show p + 2 < W6.heap.size; omega) _).le (by omega)
  have R7 := Lib.hid r7
  have HT := Lib.hid ht
  have HMT := Lib.hid hMT
  have HM := Lib.hid hM
  clear hp hW6 hz6 b16 bv6 bt6 bw6 ov6 bt6' hr6 r9' o9 b9 b69 bw9 r7 hc2 hcv ht HB1 HO1 hMT hM
  go_upto_region 7 with (at_builtin; refine wpList_app r9 rfl rfl rfl rfl rfl ?_)
  obtain ⟨W7, hW7⟩ : ∃ W7, w9.setCell ⟨p + 2, 4, none⟩ (.slice A2 M c2) = W7 := ⟨_, rfl⟩
  rw [hW7] at R7 ⊢
  clear r9 x4 y0 y1 y2 y3 y4 y5 y6 y7 y8 z0 z1 z2 z3 z4 f0 f1 f2 f3 f4 hW7 e2 e3 e4 hq hep
  have hMe : (t :: ts).length = M := HM.out
  have htn : t.num = n ∧ t.ep = q ∧ t.near = true ∧ t.far = true := by rw [HT.out]; exact ⟨rfl, rfl, rfl, rfl⟩
  have hM21 : M ≤ 21 := by rw [HMT.out]; omega
  have hok : ∀ u ∈ t :: ts, TabOk u := by
    intro u hu
    rcases List.mem_cons.1 hu with rfl | hu
    · exact ⟨by rw [htn.1]; omega, by rw [htn.2.1]; omega⟩
    · exact tabok_of HK1.out u hu
  have hnum : ∀ u ∈ ts, 1 ≤ u.num ∧ u.num < n := fun u hu => (HK1.out.2.2 u hu).1
  have HNV : Hid (∀ {W : World} {a : Value} {la : List ByteArray} {b : Value} {lb : List ByteArray} {f : Value} {lf : List ByteArray} {g : Value} {lh : List ByteArray}, RB w e n l lg A TL c ts t A2 M c2 p a la b lb f lf g lh W → Calls Tryd.prog 7 #[.agg #[.int .i64 e, .int .i64 n, .int .i64 l, .int .i64 lg, .slice A TL c], .string ⟨#[108, 105, 115, 116, 45, 57]⟩] W (PostNear W (nearR ts) lg)) := Lib.hid (fun h => by
    have h2 : Calls Tryd.prog 7 #[.agg #[.int .i64 e, .int .i64 n, .int .i64 l, .int .i64 lg, .slice A ts.length c], .string ⟨#[108, 105, 115, 116, 45, 57]⟩] _ (PostNear _ (nearR ts) lg) := near_calls ⟨e, n, l, lg, ts⟩ A c list9B _ h.ov.rd (by show ts.length ≤ _; rw [HTL.out]; omega) (tabok_of HK1.out) (HL.out.below h.bel)
    rw [HTL.out] at h2; exact h2)
  have HNW : Hid (∀ {W : World} {a : Value} {la : List ByteArray} {b : Value} {lb : List ByteArray} {f : Value} {lf : List ByteArray} {g : Value} {lh : List ByteArray}, RB w e n l lg A TL c ts t A2 M c2 p a la b lb f lf g lh W → Calls Tryd.prog 7 #[.agg #[.int .i64 e, .int .i64 (n + 1), .int .i64 l, .int .i64 lg, .slice A2 M c2], .string ⟨#[108, 105, 115, 116, 45, 57]⟩] W (PostNear W (nearR (t :: ts)) lg)) := Lib.hid (fun h => by
    have h2 : Calls Tryd.prog 7 #[.agg #[.int .i64 e, .int .i64 (n + 1), .int .i64 l, .int .i64 lg, .slice A2 (t :: ts).length c2], .string ⟨#[108, 105, 115, 116, 45, 57]⟩] _ (PostNear _ (nearR (t :: ts)) lg) := near_calls ⟨e, n + 1, l, lg, t :: ts⟩ A2 c2 list9B _ h.ow.rd (by show (t :: ts).length ≤ _; rw [hMe]; omega) hok (HL.out.below h.bel)
    rw [hMe] at h2; exact h2)
  have HFV : Hid (∀ {W : World} {a : Value} {la : List ByteArray} {b : Value} {lb : List ByteArray} {f : Value} {lf : List ByteArray} {g : Value} {lh : List ByteArray}, RB w e n l lg A TL c ts t A2 M c2 p a la b lb f lf g lh W → Calls Tryd.prog 10 #[.agg #[.int .i64 e, .int .i64 n, .int .i64 l, .int .i64 lg, .slice A TL c], .agg #[.int .i64 0, .int .i64 0, .int .i64 0, .int .i64 0, .slice none 0 0], .int .i64 0] W (PostS W.heap.size W (farR ts [] 0))) := Lib.hid (fun h => by
    have h2 : Calls Tryd.prog 10 #[.agg #[.int .i64 e, .int .i64 n, .int .i64 l, .int .i64 lg, .slice A ts.length c], .agg #[.int .i64 0, .int .i64 0, .int .i64 0, .int .i64 0, .slice none 0 0], .int .i64 0] _ (PostS _ _ (farR ts [] 0)) := far_calls ⟨e, n, l, lg, ts⟩ ⟨0, 0, 0, 0, []⟩ A none c 0 0 _ h.ov.rd Reads.none_ (by show ts.length ≤ _; rw [HTL.out]; omega) (Nat.zero_le _) (tabok_of HK1.out) (by simp) (by omega) (HL.out.below h.bel)
    rw [HTL.out] at h2; exact h2)
  have HFW : Hid (∀ {W : World} {a : Value} {la : List ByteArray} {b : Value} {lb : List ByteArray} {f : Value} {lf : List ByteArray} {g : Value} {lh : List ByteArray}, RB w e n l lg A TL c ts t A2 M c2 p a la b lb f lf g lh W → Calls Tryd.prog 10 #[.agg #[.int .i64 e, .int .i64 (n + 1), .int .i64 l, .int .i64 lg, .slice A2 M c2], .agg #[.int .i64 e, .int .i64 n, .int .i64 l, .int .i64 lg, .slice A TL c], .int .i64 7] W (PostS W.heap.size W (farR (t :: ts) ts 7))) := Lib.hid (fun h => by
    have h2 : Calls Tryd.prog 10 #[.agg #[.int .i64 e, .int .i64 (n + 1), .int .i64 l, .int .i64 lg, .slice A2 (t :: ts).length c2], .agg #[.int .i64 e, .int .i64 n, .int .i64 l, .int .i64 lg, .slice A ts.length c], .int .i64 7] _ (PostS _ _ (farR (t :: ts) ts 7)) := far_calls ⟨e, n + 1, l, lg, t :: ts⟩ ⟨e, n, l, lg, ts⟩ A2 A c2 c 7 _ h.ow.rd h.ov.rd (by show (t :: ts).length ≤ _; rw [hMe]; omega) (by show ts.length ≤ _; rw [HTL.out]; omega) hok (tabok_of HK1.out) (by omega) (HL.out.below h.bel)
    rw [HTL.out, hMe] at h2; exact h2)
  have HNE : Hid (∀ (x : ByteArray) (ss : List ByteArray) (A : Option Addr) (c : Nat) (g : Int) (W : World), Below w.heap.size w W → x.size < 4294967281 → ss.length ≤ 1000000 → OwnS W w.heap.size (.slice A ss.length c) ss → Calls Tryd.prog 12 #[.string x, .slice A ss.length c, .int .i64 g] W fun e w' => e = .returned (.bool (neededB x ss g)) ∧ Below W.heap.size W w') := Lib.hid (fun x ss A c g W hb hx hn ho => needed_calls x ss A c g W hx ho.rd (by omega) (HL.out.below hb))
  have HAK : Hid (∀ W, Below w.heap.size w W → Calls Tryd.prog 5 #[] W fun e w' => e = .returned (.bool true) ∧ Below W.heap.size W w') := Lib.hid (fun W h => awake25_calls W (HL.out.below h))
  have F1 : Hid (∀ x ∈ nearR ts, neededB x (nearR (t :: ts)) lg = true ∧ x.size < 4294967281) := Lib.hid (fun x hx => ⟨more_near ts t x lg hx, near_size ts x hx⟩)
  have F2 : Hid (∀ x ∈ farR ts [] 0, neededB x (farR (t :: ts) ts 7) 0 = true ∧ x.size < 4294967281) := Lib.hid (fun x hx => ⟨more_far ts t x 0 hx, far_size ts x hx⟩)
  have F3 : Hid (neededB (nameB 2 0 n) (nearR (t :: ts)) lg = true) := Lib.hid (by have h := mine_in ts t lg htn.2.2.1; rwa [htn.1] at h)
  have F4 : Hid (neededB (nameB 2 0 n) (nearR ts) lg = false) := Lib.hid (mine_out ts n lg (by omega) hnum)
  have F5 : Hid (neededB (nameB 7 q n) (farR (t :: ts) ts 7) 0 = true) := Lib.hid (by have h := far_in ts t 0 htn.2.2.2; rwa [htn.1, htn.2.1] at h)
  have F6 : Hid (neededB mark7B (farR (t :: ts) ts 7) 0 = true) := Lib.hid (mark7_in (t :: ts) ts 0)
  have F7 : Hid (neededB mark6B (farR (t :: ts) ts 7) 0 = false) := Lib.hid (mark6_out (t :: ts) ts 0)
  have F8 : Hid (neededB (nameB 1 0 lg) (nearR ts) lg = true) := Lib.hid (log_in _ lg hlg)
  have F9 : Hid (lg ≠ 0 → neededB (nameB 1 0 (lg - 1)) (nearR ts) lg = false) := Lib.hid (fun h => log_out ts lg (by omega) (fun u hu => by have := hnum u hu; omega))
  have hLA : (nearR ts).length ≤ 1000000 := by have := nearR_len ts; have := HTL.out; omega
  have hLB : (nearR (t :: ts)).length ≤ 1000000 := by have := nearR_len (t :: ts); omega
  have hLF : (farR ts [] 0).length ≤ 1000000 := by have h1 := farR_len ts [] 0; have h2 := HTL.out; rw [List.length_nil] at h1; omega
  have hLG : (farR (t :: ts) ts 7).length ≤ 1000000 := by have := farR_len (t :: ts) ts 7; have := HTL.out; omega
  generalize nearR ts = LA at HNV F1 F4 F8 F9 hLA
  generalize nearR (t :: ts) = LB at HNW F1 F3 hLB
  generalize farR ts [] 0 = LF at HFV F2 hLF
  generalize farR (t :: ts) ts 7 = LG at HFW F2 F5 F6 F7 hLG
  have HLA := Lib.hid hLA
  have HLB := Lib.hid hLB
  have HLF := Lib.hid hLF
  have HLG := Lib.hid hLG
  have HLO := Lib.hid hlg
  clear hMe hok hnum hM21 hLA hLB hLF hLG hTL20 HK1 hsz HL HM HMT
  obtain ⟨⟨x0, x1, x2, x3, x4⟩, _⟩ := R7.out.bv.five
  go_wp2_with fail
  (with_reducible refine (HNV.out R7.out).mono ?_)
  rintro e' w8 ⟨a1, rfl, hoa, hba⟩
  have R8 := Lib.hid (R7.out.seta hba hoa)
  obtain ⟨Aa, ca, rfl, _, _⟩ := hoa.reads
  clear hoa hba x0 x1 x2 x3 x4 R7
  obtain ⟨⟨x0, x1, x2, x3, x4⟩, _⟩ := R8.out.bw.five
  go_wp2_with fail
  (with_reducible refine (HNW.out R8.out).mono ?_)
  rintro e' w10 ⟨b1, rfl, hob, hbb⟩
  have R9 := Lib.hid (R8.out.setb hbb hob)
  obtain ⟨Ab, cb, rfl, _, _⟩ := hob.reads
  clear hob hbb x0 x1 x2 x3 x4 R8
  go_wp2_with fail
  go_loopw [14] (fun i wr => ∃ k : Nat, k ≤ LA.length ∧ i = .int .i64 k ∧ RB w e n l lg A TL c ts t A2 M c2 p (.slice Aa LA.length ca) LA (.slice Ab LB.length cb) LB (.slice none 0 0) [] (.slice none 0 0) [] wr) (fun i _ => LA.length - (intOf i).toNat)
  case atStart => exact ⟨0, Nat.zero_le _, rfl, R9.out⟩
  case round =>
    obtain ⟨k, hk, rfl, hR⟩ := hrel
    by_cases hlt : k < LA.length
    · obtain ⟨ad, u, hle, hab, hx, hcell⟩ := hR.oa.rd.at_ hlt
      subst hle
      rw [textsV_get LA k hlt] at hx
      obtain rfl : Value.string LA[k] = u := Option.some.inj hx
      have hf := F1.out LA[k] (List.getElem_mem hlt)
      generalize LA[k] = x at hf hcell
      have ek : IntKind.i64.wrap ((k : Int) + 1) = (k : Int) + 1 := IntWalk.i64_in _ (by have := HLA.out; omega)
      have HN1 := Lib.hid (HNE.out x LB Ab cb lg wr hR.bel hf.2 HLB.out hR.ob)
      rw [hf.1] at HN1
      have HR := Lib.hid hR
      clear hx hab hf hR
      go_wp2_with fail
      (with_reducible refine HN1.out.mono ?_)
      rintro e' w11 ⟨rfl, hb⟩
      have HR2 := Lib.hid (HR.out.then hb)
      clear hb HR HN1 hcell
      go_wp2_with fail
      go_roundw
      case rel => exact ⟨k + 1, hlt, by first | rfl | go_num | simp, HR2.out⟩
      case measure => simp [intOf]; omega
    · obtain rfl : k = LA.length := by omega
      have HR := Lib.hid hR
      clear hR hk hlt R9
      go_upto_region 14 with (fail)
      have HFV1 : Hid (∀ W, SB w e n l lg A TL c ts t A2 M c2 p (.slice Aa LA.length ca) LA (.slice Ab LB.length cb) LB (.slice none 0 0) [] (.slice none 0 0) [] W → Calls Tryd.prog 10 #[.agg #[.int .i64 e, .int .i64 n, .int .i64 l, .int .i64 lg, .slice A TL c], .agg #[.int .i64 0, .int .i64 0, .int .i64 0, .int .i64 0, .slice none 0 0], .int .i64 0] W (PostS W.heap.size W LF)) := Lib.hid (fun W h => HFV.out (SB.rel h))
      have HFW1 : Hid (∀ W, SB w e n l lg A TL c ts t A2 M c2 p (.slice Aa LA.length ca) LA (.slice Ab LB.length cb) LB (.slice none 0 0) [] (.slice none 0 0) [] W → Calls Tryd.prog 10 #[.agg #[.int .i64 e, .int .i64 (n + 1), .int .i64 l, .int .i64 lg, .slice A2 M c2], .agg #[.int .i64 e, .int .i64 n, .int .i64 l, .int .i64 lg, .slice A TL c], .int .i64 7] W (PostS W.heap.size W LG)) := Lib.hid (fun W h => HFW.out (SB.rel h))
      have hM := SB.of HR.out
      have hM2 := hM
      obtain ⟨x0, x1, x2, x3, x4, z0, z1, z2, z3, z4, _⟩ := hM2
      go_region_held3 (fun w' => w'.cell? ⟨p, 0, none⟩ = some (.int .i64 e) ∧ w'.cell? ⟨p, 1, none⟩ = some (.int .i64 n) ∧ w'.cell? ⟨p, 2, none⟩ = some (.int .i64 l) ∧ w'.cell? ⟨p, 3, none⟩ = some (.int .i64 lg) ∧ w'.cell? ⟨p, 4, none⟩ = some (.slice A TL c) ∧ w'.cell? ⟨p + 2, 0, none⟩ = some (.int .i64 e) ∧ w'.cell? ⟨p + 2, 1, none⟩ = some (.int .i64 (n + 1)) ∧ w'.cell? ⟨p + 2, 2, none⟩ = some (.int .i64 l) ∧ w'.cell? ⟨p + 2, 3, none⟩ = some (.int .i64 lg) ∧ w'.cell? ⟨p + 2, 4, none⟩ = some (.slice A2 M c2) ∧ RB w e n l lg A TL c ts t A2 M c2 p (.slice Aa LA.length ca) LA (.slice Ab LB.length cb) LB (.slice none 0 0) [] (.slice none 0 0) [] w')
        (first
          | (with_reducible assumption)
          | ((with_reducible refine SB.then (W := _) ?_ hb13); assumption)
          | ((with_reducible refine SB.then (W := _) ?_ hb12); assumption)
          | ((with_reducible refine SB.drew (W := _) ?_); assumption))
        (first
          | (go_at_call 10; (with_reducible refine (HFV1.out _ ?hmd).mono ?_); (case hmd => assumption); rintro e' w12 ⟨f1, rfl, ho12, hb12⟩; obtain ⟨Af, cf, rfl, _, _⟩ := ho12.reads)
          | (go_at_call 10; (with_reducible refine (HFW1.out _ ?hmd).mono ?_); (case hmd => assumption); rintro e' w13 ⟨g1, rfl, ho13, hb13⟩; obtain ⟨Ag, cg, rfl, _, _⟩ := ho13.reads))
      all_goals (
        rename_i hS
        have hs0 : w.heap.size ≤ wr.heap.size := HR.out.bel.size
        have RF := Lib.hid (((SB.rel hS).setf ((ho12.below hb13).le (by exact hs0))).setg (ho13.le (Nat.le_trans (by exact hs0) hb12.size)))
        clear hS hs0 hM x0 x1 x2 x3 x4 z0 z1 z2 z3 z4 ho12 hb12 ho13 hb13 HR HFV1 HFW1
        go_wp2_with fail
        go_loopw [17] (fun i wr => ∃ k : Nat, k ≤ LF.length ∧ i = .int .i64 k ∧ RB w e n l lg A TL c ts t A2 M c2 p (.slice Aa LA.length ca) LA (.slice Ab LB.length cb) LB (.slice Af LF.length cf) LF (.slice Ag LG.length cg) LG wr) (fun i _ => LF.length - (intOf i).toNat)
        case atStart => exact ⟨0, Nat.zero_le _, rfl, RF.out⟩
        case round =>
          obtain ⟨k, hk, rfl, hR⟩ := hrel
          by_cases hlt : k < LF.length
          · obtain ⟨ad, u, hle, hab, hx, hcell⟩ := hR.of.rd.at_ hlt
            subst hle
            rw [textsV_get LF k hlt] at hx
            obtain rfl : Value.string LF[k] = u := Option.some.inj hx
            have hf := F2.out LF[k] (List.getElem_mem hlt)
            generalize LF[k] = x at hf hcell
            have ek : IntKind.i64.wrap ((k : Int) + 1) = (k : Int) + 1 := IntWalk.i64_in _ (by have := HLF.out; omega)
            have HN1 := Lib.hid (HNE.out x LG Ag cg 0 _ hR.bel hf.2 HLG.out hR.og)
            rw [hf.1] at HN1
            have HR := Lib.hid hR
            clear hx hab hf hR
            go_wp2_with fail
            (with_reducible refine HN1.out.mono ?_)
            rintro e' w14 ⟨rfl, hb⟩
            have HR2 := Lib.hid (HR.out.then hb)
            clear hb HR HN1 hcell
            go_wp2_with fail
            go_roundw
            case rel => exact ⟨k + 1, hlt, by first | rfl | go_num | simp, HR2.out⟩
            case measure => simp [intOf]; omega
          · obtain rfl : k = LF.length := by omega
            have HR := Lib.hid hR
            clear hR hk hlt RF
            go_upto_region 20 with (fail)
            have HNM : Hid (∀ k e n W, Calls Tryd.prog 14 #[.int .i64 k, .int .i64 e, .int .i64 n] W fun e' w' => e' = .returned (.string (nameB k e n)) ∧ Below W.heap.size W w') := Lib.hid (fun k e n W => name_calls k e n W)
            have hM := SC.of HR.out
            have hM2 := hM
            obtain ⟨y0, y1, _⟩ := hM2
            go_region_held3 (fun w' => w'.cell? ⟨p + 1, 0, none⟩ = some (.int .i64 t.num) ∧ w'.cell? ⟨p + 1, 1, none⟩ = some (.int .i64 t.ep) ∧ RB w e n l lg A TL c ts t A2 M c2 p (.slice Aa LA.length ca) LA (.slice Ab LB.length cb) LB (.slice Af LF.length cf) LF (.slice Ag LG.length cg) LG w')
              (first
                | (with_reducible assumption)
                | ((with_reducible refine SC.then (W := _) ?_ hb16); assumption)
                | ((with_reducible refine SC.then (W := _) ?_ hb15); assumption)
                | ((with_reducible refine SC.drew (W := _) ?_); assumption))
              (first
                | (go_at_call 14; (with_reducible refine (HNM.out 2 _ _ _).mono ?_); rintro e' w15 ⟨rfl, hb15⟩)
                | (go_at_call 14; (with_reducible refine (HNM.out 7 _ _ _).mono ?_); rintro e' w16 ⟨rfl, hb16⟩))
            all_goals (
              rename_i hS
              have R := Lib.hid (SC.rel hS)
              clear hS hM y0 y1 hb15 hb16 HR
              have C1 : Hid (∀ W, RB w e n l lg A TL c ts t A2 M c2 p (.slice Aa LA.length ca) LA (.slice Ab LB.length cb) LB (.slice Af LF.length cf) LF (.slice Ag LG.length cg) LG W → Calls Tryd.prog 12 #[.string (nameB 2 0 n), .slice Ab LB.length cb, .int .i64 lg] W fun e w' => e = .returned (.bool true) ∧ Below W.heap.size W w') := Lib.hid (fun W h => by have h2 := HNE.out (nameB 2 0 n) LB Ab cb lg W h.bel (name_size _ _ _) HLB.out h.ob; rw [F3.out] at h2; exact h2)
              have C2 : Hid (∀ W, RB w e n l lg A TL c ts t A2 M c2 p (.slice Aa LA.length ca) LA (.slice Ab LB.length cb) LB (.slice Af LF.length cf) LF (.slice Ag LG.length cg) LG W → Calls Tryd.prog 12 #[.string (nameB 2 0 n), .slice Aa LA.length ca, .int .i64 lg] W fun e w' => e = .returned (.bool false) ∧ Below W.heap.size W w') := Lib.hid (fun W h => by have h2 := HNE.out (nameB 2 0 n) LA Aa ca lg W h.bel (name_size _ _ _) HLA.out h.oa; rw [F4.out] at h2; exact h2)
              have C3 : Hid (∀ W, RB w e n l lg A TL c ts t A2 M c2 p (.slice Aa LA.length ca) LA (.slice Ab LB.length cb) LB (.slice Af LF.length cf) LF (.slice Ag LG.length cg) LG W → Calls Tryd.prog 12 #[.string (nameB 7 q n), .slice Ag LG.length cg, .int .i64 0] W fun e w' => e = .returned (.bool true) ∧ Below W.heap.size W w') := Lib.hid (fun W h => by have h2 := HNE.out (nameB 7 q n) LG Ag cg 0 W h.bel (name_size _ _ _) HLG.out h.og; rw [F5.out] at h2; exact h2)
              have C4 : Hid (∀ W, RB w e n l lg A TL c ts t A2 M c2 p (.slice Aa LA.length ca) LA (.slice Ab LB.length cb) LB (.slice Af LF.length cf) LF (.slice Ag LG.length cg) LG W → Calls Tryd.prog 12 #[.string ⟨#[109, 97, 114, 107, 45, 55]⟩, .slice Ag LG.length cg, .int .i64 0] W fun e w' => e = .returned (.bool true) ∧ Below W.heap.size W w') := Lib.hid (fun W h => by have h2 := HNE.out mark7B LG Ag cg 0 W h.bel (by decide) HLG.out h.og; rw [F6.out] at h2; exact h2)
              have C5 : Hid (∀ W, RB w e n l lg A TL c ts t A2 M c2 p (.slice Aa LA.length ca) LA (.slice Ab LB.length cb) LB (.slice Af LF.length cf) LF (.slice Ag LG.length cg) LG W → Calls Tryd.prog 12 #[.string ⟨#[109, 97, 114, 107, 45, 54]⟩, .slice Ag LG.length cg, .int .i64 0] W fun e w' => e = .returned (.bool false) ∧ Below W.heap.size W w') := Lib.hid (fun W h => by have h2 := HNE.out mark6B LG Ag cg 0 W h.bel (by decide) HLG.out h.og; rw [F7.out] at h2; exact h2)
              have C6 : Hid (∀ W, RB w e n l lg A TL c ts t A2 M c2 p (.slice Aa LA.length ca) LA (.slice Ab LB.length cb) LB (.slice Af LF.length cf) LF (.slice Ag LG.length cg) LG W → Calls Tryd.prog 12 #[.string (nameB 1 0 lg), .slice Aa LA.length ca, .int .i64 lg] W fun e w' => e = .returned (.bool true) ∧ Below W.heap.size W w') := Lib.hid (fun W h => by have h2 := HNE.out (nameB 1 0 lg) LA Aa ca lg W h.bel (name_size _ _ _) HLA.out h.oa; rw [F8.out] at h2; exact h2)
              have C7 : Hid (lg ≠ 0 → ∀ W, RB w e n l lg A TL c ts t A2 M c2 p (.slice Aa LA.length ca) LA (.slice Ab LB.length cb) LB (.slice Af LF.length cf) LF (.slice Ag LG.length cg) LG W → Calls Tryd.prog 12 #[.string (nameB 1 0 (lg - 1)), .slice Aa LA.length ca, .int .i64 lg] W fun e w' => e = .returned (.bool false) ∧ Below W.heap.size W w') := Lib.hid (fun h0 W h => by have h2 := HNE.out (nameB 1 0 (lg - 1)) LA Aa ca lg W h.bel (name_size _ _ _) HLA.out h.oa; rw [F9.out h0] at h2; exact h2)
              by_cases h0 : lg = 0
              · have hb0 : (lg == 0) = true := by rw [h0]; rfl
                clear h0
                go_wp2_with fail
                (with_reducible refine (C1.out _ R.out).mono ?_)
                rintro e' v0 ⟨rfl, hb⟩
                have R := Lib.hid (R.out.then hb)
                clear hb
                go_wp2_with fail
                (with_reducible refine (C2.out _ R.out).mono ?_)
                rintro e' v1 ⟨rfl, hb⟩
                have R := Lib.hid (R.out.then hb)
                clear hb
                go_wp2_with fail
                (with_reducible refine (C3.out _ R.out).mono ?_)
                rintro e' v2 ⟨rfl, hb⟩
                have R := Lib.hid (R.out.then hb)
                clear hb
                go_wp2_with fail
                (with_reducible refine (C4.out _ R.out).mono ?_)
                rintro e' v3 ⟨rfl, hb⟩
                have R := Lib.hid (R.out.then hb)
                clear hb
                go_wp2_with fail
                (with_reducible refine (C5.out _ R.out).mono ?_)
                rintro e' v4 ⟨rfl, hb⟩
                have R := Lib.hid (R.out.then hb)
                clear hb
                go_wp2_with fail
                (with_reducible refine (HNM.out 1 0 _ _).mono ?_)
                rintro e' v5 ⟨rfl, hb⟩
                have R := Lib.hid (R.out.then hb)
                clear hb
                go_wp2_with fail
                (with_reducible refine (C6.out _ R.out).mono ?_)
                rintro e' v6 ⟨rfl, hb⟩
                have R := Lib.hid (R.out.then hb)
                clear hb
                go_wp2_with fail
                (with_reducible refine (HAK.out _ R.out.bel).mono ?_)
                rintro e' v20 ⟨rfl, hb⟩
                have R := Lib.hid (R.out.then hb)
                clear hb
                go_wp2_with fail
                go_ret
                exact ⟨rfl, R.out.bel⟩
              · have hb0 : (lg == 0) = false := by simpa using h0
                have em : IntKind.i64.wrap (lg - 1) = lg - 1 := IntWalk.i64_in _ (by have := HLO.out; omega)
                go_wp2_with fail
                (with_reducible refine (C1.out _ R.out).mono ?_)
                rintro e' v0 ⟨rfl, hb⟩
                have R := Lib.hid (R.out.then hb)
                clear hb
                go_wp2_with fail
                (with_reducible refine (C2.out _ R.out).mono ?_)
                rintro e' v1 ⟨rfl, hb⟩
                have R := Lib.hid (R.out.then hb)
                clear hb
                go_wp2_with fail
                (with_reducible refine (C3.out _ R.out).mono ?_)
                rintro e' v2 ⟨rfl, hb⟩
                have R := Lib.hid (R.out.then hb)
                clear hb
                go_wp2_with fail
                (with_reducible refine (C4.out _ R.out).mono ?_)
                rintro e' v3 ⟨rfl, hb⟩
                have R := Lib.hid (R.out.then hb)
                clear hb
                go_wp2_with fail
                (with_reducible refine (C5.out _ R.out).mono ?_)
                rintro e' v4 ⟨rfl, hb⟩
                have R := Lib.hid (R.out.then hb)
                clear hb
                go_wp2_with fail
                (with_reducible refine (HNM.out 1 0 _ _).mono ?_)
                rintro e' v5 ⟨rfl, hb⟩
                have R := Lib.hid (R.out.then hb)
                clear hb
                go_wp2_with fail
                (with_reducible refine (C6.out _ R.out).mono ?_)
                rintro e' v6 ⟨rfl, hb⟩
                have R := Lib.hid (R.out.then hb)
                clear hb
                go_wp2_with fail
                (with_reducible refine (HNM.out 1 0 _ _).mono ?_)
                rintro e' v11 ⟨rfl, hb⟩
                have R := Lib.hid (R.out.then hb)
                clear hb
                go_wp2_with fail
                (with_reducible refine (C7.out h0 _ R.out).mono ?_)
                rintro e' v12 ⟨rfl, hb⟩
                have R := Lib.hid (R.out.then hb)
                clear hb
                go_wp2_with fail
                (with_reducible refine (HAK.out _ R.out.bel).mono ?_)
                rintro e' v20 ⟨rfl, hb⟩
                have R := Lib.hid (R.out.then hb)
                clear hb
                go_wp2_with fail
                go_ret
                exact ⟨rfl, R.out.bel⟩))
end Go.Proofs.YtpdbdobckjolkaaDoor
