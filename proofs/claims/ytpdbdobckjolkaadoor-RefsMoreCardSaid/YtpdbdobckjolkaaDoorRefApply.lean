/- A version with an edit that adds one table: the reference's Apply answers some version; with no error it has the edit's numbers and the table more. -/
import Derived.Test.YtpdbdobckjolkaaDoorRefWith
import Derived.Laws.Rows
set_option linter.unusedVariables false
set_option linter.unusedSimpArgs false
namespace Go.Proofs.YtpdbdobckjolkaaDoor
open Go.RowKit

def PostApply (w : World) (ts : List Tab) (t : Tab) (e2 n2 l2 g2 : Int) (e : Ending) (w' : World) : Prop :=
  ∃ (v' : Value) (code : Int) (ts' : List Tab) (a b c d : Int), e = .returned (.tuple #[.agg #[.int .i64 a, .int .i64 b, .int .i64 c, .int .i64 d, v'], .int .i64 code]) ∧ OwnT w' w.heap.size v' ts' ∧ Below w.heap.size w w' ∧
    (code = 0 → a = e2 ∧ b = n2 ∧ c = l2 ∧ d = g2 ∧ Inserted ts t ts')
theorem results_ct' {P : Program} {fn : Func} {p u : Tmp} {ty : TypeId} (h : fn.results = #[.cell p ty, .tmp u]) (tmps : Array Value) (w : World) (g : Nat) (t : TypeId) (cs : Array Value) (fr : Nat × Nat) (d : TypeDesc)
    (hp : tmps.getD p undef = .pointer (some ⟨g, 0, none⟩)) (hg : w.heap[g]? = some (.cells cs t fr)) (hu : P.underlying ty = some d) (hd : (match d with | .struct _ | .array _ _ => true | _ => false) = true) (hi : (P.info? ty).map (·.size) = some cs.size) :
    (results fn tmps).run P w = .ok (.tuple #[.agg cs, tmps.getD u undef]) w := by
  have hp' : tmps[p]?.getD undef = .pointer (some ⟨g, 0, none⟩) := by simpa using hp
  simp [results, h, hp', asAddr, run_loadVar_row w g t ty cs fr d hg hu hd hi]
theorem store5 {w : World} {g : Nat} {t : TypeId} {a b c d e : Value} (h : Blk w g t #[a, b, c, d, e]) (a' b' c' d' e' : Value) :
    Blk (((((w.setCell ⟨g, 0, none⟩ a').setCell ⟨g, 1, none⟩ b').setCell ⟨g, 2, none⟩ c').setCell ⟨g, 3, none⟩ d').setCell ⟨g, 4, none⟩ e') g t #[a', b', c', d', e'] := by
  have := ((((h.set_ 0 a').set_ 1 b').set_ 2 c').set_ 3 d').set_ 4 e'
  simpa using this
theorem below5 {B : Nat} {w0 w : World} {g : Nat} (h : Below B w0 w) (hg : B ≤ g) (a' b' c' d' e' : Value) :
    Below B w0 (((((w.setCell ⟨g, 0, none⟩ a').setCell ⟨g, 1, none⟩ b').setCell ⟨g, 2, none⟩ c').setCell ⟨g, 3, none⟩ d').setCell ⟨g, 4, none⟩ e') :=
  ((((h.setCell hg a').setCell hg b').setCell hg c').setCell hg d').setCell hg e'
theorem OwnT.setFar {w : World} {base : Nat} {v : Value} {ts : List Tab} (h : OwnT w base v ts) {p : Addr} (hp : p.block < base) (u : Value) : OwnT (w.setCell p u) base v ts :=
  World.ownsRow.kept h (row := some p.block) ⟨rfl, rfl, rfl, by simp [World.setCell], fun i hi hne => Below.heap_setCell w p u i (by rintro rfl; exact hne rfl)⟩ (.inr fun e => by have := (h.block _ e).1; omega)
theorem own5 {w : World} {base : Nat} {v : Value} {ts : List Tab} (h : OwnT w base v ts) {g : Nat} (hp : g < base) (a' b' c' d' e' : Value) :
    OwnT (((((w.setCell ⟨g, 0, none⟩ a').setCell ⟨g, 1, none⟩ b').setCell ⟨g, 2, none⟩ c').setCell ⟨g, 3, none⟩ d').setCell ⟨g, 4, none⟩ e') base v ts :=
  ((((h.setFar (p := ⟨g, 0, none⟩) hp a').setFar (p := ⟨g, 1, none⟩) hp b').setFar (p := ⟨g, 2, none⟩) hp c').setFar (p := ⟨g, 3, none⟩) hp d').setFar (p := ⟨g, 4, none⟩) hp e'
def RelAp (base : Nat) (w4 : World) (ts : List Tab) (t : Tab) (v4 : Value) (x i : Value) (wr : World) : Prop :=
  (i = .int .i64 0 ∧ v4 = x ∧ w4 = wr) ∨ (i = .int .i64 1 ∧ ∃ ts', Inserted ts t ts' ∧ OwnT wr base x ts' ∧ Below w4.heap.size w4 wr)
theorem inserted_len {ts ts' : List Tab} {t : Tab} (h : Inserted ts t ts') : ts'.length = ts.length + 1 := by
  obtain ⟨k, hk, rfl⟩ := h
  simp; omega

set_option maxRecDepth 100000 in
set_option maxHeartbeats 8000000 in
theorem apply_calls (ts : List Tab) (t : Tab) (A : Option Addr) (c : Nat) (A2 : Option Addr) (c2 : Nat) (e n l g e2 n2 l2 g2 : Int) (w : World) (hr : Reads w w.heap.size 9 A ts.length (tabs ts)) (hc : ts.length ≤ c) (hn : ts.length ≤ 900000)
    (hr2 : Reads w w.heap.size 9 A2 1 (tabs [t])) (hc2 : 1 ≤ c2) :
    Calls Tryd.prog 16 #[.agg #[.int .i64 e, .int .i64 n, .int .i64 l, .int .i64 g, .slice A ts.length c], .agg #[.int .i64 e2, .int .i64 n2, .int .i64 l2, .int .i64 g2, .slice A2 1 c2, .slice none 0 0]] w (PostApply w ts t e2 n2 l2 g2) := by
  obtain ⟨L, hL⟩ : ∃ L, ts.length = L := ⟨_, rfl⟩
  have HL := Lib.hid hL
  have HR := Lib.hid hr
  have HR2 := Lib.hid hr2
  rw [hL] at hn hc ⊢
  clear hr hL hr2
  obtain ⟨w1, hw1⟩ : ∃ w1, ((w.alloc (.cells #[.int .i64 e, .int .i64 n, .int .i64 l, .int .i64 g, .slice A L c] 27)).alloc (.cells #[.int .i64 e2, .int .i64 n2, .int .i64 l2, .int .i64 g2, .slice A2 1 c2, .slice none 0 0] 44)).alloc (.cells #[.int .i64 0, .int .i64 0, .int .i64 0, .int .i64 0, .slice none 0 0] 27) = w1 := ⟨_, rfl⟩
  have hblk : Blk w1 w.heap.size 27 #[.int .i64 e, .int .i64 n, .int .i64 l, .int .i64 g, .slice A L c] := by rw [← hw1]; exact ((Blk.new w _ _).alloc _).alloc _
  have hblk2 : Blk w1 (w.heap.size + 1) 44 #[.int .i64 e2, .int .i64 n2, .int .i64 l2, .int .i64 g2, .slice A2 1 c2, .slice none 0 0] := by
    rw [← hw1]
    have := Blk.new (w.alloc (.cells #[.int .i64 e, .int .i64 n, .int .i64 l, .int .i64 g, .slice A L c] 27)) 44 #[.int .i64 e2, .int .i64 n2, .int .i64 l2, .int .i64 g2, .slice A2 1 c2, .slice none 0 0]
    rw [World.size_alloc] at this
    exact this.alloc _
  have hblk3 : Blk w1 (w.heap.size + 1 + 1) 27 #[.int .i64 0, .int .i64 0, .int .i64 0, .int .i64 0, .slice none 0 0] := by
    rw [← hw1]
    have := Blk.new ((w.alloc (.cells #[.int .i64 e, .int .i64 n, .int .i64 l, .int .i64 g, .slice A L c] 27)).alloc (.cells #[.int .i64 e2, .int .i64 n2, .int .i64 l2, .int .i64 g2, .slice A2 1 c2, .slice none 0 0] 44)) 27 #[.int .i64 0, .int .i64 0, .int .i64 0, .int .i64 0, .slice none 0 0]
    rw [World.size_alloc, World.size_alloc] at this
    exact this
  have hb01 : Below w.heap.size w w1 := by rw [← hw1]; exact (((Below.refl _ _).alloc (Nat.le_refl _) _).alloc (by simp) _).alloc (by simp; omega) _
  have hsz : w1.heap.size = w.heap.size + 3 := by rw [← hw1]; simp
  have HB := Lib.hid hblk
  have HB2 := Lib.hid hblk2
  have HB3 := Lib.hid hblk3
  have H01 := Lib.hid hb01
  have HSZ := Lib.hid hsz
  have hs0 : w.heap.size ≤ w1.heap.size := by omega
  have HW1 := Lib.hid hw1
  clear hblk hblk2 hblk3 hb01 hsz hw1
  have HM := Lib.hid (fun (W : World) (hb : Below w.heap.size w W) => may_calls' ts A c e n l g W ((HR.out.below hb).more hb.size) (by rw [HL.out]; omega))
  rw [HL.out] at HM
  have HE : Hid (∀ W, Below w.heap.size w W → Calls Tryd.prog 28 #[.agg #[.int .i64 e2, .int .i64 n2, .int .i64 l2, .int .i64 g2, .slice A2 1 c2, .slice none 0 0]] W (SomeB W)) := Lib.hid (fun W hb => mayedit_calls [t] A2 c2 e2 n2 l2 g2 W ((HR2.out.below hb).more hb.size) (by simp))
  go_enter Tryd.func16, Tryd.ntmps16
  go_wp2_with fail
  rw [HW1.out]
  (with_reducible refine (HM.out w1 H01.out).mono ?_)
  rintro e' w2 ⟨b, rfl, hb2⟩
  have z0 : w2.cell? ⟨w.heap.size + 1, 0, none⟩ = some (.int .i64 e2) := (hb2.cell (by show w.heap.size + 1 < _; rw [HSZ.out]; omega)).trans (HB2.out.cell 0)
  have z1 : w2.cell? ⟨w.heap.size + 1, 1, none⟩ = some (.int .i64 n2) := (hb2.cell (by show w.heap.size + 1 < _; rw [HSZ.out]; omega)).trans (HB2.out.cell 1)
  have z2 : w2.cell? ⟨w.heap.size + 1, 2, none⟩ = some (.int .i64 l2) := (hb2.cell (by show w.heap.size + 1 < _; rw [HSZ.out]; omega)).trans (HB2.out.cell 2)
  have z3 : w2.cell? ⟨w.heap.size + 1, 3, none⟩ = some (.int .i64 g2) := (hb2.cell (by show w.heap.size + 1 < _; rw [HSZ.out]; omega)).trans (HB2.out.cell 3)
  have z4 : w2.cell? ⟨w.heap.size + 1, 4, none⟩ = some (.slice A2 1 c2) := (hb2.cell (by show w.heap.size + 1 < _; rw [HSZ.out]; omega)).trans (HB2.out.cell 4)
  have z5 : w2.cell? ⟨w.heap.size + 1, 5, none⟩ = some (.slice none 0 0) := (hb2.cell (by show w.heap.size + 1 < _; rw [HSZ.out]; omega)).trans (HB2.out.cell 5)
  have BR : Blk w2 (w.heap.size + 1 + 1) 27 #[.int .i64 0, .int .i64 0, .int .i64 0, .int .i64 0, .slice none 0 0] := HB3.out.below hb2 (by rw [HSZ.out]; omega)
  have q0 : w2.cell? ⟨w.heap.size + 1 + 1, 0, none⟩ = some (.int .i64 0) := BR.cell 0
  have q1 : w2.cell? ⟨w.heap.size + 1 + 1, 1, none⟩ = some (.int .i64 0) := BR.cell 1
  have q2 : w2.cell? ⟨w.heap.size + 1 + 1, 2, none⟩ = some (.int .i64 0) := BR.cell 2
  have q3 : w2.cell? ⟨w.heap.size + 1 + 1, 3, none⟩ = some (.int .i64 0) := BR.cell 3
  have q4 : w2.cell? ⟨w.heap.size + 1 + 1, 4, none⟩ = some (.slice none 0 0) := BR.cell 4
  have f0 : w2.frozen? ⟨w.heap.size + 1 + 1, 0, none⟩ = false := BR.frozen 0
  have f1 : w2.frozen? ⟨w.heap.size + 1 + 1, 1, none⟩ = false := BR.frozen 1
  have f2 : w2.frozen? ⟨w.heap.size + 1 + 1, 2, none⟩ = false := BR.frozen 2
  have f3 : w2.frozen? ⟨w.heap.size + 1 + 1, 3, none⟩ = false := BR.frozen 3
  have f4 : w2.frozen? ⟨w.heap.size + 1 + 1, 4, none⟩ = false := BR.frozen 4
  have HBR := Lib.hid BR
  clear BR
  have W2 := Lib.hid hb2
  clear hb2
  cases b with
  | false =>
    go_wp2_with fail
    refine bodyPost_ret (results_ct' rfl _ _ (w.heap.size + 1 + 1) 27 #[.int .i64 0, .int .i64 0, .int .i64 0, .int .i64 0, .slice none 0 0] (0, 0) _ rfl (store5 HBR.out _ _ _ _ _) Tryd.underlying27 rfl (by kernel_rfl)) rfl ⟨_, _, [], 0, 0, 0, 0, rfl, OwnT.nil _ _, below5 (H01.out.trans (W2.out.mono hs0)) (by omega) _ _ _ _ _, fun h => by simp at h⟩
  | true =>
    go_wp2_with fail
    (with_reducible refine (HE.out w2 (H01.out.trans (W2.out.mono hs0))).mono ?_)
    rintro e' w3 ⟨b, rfl, hb3⟩
    have hb13 := W2.out.trans (hb3.mono W2.out.size)
    clear z0 z1 z2 z3 z4 z5 q0 q1 q2 q3 q4 f0 f1 f2 f3 f4
    clear HBR
    have y0 : w3.cell? ⟨w.heap.size, 0, none⟩ = some (.int .i64 e) := (hb13.cell (by show w.heap.size < _; rw [HSZ.out]; omega)).trans (HB.out.cell 0)
    have y1 : w3.cell? ⟨w.heap.size, 1, none⟩ = some (.int .i64 n) := (hb13.cell (by show w.heap.size < _; rw [HSZ.out]; omega)).trans (HB.out.cell 1)
    have y2 : w3.cell? ⟨w.heap.size, 2, none⟩ = some (.int .i64 l) := (hb13.cell (by show w.heap.size < _; rw [HSZ.out]; omega)).trans (HB.out.cell 2)
    have y3 : w3.cell? ⟨w.heap.size, 3, none⟩ = some (.int .i64 g) := (hb13.cell (by show w.heap.size < _; rw [HSZ.out]; omega)).trans (HB.out.cell 3)
    have y4 : w3.cell? ⟨w.heap.size, 4, none⟩ = some (.slice A L c) := (hb13.cell (by show w.heap.size < _; rw [HSZ.out]; omega)).trans (HB.out.cell 4)
    have z0 : w3.cell? ⟨w.heap.size + 1, 0, none⟩ = some (.int .i64 e2) := (hb13.cell (by show w.heap.size + 1 < _; rw [HSZ.out]; omega)).trans (HB2.out.cell 0)
    have z1 : w3.cell? ⟨w.heap.size + 1, 1, none⟩ = some (.int .i64 n2) := (hb13.cell (by show w.heap.size + 1 < _; rw [HSZ.out]; omega)).trans (HB2.out.cell 1)
    have z2 : w3.cell? ⟨w.heap.size + 1, 2, none⟩ = some (.int .i64 l2) := (hb13.cell (by show w.heap.size + 1 < _; rw [HSZ.out]; omega)).trans (HB2.out.cell 2)
    have z3 : w3.cell? ⟨w.heap.size + 1, 3, none⟩ = some (.int .i64 g2) := (hb13.cell (by show w.heap.size + 1 < _; rw [HSZ.out]; omega)).trans (HB2.out.cell 3)
    have z4 : w3.cell? ⟨w.heap.size + 1, 4, none⟩ = some (.slice A2 1 c2) := (hb13.cell (by show w.heap.size + 1 < _; rw [HSZ.out]; omega)).trans (HB2.out.cell 4)
    have z5 : w3.cell? ⟨w.heap.size + 1, 5, none⟩ = some (.slice none 0 0) := (hb13.cell (by show w.heap.size + 1 < _; rw [HSZ.out]; omega)).trans (HB2.out.cell 5)
    have BR : Blk w3 (w.heap.size + 1 + 1) 27 #[.int .i64 0, .int .i64 0, .int .i64 0, .int .i64 0, .slice none 0 0] := HB3.out.below hb13 (by rw [HSZ.out]; omega)
    have q0 : w3.cell? ⟨w.heap.size + 1 + 1, 0, none⟩ = some (.int .i64 0) := BR.cell 0
    have q1 : w3.cell? ⟨w.heap.size + 1 + 1, 1, none⟩ = some (.int .i64 0) := BR.cell 1
    have q2 : w3.cell? ⟨w.heap.size + 1 + 1, 2, none⟩ = some (.int .i64 0) := BR.cell 2
    have q3 : w3.cell? ⟨w.heap.size + 1 + 1, 3, none⟩ = some (.int .i64 0) := BR.cell 3
    have q4 : w3.cell? ⟨w.heap.size + 1 + 1, 4, none⟩ = some (.slice none 0 0) := BR.cell 4
    have f0 : w3.frozen? ⟨w.heap.size + 1 + 1, 0, none⟩ = false := BR.frozen 0
    have f1 : w3.frozen? ⟨w.heap.size + 1 + 1, 1, none⟩ = false := BR.frozen 1
    have f2 : w3.frozen? ⟨w.heap.size + 1 + 1, 2, none⟩ = false := BR.frozen 2
    have f3 : w3.frozen? ⟨w.heap.size + 1 + 1, 3, none⟩ = false := BR.frozen 3
    have f4 : w3.frozen? ⟨w.heap.size + 1 + 1, 4, none⟩ = false := BR.frozen 4
    have HBR := Lib.hid BR
    clear BR
    have W3 := Lib.hid hb13
    clear hb3 hb13
    have h3lt : w.heap.size + 1 + 1 < w3.heap.size := by have h1 := W3.out.size; have h2 := HSZ.out; omega
    have H3LT := Lib.hid h3lt
    clear h3lt
    cases b with
    | false =>
      go_wp2_with fail
      refine bodyPost_ret (results_ct' rfl _ _ (w.heap.size + 1 + 1) 27 #[.int .i64 0, .int .i64 0, .int .i64 0, .int .i64 0, .slice none 0 0] (0, 0) _ rfl (store5 HBR.out _ _ _ _ _) Tryd.underlying27 rfl (by kernel_rfl)) rfl ⟨_, _, [], 0, 0, 0, 0, rfl, OwnT.nil _ _, below5 (H01.out.trans (W3.out.mono hs0)) (by omega) _ _ _ _ _, fun h => by simp at h⟩
    | true =>
      have hrT : Reads (w3.alloc (.cells #[] 36)) w3.heap.size 9 A L (tabs ts) := by
        have := ((HR.out.below (H01.out.trans (W3.out.mono hs0))).more (show w.heap.size ≤ w3.heap.size by have := W3.out.size; omega)).alloc (Nat.le_refl _) (.cells #[] 36)
        rw [HL.out] at this
        exact this
      obtain ⟨v4, w4, r4, o4, _, b4, _⟩ := appTl (OwnT.blank w3) (c := c) hrT HL.out.symm (by rw [HL.out]; simp; omega) (by rw [World.size_alloc]; omega)
      clear hrT
      have hb34 : Below w3.heap.size w3 w4 := ((Below.refl _ _).alloc (Nat.le_refl _) _).trans b4
      have hb14 := W3.out.trans (hb34.mono W3.out.size)
      have O4 := Lib.hid (show OwnT w4 w3.heap.size v4 ts by simpa using o4)
      have W34 := Lib.hid hb34
      have W4 := Lib.hid hb14
      clear o4 b4 hb34
      have y5 : (w3.alloc (.cells #[] 36)).cell? ⟨w.heap.size, 4, none⟩ = some (.slice A L c) := by rw [World.cell?_alloc_lt _ _ _ (by have := H3LT.out; show w.heap.size < _; omega)]; exact y4
      clear hb14
      go_wp2_with (at_builtin; refine wpList_app r4 rfl rfl rfl rfl rfl ?_)
      all_goals first
        | (refine bodyPost_ret (results_ct' rfl _ _ (w.heap.size + 1 + 1) 27 #[.int .i64 0, .int .i64 0, .int .i64 0, .int .i64 0, .slice none 0 0] (0, 0) _ rfl (store5 HBR.out _ _ _ _ _) Tryd.underlying27 rfl (by kernel_rfl)) rfl ⟨_, _, [], 0, 0, 0, 0, rfl, OwnT.nil _ _, below5 (H01.out.trans (W3.out.mono hs0)) (by omega) _ _ _ _ _, fun h => by simp at h⟩)
        | skip
      clear z0 z1 z2 z3 z4 z5 q0 q1 q2 q3 q4 f0 f1 f2 f3 f4
      clear y0 y1 y2 y3 y4 y5 r4 HBR
      have z0 : w4.cell? ⟨w.heap.size + 1, 0, none⟩ = some (.int .i64 e2) := (W4.out.cell (by show w.heap.size + 1 < _; rw [HSZ.out]; omega)).trans (HB2.out.cell 0)
      have z1 : w4.cell? ⟨w.heap.size + 1, 1, none⟩ = some (.int .i64 n2) := (W4.out.cell (by show w.heap.size + 1 < _; rw [HSZ.out]; omega)).trans (HB2.out.cell 1)
      have z2 : w4.cell? ⟨w.heap.size + 1, 2, none⟩ = some (.int .i64 l2) := (W4.out.cell (by show w.heap.size + 1 < _; rw [HSZ.out]; omega)).trans (HB2.out.cell 2)
      have z3 : w4.cell? ⟨w.heap.size + 1, 3, none⟩ = some (.int .i64 g2) := (W4.out.cell (by show w.heap.size + 1 < _; rw [HSZ.out]; omega)).trans (HB2.out.cell 3)
      have z4 : w4.cell? ⟨w.heap.size + 1, 4, none⟩ = some (.slice A2 1 c2) := (W4.out.cell (by show w.heap.size + 1 < _; rw [HSZ.out]; omega)).trans (HB2.out.cell 4)
      have z5 : w4.cell? ⟨w.heap.size + 1, 5, none⟩ = some (.slice none 0 0) := (W4.out.cell (by show w.heap.size + 1 < _; rw [HSZ.out]; omega)).trans (HB2.out.cell 5)
      have BR : Blk w4 (w.heap.size + 1 + 1) 27 #[.int .i64 0, .int .i64 0, .int .i64 0, .int .i64 0, .slice none 0 0] := HB3.out.below W4.out (by rw [HSZ.out]; omega)
      have q0 : w4.cell? ⟨w.heap.size + 1 + 1, 0, none⟩ = some (.int .i64 0) := BR.cell 0
      have q1 : w4.cell? ⟨w.heap.size + 1 + 1, 1, none⟩ = some (.int .i64 0) := BR.cell 1
      have q2 : w4.cell? ⟨w.heap.size + 1 + 1, 2, none⟩ = some (.int .i64 0) := BR.cell 2
      have q3 : w4.cell? ⟨w.heap.size + 1 + 1, 3, none⟩ = some (.int .i64 0) := BR.cell 3
      have q4 : w4.cell? ⟨w.heap.size + 1 + 1, 4, none⟩ = some (.slice none 0 0) := BR.cell 4
      have f0 : w4.frozen? ⟨w.heap.size + 1 + 1, 0, none⟩ = false := BR.frozen 0
      have f1 : w4.frozen? ⟨w.heap.size + 1 + 1, 1, none⟩ = false := BR.frozen 1
      have f2 : w4.frozen? ⟨w.heap.size + 1 + 1, 2, none⟩ = false := BR.frozen 2
      have f3 : w4.frozen? ⟨w.heap.size + 1 + 1, 3, none⟩ = false := BR.frozen 3
      have f4 : w4.frozen? ⟨w.heap.size + 1 + 1, 4, none⟩ = false := BR.frozen 4
      have HBR := Lib.hid BR
      clear BR
      have h4lt : w3.heap.size ≤ w4.heap.size := W34.out.size
      have H4 := Lib.hid h4lt
      clear h4lt
      go_loopw [6, 7] (fun x i wr => v4 = x ∧ i = .int .i64 0 ∧ w4 = wr) (fun _ i _ => 0)
      case atStart => exact ⟨rfl, rfl, rfl⟩
      case round =>
        obtain ⟨rfl, rfl, rfl⟩ := hrel
        go_wp2_with fail
        clear z0 z1 z2 z3 z4 z5 q0 q1 q2 q3 q4 f0 f1 f2 f3 f4
        clear HBR
        go_loopw [6, 10] (fun x i wr => RelAp w3.heap.size w4 ts t v4 x i wr) (fun _ i _ => 1 - (intOf i).toNat)
        case atStart => exact .inl ⟨rfl, rfl, rfl⟩
        case round =>
          rcases hrel with ⟨rfl, rfl, rfl⟩ | ⟨rfl, ts', hins, ho, hb⟩
          · obtain ⟨A4, c4, rfl, hc4, hr4⟩ := O4.out.reads
            obtain ⟨ad2, rfl, hab2, hT⟩ := tab_at (ts := [t]) (k := 0) (HR2.out.below (H01.out.trans (W4.out.mono hs0))) (by simp)
            rw [show ad2.add (0 * 9) = ad2 by simp [Addr.add]] at hT
            have t0 : w4.cell? ad2 = some (.int .i64 t.num) := hT.h0
            have t1 : w4.cell? ⟨ad2.block, ad2.off + 1, none⟩ = some (.int .i64 t.ep) := hT.h1
            have t2 : w4.cell? ⟨ad2.block, ad2.off + 2, none⟩ = some (.int .i64 t.lev) := hT.h2
            have t3 : w4.cell? ⟨ad2.block, ad2.off + 3, none⟩ = some (.string t.lo) := hT.h3
            have t4 : w4.cell? ⟨ad2.block, ad2.off + 4, none⟩ = some (.string t.hi) := hT.h4
            have t5 : w4.cell? ⟨ad2.block, ad2.off + 5, none⟩ = some (.int .i64 t.size) := hT.h5
            have t6 : w4.cell? ⟨ad2.block, ad2.off + 6, none⟩ = some (.int .i64 t.count) := hT.h6
            have t7 : w4.cell? ⟨ad2.block, ad2.off + 7, none⟩ = some (.bool t.near) := hT.h7
            have t8 : w4.cell? ⟨ad2.block, ad2.off + 8, none⟩ = some (.bool t.far) := hT.h8
            clear hT
            have HP := Lib.hid (fun num => place_calls ts A4 c4 num w4 hr4 (by rw [HL.out]; omega))
            have HWI := Lib.hid (with_calls ts t A4 c4 w4 hr4 hc4 (by rw [HL.out]; omega))
            rw [HL.out] at HP HWI
            rw [HL.out]
            unfold Tab.arg at HWI
            clear hr4 hc4
            have z0 : w4.cell? ⟨w.heap.size + 1, 0, none⟩ = some (.int .i64 e2) := (W4.out.cell (by show w.heap.size + 1 < _; rw [HSZ.out]; omega)).trans (HB2.out.cell 0)
            have z1 : w4.cell? ⟨w.heap.size + 1, 1, none⟩ = some (.int .i64 n2) := (W4.out.cell (by show w.heap.size + 1 < _; rw [HSZ.out]; omega)).trans (HB2.out.cell 1)
            have z2 : w4.cell? ⟨w.heap.size + 1, 2, none⟩ = some (.int .i64 l2) := (W4.out.cell (by show w.heap.size + 1 < _; rw [HSZ.out]; omega)).trans (HB2.out.cell 2)
            have z3 : w4.cell? ⟨w.heap.size + 1, 3, none⟩ = some (.int .i64 g2) := (W4.out.cell (by show w.heap.size + 1 < _; rw [HSZ.out]; omega)).trans (HB2.out.cell 3)
            have z4 : w4.cell? ⟨w.heap.size + 1, 4, none⟩ = some (.slice (some ad2) 1 c2) := (W4.out.cell (by show w.heap.size + 1 < _; rw [HSZ.out]; omega)).trans (HB2.out.cell 4)
            have z5 : w4.cell? ⟨w.heap.size + 1, 5, none⟩ = some (.slice none 0 0) := (W4.out.cell (by show w.heap.size + 1 < _; rw [HSZ.out]; omega)).trans (HB2.out.cell 5)
            have BR : Blk w4 (w.heap.size + 1 + 1) 27 #[.int .i64 0, .int .i64 0, .int .i64 0, .int .i64 0, .slice none 0 0] := HB3.out.below W4.out (by rw [HSZ.out]; omega)
            have q0 : w4.cell? ⟨w.heap.size + 1 + 1, 0, none⟩ = some (.int .i64 0) := BR.cell 0
            have q1 : w4.cell? ⟨w.heap.size + 1 + 1, 1, none⟩ = some (.int .i64 0) := BR.cell 1
            have q2 : w4.cell? ⟨w.heap.size + 1 + 1, 2, none⟩ = some (.int .i64 0) := BR.cell 2
            have q3 : w4.cell? ⟨w.heap.size + 1 + 1, 3, none⟩ = some (.int .i64 0) := BR.cell 3
            have q4 : w4.cell? ⟨w.heap.size + 1 + 1, 4, none⟩ = some (.slice none 0 0) := BR.cell 4
            have f0 : w4.frozen? ⟨w.heap.size + 1 + 1, 0, none⟩ = false := BR.frozen 0
            have f1 : w4.frozen? ⟨w.heap.size + 1 + 1, 1, none⟩ = false := BR.frozen 1
            have f2 : w4.frozen? ⟨w.heap.size + 1 + 1, 2, none⟩ = false := BR.frozen 2
            have f3 : w4.frozen? ⟨w.heap.size + 1 + 1, 3, none⟩ = false := BR.frozen 3
            have f4 : w4.frozen? ⟨w.heap.size + 1 + 1, 4, none⟩ = false := BR.frozen 4
            have HBR := Lib.hid BR
            clear BR
            go_wp2_with fail
            (with_reducible refine (HP.out t.num).mono ?_)
            rintro e' w5 ⟨⟨p, rfl⟩, rfl⟩
            rcases hp : decide (0 ≤ p) with _ | _
            · go_wp2_with fail
              (with_reducible refine HWI.out.mono ?_)
              rintro e' w6 ⟨v6, ts', rfl, hins, ho6, hb6⟩
              have HO6 := Lib.hid (ho6.le H4.out)
              have HB6 := Lib.hid hb6
              have HI := Lib.hid hins
              clear ho6 hb6 hins t0 t1 t2 t3 t4 t5 t6 t7 t8
              clear z0 z1 z2 z3 z4 z5 q0 q1 q2 q3 q4 f0 f1 f2 f3 f4
              clear HBR
              go_wp2_with fail
              go_roundw
              case rel => exact .inr ⟨by go_num, ts', HI.out, HO6.out, HB6.out⟩
              case measure => simp [intOf]
            · go_wp2_with fail
              refine bodyPost_ret (results_ct' rfl _ _ (w.heap.size + 1 + 1) 27 #[.int .i64 0, .int .i64 0, .int .i64 0, .int .i64 0, .slice none 0 0] (0, 0) _ rfl (store5 HBR.out _ _ _ _ _) Tryd.underlying27 rfl (by kernel_rfl)) rfl ⟨_, _, [], 0, 0, 0, 0, rfl, OwnT.nil _ _, below5 (H01.out.trans (W4.out.mono hs0)) (by omega) _ _ _ _ _, fun h => by simp at h⟩
          · obtain ⟨A6, c6, rfl, hc6, hr6⟩ := ho.reads
            have hlen := inserted_len hins
            rw [HL.out] at hlen
            have hb1r := W4.out.trans (hb.mono W4.out.size)
            have hgr : w.heap.size + 1 + 1 < wr.heap.size := by have h1 := H3LT.out; have h2 := H4.out; have h3 := hb.size; omega
            obtain ⟨w7, hw7⟩ : ∃ w7, wr.alloc (.cells #[.int .i64 e2, .int .i64 n2, .int .i64 l2, .int .i64 g2, .slice A6 ts'.length c6] 27) = w7 := ⟨_, rfl⟩
            have hb17 : Below w1.heap.size w1 w7 := by rw [← hw7]; exact hb1r.alloc hb1r.size _
            have ho7 : OwnT w7 w3.heap.size (.slice A6 ts'.length c6) ts' := by rw [← hw7]; exact ho.alloc _
            have hr7 : Reads w7 w7.heap.size 9 A6 ts'.length (tabs ts') := by rw [← hw7]; exact (hr6.alloc (Nat.le_refl _) _).more (by simp)
            have hblk7 : Blk w7 wr.heap.size 27 #[.int .i64 e2, .int .i64 n2, .int .i64 l2, .int .i64 g2, .slice A6 ts'.length c6] := by rw [← hw7]; exact Blk.new _ _ _
            have hgr7 : wr.heap.size < w7.heap.size := by rw [← hw7]; simp
            obtain ⟨G, hG⟩ : ∃ G, wr.heap.size = G := ⟨_, rfl⟩
            rw [hG] at hblk7 hgr7 hgr
            have y0 : w7.cell? ⟨G, 0, none⟩ = some (.int .i64 e2) := hblk7.cell 0
            have y1 : w7.cell? ⟨G, 1, none⟩ = some (.int .i64 n2) := hblk7.cell 1
            have y2 : w7.cell? ⟨G, 2, none⟩ = some (.int .i64 l2) := hblk7.cell 2
            have y3 : w7.cell? ⟨G, 3, none⟩ = some (.int .i64 g2) := hblk7.cell 3
            have y4 : w7.cell? ⟨G, 4, none⟩ = some (.slice A6 ts'.length c6) := hblk7.cell 4
            have HM7 := Lib.hid (may_calls' ts' A6 c6 e2 n2 l2 g2 w7 hr7 (by omega))
            have HO7 := Lib.hid ho7
            have W7 := Lib.hid hb17
            have HBL7 := Lib.hid hblk7
            have HW7 := Lib.hid hw7
            have HGG := Lib.hid hG
            have HG7 := Lib.hid hgr7
            have HI := Lib.hid hins
            have z0 : wr.cell? ⟨w.heap.size + 1, 0, none⟩ = some (.int .i64 e2) := (hb1r.cell (by show w.heap.size + 1 < _; rw [HSZ.out]; omega)).trans (HB2.out.cell 0)
            have z1 : wr.cell? ⟨w.heap.size + 1, 1, none⟩ = some (.int .i64 n2) := (hb1r.cell (by show w.heap.size + 1 < _; rw [HSZ.out]; omega)).trans (HB2.out.cell 1)
            have z2 : wr.cell? ⟨w.heap.size + 1, 2, none⟩ = some (.int .i64 l2) := (hb1r.cell (by show w.heap.size + 1 < _; rw [HSZ.out]; omega)).trans (HB2.out.cell 2)
            have z3 : wr.cell? ⟨w.heap.size + 1, 3, none⟩ = some (.int .i64 g2) := (hb1r.cell (by show w.heap.size + 1 < _; rw [HSZ.out]; omega)).trans (HB2.out.cell 3)
            have z4 : wr.cell? ⟨w.heap.size + 1, 4, none⟩ = some (.slice A2 1 c2) := (hb1r.cell (by show w.heap.size + 1 < _; rw [HSZ.out]; omega)).trans (HB2.out.cell 4)
            have z5 : wr.cell? ⟨w.heap.size + 1, 5, none⟩ = some (.slice none 0 0) := (hb1r.cell (by show w.heap.size + 1 < _; rw [HSZ.out]; omega)).trans (HB2.out.cell 5)
            have BR : Blk w7 (w.heap.size + 1 + 1) 27 #[.int .i64 0, .int .i64 0, .int .i64 0, .int .i64 0, .slice none 0 0] := HB3.out.below hb17 (by rw [HSZ.out]; omega)
            have q0 : w7.cell? ⟨w.heap.size + 1 + 1, 0, none⟩ = some (.int .i64 0) := BR.cell 0
            have q1 : w7.cell? ⟨w.heap.size + 1 + 1, 1, none⟩ = some (.int .i64 0) := BR.cell 1
            have q2 : w7.cell? ⟨w.heap.size + 1 + 1, 2, none⟩ = some (.int .i64 0) := BR.cell 2
            have q3 : w7.cell? ⟨w.heap.size + 1 + 1, 3, none⟩ = some (.int .i64 0) := BR.cell 3
            have q4 : w7.cell? ⟨w.heap.size + 1 + 1, 4, none⟩ = some (.slice none 0 0) := BR.cell 4
            have f0 : w7.frozen? ⟨w.heap.size + 1 + 1, 0, none⟩ = false := BR.frozen 0
            have f1 : w7.frozen? ⟨w.heap.size + 1 + 1, 1, none⟩ = false := BR.frozen 1
            have f2 : w7.frozen? ⟨w.heap.size + 1 + 1, 2, none⟩ = false := BR.frozen 2
            have f3 : w7.frozen? ⟨w.heap.size + 1 + 1, 3, none⟩ = false := BR.frozen 3
            have f4 : w7.frozen? ⟨w.heap.size + 1 + 1, 4, none⟩ = false := BR.frozen 4
            have HBR := Lib.hid BR
            clear BR
            obtain ⟨M, hM⟩ : ∃ M, ts'.length = M := ⟨_, rfl⟩
            have HML := Lib.hid hM
            rw [hM] at hlen y4 HM7 HO7 HBL7 HW7
            rw [hM]
            clear hc6 hr6 ho hb hb17 ho7 hr7 hblk7 hw7 hG hgr7 hins hb1r hM
            have hM9 : M ≤ 900001 := by omega
            clear hlen
            by_cases hbig : 256 < M
            · go_upto_region 21 with (fail)
              rw [HW7.out, HGG.out]
              go_wp2_with fail
              refine bodyPost_ret (results_ct' rfl _ _ (w.heap.size + 1 + 1) 27 #[.int .i64 0, .int .i64 0, .int .i64 0, .int .i64 0, .slice none 0 0] (0, 0) _ rfl (store5 HBR.out _ _ _ _ _) Tryd.underlying27 rfl (by kernel_rfl)) rfl ⟨_, _, [], 0, 0, 0, 0, rfl, OwnT.nil _ _, below5 (H01.out.trans (W7.out.mono hs0)) (by omega) _ _ _ _ _, fun h => by simp at h⟩
            · go_upto_region 21 with (fail)
              rw [HW7.out, HGG.out]
              clear z0 z1 z2 z3 z4 z5
              go_wp2_with fail
              (with_reducible refine HM7.out.mono ?_)
              rintro e' w8 ⟨b, rfl, hb8⟩
              have hb18 := W7.out.trans (hb8.mono W7.out.size)
              have hB8 := HBL7.out.below hb8 HG7.out
              have HO8 := Lib.hid (HO7.out.below hb8)
              clear q0 q1 q2 q3 q4 f0 f1 f2 f3 f4 HBR y0 y1 y2 y3 y4
              have y0 : w8.cell? ⟨G, 0, none⟩ = some (.int .i64 e2) := hB8.cell 0
              have y1 : w8.cell? ⟨G, 1, none⟩ = some (.int .i64 n2) := hB8.cell 1
              have y2 : w8.cell? ⟨G, 2, none⟩ = some (.int .i64 l2) := hB8.cell 2
              have y3 : w8.cell? ⟨G, 3, none⟩ = some (.int .i64 g2) := hB8.cell 3
              have y4 : w8.cell? ⟨G, 4, none⟩ = some (.slice A6 M c6) := hB8.cell 4
              have BR : Blk w8 (w.heap.size + 1 + 1) 27 #[.int .i64 0, .int .i64 0, .int .i64 0, .int .i64 0, .slice none 0 0] := HB3.out.below hb18 (by rw [HSZ.out]; omega)
              have q0 : w8.cell? ⟨w.heap.size + 1 + 1, 0, none⟩ = some (.int .i64 0) := BR.cell 0
              have q1 : w8.cell? ⟨w.heap.size + 1 + 1, 1, none⟩ = some (.int .i64 0) := BR.cell 1
              have q2 : w8.cell? ⟨w.heap.size + 1 + 1, 2, none⟩ = some (.int .i64 0) := BR.cell 2
              have q3 : w8.cell? ⟨w.heap.size + 1 + 1, 3, none⟩ = some (.int .i64 0) := BR.cell 3
              have q4 : w8.cell? ⟨w.heap.size + 1 + 1, 4, none⟩ = some (.slice none 0 0) := BR.cell 4
              have f0 : w8.frozen? ⟨w.heap.size + 1 + 1, 0, none⟩ = false := BR.frozen 0
              have f1 : w8.frozen? ⟨w.heap.size + 1 + 1, 1, none⟩ = false := BR.frozen 1
              have f2 : w8.frozen? ⟨w.heap.size + 1 + 1, 2, none⟩ = false := BR.frozen 2
              have f3 : w8.frozen? ⟨w.heap.size + 1 + 1, 3, none⟩ = false := BR.frozen 3
              have f4 : w8.frozen? ⟨w.heap.size + 1 + 1, 4, none⟩ = false := BR.frozen 4
              have HBR := Lib.hid BR
              clear BR
              have W8 := Lib.hid hb18
              clear hb8 hb18 hB8
              cases b with
              | false =>
                go_wp2_with fail
                refine bodyPost_ret (results_ct' rfl _ _ (w.heap.size + 1 + 1) 27 #[.int .i64 0, .int .i64 0, .int .i64 0, .int .i64 0, .slice none 0 0] (0, 0) _ rfl (store5 HBR.out _ _ _ _ _) Tryd.underlying27 rfl (by kernel_rfl)) rfl ⟨_, _, [], 0, 0, 0, 0, rfl, OwnT.nil _ _, below5 (H01.out.trans (W8.out.mono hs0)) (by omega) _ _ _ _ _, fun h => by simp at h⟩
              | true =>
                go_wp2_with fail
                refine bodyPost_ret (results_ct' rfl _ _ (w.heap.size + 1 + 1) 27 #[.int .i64 e2, .int .i64 n2, .int .i64 l2, .int .i64 g2, .slice A6 M c6] (0, 0) _ rfl (store5 HBR.out _ _ _ _ _) Tryd.underlying27 rfl (by kernel_rfl)) rfl ⟨_, _, ts', e2, n2, l2, g2, rfl, ?_, below5 (H01.out.trans (W8.out.mono hs0)) (by omega) _ _ _ _ _, fun _ => ⟨rfl, rfl, rfl, rfl, HI.out⟩⟩
                exact (own5 HO8.out H3LT.out _ _ _ _ _).le (by have := H3LT.out; omega)
end Go.Proofs.YtpdbdobckjolkaaDoor
