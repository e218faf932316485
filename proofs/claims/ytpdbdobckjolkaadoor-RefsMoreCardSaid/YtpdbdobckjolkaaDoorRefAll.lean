/- What any versions and any mark need: the walk of the law RefsAll. -/
import Derived.Test.YtpdbdobckjolkaaDoorRefAwk
import Derived.Test.YtpdbdobckjolkaaDoorRefMade2
set_option linter.unusedVariables false
set_option linter.unusedSimpArgs false
namespace Go.Proofs.YtpdbdobckjolkaaDoor
open Go.RowKit Go.Sort

def TrueBelow (w : World) (e : Ending) (w' : World) : Prop := e = .returned (.bool true) ∧ Below w.heap.size w w'
structure LawArgs (w : World) (ns ms : List UInt8) (A0 A1 : Option Addr) (names : List ByteArray) (A5 : Option Addr) : Prop where
  r0 : Reads w w.heap.size 1 A0 ns.length (ns.map encB)
  l0 : ns.length ≤ 9223372036854775807
  r1 : Reads w w.heap.size 1 A1 ms.length (ms.map encB)
  l1 : ms.length ≤ 9223372036854775807
  r5 : Reads w w.heap.size 1 A5 names.length (textsV names)
  l5 : names.length ≤ 9223372036854775807

theorem markName_len (num : Int) : (markName num).length ≤ 1 := by unfold markName; split <;> simp
theorem OwnS.rd {w : World} {base n c : Nat} {A : Option Addr} {ss : List ByteArray} (h : OwnS w base (.slice A n c) ss) : Reads w w.heap.size 1 A ss.length (textsV ss) := by
  obtain ⟨A', c', hle, _, hr⟩ := h.reads
  injection hle with q1 q2 q3
  subst q1; exact hr
theorem OwnT.rd {w : World} {base n c : Nat} {A : Option Addr} {ts : List Tab} (h : OwnT w base (.slice A n c) ts) : Reads w w.heap.size 9 A ts.length (tabs ts) := by
  obtain ⟨A', c', hle, _, hr⟩ := h.reads
  injection hle with q1 q2 q3
  subst q1; exact hr
abbrev VerBox (v : Ver) (A : Option Addr) (c : Nat) : Array Value := #[.int .i64 v.e, .int .i64 v.n, .int .i64 v.l, .int .i64 v.g, .slice A v.ts.length c]
structure RA (w : World) (v m : Ver) (Av : Option Addr) (cv : Nat) (Am : Option Addr) (cm p : Nat) (a1 : Value) (l1 : List ByteArray) (a2 : Value) (l2 : List ByteArray) (W : World) : Prop where
  bv : Blk W p 27 #[.int .i64 v.e, .int .i64 v.n, .int .i64 v.l, .int .i64 v.g, .slice Av v.ts.length cv]
  bm : Blk W (p + 1) 27 #[.int .i64 m.e, .int .i64 m.n, .int .i64 m.l, .int .i64 m.g, .slice Am m.ts.length cm]
  ov : OwnT W w.heap.size (.slice Av v.ts.length cv) v.ts
  om : OwnT W w.heap.size (.slice Am m.ts.length cm) m.ts
  o1 : OwnS W w.heap.size a1 l1
  o2 : OwnS W w.heap.size a2 l2
  bel : Below w.heap.size w W
variable {w W W2 : World} {v m : Ver} {Av Am : Option Addr} {cv cm p : Nat} {a1 a2 : Value} {l1 l2 : List ByteArray}
theorem RA.then (h : RA w v m Av cv Am cm p a1 l1 a2 l2 W) (hb : Below W.heap.size W W2) : RA w v m Av cv Am cm p a1 l1 a2 l2 W2 :=
  ⟨h.bv.below hb h.bv.lt, h.bm.below hb h.bm.lt, h.ov.below hb, h.om.below hb, h.o1.below hb, h.o2.below hb, h.bel.trans (hb.mono h.bel.size)⟩
theorem RA.drew (h : RA w v m Av cv Am cm p a1 l1 a2 l2 W) : RA w v m Av cv Am cm p a1 l1 a2 l2 W.drew := h.then ((Below.refl _ _).drew)
theorem RA.first {a : Value} {l : List ByteArray} (h : RA w v m Av cv Am cm p a1 l1 a2 l2 W) (hb : Below W.heap.size W W2) (ho : OwnS W2 W.heap.size a l) : RA w v m Av cv Am cm p a l a2 l2 W2 :=
  { h.then hb with o1 := ho.le h.bel.size }
theorem RA.second {a : Value} {l : List ByteArray} (h : RA w v m Av cv Am cm p a1 l1 a2 l2 W) (hb : Below W.heap.size W W2) (ho : OwnS W2 W.heap.size a l) : RA w v m Av cv Am cm p a1 l1 a l W2 :=
  { h.then hb with o2 := ho.le h.bel.size }
abbrev SAt (w : World) (v m : Ver) (Av : Option Addr) (cv : Nat) (Am : Option Addr) (cm p : Nat) (a1 : Value) (l1 : List ByteArray) (a2 : Value) (l2 : List ByteArray) (W : World) : Prop :=
  W.cell? ⟨p, 0, none⟩ = some (.int .i64 v.e) ∧ W.cell? ⟨p, 1, none⟩ = some (.int .i64 v.n) ∧ W.cell? ⟨p, 2, none⟩ = some (.int .i64 v.l) ∧ W.cell? ⟨p, 3, none⟩ = some (.int .i64 v.g) ∧ W.cell? ⟨p, 4, none⟩ = some (.slice Av v.ts.length cv) ∧ W.cell? ⟨p + 1, 0, none⟩ = some (.int .i64 m.e) ∧ W.cell? ⟨p + 1, 1, none⟩ = some (.int .i64 m.n) ∧ W.cell? ⟨p + 1, 2, none⟩ = some (.int .i64 m.l) ∧ W.cell? ⟨p + 1, 3, none⟩ = some (.int .i64 m.g) ∧ W.cell? ⟨p + 1, 4, none⟩ = some (.slice Am m.ts.length cm) ∧ RA w v m Av cv Am cm p a1 l1 a2 l2 W
theorem SAt.of (h : RA w v m Av cv Am cm p a1 l1 a2 l2 W) : SAt w v m Av cv Am cm p a1 l1 a2 l2 W :=
  ⟨h.bv.cell 0, h.bv.cell 1, h.bv.cell 2, h.bv.cell 3, h.bv.cell 4, h.bm.cell 0, h.bm.cell 1, h.bm.cell 2, h.bm.cell 3, h.bm.cell 4, h⟩
theorem SAt.rel (h : SAt w v m Av cv Am cm p a1 l1 a2 l2 W) : RA w v m Av cv Am cm p a1 l1 a2 l2 W := h.2.2.2.2.2.2.2.2.2.2
theorem SAt.then (h : SAt w v m Av cv Am cm p a1 l1 a2 l2 W) (hb : Below W.heap.size W W2) : SAt w v m Av cv Am cm p a1 l1 a2 l2 W2 := SAt.of (h.rel.then hb)
theorem SAt.drew (h : SAt w v m Av cv Am cm p a1 l1 a2 l2 W) : SAt w v m Av cv Am cm p a1 l1 a2 l2 W.drew := SAt.of h.rel.drew
theorem tabok_of {nx : Int} {ts : List Tab} (h : TabsOk nx 20 ts) : ∀ t ∈ ts, TabOk t := fun t ht => ⟨by have := (h.2.2 t ht).1; have := h.2.1; omega, (h.2.2 t ht).2⟩

set_option maxRecDepth 100000 in
set_option maxHeartbeats 8000000 in
theorem refsAll_calls (ns : List UInt8) (A0 : Option Addr) (c0 : Nat) (ms : List UInt8) (A1 : Option Addr) (c1 : Nat) (list : ByteArray) (num : Int) (s : ByteArray) (names : List ByteArray) (A5 : Option Addr) (c5 : Nat) (log : Int) (w : World)
    (hA : LawArgs w ns ms A0 A1 names A5) (hnum : -9223372036854775808 ≤ num ∧ num ≤ 9223372036854775807) (hL : Laid w) :
    Calls Tryd.prog 3 #[.slice A0 ns.length c0, .slice A1 ms.length c1, .string list, .int .i64 num, .string s, .slice A5 names.length c5, .int .i64 log] w (TrueBelow w) := by
  have HL := Lib.hid hL
  have HARG := Lib.hid hA
  have HAW := Lib.hid (fun W (h : Below w.heap.size w W) => awake25_calls W (hL.below h))
  obtain ⟨n0, hn0⟩ : ∃ n, ns.length = n := ⟨_, rfl⟩
  obtain ⟨n1, hn1⟩ : ∃ n, ms.length = n := ⟨_, rfl⟩
  obtain ⟨n5, hn5⟩ : ∃ n, names.length = n := ⟨_, rfl⟩
  have HM0 := Lib.hid (fun W (h : Below w.heap.size w W) => made_calls ns A0 c0 W ((hA.r0.below h).more h.size) hA.l0)
  have HM1 := Lib.hid (fun W (h : Below w.heap.size w W) => made_calls ms A1 c1 W ((hA.r1.below h).more h.size) hA.l1)
  have HN5 := Lib.hid hn5
  rw [hn0] at HM0 ⊢
  rw [hn1] at HM1 ⊢
  rw [hn5]
  clear hL hA hn0 hn1 hn5
  by_cases hg : 200 < list.size ∨ 200 < s.size ∨ 60 < n5
  · have hg3 : 200 < list.size ∨ (list.size ≤ 200 ∧ 200 < s.size) ∨ (list.size ≤ 200 ∧ s.size ≤ 200 ∧ 60 < n5) := by omega
    clear hg
    rcases hg3 with h | ⟨h, h'⟩ | ⟨h, h', h''⟩
    all_goals (
      go_enter Tryd.func3, Tryd.ntmps3
      go_wp2_with fail
      (with_reducible refine (HAW.out w (Below.refl _ _)).mono ?_)
      rintro e w1 ⟨rfl, hb⟩
      have HB := Lib.hid hb
      clear hb
      go_wp2_with fail
      go_ret
      exact ⟨rfl, HB.out⟩)
  · have h1 : list.size ≤ 200 := by omega
    have h2 : s.size ≤ 200 := by omega
    have h3 : n5 ≤ 60 := by omega
    clear hg
    go_enter Tryd.func3, Tryd.ntmps3
    go_wp2_with fail
    (with_reducible refine (HM0.out w (Below.refl _ _)).mono ?_)
    rintro e w1 ⟨v, vv, rfl, hok1, ho1, hb1⟩
    have HB1 := Lib.hid hb1
    have HO1 := Lib.hid ho1
    have HK1 := Lib.hid hok1
    clear hb1 ho1 hok1
    go_wp2_with fail
    (with_reducible refine (HM1.out w1 HB1.out).mono ?_)
    rintro e w2 ⟨m, mv, rfl, hok2, ho2, hb2⟩
    have HO1' := Lib.hid (HO1.out.below hb2)
    have HB2 := Lib.hid (HB1.out.trans (hb2.mono HB1.out.size))
    have HO2 := Lib.hid (ho2.le HB1.out.size)
    have HK2 := Lib.hid hok2
    obtain ⟨Av, cv, rfl, hcv, _⟩ := HO1'.out.reads
    obtain ⟨Am, cm, rfl, hcm, _⟩ := HO2.out.reads
    clear hb2 ho2 hok2 HO1
    go_upto_region 4 with (fail)
    have hsz2 : w.heap.size ≤ w2.heap.size := HB2.out.size
    obtain ⟨W3, hW3⟩ : ∃ W3, (w2.alloc (.cells #[.int .i64 v.e, .int .i64 v.n, .int .i64 v.l, .int .i64 v.g, .slice Av v.ts.length cv] 27)).alloc (.cells #[.int .i64 m.e, .int .i64 m.n, .int .i64 m.l, .int .i64 m.g, .slice Am m.ts.length cm] 27) = W3 := ⟨_, rfl⟩
    have r3 : RA w v m Av cv Am cm w2.heap.size (.slice none 0 0) [] (.slice none 0 0) [] W3 := by
      rw [← hW3]
      exact ⟨(Blk.new _ _ _).alloc _, Blk.new2 _ _ _ _, (HO1'.out.alloc _).alloc _, (HO2.out.alloc _).alloc _, OwnS.nil _ _, OwnS.nil _ _, (HB2.out.alloc hsz2 _).alloc (by rw [World.size_alloc]; omega) _⟩
    rw [hW3]
    obtain ⟨p, hp⟩ : ∃ p, w2.heap.size = p := ⟨_, rfl⟩
    rw [hp] at r3 ⊢
    have R3 := Lib.hid r3
    have hv20 := HK1.out.1
    have hm20 := HK2.out.1
    have hNL : (risB ([cacheB, currentB, list] ++ nearNames v.ts)).length ≤ 1000000000 := by
      rw [ris_put]
      have := acc_len ([cacheB, currentB, list] ++ nearNames v.ts) (3 + v.ts.length) (by have := nearNames_len v.ts; simp only [List.length_append, List.length_cons, List.length_nil]; omega)
      omega
    have hFL : (risB (farNames v.ts ++ allNames m.ts ++ markName num)).length ≤ 1000000000 := by
      rw [ris_put]
      have := acc_len (farNames v.ts ++ allNames m.ts ++ markName num) (v.ts.length + m.ts.length + 1) (by have := farNames_len v.ts; have := allNames_len m.ts; have := markName_len num; simp only [List.length_append]; omega)
      omega
    have HNR : Hid (∀ (W : World) (a1 a2 : Value) (l1 l2 : List ByteArray), RA w v m Av cv Am cm p a1 l1 a2 l2 W → Calls Tryd.prog 7 #[.agg #[.int .i64 v.e, .int .i64 v.n, .int .i64 v.l, .int .i64 v.g, .slice Av v.ts.length cv], .string list] W (PostNear W (risB ([cacheB, currentB, list] ++ nearNames v.ts)) v.g)) := Lib.hid (fun W a1 a2 l1 l2 h => near_calls v Av cv list W h.ov.rd (by omega) (tabok_of HK1.out) (HL.out.below h.bel))
    have HRN : Hid (∀ (W : World) (a1 a2 : Value) (l1 l2 : List ByteArray), RA w v m Av cv Am cm p a1 l1 a2 l2 W → Calls Tryd.prog 8 #[.agg #[.int .i64 v.e, .int .i64 v.n, .int .i64 v.l, .int .i64 v.g, .slice Av v.ts.length cv], .string list] W (PostNear W (risB ([cacheB, currentB, list] ++ nearNames v.ts)) v.g)) := Lib.hid (fun W a1 a2 l1 l2 h => by rw [ris_put]; exact rnear_calls v Av cv list W h.ov.rd (by omega))
    have HFR : Hid (∀ (W : World) (a1 a2 : Value) (l1 l2 : List ByteArray), SAt w v m Av cv Am cm p a1 l1 a2 l2 W → Calls Tryd.prog 10 #[.agg #[.int .i64 v.e, .int .i64 v.n, .int .i64 v.l, .int .i64 v.g, .slice Av v.ts.length cv], .agg #[.int .i64 m.e, .int .i64 m.n, .int .i64 m.l, .int .i64 m.g, .slice Am m.ts.length cm], .int .i64 num] W (PostS W.heap.size W (risB (farNames v.ts ++ allNames m.ts ++ markName num)))) := Lib.hid (fun W a1 a2 l1 l2 h => far_calls v m Av Am cv cm num W h.rel.ov.rd h.rel.om.rd (by omega) (by omega) (tabok_of HK1.out) (tabok_of HK2.out) hnum (HL.out.below h.rel.bel))
    have HRF : Hid (∀ (W : World) (a1 a2 : Value) (l1 l2 : List ByteArray), SAt w v m Av cv Am cm p a1 l1 a2 l2 W → Calls Tryd.prog 11 #[.agg #[.int .i64 v.e, .int .i64 v.n, .int .i64 v.l, .int .i64 v.g, .slice Av v.ts.length cv], .agg #[.int .i64 m.e, .int .i64 m.n, .int .i64 m.l, .int .i64 m.g, .slice Am m.ts.length cm], .int .i64 num] W (PostS W.heap.size W (risB (farNames v.ts ++ allNames m.ts ++ markName num)))) := Lib.hid (fun W a1 a2 l1 l2 h => by rw [ris_put]; exact rfar_calls v m Av Am cv cm num W h.rel.ov.rd h.rel.om.rd (by omega) (by omega))
    have HND : Hid (∀ (W : World) (a1 a2 : Value) (l1 l2 : List ByteArray), SAt w v m Av cv Am cm p a1 l1 a2 l2 W → Calls Tryd.prog 12 #[.string s, .slice A5 n5 c5, .int .i64 log] W fun e w' => e = .returned (.bool (neededB s names log)) ∧ Below W.heap.size W w') := Lib.hid (fun W a1 a2 l1 l2 h => by
      have := needed_calls s names A5 c5 log W (by omega) ((HARG.out.r5.below h.rel.bel).more h.rel.bel.size) HARG.out.l5 (HL.out.below h.rel.bel)
      rw [HN5.out] at this; exact this)
    have HRD : Hid (∀ (W : World) (a1 a2 : Value) (l1 l2 : List ByteArray), SAt w v m Av cv Am cm p a1 l1 a2 l2 W → Calls Tryd.prog 13 #[.string s, .slice A5 n5 c5, .int .i64 log] W fun e w' => e = .returned (.bool (neededB s names log)) ∧ Below W.heap.size W w') := Lib.hid (fun W a1 a2 l1 l2 h => by
      have := rneeded_calls s names A5 c5 log W (by omega) ((HARG.out.r5.below h.rel.bel).more h.rel.bel.size) HARG.out.l5
      rw [HN5.out] at this; exact this)
    have HAK : Hid (∀ (W : World) (a1 a2 : Value) (l1 l2 : List ByteArray), SAt w v m Av cv Am cm p a1 l1 a2 l2 W → Calls Tryd.prog 5 #[] W fun e w' => e = .returned (.bool true) ∧ Below W.heap.size W w') := Lib.hid (fun W a1 a2 l1 l2 h => HAW.out W h.rel.bel)
    generalize (risB ([cacheB, currentB, list] ++ nearNames v.ts)) = NL at hNL HNR HRN
    generalize (risB (farNames v.ts ++ allNames m.ts ++ markName num)) = FL at hFL HFR HRF
    generalize neededB s names log = nb at HND HRD
    have HT1 : Hid (∀ (W : World) (A c A' c') , SAt w v m Av cv Am cm p (.slice A NL.length c) NL (.slice A' NL.length c') NL W → Calls Tryd.prog 9 #[.slice A NL.length c, .slice A' NL.length c'] W fun e w' => e = .returned (.bool true) ∧ Below W.heap.size W w') := Lib.hid (fun W A c A' c' h => texts_calls NL A c A' c' W h.rel.o1.rd h.rel.o2.rd hNL)
    have HT2 : Hid (∀ (W : World) (b b' : Nat) (A c A' c') , OwnS W b (.slice A FL.length c) FL → OwnS W b' (.slice A' FL.length c') FL → Calls Tryd.prog 9 #[.slice A FL.length c, .slice A' FL.length c'] W fun e w' => e = .returned (.bool true) ∧ Below W.heap.size W w') := Lib.hid (fun W b b' A c A' c' h h' => texts_calls FL A c A' c' W h.rd h'.rd hFL)
    clear r3 hW3 hp hsz2 hNL hFL HL HARG HAW HM0 HM1 HN5 HB1 HO1' HB2 HO2 HK1 HK2 h1 h2 h3 hnum hcv hcm hv20 hm20
    obtain ⟨⟨x0, x1, x2, x3, x4⟩, _⟩ := R3.out.bv.five
    go_wp2_with fail
    (with_reducible refine (HNR.out W3 _ _ _ _ R3.out).mono ?_)
    rintro e w4 ⟨a1, rfl, hoa, hba⟩
    have R4 := Lib.hid (R3.out.first hba hoa)
    obtain ⟨Aa, ca, rfl, _, _⟩ := hoa.reads
    clear hoa hba x0 x1 x2 x3 x4 R3
    obtain ⟨⟨x0, x1, x2, x3, x4⟩, _⟩ := R4.out.bv.five
    go_wp2_with fail
    (with_reducible refine (HRN.out w4 _ _ _ _ R4.out).mono ?_)
    rintro e w5 ⟨a2, rfl, hob, hbb⟩
    have r5 := R4.out.second hbb hob
    obtain ⟨Ab, cb, rfl, _, _⟩ := hob.reads
    clear hob hbb x0 x1 x2 x3 x4 R4
    have hM : SAt w v m Av cv Am cm p (.slice Aa NL.length ca) NL (.slice Ab NL.length cb) NL w5 := SAt.of r5
    have hM2 := hM
    obtain ⟨x0, x1, x2, x3, x4, y0, y1, y2, y3, y4, _⟩ := hM2
    clear r5
    have HFR := Lib.hid (fun W h => HFR.out W (.slice Aa NL.length ca) (.slice Ab NL.length cb) NL NL h)
    have HRF := Lib.hid (fun W h => HRF.out W (.slice Aa NL.length ca) (.slice Ab NL.length cb) NL NL h)
    have HND := Lib.hid (fun W h => HND.out W (.slice Aa NL.length ca) (.slice Ab NL.length cb) NL NL h)
    have HRD := Lib.hid (fun W h => HRD.out W (.slice Aa NL.length ca) (.slice Ab NL.length cb) NL NL h)
    have HAK := Lib.hid (fun W h => HAK.out W (.slice Aa NL.length ca) (.slice Ab NL.length cb) NL NL h)
    go_wp2_with fail
    go_region_held3 (fun w' => w'.cell? ⟨p, 0, none⟩ = some (.int .i64 v.e) ∧ w'.cell? ⟨p, 1, none⟩ = some (.int .i64 v.n) ∧ w'.cell? ⟨p, 2, none⟩ = some (.int .i64 v.l) ∧ w'.cell? ⟨p, 3, none⟩ = some (.int .i64 v.g) ∧ w'.cell? ⟨p, 4, none⟩ = some (.slice Av v.ts.length cv) ∧ w'.cell? ⟨p + 1, 0, none⟩ = some (.int .i64 m.e) ∧ w'.cell? ⟨p + 1, 1, none⟩ = some (.int .i64 m.n) ∧ w'.cell? ⟨p + 1, 2, none⟩ = some (.int .i64 m.l) ∧ w'.cell? ⟨p + 1, 3, none⟩ = some (.int .i64 m.g) ∧ w'.cell? ⟨p + 1, 4, none⟩ = some (.slice Am m.ts.length cm) ∧ RA w v m Av cv Am cm p (.slice Aa NL.length ca) NL (.slice Ab NL.length cb) NL w')
      (first
        | (with_reducible assumption)
        | ((with_reducible refine SAt.then (W := _) ?_ hb12); assumption)
        | ((with_reducible refine SAt.then (W := _) ?_ hb11); assumption)
        | ((with_reducible refine SAt.then (W := _) ?_ hb10); assumption)
        | ((with_reducible refine SAt.then (W := _) ?_ hb9); assumption)
        | ((with_reducible refine SAt.then (W := _) ?_ hb8); assumption)
        | ((with_reducible refine SAt.then (W := _) ?_ hb7); assumption)
        | ((with_reducible refine SAt.then (W := _) ?_ hb6); assumption)
        | ((with_reducible refine SAt.drew (W := _) ?_); assumption))
      (first
        | (go_at_call 9; (with_reducible refine (HT1.out _ _ _ _ _ ?hmd).mono ?_); (case hmd => assumption); rintro e' w6 ⟨rfl, hb6⟩)
        | (go_at_call 10; (with_reducible refine (HFR.out _ ?hmd).mono ?_); (case hmd => assumption); rintro e' w7 ⟨f1, rfl, ho7, hb7⟩; obtain ⟨Af, cf, rfl, _, _⟩ := ho7.reads)
        | (go_at_call 11; (with_reducible refine (HRF.out _ ?hmd).mono ?_); (case hmd => assumption); rintro e' w8 ⟨f2, rfl, ho8, hb8⟩; obtain ⟨Ag, cg, rfl, _, _⟩ := ho8.reads)
        | (go_at_call 9; (with_reducible refine (HT2.out _ _ _ _ _ _ _ (ho7.below hb8) ho8).mono ?_); rintro e' w9 ⟨rfl, hb9⟩)
        | (go_at_call 12; (with_reducible refine (HND.out _ ?hmd).mono ?_); (case hmd => assumption); rintro e' w10 ⟨rfl, hb10⟩)
        | (go_at_call 13; (with_reducible refine (HRD.out _ ?hmd).mono ?_); (case hmd => assumption); rintro e' w11 ⟨rfl, hb11⟩)
        | (go_at_call 5; (with_reducible refine (HAK.out _ ?hmd).mono ?_); (case hmd => assumption); rintro e' w12 ⟨rfl, hb12⟩))
    all_goals (
      rename_i hS
      have HS := Lib.hid (SAt.rel hS).bel
      clear hS
      go_wp2_with fail
      go_ret
      exact ⟨rfl, HS.out⟩)
end Go.Proofs.YtpdbdobckjolkaaDoor
