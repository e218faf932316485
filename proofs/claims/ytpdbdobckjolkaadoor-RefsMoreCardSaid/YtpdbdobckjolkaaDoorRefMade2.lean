/- Versions made by numbers: the walk of Made. -/
import Derived.Test.YtpdbdobckjolkaaDoorRefMade
import Derived.Test.YtpdbdobckjolkaaDoorRefVer
set_option linter.unusedVariables false
set_option linter.unusedSimpArgs false
namespace Go.Proofs.YtpdbdobckjolkaaDoor
open Go.RowKit

structure RelM (w : World) (e nx a b : Int) (vv : Value) (ts : List Tab) (lv : Value) (ls : List Tab) (wr : World) : Prop where
  res : Blk wr w.heap.size 27 #[.int .i64 0, .int .i64 0, .int .i64 0, .int .i64 0, .slice none 0 0]
  box : Blk wr (w.heap.size + 1) 27 #[.int .i64 e, .int .i64 nx, .int .i64 a, .int .i64 b, vv]
  ov : OwnT wr (w.heap.size + 2) vv ts
  ol : OwnT wr (w.heap.size + 2) lv ls
  bel : Below w.heap.size w wr
theorem RelM.size {w : World} {e nx a b : Int} {vv : Value} {ts : List Tab} {lv : Value} {ls : List Tab} {wr : World} (h : RelM w e nx a b vv ts lv ls wr) : w.heap.size + 2 ≤ wr.heap.size := h.box.lt
theorem RelM.then {w : World} {e nx a b : Int} {vv : Value} {ts : List Tab} {lv : Value} {ls : List Tab} {wr w2 : World} (h : RelM w e nx a b vv ts lv ls wr) (hb : Below wr.heap.size wr w2) : RelM w e nx a b vv ts lv ls w2 :=
  ⟨h.res.below hb h.res.lt, h.box.below hb h.box.lt, h.ov.below hb, h.ol.below hb, h.bel.trans (hb.mono h.bel.size)⟩
structure OwnLt (B : Nat) (vv lv : Value) : Prop where
  v : ∀ k, vv.ownBlock = some k → k < B
  l : ∀ k, lv.ownBlock = some k → k < B
theorem RelM.set {w : World} {e nx a b : Int} {vv : Value} {ts : List Tab} {lv : Value} {ls : List Tab} {wr : World} (h : RelM w e nx a b vv ts lv ls wr) {B G j : Nat} (hB : w.heap.size + 2 ≤ B) (ho : OwnLt B vv lv) (hG : B ≤ G) (u : Value) : RelM w e nx a b vv ts lv ls (wr.setCell ⟨G, j, none⟩ u) :=
  ⟨h.res.far (by show w.heap.size ≠ G; omega) u, h.box.far (by show w.heap.size + 1 ≠ G; omega) u, h.ov.setOff (fun e => by have := ho.v _ e; simp at this; omega) u, h.ol.setOff (fun e => by have := ho.l _ e; simp at this; omega) u, h.bel.setCell (by show w.heap.size ≤ G; omega) u⟩
theorem TabAt.set {wr : World} {x : Addr} {t : Tab} (h : TabAt wr x t) {G j : Nat} (hG : x.block ≠ G) (u : Value) : TabAt (wr.setCell ⟨G, j, none⟩ u) x t := by
  have o : ∀ q : Addr, q.block = x.block → (wr.setCell ⟨G, j, none⟩ u).cell? q = wr.cell? q := fun q hq => World.cell?_setCell_other wr ⟨G, j, none⟩ q u (fun e => by have := congrArg Addr.block e; simp at this; omega)
  exact ⟨(o _ rfl).trans h.h0, (o ⟨_, _, none⟩ rfl).trans h.h1, (o ⟨_, _, none⟩ rfl).trans h.h2, (o ⟨_, _, none⟩ rfl).trans h.h3, (o ⟨_, _, none⟩ rfl).trans h.h4, (o ⟨_, _, none⟩ rfl).trans h.h5, (o ⟨_, _, none⟩ rfl).trans h.h6, (o ⟨_, _, none⟩ rfl).trans h.h7, (o ⟨_, _, none⟩ rfl).trans h.h8⟩
theorem tabsok_dummy : True := trivial
abbrev MdAt (w : World) (e nx a b : Int) (A : Option Addr) (c TL : Nat) (ts : List Tab) (lv : Value) (ls : List Tab) (ad : Addr) (k : Nat) (t : Tab) (wr : World) : Prop :=
  wr.cell? ⟨w.heap.size + 1, 0, none⟩ = some (.int .i64 e) ∧ wr.cell? ⟨w.heap.size + 1, 1, none⟩ = some (.int .i64 nx) ∧ wr.cell? ⟨w.heap.size + 1, 2, none⟩ = some (.int .i64 a) ∧ wr.cell? ⟨w.heap.size + 1, 3, none⟩ = some (.int .i64 b) ∧ wr.cell? ⟨w.heap.size + 1, 4, none⟩ = some (.slice A TL c) ∧ wr.cell? (ad.add (k * 9)) = some (.int .i64 t.num) ∧ wr.cell? ⟨(ad.add (k * 9)).block, (ad.add (k * 9)).off + 1, none⟩ = some (.int .i64 t.ep) ∧ wr.cell? ⟨(ad.add (k * 9)).block, (ad.add (k * 9)).off + 2, none⟩ = some (.int .i64 t.lev) ∧ wr.cell? ⟨(ad.add (k * 9)).block, (ad.add (k * 9)).off + 3, none⟩ = some (.string t.lo) ∧ wr.cell? ⟨(ad.add (k * 9)).block, (ad.add (k * 9)).off + 4, none⟩ = some (.string t.hi) ∧ wr.cell? ⟨(ad.add (k * 9)).block, (ad.add (k * 9)).off + 5, none⟩ = some (.int .i64 t.size) ∧ wr.cell? ⟨(ad.add (k * 9)).block, (ad.add (k * 9)).off + 6, none⟩ = some (.int .i64 t.count) ∧ wr.cell? ⟨(ad.add (k * 9)).block, (ad.add (k * 9)).off + 7, none⟩ = some (.bool t.near) ∧ wr.cell? ⟨(ad.add (k * 9)).block, (ad.add (k * 9)).off + 8, none⟩ = some (.bool t.far) ∧ RelM w e nx a b (.slice A TL c) ts lv ls wr
theorem MdAt.of {w : World} {e nx a b : Int} {A : Option Addr} {c TL : Nat} {ts : List Tab} {lv : Value} {ls : List Tab} {ad : Addr} {k : Nat} {t : Tab} {wr : World} (h : RelM w e nx a b (.slice A TL c) ts lv ls wr) (q : TabAt wr (ad.add (k * 9)) t) : MdAt w e nx a b A c TL ts lv ls ad k t wr :=
  ⟨h.box.cell 0, h.box.cell 1, h.box.cell 2, h.box.cell 3, h.box.cell 4, q.h0, q.h1, q.h2, q.h3, q.h4, q.h5, q.h6, q.h7, q.h8, h⟩
theorem MdAt.tab {w : World} {e nx a b : Int} {A : Option Addr} {c TL : Nat} {ts : List Tab} {lv : Value} {ls : List Tab} {ad : Addr} {k : Nat} {t : Tab} {wr : World} (h : MdAt w e nx a b A c TL ts lv ls ad k t wr) : TabAt wr (ad.add (k * 9)) t :=
  ⟨h.2.2.2.2.2.1, h.2.2.2.2.2.2.1, h.2.2.2.2.2.2.2.1, h.2.2.2.2.2.2.2.2.1, h.2.2.2.2.2.2.2.2.2.1, h.2.2.2.2.2.2.2.2.2.2.1, h.2.2.2.2.2.2.2.2.2.2.2.1, h.2.2.2.2.2.2.2.2.2.2.2.2.1, h.2.2.2.2.2.2.2.2.2.2.2.2.2.1⟩
theorem MdAt.rel {w : World} {e nx a b : Int} {A : Option Addr} {c TL : Nat} {ts : List Tab} {lv : Value} {ls : List Tab} {ad : Addr} {k : Nat} {t : Tab} {wr : World} (h : MdAt w e nx a b A c TL ts lv ls ad k t wr) : RelM w e nx a b (.slice A TL c) ts lv ls wr := h.2.2.2.2.2.2.2.2.2.2.2.2.2.2
theorem MdAt.then {w : World} {e nx a b : Int} {A : Option Addr} {c TL : Nat} {ts : List Tab} {lv : Value} {ls : List Tab} {ad : Addr} {k : Nat} {t : Tab} {wr w2 : World} (h : MdAt w e nx a b A c TL ts lv ls ad k t wr) (hb : Below wr.heap.size wr w2) : MdAt w e nx a b A c TL ts lv ls ad k t w2 :=
  MdAt.of (h.rel.then hb) (h.tab.keep hb (World.block_lt_of_cell? _ _ h.tab.h0))
theorem MdAt.drew {w : World} {e nx a b : Int} {A : Option Addr} {c TL : Nat} {ts : List Tab} {lv : Value} {ls : List Tab} {ad : Addr} {k : Nat} {t : Tab} {wr : World} (h : MdAt w e nx a b A c TL ts lv ls ad k t wr) : MdAt w e nx a b A c TL ts lv ls ad k t wr.drew := h.then ((Below.refl _ _).drew)
theorem MdAt.alloc {w : World} {e nx a b : Int} {A : Option Addr} {c TL : Nat} {ts : List Tab} {lv : Value} {ls : List Tab} {ad : Addr} {k : Nat} {t : Tab} {wr : World} (h : MdAt w e nx a b A c TL ts lv ls ad k t wr) (o : Obj) : MdAt w e nx a b A c TL ts lv ls ad k t (wr.alloc o) := h.then ((Below.refl _ _).alloc (Nat.le_refl _) _)
abbrev sets5 (w : World) (g : Nat) (a' b' c' d' e' : Value) : World := ((((w.setCell ⟨g, 0, none⟩ a').setCell ⟨g, 1, none⟩ b').setCell ⟨g, 2, none⟩ c').setCell ⟨g, 3, none⟩ d').setCell ⟨g, 4, none⟩ e'
theorem MdAt.set {w : World} {e nx a b : Int} {A : Option Addr} {c TL : Nat} {ts : List Tab} {lv : Value} {ls : List Tab} {ad : Addr} {k : Nat} {t : Tab} {wr : World} (h : MdAt w e nx a b A c TL ts lv ls ad k t wr) {B G j : Nat} (hB : w.heap.size + 2 ≤ B) (ho : OwnLt B (.slice A TL c) lv) (hG : B ≤ G) (hab : ad.block < B) (u : Value) : MdAt w e nx a b A c TL ts lv ls ad k t (wr.setCell ⟨G, j, none⟩ u) :=
  MdAt.of (h.rel.set hB ho hG u) (h.tab.set (by rw [block_of_add]; omega) u)
theorem MdAt.fives {w : World} {e nx a b : Int} {A : Option Addr} {c TL : Nat} {ts : List Tab} {lv : Value} {ls : List Tab} {ad : Addr} {k : Nat} {t : Tab} {wr : World} (h : MdAt w e nx a b A c TL ts lv ls ad k t wr) {G : Nat} (B : Nat) (hB : w.heap.size + 2 ≤ B) (ho : OwnLt B (.slice A TL c) lv) (hG : B ≤ G) (hab : ad.block < B) (a' b' c' d' e' : Value) : MdAt w e nx a b A c TL ts lv ls ad k t (sets5 wr G a' b' c' d' e') :=
  ((((h.set hB ho hG hab a').set hB ho hG hab b').set hB ho hG hab c').set hB ho hG hab d').set hB ho hG hab e'
theorem MdAt.realloc {w : World} {e nx a b : Int} {A : Option Addr} {c TL : Nat} {ts : List Tab} {lv : Value} {ls : List Tab} {ad : Addr} {k : Nat} {t : Tab} {wr : World} {T : TypeId} {cs : Array Value} (h : MdAt w e nx a b A c TL ts lv ls ad k t (wr.alloc (.cells cs T))) (h0 : MdAt w e nx a b A c TL ts lv ls ad k t wr) (cs' : Array Value) : MdAt w e nx a b A c TL ts lv ls ad k t (wr.alloc (.cells cs' T)) := h0.alloc _
theorem Blk.five {w : World} {g : Nat} {T : TypeId} {a0 a1 a2 a3 a4 : Value} (h : Blk w g T #[a0, a1, a2, a3, a4]) :
    (w.cell? ⟨g, 0, none⟩ = some a0 ∧ w.cell? ⟨g, 1, none⟩ = some a1 ∧ w.cell? ⟨g, 2, none⟩ = some a2 ∧ w.cell? ⟨g, 3, none⟩ = some a3 ∧ w.cell? ⟨g, 4, none⟩ = some a4) ∧
    (w.frozen? ⟨g, 0, none⟩ = false ∧ w.frozen? ⟨g, 1, none⟩ = false ∧ w.frozen? ⟨g, 2, none⟩ = false ∧ w.frozen? ⟨g, 3, none⟩ = false ∧ w.frozen? ⟨g, 4, none⟩ = false) :=
  ⟨⟨h.cell 0, h.cell 1, h.cell 2, h.cell 3, h.cell 4⟩, ⟨h.frozen 0, h.frozen 1, h.frozen 2, h.frozen 3, h.frozen 4⟩⟩
theorem Blk.new2 (X : World) (o : Obj) (T : TypeId) (cs : Array Value) : Blk ((X.alloc o).alloc (.cells cs T)) (X.heap.size + 1) T cs := by
  have h := Blk.new (X.alloc o) T cs
  rw [World.size_alloc] at h; exact h
theorem readsBlkT {w : World} {g : Nat} {t : Tab} (h : Blk w g 36 #[.int .i64 t.num, .int .i64 t.ep, .int .i64 t.lev, .string t.lo, .string t.hi, .int .i64 t.size, .int .i64 t.count, .bool t.near, .bool t.far]) : Reads w w.heap.size 9 (some ⟨g, 0, none⟩) 1 (tabs [t]) := by
  refine ⟨rfl, fun _ => ⟨_, rfl, h.lt, ?_⟩⟩
  intro j u' hu
  have ha : (⟨g, 0, none⟩ : Addr).add j = ⟨g, j, none⟩ := by unfold Addr.add; split <;> simp_all
  rw [ha, h.cell]
  simpa [tabs, Tab.cells] using hu
theorem results_c' {P : Program} {fn : Func} {p : Tmp} {ty : TypeId} (h : fn.results = #[.cell p ty]) (tmps : Array Value) (w : World) (g : Nat) (t : TypeId) (cs : Array Value) (fr : Nat × Nat) (d : TypeDesc)
    (hp : tmps.getD p undef = .pointer (some ⟨g, 0, none⟩)) (hg : w.heap[g]? = some (.cells cs t fr)) (hu : P.underlying ty = some d) (hd : (match d with | .struct _ | .array _ _ => true | _ => false) = true) (hi : (P.info? ty).map (·.size) = some cs.size) :
    (results fn tmps).run P w = .ok (.agg cs) w := by
  have hp' : tmps[p]?.getD undef = .pointer (some ⟨g, 0, none⟩) := by simpa using hp
  simp [results, h, hp', asAddr, run_loadVar_row w g t ty cs fr d hg hu hd hi]
/-- what the tables of a version made so far are -/
def TabsOk (nx : Int) (n : Nat) (ts : List Tab) : Prop := ts.length ≤ n ∧ (1 ≤ nx ∧ nx ≤ n + 1) ∧ ∀ t ∈ ts, (1 ≤ t.num ∧ t.num < nx) ∧ (-9223372036854775808 ≤ t.ep ∧ t.ep ≤ 9223372036854775807)
theorem blk5 {w : World} {h : Nat} {T : TypeId} {cs : Array Value} (hb : Blk w h T cs) {g : Nat} (hg : h ≠ g) (a' b' c' d' e' : Value) : Blk (sets5 w g a' b' c' d' e') h T cs :=
  ((((hb.far (p := ⟨g, 0, none⟩) hg a').far (p := ⟨g, 1, none⟩) hg b').far (p := ⟨g, 2, none⟩) hg c').far (p := ⟨g, 3, none⟩) hg d').far (p := ⟨g, 4, none⟩) hg e'
theorem tabsok_mono {nx : Int} {k : Nat} {ts : List Tab} (h : TabsOk nx k ts) : TabsOk nx (k + 1) ts := ⟨by have := h.1; omega, by have := h.2.1; omega, h.2.2⟩
theorem tabsok_le {nx : Int} {k n : Nat} {ts : List Tab} (h : TabsOk nx k ts) (hk : k ≤ n) : TabsOk nx n ts := ⟨by have := h.1; omega, by have := h.2.1; omega, h.2.2⟩
theorem tabsok_ins {nx : Int} {k : Nat} {ts ts' : List Tab} {t : Tab} (h : TabsOk nx k ts) (hi : Inserted ts t ts') (hn : t.num = (k : Int) + 1 ∧ (-9223372036854775808 ≤ t.ep ∧ t.ep ≤ 9223372036854775807)) : TabsOk ((k : Int) + 2) (k + 1) ts' := by
  have hl := inserted_len hi
  obtain ⟨h1, h2, h3⟩ := h
  refine ⟨by omega, by omega, ?_⟩
  intro x hx
  obtain ⟨j, hj, rfl⟩ := hi
  rcases List.mem_append.1 hx with h | h
  · have := h3 x (List.mem_of_mem_take h); exact ⟨by omega, this.2⟩
  · rcases List.mem_cons.1 h with rfl | h
    · exact ⟨by omega, hn.2⟩
    · have := h3 x (List.mem_of_mem_drop h); exact ⟨by omega, this.2⟩
def PostMade (w : World) (e : Ending) (w' : World) : Prop := ∃ (x : Ver) (vv : Value), e = .returned (.agg #[.int .i64 x.e, .int .i64 x.n, .int .i64 x.l, .int .i64 x.g, vv]) ∧ TabsOk x.n 20 x.ts ∧ OwnT w' w.heap.size vv x.ts ∧ Below w.heap.size w w'
def RelMade (w : World) (lv : Value) (ls : List Tab) (n : Nat) (i : Value) (wr : World) : Prop :=
  ∃ (k : Nat) (e nx a b : Int) (vv : Value) (ts : List Tab), k ≤ n ∧ i = .int .i64 k ∧ TabsOk nx k ts ∧ RelM w e nx a b vv ts lv ls wr
set_option maxRecDepth 100000 in
set_option maxHeartbeats 8000000 in
theorem made_calls (bs : List UInt8) (A0 : Option Addr) (c0 : Nat) (w : World) (hr : Reads w w.heap.size 1 A0 bs.length (bs.map encB)) (hl : bs.length ≤ 9223372036854775807) :
    Calls Tryd.prog 6 #[.slice A0 bs.length c0] w (PostMade w) := by
  obtain ⟨w1, hw1⟩ : ∃ w1, (w.alloc (.cells #[.int .i64 0, .int .i64 0, .int .i64 0, .int .i64 0, .slice none 0 0] 27)).alloc (.cells #[.int .i64 3, .int .i64 1, .int .i64 0, .int .i64 0, .slice none 0 0] 27) = w1 := ⟨_, rfl⟩
  have hsz : w1.heap.size = w.heap.size + 2 := by rw [← hw1]; simp
  have hb01 : Below w.heap.size w w1 := by rw [← hw1]; exact ((Below.refl _ _).alloc (Nat.le_refl _) _).alloc (by simp) _
  have hres : Blk w1 w.heap.size 27 #[.int .i64 0, .int .i64 0, .int .i64 0, .int .i64 0, .slice none 0 0] := by rw [← hw1]; exact (Blk.new w _ _).alloc _
  have hbox : Blk w1 (w.heap.size + 1) 27 #[.int .i64 3, .int .i64 1, .int .i64 0, .int .i64 0, .slice none 0 0] := by
    rw [← hw1]
    have := Blk.new (w.alloc (.cells #[.int .i64 0, .int .i64 0, .int .i64 0, .int .i64 0, .slice none 0 0] 27)) 27 #[.int .i64 3, .int .i64 1, .int .i64 0, .int .i64 0, .slice none 0 0]
    rw [World.size_alloc] at this; exact this
  have HT := Lib.hid (tables_calls bs A0 c0 w1 ((hr.below hb01).more (by omega)) hl)
  obtain ⟨bl, hbl⟩ : ∃ bl, bs.length = bl := ⟨_, rfl⟩
  rw [hbl] at HT ⊢
  have HW1 := Lib.hid hw1
  have HSZ := Lib.hid hsz
  have H01 := Lib.hid hb01
  have HRES := Lib.hid hres
  have HBOX := Lib.hid hbox
  clear hw1 hsz hb01 hres hbox hbl hr hl
  go_enter Tryd.func6, Tryd.ntmps6
  go_wp2_with fail
  rw [HW1.out]
  (with_reducible refine HT.out.mono ?_)
  rintro e' w2 ⟨lv, ls, rfl, hl20, hnums, hol, hb12⟩
  obtain ⟨Al, cl, rfl, hcl, hrl⟩ := hol.reads
  have r2 : RelM w 3 1 0 0 (.slice none 0 0) [] (.slice Al ls.length cl) ls w2 := ⟨HRES.out.below hb12 (by rw [HSZ.out]; omega), HBOX.out.below hb12 (by rw [HSZ.out]; omega), OwnT.nil _ _, hol.le (by rw [HSZ.out]; omega), H01.out.trans (hb12.mono (by rw [HSZ.out]; omega))⟩
  have R2 := Lib.hid r2
  have HNU := Lib.hid hnums
  obtain ⟨n, hn⟩ : ∃ n, ls.length = n := ⟨_, rfl⟩
  have HN := Lib.hid hn
  rw [hn] at hl20 R2 ⊢
  clear r2 hnums hol hb12 hcl hrl hn
  go_wp2_with fail
  go_loopw [5] (fun i wr => RelMade w (.slice Al n cl) ls n i wr) (fun i _ => n - (intOf i).toNat)
  case atStart => exact ⟨0, 3, 1, 0, 0, _, [], Nat.zero_le _, rfl, ⟨by simp, by omega, fun t h => by simp at h⟩, R2.out⟩
  case round =>
    obtain ⟨k, e, nx, a, b, vv, ts, hk, rfl, hok, hR⟩ := hrel
    obtain ⟨A, c, rfl, hc, hrv⟩ := hR.ov.reads
    obtain ⟨Al', cl', hle, _, hrl⟩ := hR.ol.reads
    obtain ⟨TL, hTL⟩ : ∃ TL, ts.length = TL := ⟨_, rfl⟩
    rw [hTL] at hR hc
    have HTL := Lib.hid hTL
    have HOK := Lib.hid hok
    have HRM := Lib.hid hR
    by_cases hlt : k < n
    · have hkl : k < ls.length := by rw [HN.out]; exact hlt
      injection hle with hle1 hle2 hle3
      subst hle1
      obtain ⟨ad, rfl, hab, hT⟩ := tab_at hrl hkl
      have hnu := HNU.out k hkl
      generalize ls[k] = t at hT hnu
      have hM : MdAt w e nx a b A c TL ts (.slice (some ad) n cl) ls ad k t wr := MdAt.of hR hT
      have hM2 := hM
      obtain ⟨x0, x1, x2, x3, x4, y0, y1, y2, y3, y4, y5, y6, y7, y8, _⟩ := hM2
      have e1 : IntKind.i64.wrap (t.num + 1) = (k : Int) + 2 := by rw [hnu.1, IntWalk.i64_in _ (by omega)]; omega
      have hB2 : w.heap.size + 2 ≤ wr.heap.size := hR.size
      have HOL : Hid (OwnLt wr.heap.size (.slice A TL c) (.slice (some ad) n cl)) := Lib.hid ⟨fun k h => (hR.ov.block k h).2, fun k h => (hR.ol.block k h).2⟩
      have HAP : Hid (∀ (cur : World) (g : Nat), MdAt w e nx a b A c TL ts (.slice (some ad) n cl) ls ad k t cur → Blk cur g 36 #[.int .i64 t.num, .int .i64 t.ep, .int .i64 t.lev, .string t.lo, .string t.hi, .int .i64 t.size, .int .i64 t.count, .bool t.near, .bool t.far] →
          Calls Tryd.prog 16 #[.agg #[.int .i64 e, .int .i64 nx, .int .i64 a, .int .i64 b, .slice A TL c], .agg #[.int .i64 3, .int .i64 ((k : Int) + 2), .int .i64 0, .int .i64 0, .slice (some ⟨g, 0, none⟩) 1 1, .slice none 0 0]] cur (PostApply cur ts t 3 ((k : Int) + 2) 0 0)) := Lib.hid (fun cur g hm hk => by
        obtain ⟨A', c', hle', _, hrr⟩ := hm.rel.ov.reads
        have hlen := hok.1
        injection hle' with q1 q2 q3
        subst q1; subst q3
        have := apply_calls ts t A c (some ⟨g, 0, none⟩) 1 e nx a b 3 ((k : Int) + 2) 0 0 cur hrr (by rw [hTL]; exact hc) (by omega) (readsBlkT hk) (Nat.le_refl _)
        rw [hTL] at this
        exact this)
      have HNUM := Lib.hid hnu
      clear hR hrv hrl hT hnu hok hle2 hle3 hTL
      go_wp2_with fail
      go_region_held3 (fun w' => w'.cell? ⟨w.heap.size + 1, 0, none⟩ = some (.int .i64 e) ∧ w'.cell? ⟨w.heap.size + 1, 1, none⟩ = some (.int .i64 nx) ∧ w'.cell? ⟨w.heap.size + 1, 2, none⟩ = some (.int .i64 a) ∧ w'.cell? ⟨w.heap.size + 1, 3, none⟩ = some (.int .i64 b) ∧ w'.cell? ⟨w.heap.size + 1, 4, none⟩ = some (.slice A TL c) ∧ w'.cell? (ad.add (k * 9)) = some (.int .i64 t.num) ∧ w'.cell? ⟨(ad.add (k * 9)).block, (ad.add (k * 9)).off + 1, none⟩ = some (.int .i64 t.ep) ∧ w'.cell? ⟨(ad.add (k * 9)).block, (ad.add (k * 9)).off + 2, none⟩ = some (.int .i64 t.lev) ∧ w'.cell? ⟨(ad.add (k * 9)).block, (ad.add (k * 9)).off + 3, none⟩ = some (.string t.lo) ∧ w'.cell? ⟨(ad.add (k * 9)).block, (ad.add (k * 9)).off + 4, none⟩ = some (.string t.hi) ∧ w'.cell? ⟨(ad.add (k * 9)).block, (ad.add (k * 9)).off + 5, none⟩ = some (.int .i64 t.size) ∧ w'.cell? ⟨(ad.add (k * 9)).block, (ad.add (k * 9)).off + 6, none⟩ = some (.int .i64 t.count) ∧ w'.cell? ⟨(ad.add (k * 9)).block, (ad.add (k * 9)).off + 7, none⟩ = some (.bool t.near) ∧ w'.cell? ⟨(ad.add (k * 9)).block, (ad.add (k * 9)).off + 8, none⟩ = some (.bool t.far) ∧ RelM w e nx a b (.slice A TL c) ts (.slice (some ad) n cl) ls w')
        (first
          | (with_reducible assumption)
          | ((with_reducible refine MdAt.fives (wr := _) ?_ wr.heap.size hB2 HOL.out ?_ hab _ _ _ _ _)
             · assumption
             · (first | assumption | exact Nat.le_refl _ | exact Nat.le_succ _))
          | ((with_reducible refine MdAt.then (wr := _) ?_ hb5); assumption)
          | ((with_reducible refine MdAt.drew (wr := _) ?_); (first | (with_reducible assumption) | ((with_reducible refine MdAt.alloc (wr := _) ?_ _); (with_reducible assumption)) | ((with_reducible refine MdAt.alloc (wr := _) ?_ _); (with_reducible refine MdAt.alloc (wr := _) ?_ _); (with_reducible assumption))))
          | ((with_reducible refine MdAt.alloc (wr := _) ?_ _); (first | (with_reducible assumption) | ((with_reducible refine MdAt.alloc (wr := _) ?_ _); (with_reducible assumption)) | ((with_reducible refine MdAt.alloc (wr := _) ?_ _); (with_reducible refine MdAt.alloc (wr := _) ?_ _); (with_reducible assumption)))))
        (first
          | (go_at_call 16; (with_reducible refine (HAP.out _ _ ?hmd ?hbk).mono ?_); (case hmd => assumption); (case hbk => (first | exact Blk.new _ _ _ | exact (Blk.new _ _ _).alloc _ | exact Blk.new2 _ _ _ _)); rintro e' w5 ⟨v', code, ts', a', b', c', d', rfl, ho5, hb5, hcode⟩; have hM5 := MdAt.then (by assumption) hb5; have hz5 : wr.heap.size ≤ w5.heap.size := Nat.le_trans (by first | exact Nat.le_refl _ | exact Nat.le_succ _ | (simp; done) | (simp; omega)) hb5.size; obtain ⟨A5, c5, rfl, _, _⟩ := ho5.reads; have HO5 := Lib.hid ho5; have HCD := Lib.hid hcode; clear ho5 hcode; obtain ⟨L5, hL5⟩ : ∃ L5, ts'.length = L5 := ⟨_, rfl⟩; (try rw [hL5] at HO5 ⊢); have HL5 := Lib.hid hL5; clear hL5; (first | (have hB5 : Blk w5 (wr.heap.size + 1) 27 #[.int .i64 0, .int .i64 0, .int .i64 0, .int .i64 0, .slice none 0 0] := Blk.below (by exact Blk.new2 _ _ _ _) hb5 (by first | (simp; done) | (simp; omega)); obtain ⟨⟨_, _, _, _, _⟩, ⟨_, _, _, _, _⟩⟩ := hB5.five) | (have hB5 : Blk w5 wr.heap.size 27 #[.int .i64 0, .int .i64 0, .int .i64 0, .int .i64 0, .slice none 0 0] := Blk.below (by exact (Blk.new _ _ _).alloc _) hb5 (by first | (simp; done) | (simp; omega)); obtain ⟨⟨_, _, _, _, _⟩, ⟨_, _, _, _, _⟩⟩ := hB5.five) | skip)))
      all_goals (first
        | (obtain ⟨W, hW⟩ : ∃ W, (w5.alloc (.cells #[.int .i64 a', .int .i64 b', .int .i64 c', .int .i64 d', .slice A5 L5 c5] 27)) = W := ⟨_, rfl⟩
           rw [hW]
           rename_i hS
           rw [hW] at hS
           have hRW := MdAt.rel hS
           have hBW : Blk W w5.heap.size 27 #[.int .i64 a', .int .i64 b', .int .i64 c', .int .i64 d', .slice A5 L5 c5] := by rw [← hW]; exact Blk.new _ _ _
           have hoW : OwnT W (w.heap.size + 2) (.slice A5 L5 c5) ts' := by rw [← hW]; exact (HO5.out.alloc _).le (by first | (simp; done) | (simp; omega))
           obtain ⟨G, hG⟩ : ∃ G, w5.heap.size = G := ⟨_, rfl⟩
           have hgle : w.heap.size + 2 ≤ G := by rw [← hG]; omega
           rw [hG] at hBW ⊢
           clear hW hG)
        | (obtain ⟨W, hW⟩ : ∃ W, (((((w5.setCell ⟨wr.heap.size + 1, 0, none⟩ (.int .i64 a')).setCell ⟨wr.heap.size + 1, 1, none⟩ (.int .i64 b')).setCell ⟨wr.heap.size + 1, 2, none⟩ (.int .i64 c')).setCell ⟨wr.heap.size + 1, 3, none⟩ (.int .i64 d')).setCell ⟨wr.heap.size + 1, 4, none⟩ (.slice A5 L5 c5)) = W := ⟨_, rfl⟩
           rw [hW]
           rename_i hS
           rw [hW] at hS
           have hRW := MdAt.rel hS
           have hBW : Blk W (wr.heap.size + 1) 27 #[.int .i64 a', .int .i64 b', .int .i64 c', .int .i64 d', .slice A5 L5 c5] := by rw [← hW]; exact store5 hB5 _ _ _ _ _
           have hoW : OwnT W (w.heap.size + 2) (.slice A5 L5 c5) ts' := by rw [← hW]; exact (own5 HO5.out (by first | (simp; done) | (simp; omega)) _ _ _ _ _).le (by first | (simp; done) | (simp; omega))
           obtain ⟨G, hG⟩ : ∃ G, (wr.heap.size + 1) = G := ⟨_, rfl⟩
           have hgle : w.heap.size + 2 ≤ G := by rw [← hG]; omega
           rw [hG] at hBW ⊢
           clear hW hG)
        | (obtain ⟨W, hW⟩ : ∃ W, (((((w5.setCell ⟨wr.heap.size, 0, none⟩ (.int .i64 a')).setCell ⟨wr.heap.size, 1, none⟩ (.int .i64 b')).setCell ⟨wr.heap.size, 2, none⟩ (.int .i64 c')).setCell ⟨wr.heap.size, 3, none⟩ (.int .i64 d')).setCell ⟨wr.heap.size, 4, none⟩ (.slice A5 L5 c5)) = W := ⟨_, rfl⟩
           rw [hW]
           rename_i hS
           rw [hW] at hS
           have hRW := MdAt.rel hS
           have hBW : Blk W wr.heap.size 27 #[.int .i64 a', .int .i64 b', .int .i64 c', .int .i64 d', .slice A5 L5 c5] := by rw [← hW]; exact store5 hB5 _ _ _ _ _
           have hoW : OwnT W (w.heap.size + 2) (.slice A5 L5 c5) ts' := by rw [← hW]; exact (own5 HO5.out (by first | (simp; done) | (simp; omega)) _ _ _ _ _).le (by first | (simp; done) | (simp; omega))
           obtain ⟨G, hG⟩ : ∃ G, wr.heap.size = G := ⟨_, rfl⟩
           have hgle : w.heap.size + 2 ≤ G := by rw [← hG]; omega
           rw [hG] at hBW ⊢
           clear hW hG))
      all_goals (
        have ek : IntKind.i64.wrap ((k : Int) + 1) = (k : Int) + 1 := IntWalk.i64_in _ (by omega)
        have hs2 : w.heap.size + 2 ≤ W.heap.size := hRW.size
        obtain ⟨⟨n0, n1, n2, n3, n4⟩, _⟩ := hBW.five
        obtain ⟨⟨m0, m1, m2, m3, m4⟩, ⟨q0, q1, q2, q3, q4⟩⟩ := hRW.box.five
        have HRW := Lib.hid hRW
        have HOW := Lib.hid hoW
        clear hM hM5 hS hRW hoW hBW x0 x1 x2 x3 x4 y0 y1 y2 y3 y4 y5 y6 y7 y8 e1 HO5 HAP HOL hb5 hz5
        by_cases hc : code = 0
        · obtain ⟨rfl, rfl, rfl, rfl, hins⟩ := HCD.out hc
          subst hc
          have HNW : Hid (RelM w 3 ((k : Int) + 2) 0 0 (.slice A5 L5 c5) ts' (.slice (some ad) n cl) ls (sets5 W (w.heap.size + 1) (.int .i64 3) (.int .i64 ((k : Int) + 2)) (.int .i64 0) (.int .i64 0) (.slice A5 L5 c5))) :=
            Lib.hid ⟨blk5 HRW.out.res (by omega) _ _ _ _ _, store5 HRW.out.box _ _ _ _ _, own5 HOW.out (by omega) _ _ _ _ _, own5 HRW.out.ol (by omega) _ _ _ _ _, below5 HRW.out.bel (by omega) _ _ _ _ _⟩
          have HTO : Hid (TabsOk ((k : Int) + 2) (k + 1) ts') := Lib.hid (tabsok_ins HOK.out hins HNUM.out)
          clear HRW HOW HCD hins HOK HNUM
          go_wp2_with fail
          go_roundw
          case rel => exact ⟨k + 1, 3, (k : Int) + 2, 0, 0, _, ts', hlt, by first | rfl | go_num | simp, HTO.out, HNW.out⟩
          case measure => simp [intOf]; omega
        · clear n0 n1 n2 n3 n4 m0 m1 m2 m3 m4 q0 q1 q2 q3 q4
          go_wp2_with fail
          go_roundw
          case rel => exact ⟨k + 1, e, nx, a, b, _, ts, hlt, by first | rfl | go_num | simp, tabsok_mono HOK.out, HRW.out⟩
          case measure => simp [intOf]; omega)
    · have hkn : k = n := by omega
      obtain ⟨⟨m0, m1, m2, m3, m4⟩, _⟩ := hR.box.five
      obtain ⟨⟨p0, p1, p2, p3, p4⟩, ⟨q0, q1, q2, q3, q4⟩⟩ := hR.res.five
      have h20 : TabsOk nx 20 ts := tabsok_le hok (by omega)
      have H20 := Lib.hid h20
      clear hR hrv hrl hok hle hTL h20
      go_wp2_with fail
      refine bodyPost_ret (results_c' rfl _ _ w.heap.size 27 #[.int .i64 e, .int .i64 nx, .int .i64 a, .int .i64 b, .slice A TL c] (0, 0) _ rfl (store5 HRM.out.res _ _ _ _ _) Tryd.underlying27 rfl (by kernel_rfl)) rfl ?_
      exact ⟨⟨e, nx, a, b, ts⟩, .slice A TL c, rfl, H20.out, (own5 HRM.out.ov (by omega) _ _ _ _ _).le (by omega), below5 HRM.out.bel (Nat.le_refl _) _ _ _ _ _⟩
end Go.Proofs.YtpdbdobckjolkaaDoor
