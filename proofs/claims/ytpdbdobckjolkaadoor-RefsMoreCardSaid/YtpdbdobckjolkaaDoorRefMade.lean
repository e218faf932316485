/- Versions made by numbers: the walks of key, Tables and Made. -/
import Derived.Test.YtpdbdobckjolkaaDoorRefApply
import Derived.Test.YtpdbdobckjolkaaDoorNameR
set_option linter.unusedVariables false
set_option linter.unusedSimpArgs false
namespace Go.Proofs.YtpdbdobckjolkaaDoor
open Go.RowKit

def keyL (n : Nat) : List UInt8 := 107 :: (Lib.decDigits (n / 10) ++ Lib.decDigits (n % 10))
set_option maxHeartbeats 1000000 in
theorem key_calls (n : Nat) (w : World) (hn : n ≤ 1000) : Calls Tryd.prog 26 #[.int .i64 (n : Int)] w fun e w' => e = .returned (str (keyL n)) ∧ Below w.heap.size w w' := by
  have h1 := dec_len (n / 10) (by omega)
  have h2 := dec_len (n % 10) (by omega)
  have hs1 : (⟨(Lib.decDigits (n / 10)).toArray⟩ : ByteArray).size ≤ 16 := h1
  have hs2 : (⟨(Lib.decDigits (n % 10)).toArray⟩ : ByteArray).size ≤ 16 := h2
  have HD1 := Lib.hid (fun w => digits_calls (n / 10) w (by omega))
  have HD2 := Lib.hid (fun w => digits_calls (n % 10) w (by omega))
  have e1 : (((n / 10 : Nat) : Int)) = (n : Int) / 10 := by omega
  have e2 : (((n % 10 : Nat) : Int)) = (n : Int) % 10 := by omega
  rw [e1] at HD1
  rw [e2] at HD2
  unfold keyL
  generalize Lib.decDigits (n / 10) = a at *
  generalize Lib.decDigits (n % 10) = b at *
  clear e1 e2
  go_enter Tryd.func26, Tryd.ntmps26
  go_wp2_with fail
  (with_reducible refine (HD1.out _).mono ?_)
  rintro e w1 ⟨rfl, hb1⟩
  have H1 := Lib.hid hb1
  clear hb1
  go_wp2_with fail
  (with_reducible refine (HD2.out _).mono ?_)
  rintro e w2 ⟨rfl, hb2⟩
  have H2 := Lib.hid (H1.out.trans (hb2.mono H1.out.size))
  clear hb2
  go_wp2_with fail
  go_ret
  refine ⟨ret_str ?_, H2.out⟩
  rw [show (107 :: (a ++ b)) = ([107] ++ a) ++ b by simp]
  rw [← ByteArray.mk_append_mk ([107] ++ a) b, ← ByteArray.mk_append_mk [107] a]

def RelTb (w : World) (v : Value) (ts : List Tab) (wr : World) : Prop := OwnT wr w.heap.size v ts ∧ Below w.heap.size w wr
def NumsUp (ts : List Tab) : Prop := ∀ j (h : j < ts.length), ts[j].num = (j : Int) + 1 ∧ (-9223372036854775808 ≤ ts[j].ep ∧ ts[j].ep ≤ 9223372036854775807)
def RelTabs (w : World) (v i : Value) (wr : World) : Prop := ∃ ts : List Tab, ts.length ≤ 20 ∧ i = .int .i64 ((3 * ts.length : Nat) : Int) ∧ NumsUp ts ∧ RelTb w v ts wr
def PostTabs (w : World) (e : Ending) (w' : World) : Prop := ∃ v ts, e = .returned v ∧ ts.length ≤ 20 ∧ NumsUp ts ∧ RelTb w v ts w'
abbrev TbAt (w : World) (v : Value) (ts : List Tab) (ad : Addr) (I y1 y2 : Nat) (wr : World) : Prop :=
  wr.cell? ⟨ad.block, ad.off + (I + 1), none⟩ = some (.int .u8 y1) ∧ wr.cell? ⟨ad.block, ad.off + (I + 2), none⟩ = some (.int .u8 y2) ∧ RelTb w v ts wr
theorem TbAt.then {w : World} {v : Value} {ts : List Tab} {ad : Addr} {I y1 y2 : Nat} {wr w2 : World} (h : TbAt w v ts ad I y1 y2 wr) (hb : Below wr.heap.size wr w2) : TbAt w v ts ad I y1 y2 w2 :=
  ⟨(hb.cell (World.block_lt_of_cell? _ _ h.1)).trans h.1, (hb.cell (World.block_lt_of_cell? _ _ h.2.1)).trans h.2.1, h.2.2.1.below hb, h.2.2.2.trans (hb.mono h.2.2.2.size)⟩
theorem TbAt.drew {w : World} {v : Value} {ts : List Tab} {ad : Addr} {I y1 y2 : Nat} {wr : World} (h : TbAt w v ts ad I y1 y2 wr) : TbAt w v ts ad I y1 y2 wr.drew := h.then ((Below.refl _ _).drew)
theorem TbAt.alloc {w : World} {v : Value} {ts : List Tab} {ad : Addr} {I y1 y2 : Nat} {wr : World} (h : TbAt w v ts ad I y1 y2 wr) (o : Obj) : TbAt w v ts ad I y1 y2 (wr.alloc o) := h.then ((Below.refl _ _).alloc (Nat.le_refl _) _)
theorem newBlk {Y w5 : World} {T : TypeId} {cs : Array Value} (hb : Below (Y.alloc (.cells cs T)).heap.size (Y.alloc (.cells cs T)) w5) : Blk w5 Y.heap.size T cs := (Blk.new Y T cs).below hb (by rw [World.size_alloc]; omega)
theorem newBlk1 {Y w5 : World} {T : TypeId} {cs : Array Value} (hb : Below (Y.alloc (.cells cs T)).drew.heap.size (Y.alloc (.cells cs T)).drew w5) : Blk w5 Y.heap.size T cs := newBlk (Y := Y) ⟨hb.os, hb.tape, hb.output, hb.size, hb.block⟩
theorem newBlk2 {Y w5 : World} {T : TypeId} {cs : Array Value} {n : Nat} (hb : Below ((Y.alloc (.cells cs T)).drewN n).heap.size ((Y.alloc (.cells cs T)).drewN n) w5) : Blk w5 Y.heap.size T cs := newBlk (Y := Y) ⟨hb.os, hb.tape, hb.output, hb.size, hb.block⟩
theorem newBlk3 {Y w5 : World} {T : TypeId} {cs : Array Value} {n : Nat} (hb : Below ((Y.alloc (.cells cs T)).drewN n).drew.heap.size ((Y.alloc (.cells cs T)).drewN n).drew w5) : Blk w5 Y.heap.size T cs := newBlk (Y := Y) ⟨hb.os, hb.tape, hb.output, hb.size, hb.block⟩
theorem oldBlk {W w5 : World} {T : TypeId} {g : Nat} {cs : Array Value} (h : Blk W g T cs) (hb : Below W.heap.size W w5) : Blk w5 g T cs := h.below hb h.lt
theorem Blk.nine {w : World} {g : Nat} {T : TypeId} {a0 a1 a2 a3 a4 a5 a6 a7 a8 : Value} (h : Blk w g T #[a0, a1, a2, a3, a4, a5, a6, a7, a8]) :
    (w.cell? ⟨g, 0, none⟩ = some a0 ∧ w.cell? ⟨g, 1, none⟩ = some a1 ∧ w.cell? ⟨g, 2, none⟩ = some a2 ∧ w.cell? ⟨g, 3, none⟩ = some a3 ∧ w.cell? ⟨g, 4, none⟩ = some a4 ∧ w.cell? ⟨g, 5, none⟩ = some a5 ∧ w.cell? ⟨g, 6, none⟩ = some a6 ∧ w.cell? ⟨g, 7, none⟩ = some a7 ∧ w.cell? ⟨g, 8, none⟩ = some a8) ∧
    (w.frozen? ⟨g, 0, none⟩ = false ∧ w.frozen? ⟨g, 1, none⟩ = false ∧ w.frozen? ⟨g, 2, none⟩ = false ∧ w.frozen? ⟨g, 3, none⟩ = false ∧ w.frozen? ⟨g, 4, none⟩ = false ∧ w.frozen? ⟨g, 5, none⟩ = false ∧ w.frozen? ⟨g, 6, none⟩ = false ∧ w.frozen? ⟨g, 7, none⟩ = false ∧ w.frozen? ⟨g, 8, none⟩ = false) :=
  ⟨⟨h.cell 0, h.cell 1, h.cell 2, h.cell 3, h.cell 4, h.cell 5, h.cell 6, h.cell 7, h.cell 8⟩, ⟨h.frozen 0, h.frozen 1, h.frozen 2, h.frozen 3, h.frozen 4, h.frozen 5, h.frozen 6, h.frozen 7, h.frozen 8⟩⟩
abbrev sets9 (w : World) (g : Nat) (a0 a1 a2 a3 a4 a5 a6 a7 a8 : Value) : World := ((((((((w.setCell ⟨g, 0, none⟩ a0).setCell ⟨g, 1, none⟩ a1).setCell ⟨g, 2, none⟩ a2).setCell ⟨g, 3, none⟩ a3).setCell ⟨g, 4, none⟩ a4).setCell ⟨g, 5, none⟩ a5).setCell ⟨g, 6, none⟩ a6).setCell ⟨g, 7, none⟩ a7).setCell ⟨g, 8, none⟩ a8
theorem Blk.nines {w : World} {g : Nat} {T : TypeId} {b0 b1 b2 b3 b4 b5 b6 b7 b8 : Value} (h : Blk w g T #[b0, b1, b2, b3, b4, b5, b6, b7, b8]) (a0 a1 a2 a3 a4 a5 a6 a7 a8 : Value) : Blk (sets9 w g a0 a1 a2 a3 a4 a5 a6 a7 a8) g T #[a0, a1, a2, a3, a4, a5, a6, a7, a8] := by
  have := ((((((((h.set_ 0 a0).set_ 1 a1).set_ 2 a2).set_ 3 a3).set_ 4 a4).set_ 5 a5).set_ 6 a6).set_ 7 a7).set_ 8 a8
  unfold sets9
  simpa using this
theorem TbAt.realloc {w : World} {v : Value} {ts : List Tab} {ad : Addr} {I y1 y2 : Nat} {wr : World} {T : TypeId} {cs : Array Value} (h : TbAt w v ts ad I y1 y2 (wr.alloc (.cells cs T))) (B : Nat) (hB : w.heap.size ≤ B) (hg : B ≤ wr.heap.size) (hab : ad.block < w.heap.size) (hv : ∀ k, v.ownBlock = some k → k < B) (cs' : Array Value) : TbAt w v ts ad I y1 y2 (wr.alloc (.cells cs' T)) := by
  have c : ∀ j, (wr.alloc (.cells cs' T)).cell? ⟨ad.block, j, none⟩ = (wr.alloc (.cells cs T)).cell? ⟨ad.block, j, none⟩ := fun j => by
    exact (World.cell?_alloc_lt wr _ ⟨ad.block, j, none⟩ (by show ad.block < _; omega)).trans (World.cell?_alloc_lt wr _ ⟨ad.block, j, none⟩ (by show ad.block < _; omega)).symm
  refine ⟨(c _).trans h.1, (c _).trans h.2.1, ?_, ?_⟩
  · refine World.ownsRow.kept (row := some wr.heap.size) h.2.2.1 ⟨rfl, rfl, rfl, by simp, fun i hi hne => ?_⟩ (.inr fun e => by have := hv _ e; omega)
    have hi2 : i < wr.heap.size := by
      rw [World.size_alloc] at hi
      rcases Nat.lt_or_ge i wr.heap.size with h1 | h1
      · exact h1
      · exact absurd (by congr 1; omega) hne
    exact (Below.heap_alloc wr _ i hi2).trans (Below.heap_alloc wr _ i hi2).symm
  · have hb := h.2.2.2
    exact ⟨hb.os, hb.tape, hb.output, by rw [World.size_alloc]; omega, fun i hi => (Below.heap_alloc wr _ i (by omega)).trans ((Below.heap_alloc wr _ i (by omega)).symm.trans (hb.block i hi))⟩
theorem OwnT.setOff {w : World} {base : Nat} {v : Value} {ts : List Tab} (h : OwnT w base v ts) {p : Addr} (hp : v.ownBlock ≠ some p.block) (u : Value) : OwnT (w.setCell p u) base v ts :=
  World.ownsRow.kept h (row := some p.block) ⟨rfl, rfl, rfl, by simp [World.setCell], fun i hi hne => Below.heap_setCell w p u i (by rintro rfl; exact hne rfl)⟩ (.inr hp)
theorem TbAt.set {w : World} {v : Value} {ts : List Tab} {ad : Addr} {I y1 y2 : Nat} {wr : World} (h : TbAt w v ts ad I y1 y2 wr) {g j : Nat} (hg : w.heap.size ≤ g) (hab : ad.block < w.heap.size) (hv : v.ownBlock ≠ some g) (u : Value) : TbAt w v ts ad I y1 y2 (wr.setCell ⟨g, j, none⟩ u) :=
  ⟨(World.cell?_setCell_other wr ⟨g, j, none⟩ _ u (fun e => by have := congrArg Addr.block e; simp at this; omega)).trans h.1, (World.cell?_setCell_other wr ⟨g, j, none⟩ _ u (fun e => by have := congrArg Addr.block e; simp at this; omega)).trans h.2.1, h.2.2.1.setOff hv u, h.2.2.2.setCell hg u⟩
theorem TbAt.nines {w : World} {v : Value} {ts : List Tab} {ad : Addr} {I y1 y2 : Nat} {wr : World} (h : TbAt w v ts ad I y1 y2 wr) {g : Nat} (B : Nat) (hB : w.heap.size ≤ B) (hg : B ≤ g) (hab : ad.block < w.heap.size) (hv : ∀ k, v.ownBlock = some k → k < B) (a0 a1 a2 a3 a4 a5 a6 a7 a8 : Value) : TbAt w v ts ad I y1 y2 (sets9 wr g a0 a1 a2 a3 a4 a5 a6 a7 a8) := by
  have h1 : w.heap.size ≤ g := by omega
  have h2 : v.ownBlock ≠ some g := fun e => by have := hv _ e; omega
  exact ((((((((h.set h1 hab h2 a0).set h1 hab h2 a1).set h1 hab h2 a2).set h1 hab h2 a3).set h1 hab h2 a4).set h1 hab h2 a5).set h1 hab h2 a6).set h1 hab h2 a7).set h1 hab h2 a8
set_option maxRecDepth 100000 in
set_option maxHeartbeats 8000000 in
theorem tables_calls (bs : List UInt8) (A : Option Addr) (c : Nat) (w : World) (hr : Reads w w.heap.size 1 A bs.length (bs.map encB)) (hl : bs.length ≤ 9223372036854775807) :
    Calls Tryd.prog 15 #[.slice A bs.length c] w (PostTabs w) := by
  obtain ⟨n, hn⟩ : ∃ n, bs.length = n := ⟨_, rfl⟩
  have HN := Lib.hid hn
  have HR := Lib.hid hr
  rw [hn] at hl ⊢
  clear hr hn
  go_enter Tryd.func15, Tryd.ntmps15
  go_wp2_with fail
  go_loopw [3, 4] (fun v i wr => RelTabs w v i wr) (fun _ i _ => 60 - (intOf i).toNat)
  case atStart => exact ⟨[], by simp, rfl, fun j h => by simp at h, OwnT.nil _ _, Below.refl _ _⟩
  case round =>
    obtain ⟨ts, hts, rfl, hnum, hR⟩ := hrel
    obtain ⟨I, hI⟩ : ∃ I, 3 * ts.length = I := ⟨_, rfl⟩
    have HI := Lib.hid hI
    have HNU := Lib.hid hnum
    have HA := Lib.hid hR
    have hI60 : I ≤ 60 := by omega
    rw [hI]
    clear hI hnum hR hts
    by_cases hlt : I + 2 < n
    · by_cases h60 : I < 60
      · have hb0 : I < bs.length := by rw [HN.out]; omega
        have hb1 : I + 1 < bs.length := by rw [HN.out]; omega
        have hb2 : I + 2 < bs.length := by rw [HN.out]; omega
        obtain ⟨ad, u, rfl, hab, hx, hcell⟩ := (HR.out.below HA.out.2).at_ hb0
        obtain ⟨ad1, u1, ha1, _, hx1, hcell1⟩ := (HR.out.below HA.out.2).at_ hb1
        obtain ⟨ad2, u2, ha2, _, hx2, hcell2⟩ := (HR.out.below HA.out.2).at_ hb2
        obtain rfl : ad = ad1 := Option.some.inj ha1
        obtain rfl : ad = ad2 := Option.some.inj ha2
        rw [map_enc_get bs _ hb0] at hx
        rw [map_enc_get bs _ hb1] at hx1
        rw [map_enc_get bs _ hb2] at hx2
        obtain rfl : encB (bs.getD I 0) = u := Option.some.inj hx
        obtain rfl : encB (bs.getD (I + 1) 0) = u1 := Option.some.inj hx1
        obtain rfl : encB (bs.getD (I + 2) 0) = u2 := Option.some.inj hx2
        clear hx hx1 hx2 ha1 ha2
        generalize bs.getD I 0 = x0 at hcell
        generalize bs.getD (I + 1) 0 = x1 at hcell1
        generalize bs.getD (I + 2) 0 = x2 at hcell2
        have l0 := x0.toNat_lt
        have l1 := x1.toNat_lt
        have l2 := x2.toNat_lt
        unfold encB at hcell hcell1 hcell2
        generalize x0.toNat = y0 at *
        generalize x1.toNat = y1 at *
        generalize x2.toNat = y2 at *
        rw [show ad.add (I + 1) = ⟨ad.block, ad.off + (I + 1), none⟩ by rw [show I + 1 = I + 1 from rfl]; unfold Addr.add; rw [if_neg (by omega)]] at hcell1
        rw [show ad.add (I + 2) = ⟨ad.block, ad.off + (I + 2), none⟩ by unfold Addr.add; rw [if_neg (by omega)]] at hcell2
        obtain ⟨k0, hk0⟩ : ∃ k0 : Nat, y0 % 30 = k0 := ⟨_, rfl⟩
        obtain ⟨k1, hk1⟩ : ∃ k1 : Nat, y1 % 8 = k1 := ⟨_, rfl⟩
        obtain ⟨kh, hkh⟩ : ∃ kh : Nat, k0 + k1 = kh := ⟨_, rfl⟩
        have K0 := Lib.hid (key_calls k0 · (by omega))
        have KH := Lib.hid (key_calls kh · (by omega))
        have m1 : IntKind.i64.wrap (↑I + 1) = ↑I + 1 := IntWalk.i64_in _ (by omega)
        have m2 : IntKind.i64.wrap (↑I + 2) = ↑I + 2 := IntWalk.i64_in _ (by omega)
        have p1 : (0 : Int) ≤ ↑I + 1 := by omega
        have p2 : (0 : Int) ≤ ↑I + 2 := by omega
        have q1 : ((I : Int) + 1).toNat = I + 1 := by omega
        have q2 : ((I : Int) + 2).toNat = I + 2 := by omega
        have r0 : (I : Int) < n := by omega
        have r1 : (I : Int) + 1 < n := by omega
        have r2 : (I : Int) + 2 < n := by omega
        have w0 : IntKind.i64.wrap (y0 : Int) = y0 := IntWalk.i64_in _ (by omega)
        have w1 : IntKind.i64.wrap (y1 : Int) = y1 := IntWalk.i64_in _ (by omega)
        have w2 : IntKind.i64.wrap (y2 : Int) = y2 := IntWalk.i64_in _ (by omega)
        have d0 : (y0 : Int).tmod 30 = (k0 : Int) := by rw [Int.tmod_eq_emod_of_nonneg (by omega)]; omega
        have d1 : (y1 : Int).tmod 8 = (k1 : Int) := by rw [Int.tmod_eq_emod_of_nonneg (by omega)]; omega
        have d2 : IntKind.i64.wrap ((k0 : Int) + (k1 : Int)) = (kh : Int) := by rw [IntWalk.i64_in _ (by omega)]; omega
        clear l0 hk0 hk1 hkh
        go_wp2_with fail
        go_quiet ((fail))
        obtain ⟨m, hm⟩ : ∃ m, ts.length = m := ⟨_, rfl⟩
        have HM := Lib.hid hm
        have hI3 := HI.out
        rw [hm] at hI3
        obtain ⟨g1, hg1⟩ : ∃ g1 : Nat, y1 % 3 = g1 := ⟨_, rfl⟩
        obtain ⟨g2, hg2⟩ : ∃ g2 : Nat, y2 % 5 = g2 := ⟨_, rfl⟩
        obtain ⟨s1, hs1⟩ : ∃ s1 : Nat, 1 + y1 = s1 := ⟨_, rfl⟩
        obtain ⟨s2, hs2⟩ : ∃ s2 : Nat, 10 * s1 = s2 := ⟨_, rfl⟩
        have e1 : (I : Int).tdiv 3 = (m : Int) := by rw [Int.tdiv_eq_ediv_of_nonneg (by omega)]; omega
        have e2 : IntKind.i64.wrap (1 + (m : Int)) = (m : Int) + 1 := by rw [IntWalk.i64_in _ (by omega)]; omega
        have em : IntKind.i64.wrap (m : Int) = (m : Int) := IntWalk.i64_in _ (by omega)
        have e3 : (y1 : Int).tmod 3 = (g1 : Int) := by rw [Int.tmod_eq_emod_of_nonneg (by omega)]; omega
        have e4 : (y2 : Int).tmod 5 = (g2 : Int) := by rw [Int.tmod_eq_emod_of_nonneg (by omega)]; omega
        have e5 : IntKind.i64.wrap (1 + (y1 : Int)) = (s1 : Int) := by rw [IntWalk.i64_in _ (by omega)]; omega
        have e6 : IntKind.i64.wrap (10 * (s1 : Int)) = (s2 : Int) := by rw [IntWalk.i64_in _ (by omega)]; omega
        have hle : w.heap.size ≤ wr.heap.size := HA.out.2.size
        have hown : ∀ k, u3.ownBlock = some k → k < wr.heap.size := fun k hk => (HA.out.1.block k hk).2
        have HOWN := Lib.hid hown
        clear hown
        have hA0 : TbAt w u3 ts ad I y1 y2 (wr.drewN nq) := ⟨hcell1, hcell2, HA.out.1, below_drewN HA.out.2 _⟩
        have HI3 := Lib.hid hI3
        have HG1 := Lib.hid hg1
        clear hm hI3 hg1 hg2 hs1 hs2 hcell hcell1 hcell2
        go_wp2_with fail
        go_region_held3 (fun w' => w'.cell? ⟨ad.block, ad.off + (I + 1), none⟩ = some (.int .u8 y1) ∧ w'.cell? ⟨ad.block, ad.off + (I + 2), none⟩ = some (.int .u8 y2) ∧ RelTb w u3 ts w')
          (first
            | (with_reducible assumption)
            | ((with_reducible refine TbAt.nines (wr := _) ?_ wr.heap.size hle ?_ hab HOWN.out _ _ _ _ _ _ _ _ _)
               · assumption
               · (first | assumption | exact Nat.le_refl _))
            | ((with_reducible refine TbAt.then (wr := _) ?_ hb6); assumption)
            | ((with_reducible refine TbAt.then (wr := _) ?_ hb5); assumption)
            | ((with_reducible refine TbAt.drew (wr := _) ?_); assumption)
            | ((with_reducible refine TbAt.realloc (wr := _) (cs := #[.int .i64 0, .int .i64 0, .int .i64 0, .string ⟨#[]⟩, .string ⟨#[]⟩, .int .i64 0, .int .i64 0, .bool false, .bool false]) ?_ wr.heap.size hle ?_ hab HOWN.out _)
               · assumption
               · (first | assumption | exact Nat.le_refl _))
            | ((with_reducible refine TbAt.alloc (wr := _) ?_ _); assumption)
            | (trace_state; fail))
          (first
            | (go_at_call 26; (with_reducible refine (K0.out _).mono ?_); rintro e' w5 ⟨rfl, hb5⟩; have hz5 : wr.heap.size ≤ w5.heap.size := Nat.le_trans (by first | exact Nat.le_refl _ | exact Nat.le_succ _ | assumption | (rw [World.size_alloc]; exact Nat.le_succ_of_le (by first | exact Nat.le_refl _ | assumption))) hb5.size; (first | ((with_reducible have hB5' := newBlk hb5); have hB5 : Blk w5 wr.heap.size 36 #[.int .i64 0, .int .i64 0, .int .i64 0, .string ⟨#[]⟩, .string ⟨#[]⟩, .int .i64 0, .int .i64 0, .bool false, .bool false] := hB5'; obtain ⟨⟨_, _, _, _, _, _, _, _, _⟩, ⟨_, _, _, _, _, _, _, _, _⟩⟩ := hB5.nine) | ((with_reducible have hB5' := newBlk1 hb5); have hB5 : Blk w5 wr.heap.size 36 #[.int .i64 0, .int .i64 0, .int .i64 0, .string ⟨#[]⟩, .string ⟨#[]⟩, .int .i64 0, .int .i64 0, .bool false, .bool false] := hB5'; obtain ⟨⟨_, _, _, _, _, _, _, _, _⟩, ⟨_, _, _, _, _, _, _, _, _⟩⟩ := hB5.nine) | ((with_reducible have hB5' := newBlk2 hb5); have hB5 : Blk w5 wr.heap.size 36 #[.int .i64 0, .int .i64 0, .int .i64 0, .string ⟨#[]⟩, .string ⟨#[]⟩, .int .i64 0, .int .i64 0, .bool false, .bool false] := hB5'; obtain ⟨⟨_, _, _, _, _, _, _, _, _⟩, ⟨_, _, _, _, _, _, _, _, _⟩⟩ := hB5.nine) | ((with_reducible have hB5' := newBlk3 hb5); have hB5 : Blk w5 wr.heap.size 36 #[.int .i64 0, .int .i64 0, .int .i64 0, .string ⟨#[]⟩, .string ⟨#[]⟩, .int .i64 0, .int .i64 0, .bool false, .bool false] := hB5'; obtain ⟨⟨_, _, _, _, _, _, _, _, _⟩, ⟨_, _, _, _, _, _, _, _, _⟩⟩ := hB5.nine) | skip))
            | (go_at_call 26; (with_reducible refine (KH.out _).mono ?_); rintro e' w6 ⟨rfl, hb6⟩; have hz6 : wr.heap.size ≤ w6.heap.size := Nat.le_trans (by first | exact Nat.le_refl _ | exact Nat.le_succ _ | assumption | (rw [World.size_alloc]; exact Nat.le_succ_of_le (by first | exact Nat.le_refl _ | assumption))) hb6.size; (first | (with_reducible have hB6 := newBlk hb6; obtain ⟨⟨_, _, _, _, _, _, _, _, _⟩, ⟨_, _, _, _, _, _, _, _, _⟩⟩ := hB6.nine) | (with_reducible have hB6 := oldBlk hB5 hb6; obtain ⟨⟨_, _, _, _, _, _, _, _, _⟩, ⟨_, _, _, _, _, _, _, _, _⟩⟩ := hB6.nine) | skip)))
        all_goals first
          | (obtain ⟨W, hW⟩ : ∃ W, w6.alloc (.cells #[.int .i64 ((m : Int) + 1), .int .i64 (g1 : Int), .int .i64 (g2 : Int), .string ⟨(keyL k0).toArray⟩, .string ⟨(keyL kh).toArray⟩, .int .i64 (s2 : Int), .int .i64 (s1 : Int), .bool false, .bool false] 36) = W := ⟨_, rfl⟩
             rw [hW]
             rename_i hS
             rw [hW] at hS
             have hBW : Blk W w6.heap.size 36 #[.int .i64 ((m : Int) + 1), .int .i64 (g1 : Int), .int .i64 (g2 : Int), .string ⟨(keyL k0).toArray⟩, .string ⟨(keyL kh).toArray⟩, .int .i64 (s2 : Int), .int .i64 (s1 : Int), .bool false, .bool false] := by rw [← hW]; exact Blk.new _ _ _
             obtain ⟨G, hG⟩ : ∃ G, w6.heap.size = G := ⟨_, rfl⟩
             have hgle : wr.heap.size ≤ G := by rw [← hG]; exact hz6
             rw [hG] at hBW ⊢
             clear hW hG)
          | (obtain ⟨W, hW⟩ : ∃ W, (((((((((w6.setCell ⟨w5.heap.size, 0, none⟩ (.int .i64 ((m : Int) + 1))).setCell ⟨w5.heap.size, 1, none⟩ (.int .i64 (g1 : Int))).setCell ⟨w5.heap.size, 2, none⟩ (.int .i64 (g2 : Int))).setCell ⟨w5.heap.size, 3, none⟩ (.string ⟨(keyL k0).toArray⟩)).setCell ⟨w5.heap.size, 4, none⟩ (.string ⟨(keyL kh).toArray⟩)).setCell ⟨w5.heap.size, 5, none⟩ (.int .i64 (s2 : Int))).setCell ⟨w5.heap.size, 6, none⟩ (.int .i64 (s1 : Int))).setCell ⟨w5.heap.size, 7, none⟩ (.bool false)).setCell ⟨w5.heap.size, 8, none⟩ (.bool false)) = W := ⟨_, rfl⟩
             rw [hW]
             rename_i hS
             rw [hW] at hS
             have hBW : Blk W w5.heap.size 36 #[.int .i64 ((m : Int) + 1), .int .i64 (g1 : Int), .int .i64 (g2 : Int), .string ⟨(keyL k0).toArray⟩, .string ⟨(keyL kh).toArray⟩, .int .i64 (s2 : Int), .int .i64 (s1 : Int), .bool false, .bool false] := by rw [← hW]; exact hB6.nines _ _ _ _ _ _ _ _ _
             obtain ⟨G, hG⟩ : ∃ G, w5.heap.size = G := ⟨_, rfl⟩
             have hgle : wr.heap.size ≤ G := by rw [← hG]; exact hz5
             rw [hG] at hBW ⊢
             clear hW hG)
          | (obtain ⟨W, hW⟩ : ∃ W, (((((((((w6.setCell ⟨wr.heap.size, 0, none⟩ (.int .i64 ((m : Int) + 1))).setCell ⟨wr.heap.size, 1, none⟩ (.int .i64 (g1 : Int))).setCell ⟨wr.heap.size, 2, none⟩ (.int .i64 (g2 : Int))).setCell ⟨wr.heap.size, 3, none⟩ (.string ⟨(keyL k0).toArray⟩)).setCell ⟨wr.heap.size, 4, none⟩ (.string ⟨(keyL kh).toArray⟩)).setCell ⟨wr.heap.size, 5, none⟩ (.int .i64 (s2 : Int))).setCell ⟨wr.heap.size, 6, none⟩ (.int .i64 (s1 : Int))).setCell ⟨wr.heap.size, 7, none⟩ (.bool false)).setCell ⟨wr.heap.size, 8, none⟩ (.bool false)) = W := ⟨_, rfl⟩
             rw [hW]
             rename_i hS
             rw [hW] at hS
             have hBW : Blk W wr.heap.size 36 #[.int .i64 ((m : Int) + 1), .int .i64 (g1 : Int), .int .i64 (g2 : Int), .string ⟨(keyL k0).toArray⟩, .string ⟨(keyL kh).toArray⟩, .int .i64 (s2 : Int), .int .i64 (s1 : Int), .bool false, .bool false] := by rw [← hW]; exact hB6.nines _ _ _ _ _ _ _ _ _
             obtain ⟨G, hG⟩ : ∃ G, wr.heap.size = G := ⟨_, rfl⟩
             have hgle : wr.heap.size ≤ G := by rw [← hG]; exact Nat.le_refl _
             rw [hG] at hBW ⊢
             clear hW hG)
        all_goals (
          obtain ⟨g3, hg3⟩ : ∃ g3 : Nat, y2 % 3 = g3 := ⟨_, rfl⟩
          have e7 : (y2 : Int).tmod 3 = (g3 : Int) := by rw [Int.tmod_eq_emod_of_nonneg (by omega)]; omega
          have hg33 : g3 ≤ 2 := by omega
          obtain ⟨b7, e8⟩ : ∃ b7, ((g3 : Int) != 0) = b7 := ⟨_, rfl⟩
          obtain ⟨b8, e9⟩ : ∃ b8, ((g3 : Int) != 1) = b8 := ⟨_, rfl⟩
          have hnG : u3.ownBlock ≠ some G := fun e => by have := HOWN.out _ e; omega
          have hwG : w.heap.size ≤ G := by omega
          have hS7 := TbAt.set (j := 7) hS hwG hab hnG (.bool b7)
          have hS8 := TbAt.set (j := 8) hS7 hwG hab hnG (.bool b8)
          have c2 := hS.2.1
          have c7 := hS7.2.1
          obtain ⟨⟨n0, n1, n2, n3, n4, n5, n6, n7, n8⟩, ⟨k0', k1', k2', k3', k4', k5', k6', k7', k8'⟩⟩ := hBW.nine
          obtain ⟨t, ht⟩ : ∃ t : Tab, t = { num := (m : Int) + 1, ep := (g1 : Int), lev := (g2 : Int), lo := ⟨(keyL k0).toArray⟩, hi := ⟨(keyL kh).toArray⟩, size := (s2 : Int), count := (s1 : Int), near := b7, far := b8 } := ⟨_, rfl⟩
          obtain ⟨v9, w9, r9, o9, _, b9, _⟩ := appTl (hS8.2.2.1.alloc t.box) (c := 1) (readsTab _ t) rfl (by have h1 := HM.out; have h2 := HI3.out; simp; omega) (by rw [World.size_alloc]; have := hS8.2.2.2.size; omega)
          have hb9 := (hS8.2.2.2.alloc hS8.2.2.2.size t.box).trans b9
          have H9 := Lib.hid hb9
          have O9 := Lib.hid o9
          have HTN := Lib.hid (show t.num = (m : Int) + 1 ∧ t.ep = (g1 : Int) by rw [ht]; exact ⟨rfl, rfl⟩)
          have hm20 : m < 20 := by have := HI3.out; omega
          unfold Tab.box at r9
          rw [ht] at r9
          simp only at r9
          clear e1 e2 e3 e4 e5 e6 em w0 w1 d0 d1 d2 hb5 hb6 hz5 hz6 hA0 m1 p1 q1 r1 r0 hS hS7 hS8 hBW b9 o9 hb9 ht hnG hwG hgle
          rw [show ((W.setCell ⟨G, 7, none⟩ (.bool b7)).setCell ⟨G, 8, none⟩ (.bool b8)).heap.size = W.heap.size by simp [World.setCell]] at r9
          go_wp2_with (at_builtin; refine wpList_app r9 rfl rfl rfl rfl rfl ?_)
          go_roundw
          case rel =>
            refine ⟨ts ++ [t], by rw [List.length_append, HM.out]; simp; omega, ?_, ?_, O9.out, H9.out⟩
            · rw [List.length_append, HM.out, ← HI3.out]; go_num
            · intro j hj
              rcases Nat.lt_or_ge j ts.length with h | h
              · rw [List.getElem_append_left h]; exact HNU.out j h
              · have hjm : j = m := by rw [List.length_append] at hj; simp at hj; rw [HM.out] at hj h; omega
                rw [List.getElem_append_right h]
                simp only [List.getElem_singleton]
                have hg := HG1.out
                rw [HTN.out.1, HTN.out.2, hjm]
                exact ⟨rfl, by omega, by omega⟩
          case measure => simp [intOf]; omega)
      · go_wp2_with fail
        go_ret
        exact ⟨_, ts, rfl, by have := HI.out; omega, HNU.out, HA.out⟩
    · go_wp2_with fail
      go_ret
      exact ⟨_, ts, rfl, by have := HI.out; omega, HNU.out, HA.out⟩
end Go.Proofs.YtpdbdobckjolkaaDoor
