/- Tables of a version in memory, and the reference's Texts and Near. -/
import Derived.Test.YtpdbdobckjolkaaDoorRefPut
import Derived.Test.YtpdbdobckjolkaaDoorNameC
set_option linter.unusedVariables false
set_option linter.unusedSimpArgs false
namespace Go.Proofs.YtpdbdobckjolkaaDoor
open Go.RowKit

structure Tab where
  num : Int
  ep : Int
  lev : Int
  lo : ByteArray
  hi : ByteArray
  size : Int
  count : Int
  near : Bool
  far : Bool
def Tab.cells (t : Tab) : List Value := [.int .i64 t.num, .int .i64 t.ep, .int .i64 t.lev, .string t.lo, .string t.hi, .int .i64 t.size, .int .i64 t.count, .bool t.near, .bool t.far]
def Tab.v (t : Tab) : Value := .agg t.cells.toArray
def tabs (ts : List Tab) : List Value := ts.flatMap Tab.cells
theorem tabs_len (ts : List Tab) : (tabs ts).length = ts.length * 9 := by
  induction ts with
  | nil => rfl
  | cons t ts ih => rw [tabs, List.flatMap_cons, List.length_append, ← tabs, ih, List.length_cons]; show 9 + _ = _; omega
theorem tabs_get (ts : List Tab) (k j : Nat) (hk : k < ts.length) (hj : j < 9) : (tabs ts)[k * 9 + j]? = ts[k].cells[j]? := by
  induction ts generalizing k with
  | nil => simp at hk
  | cons t ts ih =>
    rw [tabs, List.flatMap_cons]
    cases k with
    | zero => rw [List.getElem?_append_left (by show _ < 9; omega)]; simp
    | succ k =>
      rw [List.getElem?_append_right (by show 9 ≤ _; omega), ← tabs]
      have := ih k (by simpa using hk)
      rw [show (k + 1) * 9 + j - t.cells.length = k * 9 + j by show _ - 9 = _; omega, this]
      simp
theorem tabs_one (ts : List Tab) : ∀ u ∈ tabs ts, u.oneCell' = true := by
  intro u hu
  obtain ⟨t, _, ht⟩ := List.mem_flatMap.1 hu
  simp only [Tab.cells, List.mem_cons, List.not_mem_nil, or_false] at ht
  rcases ht with rfl | rfl | rfl | rfl | rfl | rfl | rfl | rfl | rfl <;> rfl
theorem add_at (a : Addr) (n j : Nat) (hj : 0 < j) : a.add (n + j) = ⟨(a.add n).block, (a.add n).off + j, none⟩ := by
  unfold Addr.add
  by_cases hn : n = 0
  · subst hn; simp; omega
  · rw [if_neg (by omega), if_neg hn]; simp; omega
structure TabAt (w : World) (a : Addr) (t : Tab) : Prop where
  h0 : w.cell? a = some (.int .i64 t.num)
  h1 : w.cell? ⟨a.block, a.off + 1, none⟩ = some (.int .i64 t.ep)
  h2 : w.cell? ⟨a.block, a.off + 2, none⟩ = some (.int .i64 t.lev)
  h3 : w.cell? ⟨a.block, a.off + 3, none⟩ = some (.string t.lo)
  h4 : w.cell? ⟨a.block, a.off + 4, none⟩ = some (.string t.hi)
  h5 : w.cell? ⟨a.block, a.off + 5, none⟩ = some (.int .i64 t.size)
  h6 : w.cell? ⟨a.block, a.off + 6, none⟩ = some (.int .i64 t.count)
  h7 : w.cell? ⟨a.block, a.off + 7, none⟩ = some (.bool t.near)
  h8 : w.cell? ⟨a.block, a.off + 8, none⟩ = some (.bool t.far)
theorem TabAt.keep {w w' : World} {a : Addr} {t : Tab} (h : TabAt w a t) {B : Nat} (hb : Below B w w') (ha : a.block < B) : TabAt w' a t :=
  ⟨(hb.cell ha).trans h.h0, (hb.cell (p := ⟨_, _, none⟩) ha).trans h.h1, (hb.cell (p := ⟨_, _, none⟩) ha).trans h.h2, (hb.cell (p := ⟨_, _, none⟩) ha).trans h.h3, (hb.cell (p := ⟨_, _, none⟩) ha).trans h.h4,
   (hb.cell (p := ⟨_, _, none⟩) ha).trans h.h5, (hb.cell (p := ⟨_, _, none⟩) ha).trans h.h6, (hb.cell (p := ⟨_, _, none⟩) ha).trans h.h7, (hb.cell (p := ⟨_, _, none⟩) ha).trans h.h8⟩
theorem tab_at {w : World} {B : Nat} {A : Option Addr} {ts : List Tab} (h : Reads w B 9 A ts.length (tabs ts)) {k : Nat} (hk : k < ts.length) :
    ∃ ad, A = some ad ∧ ad.block < B ∧ TabAt w (ad.add (k * 9)) ts[k] := by
  obtain ⟨ad, rfl, hb, hc⟩ := h.2 (by omega)
  have hg : ∀ j (hj : j < 9) u, ts[k].cells[j]? = some u → w.cell? (ad.add (k * 9 + j)) = some u := fun j hj u hu => hc _ u (by rw [tabs_get ts k j hk hj]; exact hu)
  refine ⟨ad, rfl, hb, ?_, ?_, ?_, ?_, ?_, ?_, ?_, ?_, ?_⟩
  · exact hg 0 (by omega) _ rfl
  · rw [← add_at _ _ _ (by omega)]; exact hg 1 (by omega) _ rfl
  · rw [← add_at _ _ _ (by omega)]; exact hg 2 (by omega) _ rfl
  · rw [← add_at _ _ _ (by omega)]; exact hg 3 (by omega) _ rfl
  · rw [← add_at _ _ _ (by omega)]; exact hg 4 (by omega) _ rfl
  · rw [← add_at _ _ _ (by omega)]; exact hg 5 (by omega) _ rfl
  · rw [← add_at _ _ _ (by omega)]; exact hg 6 (by omega) _ rfl
  · rw [← add_at _ _ _ (by omega)]; exact hg 7 (by omega) _ rfl
  · rw [← add_at _ _ _ (by omega)]; exact hg 8 (by omega) _ rfl

set_option maxHeartbeats 1000000 in
theorem texts_calls (ss : List ByteArray) (A : Option Addr) (c : Nat) (A' : Option Addr) (c' : Nat) (w : World) (hr : Reads w w.heap.size 1 A ss.length (textsV ss)) (hr' : Reads w w.heap.size 1 A' ss.length (textsV ss)) (hn : ss.length ≤ 1000000000) :
    Calls Tryd.prog 9 #[.slice A ss.length c, .slice A' ss.length c'] w fun e w' => e = .returned (.bool true) ∧ Below w.heap.size w w' := by
  obtain ⟨n, hnl⟩ : ∃ n, ss.length = n := ⟨_, rfl⟩
  have HN := Lib.hid hnl
  have HR := Lib.hid hr
  have HR' := Lib.hid hr'
  rw [hnl] at hn ⊢
  clear hr hr' hnl
  go_enter Tryd.func9, Tryd.ntmps9
  go_wp2_with fail
  go_loopw [5] (fun i wr => ∃ k : Nat, k ≤ n ∧ i = .int .i64 k ∧ ∃ m, wr = w.drewN m) (fun i _ => n - (intOf i).toNat)
  case atStart => exact ⟨0, Nat.zero_le _, rfl, 0, rfl⟩
  case round =>
    obtain ⟨k, hk, rfl, m, rfl⟩ := hrel
    by_cases hlt : k < n
    · have hkl : k < ss.length := by rw [HN.out]; exact hlt
      obtain ⟨ad, u, rfl, hab, hx, hcell⟩ := HR.out.at_ hkl
      rw [textsV_get ss k hkl] at hx
      obtain rfl : Value.string ss[k] = u := Option.some.inj hx
      obtain ⟨ad', u, rfl, hab', hx, hcell'⟩ := HR'.out.at_ hkl
      rw [textsV_get ss k hkl] at hx
      obtain rfl : Value.string ss[k] = u := Option.some.inj hx
      clear hx
      go_wp2_with fail
      go_quiet ((fail))
      go_wp2_with fail
      go_roundw
      case rel => exact ⟨k + 1, by omega, by go_num, m + nq, rfl⟩
      case measure => simp [intOf]; omega
    · obtain rfl : k = n := by omega
      go_wp2_with fail
      go_ret
      exact ⟨rfl, below_drewN (Below.refl _ _) _⟩
end Go.Proofs.YtpdbdobckjolkaaDoor
