/- Slices of bytes in plain words: what a slice of the call's own holds, a slice of bytes as a text, making one. -/
import Derived.Test.YtpdbdobckjolkaaDoorKit
import Derived.Test.YtpdbdobckjolkaaDoorProg
import Derived.Laws.BytesString
set_option linter.unusedVariables false
set_option linter.unusedSimpArgs false
namespace Go.Proofs.YtpdbdobckjolkaaDoor
open Go.RowKit

def encB (u : UInt8) : Value := .int .u8 (u.toNat : Int)
def cellsB (bs : List UInt8) : Array Value := (bs.map encB).toArray
theorem encB_one (bs : List UInt8) : ∀ u ∈ bs.map encB, u.oneCell' = true := by
  intro u hu; obtain ⟨b, _, rfl⟩ := List.mem_map.1 hu; rfl
theorem map_enc_get (f : List UInt8) (n : Nat) (h : n < f.length) : (f.map encB)[n]? = some (encB (f.getD n 0)) := by
  simp [List.getElem?_eq_getElem h]
def OwnB (w : World) (base : Nat) (v : Value) (bs : List UInt8) : Prop := w.ownsRow base 5 1 v bs.length (bs.map encB)
theorem OwnB.of_blk {w : World} {base g n : Nat} {bs : List UInt8} (h : Blk w g 5 (cellsB bs)) (hn : bs.length = n) (hb : base ≤ g) (hm : n ≤ maxLen) : OwnB w base (.slice (some ⟨g, 0, none⟩) n n) bs := by
  subst hn
  refine ⟨by simp, .inr ⟨g, bs.length, cellsB bs, rfl, hb, h, Nat.le_refl _, hm, by simp [cellsB], ?_⟩⟩
  simp [cellsB]
  exact List.take_of_length_le (by simp)
theorem OwnB.reads {w : World} {base : Nat} {v : Value} {bs : List UInt8} (h : OwnB w base v bs) : ∃ A c, v = .slice A bs.length c ∧ Reads w w.heap.size 1 A bs.length (bs.map encB) := by
  rcases h.2 with ⟨rfl, hn⟩ | ⟨g, cap, cur, rfl, _⟩
  · obtain rfl := List.eq_nil_of_length_eq_zero hn
    exact ⟨none, 0, rfl, Reads.none_⟩
  · exact ⟨_, cap, rfl, Reads.of_own h⟩
theorem OwnB.nil (w : World) (base : Nat) : OwnB w base (.slice none 0 0) [] := World.ownsRow_nil _ _ _ _
theorem infoB : (Tryd.prog.info? 5).map (fun i => (i.zero, i.size, i.bytes)) = some (some (.int .u8 0), 1, 1) := by kernel_rfl

theorem foldl_push (bs : List UInt8) : ∀ r : ByteArray, (bs.map fun b => ((b.toNat : Nat) : Int)).foldl (fun r (n : Int) => r.push (UInt8.ofNat n.toNat)) r = ⟨r.data ++ bs.toArray⟩ := by
  induction bs with
  | nil => intro r; simp
  | cons b bs ih =>
    intro r
    rw [List.map_cons, List.foldl_cons, ih]
    have e : UInt8.ofNat ((b.toNat : Nat) : Int).toNat = b := by simp
    rw [e]
    congr 1
    show r.data.push b ++ bs.toArray = r.data ++ (b :: bs).toArray
    simp
set_option maxRecDepth 100000 in
theorem text_of_bytes (src dst : TypeId) (hs : Tryd.prog.underlying src = some (.slice 5)) (hd : Tryd.prog.underlying dst = some .string) (w : World) (B : Nat) (A : Option Addr) (c : Nat) (bs : List UInt8) (hr : Reads w B 1 A bs.length (bs.map encB)) :
    (convert src dst (.slice A bs.length c)).run Tryd.prog w = .ok (.string ⟨bs.toArray⟩) w := by
  rw [run_convert_bytes_string w src dst 5 A bs.length c hs Tryd.underlying5 hd]
  rcases Nat.eq_zero_or_pos bs.length with h0 | h0
  · obtain rfl := List.eq_nil_of_length_eq_zero h0
    cases A with
    | none => rfl
    | some a =>
      have := run_bytesToString (P := Tryd.prog) w a 0 c [] (by rfl)
      exact this
  · obtain ⟨ad, rfl, _, hc⟩ := hr.2 h0
    have h := run_bytesToString (P := Tryd.prog) w ad bs.length c (bs.map fun b => ((b.toNat : Nat) : Int)) (by
      have h2 := run_loadCells_list (P := Tryd.prog) (w := w) ad (bs.map encB) hc
      rw [List.length_map] at h2
      rw [h2]
      simp [encB, Function.comp_def])
    rw [h, foldl_push]
    congr 2
    show (⟨#[] ++ bs.toArray⟩ : ByteArray) = _
    simp
theorem Reads.one {w : World} {g : Nat} {t : TypeId} {v : Value} (h : Blk w g t #[v]) : Reads w w.heap.size 1 (some ⟨g, 0, none⟩) 1 [v] :=
  ⟨rfl, fun _ => ⟨_, rfl, h.lt, fun j u hu => by
    match j, hu with
    | 0, hu => obtain rfl : v = u := by simpa using hu
               exact h.cell 0
    | j + 1, hu => simp at hu⟩⟩
end Go.Proofs.YtpdbdobckjolkaaDoor
