/- The walk of the law NameNone. -/
import Derived.Test.YtjlmcidmcdiklaaDoorNameLaw
import Derived.Test.YtjlmcidmcdiklaaDoorNameNoneLaw
set_option linter.unusedVariables false
set_option linter.unusedSimpArgs false
namespace Go.Proofs.YtjlmcidmcdiklaaDoor
open Go.RowKit

theorem cut4 (m : Nat) (s : Array UInt8) (hs : s = (headL 1 ++ Lib.decDigits m).toArray) : (ByteArray.mk s).extract 4 s.size = ⟨(Lib.decDigits m).toArray⟩ := by
  subst hs
  apply ByteArray.ext
  rw [ByteArray.data_extract]
  apply Array.ext'
  rw [Array.toList_extract]
  show (headL 1 ++ Lib.decDigits m).extract 4 (headL 1 ++ Lib.decDigits m).toArray.size = _
  rw [show (headL 1 ++ Lib.decDigits m) = 108 :: 111 :: 103 :: 45 :: Lib.decDigits m from rfl]
  simp [List.extract_eq_take_drop]
theorem dat1 (p : Array UInt8) (m : Nat) (s : Array UInt8) (hs : s = (headL 1 ++ Lib.decDigits m).toArray) : ((⟨p⟩ : ByteArray) ++ (ByteArray.mk s).extract 4 s.size).data.toList = p.toList ++ Lib.decDigits m := by
  rw [cut4 m s hs, ByteArray.mk_append_mk]
theorem dat2 (p q : Array UInt8) (m : Nat) (s : Array UInt8) (hs : s = (headL 1 ++ Lib.decDigits m).toArray) : ((⟨p⟩ : ByteArray) ++ (ByteArray.mk s).extract 4 s.size ++ (⟨q⟩ : ByteArray)).data.toList = p.toList ++ Lib.decDigits m ++ q.toList := by
  rw [cut4 m s hs, ByteArray.mk_append_mk, ByteArray.mk_append_mk]
theorem sz1 (p : Array UInt8) (m : Nat) (s : Array UInt8) (hs : s = (headL 1 ++ Lib.decDigits m).toArray) : ((⟨p⟩ : ByteArray) ++ (ByteArray.mk s).extract 4 s.size).size = p.size + (Lib.decDigits m).length := by
  rw [cut4 m s hs, ByteArray.mk_append_mk]; show ((p.toList ++ Lib.decDigits m).toArray).size = _; simp
theorem sz2 (p q : Array UInt8) (m : Nat) (s : Array UInt8) (hs : s = (headL 1 ++ Lib.decDigits m).toArray) : ((⟨p⟩ : ByteArray) ++ (ByteArray.mk s).extract 4 s.size ++ (⟨q⟩ : ByteArray)).size = p.size + (Lib.decDigits m).length + q.size := by
  rw [cut4 m s hs, ByteArray.mk_append_mk, ByteArray.mk_append_mk]; show (((p.toList ++ Lib.decDigits m) ++ q.toList).toArray).size = _; simp; omega

theorem the_text (i m : Nat) (hi : i < 13) (s : Array UInt8) (hs : s = (headL 1 ++ Lib.decDigits m).toArray) (hl : (Lib.decDigits m).length ≤ 16) :
    ∃ S : ByteArray, ([.string ((⟨#[108, 111, 103, 45, 48]⟩ : ByteArray) ++ (ByteArray.mk s).extract 4 s.size), .string ((⟨#[108, 111, 103, 45, 32]⟩ : ByteArray) ++ (ByteArray.mk s).extract 4 s.size), .string ((⟨#[108, 111, 103, 45, 45]⟩ : ByteArray) ++ (ByteArray.mk s).extract 4 s.size), .string ((⟨#[108, 111, 103, 45]⟩ : ByteArray) ++ (ByteArray.mk s).extract 4 s.size ++ (⟨#[45, 49]⟩ : ByteArray)), .string ((⟨#[102, 97, 114, 45]⟩ : ByteArray) ++ (ByteArray.mk s).extract 4 s.size), .string ((⟨#[102, 97, 114, 45, 49, 45, 48]⟩ : ByteArray) ++ (ByteArray.mk s).extract 4 s.size), .string ((⟨#[102, 97, 114, 45]⟩ : ByteArray) ++ (ByteArray.mk s).extract 4 s.size ++ (⟨#[45]⟩ : ByteArray)), .string ((⟨#[76, 111, 103, 45]⟩ : ByteArray) ++ (ByteArray.mk s).extract 4 s.size), .string ((⟨#[108, 111, 103]⟩ : ByteArray) ++ (ByteArray.mk s).extract 4 s.size), .string ⟨#[99, 117, 114, 114, 101, 110, 116, 45, 49]⟩, .string ⟨#[109, 97, 114, 107, 45]⟩, .string ⟨#[116, 97, 98, 108, 101, 45, 120]⟩, .string ⟨#[]⟩] : List Value)[i]? = some (.string S) ∧ S.size < 100 ∧ readL S.data.toList = (0, 0, 0) := by
  have h13 : i = 0 ∨ i = 1 ∨ i = 2 ∨ i = 3 ∨ i = 4 ∨ i = 5 ∨ i = 6 ∨ i = 7 ∨ i = 8 ∨ i = 9 ∨ i = 10 ∨ i = 11 ∨ i = 12 := by omega
  rcases h13 with rfl | rfl | rfl | rfl | rfl | rfl | rfl | rfl | rfl | rfl | rfl | rfl | rfl
  · exact ⟨(⟨#[108, 111, 103, 45, 48]⟩ : ByteArray) ++ (ByteArray.mk s).extract 4 s.size, rfl, by rw [sz1 _ m s hs]; simp; omega, by rw [dat1 _ m s hs]; exact none0 m⟩
  · exact ⟨(⟨#[108, 111, 103, 45, 32]⟩ : ByteArray) ++ (ByteArray.mk s).extract 4 s.size, rfl, by rw [sz1 _ m s hs]; simp; omega, by rw [dat1 _ m s hs]; exact none1 m⟩
  · exact ⟨(⟨#[108, 111, 103, 45, 45]⟩ : ByteArray) ++ (ByteArray.mk s).extract 4 s.size, rfl, by rw [sz1 _ m s hs]; simp; omega, by rw [dat1 _ m s hs]; exact none2 m⟩
  · exact ⟨(⟨#[108, 111, 103, 45]⟩ : ByteArray) ++ (ByteArray.mk s).extract 4 s.size ++ (⟨#[45, 49]⟩ : ByteArray), rfl, by rw [sz2 _ _ m s hs]; simp; omega, by rw [dat2 _ _ m s hs]; exact none3 m⟩
  · exact ⟨(⟨#[102, 97, 114, 45]⟩ : ByteArray) ++ (ByteArray.mk s).extract 4 s.size, rfl, by rw [sz1 _ m s hs]; simp; omega, by rw [dat1 _ m s hs]; exact none4 m⟩
  · exact ⟨(⟨#[102, 97, 114, 45, 49, 45, 48]⟩ : ByteArray) ++ (ByteArray.mk s).extract 4 s.size, rfl, by rw [sz1 _ m s hs]; simp; omega, by rw [dat1 _ m s hs]; exact none5 m⟩
  · exact ⟨(⟨#[102, 97, 114, 45]⟩ : ByteArray) ++ (ByteArray.mk s).extract 4 s.size ++ (⟨#[45]⟩ : ByteArray), rfl, by rw [sz2 _ _ m s hs]; simp; omega, by rw [dat2 _ _ m s hs]; exact none6 m⟩
  · exact ⟨(⟨#[76, 111, 103, 45]⟩ : ByteArray) ++ (ByteArray.mk s).extract 4 s.size, rfl, by rw [sz1 _ m s hs]; simp; omega, by rw [dat1 _ m s hs]; exact none7 m⟩
  · exact ⟨(⟨#[108, 111, 103]⟩ : ByteArray) ++ (ByteArray.mk s).extract 4 s.size, rfl, by rw [sz1 _ m s hs]; simp; omega, by rw [dat1 _ m s hs]; exact none8 m⟩
  · exact ⟨⟨#[99, 117, 114, 114, 101, 110, 116, 45, 49]⟩, rfl, by decide, none9⟩
  · exact ⟨⟨#[109, 97, 114, 107, 45]⟩, rfl, by decide, none10⟩
  · exact ⟨⟨#[116, 97, 98, 108, 101, 45, 120]⟩, rfl, by decide, none11⟩
  · exact ⟨⟨#[]⟩, rfl, by decide, none12⟩

set_option maxRecDepth 100000 in
set_option maxHeartbeats 4000000 in
theorem none_calls (n which : Int) (w : World) (hn : 0 ≤ n ∧ n ≤ 4294967295) (hw : 0 ≤ which ∧ which ≤ 255) (hL : Laid w) :
    Calls Tryd.prog 5 #[.int .u32 n, .int .u8 which] w fun e' w' => e' = .returned (.bool true) ∧ Below w.heap.size w w' := by
  obtain ⟨m, rfl⟩ : ∃ m : Nat, n = m := ⟨n.toNat, by omega⟩
  have hm : m ≤ 9007199254740992 := by omega
  have htx := text_one 1 (by decide) (by decide) m 0 hm
  obtain ⟨s, hs⟩ : ∃ s : Array UInt8, s = (headL 1 ++ Lib.decDigits m).toArray := ⟨_, rfl⟩
  have hl := dec_len m hm
  have hne := dec_ne m
  have hsz : s.size = 4 + (Lib.decDigits m).length := by rw [hs]; simp [headL]; omega
  have hpos : 0 < (Lib.decDigits m).length := List.length_pos_iff.2 hne
  have HN := Lib.hid (fun (w : World) => (name_calls 1 0 m w).mono (R' := fun e' w' => e' = .returned (.string ⟨s⟩) ∧ Below w.heap.size w w') (fun e' w' h => by
    rw [show textL 1 0 (m : Int) = headL 1 ++ Lib.decDigits m from htx] at h
    rw [hs]; exact h))
  obtain ⟨S, hget, hS, hread⟩ := the_text (which % 13).toNat m (by omega) s hs hl
  have HR := Lib.hid (fun (w : World) (hL : Laid w) => (read_calls S w (by omega) hL).mono (R' := fun e' w' => e' = .returned (.tuple #[.int .i64 0, .int .i64 0, .int .i64 0]) ∧ Below w.heap.size w w') (fun e' w' h => by rw [hread] at h; exact h))
  clear hread
  have HS := Lib.hid hs
  have HNE := Lib.hid hne
  have HL := Lib.hid hL
  have hs5 : 5 ≤ s.size := by omega
  have hs20 : s.size ≤ 20 := by omega
  clear hL hs hne htx hl hpos hsz
  go_enter Tryd.func5, Tryd.ntmps5
  go_wp2_with fail
  refine (HN.out _).mono ?_
  rintro e' w1 ⟨rfl, hb1⟩
  have HB1 := Lib.hid hb1
  clear hb1
  go_wp2_with fail
  refine (HR.out _ (HL.out.below (HB1.out.alloc HB1.out.size _))).mono ?_
  rintro e' w2 ⟨rfl, hb2⟩
  have HB2 := Lib.hid ((HB1.out.alloc HB1.out.size _).trans (hb2.mono (HB1.out.alloc HB1.out.size _).size))
  clear hb2
  go_wp2_with fail
  refine (awake19_calls _ (HL.out.below HB2.out)).mono ?_
  rintro e' w3 ⟨rfl, hb3⟩
  have HB3 := Lib.hid (HB2.out.trans (hb3.mono HB2.out.size))
  clear hb3
  go_wp2_with fail
  go_ret
  exact ⟨rfl, HB3.out⟩
end Go.Proofs.YtjlmcidmcdiklaaDoor
