/- The plain law of NameNone: none of the thirteen texts names anything. -/
import Derived.Test.YtjlmcidmcdiklaaDoorNameBackLaw
set_option linter.unusedVariables false
set_option linter.unusedSimpArgs false
namespace Go.Proofs.YtjlmcidmcdiklaaDoor
open Go

theorem dec_no (m : Nat) (c : UInt8) (h : isDig c = false) : c ∉ Lib.decDigits m := fun hc => by
  have := List.all_eq_true.1 (dec_all m) c hc
  rw [h] at this; cases this
theorem dec_no_lead (m n : Nat) : Lib.decDigits m ≠ 48 :: Lib.decDigits n := fun h => by
  have h1 := dec_dv m
  rw [h] at h1
  have h2 : dvFrom 0 (48 :: Lib.decDigits n) = dvFrom 0 (Lib.decDigits n) := rfl
  rw [h2, dec_dv] at h1
  subst h1
  have := congrArg List.length h
  simp at this

theorem one_name (s : List UInt8) (h : ∀ (j : Nat) (e n : Int), ¬ Is s j e n) : readL s = (0, 0, 0) := by
  rcases read_sound s 8 1 rfl (Nat.le_refl _) with h1 | ⟨j, e, n, _, h2⟩
  · exact h1
  · exact absurd h2 (h j e n)
theorem log_is {r : List UInt8} {j : Nat} {e n : Int} (h : Is (108 :: 111 :: 103 :: r) j e n) : ∃ m : Nat, r = 45 :: Lib.decDigits m := by
  have ht := h.tag
  obtain rfl : j = 1 := tag_inj ⟨h.lo, h.hi⟩ (by omega) (ht.symm.trans rfl)
  rcases h.shape with ⟨h1, _⟩ | ⟨_, _, _, m, _, _, h2⟩ | ⟨h1, _⟩
  · exact absurd h1 (by decide)
  · exact ⟨m, by simpa [headL] using h2⟩
  · omega
theorem far_is {r : List UInt8} {j : Nat} {e n : Int} (h : Is (102 :: 97 :: 114 :: r) j e n) : ∃ u m : Nat, r = 45 :: (Lib.decDigits u ++ 45 :: Lib.decDigits m) := by
  have ht := h.tag
  obtain rfl : j = 7 := tag_inj ⟨h.lo, h.hi⟩ (by omega) (ht.symm.trans rfl)
  rcases h.shape with ⟨h1, _⟩ | ⟨_, h1, _⟩ | ⟨_, m, u, _, _, _, _, h2⟩
  · exact absurd h1 (by decide)
  · omega
  · exact ⟨u, m, by simpa [headL] using h2⟩
theorem tag_of {s : List UInt8} {j k : Nat} {e n : Int} (h : Is s j e n) (hk : 1 ≤ k ∧ k ≤ 8) (ht : s.take 3 = tagL k) : j = k :=
  tag_inj ⟨h.lo, h.hi⟩ hk (h.tag.symm.trans ht)

theorem none0 (n : Nat) : readL ([108, 111, 103, 45, 48] ++ Lib.decDigits n) = (0, 0, 0) := one_name _ fun j e n' h => by
  obtain ⟨m, hm⟩ := log_is h
  have hm : 45 :: 48 :: Lib.decDigits n = 45 :: Lib.decDigits m := hm
  have hm := (List.cons.inj hm).2
  exact dec_no_lead m n hm.symm
theorem none1 (n : Nat) : readL ([108, 111, 103, 45, 32] ++ Lib.decDigits n) = (0, 0, 0) := one_name _ fun j e n' h => by
  obtain ⟨m, hm⟩ := log_is h
  have hm : 45 :: 32 :: Lib.decDigits n = 45 :: Lib.decDigits m := hm
  have hm := (List.cons.inj hm).2
  exact dec_no m 32 (by decide) (hm ▸ List.mem_cons_self ..)
theorem none2 (n : Nat) : readL ([108, 111, 103, 45, 45] ++ Lib.decDigits n) = (0, 0, 0) := one_name _ fun j e n' h => by
  obtain ⟨m, hm⟩ := log_is h
  have hm : 45 :: 45 :: Lib.decDigits n = 45 :: Lib.decDigits m := hm
  have hm := (List.cons.inj hm).2
  exact dec_no m 45 (by decide) (hm ▸ List.mem_cons_self ..)
theorem none3 (n : Nat) : readL ([108, 111, 103, 45] ++ Lib.decDigits n ++ [45, 49]) = (0, 0, 0) := one_name _ fun j e n' h => by
  obtain ⟨m, hm⟩ := log_is h
  have hm : 45 :: (Lib.decDigits n ++ [45, 49]) = 45 :: Lib.decDigits m := hm
  have hm := (List.cons.inj hm).2
  exact dec_no m 45 (by decide) (hm ▸ by simp)
theorem none4 (n : Nat) : readL ([102, 97, 114, 45] ++ Lib.decDigits n) = (0, 0, 0) := one_name _ fun j e n' h => by
  obtain ⟨u, m, hm⟩ := far_is h
  have hm : 45 :: Lib.decDigits n = 45 :: (Lib.decDigits u ++ 45 :: Lib.decDigits m) := hm
  have hm := (List.cons.inj hm).2
  exact dec_no n 45 (by decide) (hm ▸ by simp)
theorem none5 (n : Nat) : readL ([102, 97, 114, 45, 49, 45, 48] ++ Lib.decDigits n) = (0, 0, 0) := one_name _ fun j e n' h => by
  obtain ⟨u, m, hm⟩ := far_is h
  have hm : 45 :: ([49] ++ 45 :: (48 :: Lib.decDigits n)) = 45 :: (Lib.decDigits u ++ 45 :: Lib.decDigits m) := hm
  have hm := (List.cons.inj hm).2
  have h1 := cut_dash (Lib.decDigits u) (Lib.decDigits m) (dec_no_dash u)
  have h2 := cut_dash [49] (48 :: Lib.decDigits n) (by decide)
  rw [← hm] at h1
  have h3 := h2.symm.trans h1
  simp only [Prod.mk.injEq] at h3
  exact dec_no_lead m n h3.2.1.symm
theorem none6 (n : Nat) : readL ([102, 97, 114, 45] ++ Lib.decDigits n ++ [45]) = (0, 0, 0) := one_name _ fun j e n' h => by
  obtain ⟨u, m, hm⟩ := far_is h
  have hm : 45 :: (Lib.decDigits n ++ 45 :: []) = 45 :: (Lib.decDigits u ++ 45 :: Lib.decDigits m) := hm
  have hm := (List.cons.inj hm).2
  have h1 := cut_dash (Lib.decDigits u) (Lib.decDigits m) (dec_no_dash u)
  have h2 := cut_dash (Lib.decDigits n) [] (dec_no_dash n)
  rw [← hm] at h1
  have h3 := h2.symm.trans h1
  simp only [Prod.mk.injEq] at h3
  exact dec_ne m h3.2.1.symm
theorem none7 (n : Nat) : readL ([76, 111, 103, 45] ++ Lib.decDigits n) = (0, 0, 0) := one_name _ fun j e n' h => by
  have ht := h.tag
  have : ([76, 111, 103] : List UInt8) = tagL j := ht
  rcases eight j ⟨h.lo, h.hi⟩ with rfl | rfl | rfl | rfl | rfl | rfl | rfl | rfl <;> exact absurd this (by decide)
theorem none8 (n : Nat) : readL ([108, 111, 103] ++ Lib.decDigits n) = (0, 0, 0) := one_name _ fun j e n' h => by
  obtain ⟨m, hm⟩ := log_is h
  have hm : Lib.decDigits n = 45 :: Lib.decDigits m := hm
  exact dec_no n 45 (by decide) (hm ▸ List.mem_cons_self ..)
theorem none9 : readL [99, 117, 114, 114, 101, 110, 116, 45, 49] = (0, 0, 0) := one_name _ fun j e n' h => by
  obtain rfl := tag_of h (k := 4) (by omega) rfl
  rcases h.shape with ⟨_, h1, _⟩ | ⟨h1, _⟩ | ⟨h1, _⟩
  · exact absurd h1 (by decide)
  · exact absurd rfl h1
  · omega
theorem none10 : readL [109, 97, 114, 107, 45] = (0, 0, 0) := one_name _ fun j e n' h => by
  obtain rfl := tag_of h (k := 8) (by omega) rfl
  rcases h.shape with ⟨h1, _⟩ | ⟨_, _, _, m, _, _, h2⟩ | ⟨h1, _⟩
  · exact absurd h1 (by decide)
  · exact dec_ne m (by simpa [headL] using h2.symm)
  · omega
theorem none11 : readL [116, 97, 98, 108, 101, 45, 120] = (0, 0, 0) := one_name _ fun j e n' h => by
  obtain rfl := tag_of h (k := 2) (by omega) rfl
  rcases h.shape with ⟨h1, _⟩ | ⟨_, _, _, m, _, _, h2⟩ | ⟨h1, _⟩
  · exact absurd h1 (by decide)
  · have h3 : [(120 : UInt8)] = Lib.decDigits m := by simpa [headL] using h2
    exact dec_no m 120 (by decide) (h3 ▸ by simp)
  · omega
theorem none12 : readL [] = (0, 0, 0) := one_name _ fun j e n' h => h.ne rfl
end Go.Proofs.YtjlmcidmcdiklaaDoor
