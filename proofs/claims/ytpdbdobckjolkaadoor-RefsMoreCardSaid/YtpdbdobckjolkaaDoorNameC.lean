/- The plain law of names: a text is at most one name; the program and the reference read the same of it. -/
import Derived.Test.YtpdbdobckjolkaaDoorNameS
set_option linter.unusedVariables false
set_option linter.unusedSimpArgs false
namespace Go.Proofs.YtpdbdobckjolkaaDoor
open Go

def tagL (k : Nat) : List UInt8 :=
  if k = 1 then [108, 111, 103] else if k = 2 then [116, 97, 98] else if k = 3 then [108, 105, 115] else if k = 4 then [99, 117, 114] else if k = 5 then [116, 101, 109] else if k = 6 then [99, 97, 99] else if k = 7 then [102, 97, 114] else [109, 97, 114]
theorem tag_inj {a b : Nat} (ha : 1 ≤ a ∧ a ≤ 8) (hb : 1 ≤ b ∧ b ≤ 8) (h : tagL a = tagL b) : a = b := by
  have h1 : a = 1 ∨ a = 2 ∨ a = 3 ∨ a = 4 ∨ a = 5 ∨ a = 6 ∨ a = 7 ∨ a = 8 := by omega
  have h2 : b = 1 ∨ b = 2 ∨ b = 3 ∨ b = 4 ∨ b = 5 ∨ b = 6 ∨ b = 7 ∨ b = 8 := by omega
  rcases h1 with rfl | rfl | rfl | rfl | rfl | rfl | rfl | rfl <;> rcases h2 with rfl | rfl | rfl | rfl | rfl | rfl | rfl | rfl <;> first | rfl | (exfalso; revert h; decide)
theorem eight (k : Nat) (h : 1 ≤ k ∧ k ≤ 8) : k = 1 ∨ k = 2 ∨ k = 3 ∨ k = 4 ∨ k = 5 ∨ k = 6 ∨ k = 7 ∨ k = 8 := by omega
/-- the head of a kind, with what may stand behind it -/
theorem head_take (k : Nat) (hk : 1 ≤ k ∧ k ≤ 8) (h : headL k ≠ []) (r : List UInt8) : (headL k ++ r).take 3 = tagL k := by
  rcases eight k hk with rfl | rfl | rfl | rfl | rfl | rfl | rfl | rfl <;> first | rfl | (exfalso; exact h rfl)
theorem whole_take (k : Nat) (hk : 1 ≤ k ∧ k ≤ 8) (h : wholeL k ≠ []) : (wholeL k).take 3 = tagL k := by
  rcases eight k hk with rfl | rfl | rfl | rfl | rfl | rfl | rfl | rfl <;> first | rfl | (exfalso; exact h rfl)
theorem whole_or (k : Nat) (hk : 1 ≤ k ∧ k ≤ 8) : (headL k = [] ∧ wholeL k ≠ []) ∨ (headL k ≠ [] ∧ wholeL k = []) := by
  rcases eight k hk with rfl | rfl | rfl | rfl | rfl | rfl | rfl | rfl <;> first | (left; exact ⟨rfl, by decide⟩) | (right; exact ⟨by decide, rfl⟩)
theorem itoa_eq (n : Int) (h : mayN n = true) : ∃ m : Nat, m ≤ 9007199254740992 ∧ n = m ∧ Lib.itoa n = Lib.decDigits m := by
  rw [mayN_iff] at h
  obtain ⟨m, rfl⟩ : ∃ m : Nat, n = m := ⟨n.toNat, by omega⟩
  exact ⟨m, by omega, rfl, itoa_nat m⟩

structure Is (s : List UInt8) (k : Nat) (e n : Int) : Prop where
  ne : s ≠ []
  eq : textL k e n = s
  lo : 1 ≤ k
  hi : k ≤ 8
  far : k ≠ 7 → e = 0
  num : headL k = [] → n = 0

/-- what a name is made of -/
theorem Is.shape {s : List UInt8} {k : Nat} {e n : Int} (h : Is s k e n) :
    (headL k = [] ∧ s = wholeL k ∧ e = 0 ∧ n = 0) ∨
    (headL k ≠ [] ∧ k ≠ 7 ∧ e = 0 ∧ ∃ m : Nat, m ≤ 9007199254740992 ∧ n = m ∧ s = headL k ++ Lib.decDigits m) ∨
    (k = 7 ∧ ∃ m u : Nat, m ≤ 9007199254740992 ∧ u ≤ 9007199254740992 ∧ e = u ∧ n = m ∧ s = headL 7 ++ (Lib.decDigits u ++ 45 :: Lib.decDigits m)) := by
  have he := h.eq
  unfold textL at he
  by_cases h1 : headL k = []
  · rw [if_pos h1] at he
    have : k ≠ 7 := by rintro rfl; exact absurd h1 (by decide)
    exact .inl ⟨h1, he.symm, h.far this, h.num h1⟩
  · rw [if_neg h1] at he
    by_cases h2 : mayN n = false
    · rw [if_pos h2] at he; exact absurd he.symm h.ne
    · rw [if_neg h2] at he
      simp only [Bool.not_eq_false] at h2
      obtain ⟨m, hm, hnm, hi⟩ := itoa_eq n h2
      by_cases h3 : k = 7
      · subst h3
        rw [if_neg (by simp)] at he
        by_cases h4 : mayN e = false
        · rw [if_pos h4] at he; exact absurd he.symm h.ne
        · rw [if_neg h4] at he
          simp only [Bool.not_eq_false] at h4
          obtain ⟨u, hu, heu, hj⟩ := itoa_eq e h4
          refine .inr (.inr ⟨rfl, m, u, hm, hu, heu, hnm, ?_⟩)
          rw [← he, hi, hj]
          show headL 7 ++ Lib.decDigits u ++ [45] ++ Lib.decDigits m = _
          simp
      · have h3' : ((k : Nat) : Int) ≠ 7 := by omega
        rw [if_pos h3'] at he
        exact .inr (.inl ⟨h1, h3, h.far h3, m, hm, hnm, by rw [← he, hi]⟩)
theorem Is.tag {s : List UInt8} {k : Nat} {e n : Int} (h : Is s k e n) : s.take 3 = tagL k := by
  rcases h.shape with ⟨h1, h2, _⟩ | ⟨h1, _, _, m, _, _, rfl⟩ | ⟨rfl, m, u, _, _, _, _, rfl⟩
  · rw [h2]
    rcases whole_or k ⟨h.lo, h.hi⟩ with ⟨_, hw⟩ | ⟨hh, _⟩
    · exact whole_take k ⟨h.lo, h.hi⟩ hw
    · exact absurd h1 hh
  · exact head_take k ⟨h.lo, h.hi⟩ h1 _
  · exact head_take 7 (by omega) (by decide) _

theorem index_dash (d r : List UInt8) (h : ∀ c ∈ d, c ≠ 45) : Lib.index (d ++ 45 :: r) [45] = d.length := by
  induction d with
  | nil => rfl
  | cons c d ih =>
    have hc : c ≠ 45 := h c (by simp)
    have ih' := ih (fun x hx => h x (by simp [hx]))
    show (if List.isPrefixOf [45] (c :: (d ++ 45 :: r)) then (0 : Int) else if Lib.index (d ++ 45 :: r) [45] == -1 then -1 else Lib.index (d ++ 45 :: r) [45] + 1) = _
    have : List.isPrefixOf [45] (c :: (d ++ 45 :: r)) = false := by
      simp [List.isPrefixOf]; exact fun h => hc h.symm
    rw [this, ih']
    simp
theorem dec_no_dash (n : Nat) : ∀ c ∈ Lib.decDigits n, c ≠ 45 := by
  intro c hc h
  have := List.all_eq_true.1 (dec_all n) c hc
  subst h
  exact absurd this (by decide)
theorem cut_dash (d r : List UInt8) (h : ∀ c ∈ d, c ≠ 45) : Lib.cut (d ++ 45 :: r) [45] = (d, r, true) := by
  unfold Lib.cut
  rw [index_dash d r h, if_pos (by omega), Int.toNat_natCast]
  simp
theorem cut_only (s c1 c2 : List UInt8) (h : Lib.cut s [45] = (c1, c2, true)) : s = c1 ++ 45 :: c2 := by
  unfold Lib.cut at h
  split at h
  · rename_i h0
    simp only [Prod.mk.injEq, and_true] at h
    obtain ⟨rfl, rfl⟩ := h
    have hocc : ∀ (l : List UInt8), 0 ≤ Lib.index l [45] → l = l.take (Lib.index l [45]).toNat ++ 45 :: l.drop ((Lib.index l [45]).toNat + 1) := by
      intro l
      induction l with
      | nil => intro h; exact absurd h (by decide)
      | cons c l ih =>
        intro h
        have hd : Lib.index (c :: l) [45] = if List.isPrefixOf [45] (c :: l) then (0 : Int) else if Lib.index l [45] == -1 then -1 else Lib.index l [45] + 1 := rfl
        by_cases hc : c = 45
        · subst hc
          have : Lib.index (45 :: l) [45] = 0 := by rw [hd]; simp [List.isPrefixOf]
          rw [this]; simp
        · have hp : List.isPrefixOf [45] (c :: l) = false := by simp [List.isPrefixOf]; exact fun h => hc h.symm
          rw [hp] at hd
          simp only [Bool.false_eq_true, if_false] at hd
          by_cases hm : Lib.index l [45] = -1
          · rw [hm] at hd; rw [hd] at h; exact absurd h (by decide)
          · have hm2 : (Lib.index l [45] == -1) = false := by simpa using hm
            rw [hm2] at hd
            simp only [Bool.false_eq_true, if_false] at hd
            have hge := Lib.index_ge l [45]
            have h0 : 0 ≤ Lib.index l [45] := by omega
            have := ih h0
            rw [hd, show (Lib.index l [45] + 1).toNat = (Lib.index l [45]).toNat + 1 by omega, List.take_succ_cons, List.drop_succ_cons]
            rw [List.cons_append, ← this]
    exact hocc s h0
  · simp at h
theorem prefix_split (s p : List UInt8) (h : Lib.hasPrefix s p = true) : s = p ++ s.drop p.length := by
  unfold Lib.hasPrefix at h
  obtain ⟨t, rfl⟩ := List.isPrefixOf_iff_prefix.1 h
  simp

theorem Is.unique {s : List UInt8} {k k' : Nat} {e n e' n' : Int} (h : Is s k e n) (h' : Is s k' e' n') : k = k' ∧ e = e' ∧ n = n' := by
  obtain rfl : k = k' := tag_inj ⟨h.lo, h.hi⟩ ⟨h'.lo, h'.hi⟩ (h.tag.symm.trans h'.tag)
  refine ⟨rfl, ?_⟩
  rcases h.shape with ⟨h1, _, rfl, rfl⟩ | ⟨h1, h7, rfl, m, _, rfl, hs⟩ | ⟨rfl, m, u, _, _, rfl, rfl, hs⟩
  · rcases h'.shape with ⟨_, _, rfl, rfl⟩ | ⟨h1', _⟩ | ⟨rfl, _⟩
    · exact ⟨rfl, rfl⟩
    · exact absurd h1 h1'
    · exact absurd h1 (by decide)
  · rcases h'.shape with ⟨h1', _⟩ | ⟨_, _, rfl, m', _, rfl, hs'⟩ | ⟨rfl, _⟩
    · exact absurd h1' h1
    · rw [hs] at hs'
      have := dec_inj (List.append_cancel_left hs')
      subst this; exact ⟨rfl, rfl⟩
    · exact absurd rfl h7
  · rcases h'.shape with ⟨h1', _⟩ | ⟨_, h7', _⟩ | ⟨_, m', u', _, _, rfl, rfl, hs'⟩
    · exact absurd h1' (by decide)
    · exact absurd rfl h7'
    · rw [hs] at hs'
      have := List.append_cancel_left hs'
      have c1 := cut_dash _ (Lib.decDigits m) (dec_no_dash u)
      rw [this, cut_dash _ _ (dec_no_dash u')] at c1
      simp only [Prod.mk.injEq, and_true] at c1
      have a := dec_inj c1.1
      have b := dec_inj c1.2
      subst a; subst b; exact ⟨rfl, rfl⟩

theorem text_far (u m : Nat) (hu : u ≤ 9007199254740992) (hm : m ≤ 9007199254740992) : textL 7 u m = headL 7 ++ (Lib.decDigits u ++ 45 :: Lib.decDigits m) := by
  unfold textL
  rw [if_neg (by decide), if_neg (by rw [(mayN_iff _).2 ⟨by omega, by omega⟩]; simp), if_neg (by simp), if_neg (by rw [(mayN_iff _).2 ⟨by omega, by omega⟩]; simp), itoa_nat, itoa_nat]
  show headL 7 ++ Lib.decDigits u ++ [45] ++ Lib.decDigits m = _
  simp
theorem text_one (k : Nat) (h : headL k ≠ []) (h7 : k ≠ 7) (m : Nat) (e : Int) (hm : m ≤ 9007199254740992) : textL k e m = headL k ++ Lib.decDigits m := by
  unfold textL
  rw [if_neg h, if_neg (by rw [(mayN_iff _).2 ⟨by omega, by omega⟩]; simp), if_pos (by omega), itoa_nat]
theorem text_whole (k : Nat) (h : headL k = []) (e n : Int) : textL k e n = wholeL k := by
  unfold textL; rw [if_pos h]

/-- what the program reads is a name -/
theorem read_sound (s : List UInt8) : ∀ (d k : Nat), k + d = 9 → 1 ≤ k → readKs s (kindsFrom k) = (0, 0, 0) ∨ ∃ (j : Nat) (e n : Int), readKs s (kindsFrom k) = ((j : Int), e, n) ∧ Is s j e n := by
  intro d
  induction d with
  | zero => intro k hk _; obtain rfl : k = 9 := by omega
            exact .inl rfl
  | succ d ih =>
    intro k hk h1
    have ih := ih (k + 1) (by omega) (by omega)
    rw [kindsFrom_cons k (by omega)]
    unfold readKs
    by_cases hA : s ≠ [] ∧ s = wholeL k
    · rw [if_pos hA]
      right
      have hh : headL k = [] := by
        rcases whole_or k ⟨h1, by omega⟩ with ⟨h, _⟩ | ⟨_, h⟩
        · exact h
        · rw [h] at hA; exact absurd hA.2 hA.1
      exact ⟨k, 0, 0, rfl, hA.1, by rw [text_whole k hh]; exact hA.2.symm, h1, by omega, fun _ => rfl, fun _ => rfl⟩
    · rw [if_neg hA]
      by_cases hB : Lib.hasPrefix s (headL k) = false ∨ headL k = []
      · rw [if_pos hB]; exact ih
      · rw [if_neg hB]
        have hp : Lib.hasPrefix s (headL k) = true := by
          cases h : Lib.hasPrefix s (headL k) with
          | true => rfl
          | false => exact absurd (Or.inl h) hB
        have hh : headL k ≠ [] := fun h => hB (Or.inr h)
        have hs := prefix_split s _ hp
        have hne : s ≠ [] := by rintro rfl; simp at hs; exact hh hs
        by_cases h7 : k = 7
        · subst h7
          rw [if_pos (show ((7 : Nat) : Int) = 7 from rfl)]
          obtain ⟨c1, c2, c3, hc⟩ : ∃ c1 c2 c3, Lib.cut (s.drop (headL (7 : Nat)).length) [45] = (c1, c2, c3) := ⟨_, _, _, rfl⟩
          simp only [hc]
          by_cases hD : c3 = true ∧ numB c1 = true ∧ numB c2 = true
          · rw [if_pos hD]
            right
            obtain ⟨rfl, h2, h3⟩ := hD
            obtain ⟨u, hu, rfl, hvu⟩ := num_only c1 h2
            obtain ⟨m, hm, rfl, hvm⟩ := num_only c2 h3
            refine ⟨7, _, _, rfl, hne, ?_, by omega, by omega, fun h => absurd rfl h, fun h => absurd h (by decide)⟩
            rw [hvu, hvm]
            show textL 7 u m = s
            rw [text_far u m hu hm, ← cut_only _ _ _ hc]
            exact hs.symm
          · rw [if_neg hD]; exact .inl rfl
        · rw [if_neg (by omega)]
          by_cases hD : numB (s.drop (headL k).length) = true
          · rw [if_pos hD]
            right
            obtain ⟨m, hm, hd, hvm⟩ := num_only _ hD
            refine ⟨k, 0, _, rfl, hne, ?_, h1, by omega, fun _ => rfl, fun h => absurd h hh⟩
            rw [hvm, text_one k hh h7 m 0 hm, ← hd]
            exact hs.symm
          · rw [if_neg hD]; exact .inl rfl
theorem prefix_tag (s : List UInt8) (k : Nat) (hk : 1 ≤ k ∧ k ≤ 8) (h : headL k ≠ []) (hp : Lib.hasPrefix s (headL k) = true) : s.take 3 = tagL k := by
  rw [prefix_split s _ hp]; exact head_take k hk h _
/-- a name is read -/
theorem read_complete (s : List UInt8) (a : Nat) (e n : Int) (h : Is s a e n) : ∀ (d k : Nat), k + d = a → 1 ≤ k → readKs s (kindsFrom k) = ((a : Int), e, n) := by
  intro d
  have hl := h.lo
  have hi := h.hi
  induction d with
  | zero =>
    intro k hk h1
    obtain rfl : k = a := by omega
    rw [kindsFrom_cons k (by omega)]
    unfold readKs
    rcases h.shape with ⟨hh, hs, rfl, rfl⟩ | ⟨hh, h7, rfl, m, hm, rfl, hs⟩ | ⟨rfl, m, u, hm, hu, rfl, rfl, hs⟩
    · rw [if_pos ⟨h.ne, hs⟩]
    · have hw : wholeL k = [] := by
        rcases whole_or k ⟨hl, hi⟩ with ⟨h', _⟩ | ⟨_, h'⟩
        · exact absurd h' hh
        · exact h'
      rw [if_neg (by rw [hw]; exact fun hx => hx.1 hx.2)]
      have hp : Lib.hasPrefix s (headL k) = true := by unfold Lib.hasPrefix; rw [hs]; exact List.isPrefixOf_iff_prefix.2 ⟨_, rfl⟩
      rw [if_neg (by simp [hp, hh]), if_neg (by omega)]
      have hd : s.drop (headL k).length = Lib.decDigits m := by rw [hs]; simp
      rw [hd, if_pos (num_dec m hm).1, (num_dec m hm).2]
    · have hw : wholeL (7 : Nat) = [] := rfl
      rw [if_neg (by rw [hw]; exact fun hx => hx.1 hx.2)]
      have hp : Lib.hasPrefix s (headL (7 : Nat)) = true := by unfold Lib.hasPrefix; rw [hs]; exact List.isPrefixOf_iff_prefix.2 ⟨_, rfl⟩
      have hh : headL (7 : Nat) ≠ [] := by decide
      rw [if_neg (by rintro (h' | h'); · rw [hp] at h'; cases h'
                     · exact hh h'), if_pos (show ((7 : Nat) : Int) = 7 from rfl)]
      have hd : s.drop (headL (7 : Nat)).length = Lib.decDigits u ++ 45 :: Lib.decDigits m := by rw [hs]; rfl
      simp only [hd, cut_dash _ _ (dec_no_dash u)]
      rw [if_pos ⟨trivial, (num_dec u hu).1, (num_dec m hm).1⟩, (num_dec u hu).2, (num_dec m hm).2]
  | succ d ih =>
    intro k hk h1
    have ih := ih (k + 1) (by omega) (by omega)
    rw [kindsFrom_cons k (by omega)]
    unfold readKs
    have hne : tagL k ≠ tagL a := fun ht => by have := tag_inj ⟨h1, by omega⟩ ⟨hl, hi⟩ ht; omega
    rw [if_neg, if_pos]
    · exact ih
    · by_cases hh : headL k = []
      · exact .inr hh
      · left
        cases hp : Lib.hasPrefix s (headL k) with
        | false => rfl
        | true => exact absurd ((prefix_tag s k ⟨h1, by omega⟩ hh hp).symm.trans h.tag) hne
    · rintro ⟨hs0, hs⟩
      have : wholeL k ≠ [] := by rw [← hs]; exact hs0
      have ht := whole_take k ⟨h1, by omega⟩ this
      rw [← hs] at ht
      exact hne (ht.symm.trans h.tag)

/-- what the reference reads is a name -/
theorem ref_sound (s : List UInt8) : ∀ (d k : Nat), k + d = 9 → 1 ≤ k → refKs s (kindsFrom k) = (0, 0, 0) ∨ ∃ (j : Nat) (e n : Int), refKs s (kindsFrom k) = ((j : Int), e, n) ∧ Is s j e n := by
  intro d
  induction d with
  | zero => intro k hk _; obtain rfl : k = 9 := by omega
            exact .inl rfl
  | succ d ih =>
    intro k hk h1
    have ih := ih (k + 1) (by omega) (by omega)
    rw [kindsFrom_cons k (by omega)]
    unfold refKs
    by_cases hA : s ≠ [] ∧ 0 ≤ refE s k ∧ 0 ≤ refN s k ∧ textL k (refE s k) (refN s k) = s
    · rw [if_pos hA]
      right
      refine ⟨k, _, _, rfl, hA.1, hA.2.2.2, h1, by omega, fun h7 => ?_, fun hh => ?_⟩
      · unfold refE; rw [if_neg (by omega)]
      · have h7 : ¬ (k : Int) = 7 := by
          intro h; obtain rfl : k = 7 := by omega
          exact absurd hh (by decide)
        unfold refN; rw [if_neg h7, if_pos (by unfold wordL; rw [if_neg h7]; exact hh)]
    · rw [if_neg hA]; exact ih
theorem dash_dec (u m : Nat) : dashAt (headL 7 ++ (Lib.decDigits u ++ 45 :: Lib.decDigits m)) = 4 + (Lib.decDigits u).length := by
  unfold dashAt
  congr 1
  show ((Lib.decDigits u ++ 45 :: Lib.decDigits m).takeWhile fun c => c != 45).length = _
  rw [List.takeWhile_append_of_pos (by intro c hc; simpa using dec_no_dash u c hc)]
  simp
theorem ref_complete (s : List UInt8) (a : Nat) (e n : Int) (h : Is s a e n) : ∀ (d k : Nat), k + d = a → 1 ≤ k → refKs s (kindsFrom k) = ((a : Int), e, n) := by
  intro d
  have hl := h.lo
  have hi := h.hi
  induction d with
  | zero =>
    intro k hk h1
    obtain rfl : k = a := by omega
    rw [kindsFrom_cons k (by omega)]
    unfold refKs
    have key : refE s k = e ∧ refN s k = n := by
      rcases h.shape with ⟨hh, hs, rfl, rfl⟩ | ⟨hh, h7, rfl, m, hm, rfl, hs⟩ | ⟨rfl, m, u, hm, hu, rfl, rfl, hs⟩
      · have h7 : ¬ (k : Int) = 7 := by
          intro h; obtain rfl : k = 7 := by omega
          exact absurd hh (by decide)
        exact ⟨by unfold refE; rw [if_neg h7], by unfold refN; rw [if_neg h7, if_pos (by unfold wordL; rw [if_neg h7]; exact hh)]⟩
      · have h7' : ¬ (k : Int) = 7 := by omega
        have hw : wordL k = headL k := by unfold wordL; rw [if_neg h7']
        refine ⟨by unfold refE; rw [if_neg h7'], ?_⟩
        unfold refN
        rw [if_neg h7', hw, if_neg hh, hs]
        simp [refNum_dec m hm]
      · have hda := dash_dec u m
        rw [← hs] at hda
        refine ⟨?_, ?_⟩
        · unfold refE
          rw [if_pos (show ((7 : Nat) : Int) = 7 from rfl), hda, List.drop_take, hs]
          show refNum ((Lib.decDigits u ++ 45 :: Lib.decDigits m).take (4 + (Lib.decDigits u).length - 4)) = _
          rw [Nat.add_sub_cancel_left, List.take_left', refNum_dec u hu]
          rfl
        · unfold refN
          rw [if_pos (show ((7 : Nat) : Int) = 7 from rfl), hda, hs]
          show refNum ((headL 7 ++ (Lib.decDigits u ++ 45 :: Lib.decDigits m)).drop (4 + (Lib.decDigits u).length + 1)) = _
          have e4 : headL 7 ++ (Lib.decDigits u ++ 45 :: Lib.decDigits m) = (headL 7 ++ (Lib.decDigits u ++ [45])) ++ Lib.decDigits m := by simp
          rw [e4, List.drop_left' (by simp [headL]; omega), refNum_dec m hm]
    rw [key.1, key.2]
    have hnn : 0 ≤ e ∧ 0 ≤ n := by
      rcases h.shape with ⟨_, _, rfl, rfl⟩ | ⟨_, _, rfl, m, _, rfl, _⟩ | ⟨_, m, u, _, _, rfl, rfl, _⟩ <;> omega
    rw [if_pos ⟨h.ne, hnn.1, hnn.2, h.eq⟩]
  | succ d ih =>
    intro k hk h1
    have ih := ih (k + 1) (by omega) (by omega)
    rw [kindsFrom_cons k (by omega)]
    unfold refKs
    rw [if_neg]
    · exact ih
    · rintro ⟨h1', h2, h3, h4⟩
      have his : Is s k (refE s k) (refN s k) := by
        refine ⟨h1', h4, h1, by omega, fun h7 => ?_, fun hh => ?_⟩
        · unfold refE; rw [if_neg (by omega)]
        · have h7 : ¬ (k : Int) = 7 := by
            intro h; obtain rfl : k = 7 := by omega
            exact absurd hh (by decide)
          unfold refN; rw [if_neg h7, if_pos (by unfold wordL; rw [if_neg h7]; exact hh)]
      have := (his.unique h).1
      omega
/-- the program and the reference read the same -/
theorem read_ref (s : List UInt8) : readL s = refL s := by
  by_cases hex : ∃ (j : Nat) (e n : Int), Is s j e n
  · obtain ⟨j, e, n, h⟩ := hex
    have hl := h.lo
    unfold readL refL
    rw [read_complete s j e n h (j - 1) 1 (by omega) (by omega), ref_complete s j e n h (j - 1) 1 (by omega) (by omega)]
  · have a : readL s = (0, 0, 0) := by
      rcases read_sound s 8 1 (by omega) (by omega) with h | ⟨j, e, n, _, h⟩
      · exact h
      · exact absurd ⟨j, e, n, h⟩ hex
    have b : refL s = (0, 0, 0) := by
      rcases ref_sound s 8 1 (by omega) (by omega) with h | ⟨j, e, n, _, h⟩
      · exact h
      · exact absurd ⟨j, e, n, h⟩ hex
    rw [a, b]
end Go.Proofs.YtpdbdobckjolkaaDoor
