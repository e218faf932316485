/- The plain law of NameBack: a name is read as what it was told of, it is short and of the letters it may have, and no two are alike. -/
import Derived.Test.YtpdbdobckjolkaaDoorNameC
set_option linter.unusedVariables false
set_option linter.unusedSimpArgs false
namespace Go.Proofs.YtpdbdobckjolkaaDoor
open Go

def okC (c : UInt8) : Bool := (decide (97 ≤ c.toNat) && decide (c.toNat ≤ 122)) || (decide (48 ≤ c.toNat) && decide (c.toNat ≤ 57)) || decide (c.toNat = 45)
theorem dig_ok (n : Nat) : ((Lib.decDigits n).all okC) = true := by
  rw [List.all_eq_true]
  intro c hc
  have := List.all_eq_true.1 (dec_all n) c hc
  simp only [isDig, Bool.and_eq_true, decide_eq_true_eq] at this
  simp [okC, this]
theorem head_ok (k : Nat) (hk : 1 ≤ k ∧ k ≤ 8) : ((headL k).all okC) = true ∧ ((wholeL k).all okC) = true ∧ (headL k).length ≤ 6 ∧ (wholeL k).length ≤ 7 := by
  rcases eight k hk with rfl | rfl | rfl | rfl | rfl | rfl | rfl | rfl <;> decide
theorem plain_iff (k : Nat) (hk : 1 ≤ k ∧ k ≤ 8) : headL k = [] ↔ (k = 4 ∨ k = 5 ∨ k = 6) := by
  rcases eight k hk with rfl | rfl | rfl | rfl | rfl | rfl | rfl | rfl <;> decide

def e1 (k : Nat) (e : Nat) : Int := if k = 7 then (e : Int) else 0
def n1 (k : Nat) (n : Nat) : Int := if headL k = [] then 0 else (n : Int)
theorem is_text (k e n : Nat) (hk : 1 ≤ k ∧ k ≤ 8) (he : e ≤ 9007199254740992) (hn : n ≤ 9007199254740992) : Is (textL k e n) k (e1 k e) (n1 k n) := by
  by_cases h7 : k = 7
  · subst h7
    refine ⟨?_, ?_, by omega, by omega, fun h => absurd rfl h, fun h => absurd h (by decide)⟩
    · rw [show ((7 : Nat) : Int) = 7 from rfl, text_far e n he hn]; simp [headL]
    · simp only [e1, n1, if_pos, show headL (7 : Nat) ≠ [] from by decide, if_false]
  · by_cases hp : headL k = []
    · refine ⟨?_, ?_, hk.1, hk.2, fun _ => by simp [e1, h7], fun _ => by simp [n1, hp]⟩
      · rw [text_whole k hp]
        rcases whole_or k hk with ⟨_, h⟩ | ⟨h, _⟩
        · exact h
        · exact absurd hp h
      · rw [text_whole k hp, text_whole k hp]
    · refine ⟨?_, ?_, hk.1, hk.2, fun _ => by simp [e1, h7], fun h => absurd h hp⟩
      · rw [text_one k hp (by omega) n e hn]
        intro h
        exact hp (List.append_eq_nil_iff.1 h).1
      · have : n1 k n = (n : Int) := by simp [n1, hp]
        rw [this, text_one k hp (by omega) n _ hn, text_one k hp (by omega) n _ hn]

theorem text_ok (k e n : Nat) (hk : 1 ≤ k ∧ k ≤ 8) (he : e ≤ 9007199254740992) (hn : n ≤ 9007199254740992) : ((textL k e n).all okC) = true ∧ (textL k e n).length ≤ 40 := by
  obtain ⟨a, b, c, d⟩ := head_ok k hk
  by_cases h7 : k = 7
  · subst h7
    rw [show ((7 : Nat) : Int) = 7 from rfl, text_far e n he hn]
    have l1 := dec_len e he
    have l2 := dec_len n hn
    refine ⟨?_, ?_⟩
    · simp only [List.all_append, List.all_cons, dig_ok, Bool.and_true]
      decide
    · simp only [List.length_append, List.length_cons, headL]
      simp
      omega
  · by_cases hp : headL k = []
    · rw [text_whole k hp]
      exact ⟨b, by omega⟩
    · rw [text_one k hp (by omega) n e hn]
      have l2 := dec_len n hn
      exact ⟨by rw [List.all_append, a, dig_ok]; rfl, by rw [List.length_append]; omega⟩

theorem text_alike (k o e n m : Nat) (hk : 1 ≤ k ∧ k ≤ 8) (ho : 1 ≤ o ∧ o ≤ 8) (he : e ≤ 9007199254740992) (hn : n ≤ 9007199254740992) (hm : m ≤ 9007199254740992) :
    textL k e n = textL o e m ↔ (k = o ∧ (headL k = [] ∨ n = m)) := by
  constructor
  · intro h
    have i1 := is_text k e n hk he hn
    have i2 := is_text o e m ho he hm
    rw [← h] at i2
    obtain ⟨rfl, _, h3⟩ := i1.unique i2
    refine ⟨rfl, ?_⟩
    by_cases hp : headL k = []
    · exact .inl hp
    · simp only [n1, hp, if_false] at h3
      exact .inr (by omega)
  · rintro ⟨rfl, hp | rfl⟩
    · rw [text_whole k hp, text_whole k hp]
    · rfl

theorem text_read (k e n : Nat) (hk : 1 ≤ k ∧ k ≤ 8) (he : e ≤ 9007199254740992) (hn : n ≤ 9007199254740992) : readL (textL k e n) = ((k : Int), e1 k e, n1 k n) :=
  read_complete _ k _ _ (is_text k e n hk he hn) (k - 1) 1 (by omega) (by omega)
end Go.Proofs.YtpdbdobckjolkaaDoor
