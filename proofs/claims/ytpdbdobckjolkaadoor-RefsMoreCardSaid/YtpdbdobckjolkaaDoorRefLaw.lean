/- Plain law: texts put one by one into a rising list are the texts sorted, each once. No program in it. -/
import Derived.Lib.SlicesCompact
set_option linter.unusedVariables false
namespace Go.Proofs.YtpdbdobckjolkaaDoor
abbrev Str := List UInt8
def putS : List Str → Str → List Str
  | [], s => [s]
  | x :: xs, s => if x < s then x :: putS xs s else if x = s then x :: xs else s :: x :: xs
theorem slt_of_le_ne {a b : Str} (h : a ≤ b) (hn : a ≠ b) : a < b := by
  rcases Classical.em (a < b) with h1 | h1
  · exact h1
  · exact absurd (List.le_antisymm h h1) hn
theorem slt_trans {a b c : Str} (h : a < b) (k : b < c) : a < c := List.lt_trans h k
theorem sle_of_lt {a b : Str} (h : a < b) : a ≤ b := fun k => absurd (List.lt_trans h k) (List.lt_irrefl a)
theorem slt_of_le_lt {a b c : Str} (h : a ≤ b) (k : b < c) : a < c :=
  slt_of_le_ne (List.le_trans h (sle_of_lt k)) (fun e => by subst e; exact h k)
abbrev Asc (l : List Str) : Prop := l.Pairwise (· < ·)
theorem mem_putS (s y : Str) : ∀ l, y ∈ putS l s ↔ y = s ∨ y ∈ l
  | [] => by simp [putS]
  | x :: xs => by
    unfold putS
    split
    · simp only [List.mem_cons, mem_putS s y xs]
      constructor
      · rintro (h | h | h) <;> simp [h]
      · rintro (h | h | h) <;> simp [h]
    · split
      · rename_i h; subst h; simp
      · simp
theorem asc_putS (s : Str) : ∀ l, Asc l → Asc (putS l s)
  | [], h => by simp [putS]
  | x :: xs, h => by
    have h' := List.pairwise_cons.1 h
    unfold putS
    split
    · rename_i hx
      refine List.pairwise_cons.2 ⟨fun y hy => ?_, asc_putS s xs h'.2⟩
      rcases (mem_putS s y xs).1 hy with rfl | hy
      · exact hx
      · exact h'.1 y hy
    · rename_i hx
      split
      · exact h
      · rename_i hne
        have hs : s < x := slt_of_le_ne hx (fun e => hne e.symm)
        refine List.pairwise_cons.2 ⟨fun y hy => ?_, h⟩
        rcases List.mem_cons.1 hy with rfl | hy
        · exact hs
        · exact slt_trans hs (h'.1 y hy)
theorem asc_uniq : ∀ a b : List Str, Asc a → Asc b → (∀ y, y ∈ a ↔ y ∈ b) → a = b
  | [], [], _, _, _ => rfl
  | [], y :: ys, _, _, h => absurd ((h y).2 (by simp)) (by simp)
  | x :: xs, [], _, _, h => absurd ((h x).1 (by simp)) (by simp)
  | x :: xs, y :: ys, ha, hb, h => by
    have ha' := List.pairwise_cons.1 ha
    have hb' := List.pairwise_cons.1 hb
    have hxy : x = y := by
      rcases List.mem_cons.1 ((h x).1 (by simp)) with e | hx
      · exact e
      · rcases List.mem_cons.1 ((h y).2 (by simp)) with e | hy
        · exact e.symm
        · exact absurd (slt_trans (ha'.1 y hy) (hb'.1 x hx)) (List.lt_irrefl x)
    subst hxy
    rw [asc_uniq xs ys ha'.2 hb'.2 (fun y => ?_)]
    constructor
    · intro hy
      rcases List.mem_cons.1 ((h y).1 (by simp [hy])) with e | h2
      · subst e; exact absurd (ha'.1 y hy) (List.lt_irrefl y)
      · exact h2
    · intro hy
      rcases List.mem_cons.1 ((h y).2 (by simp [hy])) with e | h2
      · subst e; exact absurd (hb'.1 y hy) (List.lt_irrefl y)
      · exact h2
theorem mem_compact (zs : List Str) (y : Str) : y ∈ Go.Lib.compact zs ↔ y ∈ zs := by
  unfold Go.Lib.compact Go.Lib.compactUpTo
  simp only [List.mem_map, List.mem_filter, List.mem_range]
  constructor
  · rintro ⟨j, ⟨hj, _⟩, rfl⟩
    rw [getElem!_pos zs.toArray j (by simpa using hj)]
    simp
  · intro h
    obtain ⟨j, hj, rfl⟩ := List.mem_iff_getElem.1 h
    induction j with
    | zero => exact ⟨0, ⟨hj, by simp [Go.Lib.keeps]⟩, by rw [getElem!_pos zs.toArray 0 (by simpa using hj)]; simp⟩
    | succ j ih =>
      by_cases hk : zs[j + 1] = zs[j]'(by omega)
      · rw [hk]; exact ih (by omega) (List.getElem_mem _)
      · refine ⟨j + 1, ⟨hj, ?_⟩, by rw [getElem!_pos zs.toArray (j+1) (by simpa using hj)]; simp⟩
        apply Go.Lib.keeps_pos
        rw [getElem!_pos zs.toArray (j+1) (by simpa using hj), getElem!_pos zs.toArray (j+1-1) (by simp; omega)]
        simpa using hk
theorem asc_compact (zs : List Str) (hs : zs.Pairwise (· ≤ ·)) : Asc (Go.Lib.compact zs) := by
  unfold Go.Lib.compact Go.Lib.compactUpTo Asc
  rw [List.pairwise_map, List.pairwise_filter]
  refine List.Pairwise.imp_of_mem ?_ List.pairwise_lt_range
  intro i j hi hj hij ki kj
  have hi := List.mem_range.1 hi
  have hj := List.mem_range.1 hj
  rw [getElem!_pos zs.toArray i (by simpa using hi), getElem!_pos zs.toArray j (by simpa using hj)]
  have hne : zs[j] ≠ zs[j-1] := by
    unfold Go.Lib.keeps at kj
    rw [getElem!_pos zs.toArray j (by simpa using hj), getElem!_pos zs.toArray (j-1) (by simp; omega)] at kj
    simp at kj
    rcases kj with h | h
    · omega
    · exact h
  have hle : ∀ (a b : Nat) (ha : a < zs.length) (hb : b < zs.length), a ≤ b → zs[a] ≤ zs[b] := by
    intro a b ha hb hab
    rcases Nat.lt_or_eq_of_le hab with h | h
    · exact List.pairwise_iff_getElem.1 hs a b ha hb h
    · subst h; exact List.le_refl _
  simp only [List.getElem_toArray]
  have h1 := hle i (j-1) hi (by omega) (by omega)
  have h2 := hle (j-1) j (by omega) hj (by omega)
  exact slt_of_le_lt h1 (slt_of_le_ne h2 (fun e => hne e.symm))
def sortS (zs : List Str) : List Str := zs.mergeSort fun x y => decide (x ≤ y)
theorem sorted_sortS (zs : List Str) : (sortS zs).Pairwise (· ≤ ·) := by
  have := List.pairwise_mergeSort (le := fun x y : Str => decide (x ≤ y)) (fun a b c h k => by simp at *; exact List.le_trans h k) (fun a b => by simp; exact List.le_total a b) zs
  exact this.imp (fun h => by simpa using h)
def risingS (zs : List Str) : List Str := Go.Lib.compact (sortS zs)
theorem mem_risingS (zs : List Str) (y : Str) : y ∈ risingS zs ↔ y ∈ zs := by
  unfold risingS sortS
  rw [mem_compact, List.mem_mergeSort]
theorem asc_risingS (zs : List Str) : Asc (risingS zs) := asc_compact _ (sorted_sortS zs)
def putAll (zs : List Str) : List Str := zs.foldl putS []
theorem putAll_snoc (zs : List Str) (s : Str) : putAll (zs ++ [s]) = putS (putAll zs) s := by unfold putAll; rw [List.foldl_append]; rfl
theorem asc_foldl (zs : List Str) : ∀ acc, Asc acc → Asc (zs.foldl putS acc) := by
  induction zs with
  | nil => intro acc h; exact h
  | cons z zs ih => intro acc h; exact ih _ (asc_putS z acc h)
theorem mem_foldl (zs : List Str) (y : Str) : ∀ acc, y ∈ zs.foldl putS acc ↔ y ∈ acc ∨ y ∈ zs := by
  induction zs with
  | nil => intro acc; simp
  | cons z zs ih => intro acc; rw [List.foldl_cons, ih, mem_putS, List.mem_cons, or_comm (a := y = z), or_assoc]
theorem putAll_eq (zs : List Str) : putAll zs = risingS zs :=
  asc_uniq _ _ (asc_foldl zs [] List.Pairwise.nil) (asc_risingS zs) (fun y => by rw [mem_risingS]; unfold putAll; rw [mem_foldl]; simp)
end Go.Proofs.YtpdbdobckjolkaaDoor
