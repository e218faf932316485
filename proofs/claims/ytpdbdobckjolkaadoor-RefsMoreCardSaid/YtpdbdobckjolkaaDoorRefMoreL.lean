/- The plain facts of the law RefsMore: what is in the lists, and what a name is read as. -/
import Derived.Test.YtpdbdobckjolkaaDoorNameBackLaw
import Derived.Test.YtpdbdobckjolkaaDoorRefEq
import Derived.Test.YtpdbdobckjolkaaDoorRefNeed
import Derived.Test.YtpdbdobckjolkaaDoorRefProg
set_option linter.unusedVariables false
set_option linter.unusedSimpArgs false
namespace Go.Proofs.YtpdbdobckjolkaaDoor
open Go.RowKit Go.Sort

def list9B : ByteArray := ⟨#[108, 105, 115, 116, 45, 57]⟩
def mark7B : ByteArray := ⟨#[109, 97, 114, 107, 45, 55]⟩
def mark6B : ByteArray := ⟨#[109, 97, 114, 107, 45, 54]⟩
theorem toL_name (k e n : Int) : toL (nameB k e n) = textL k e n := rfl
theorem read_name (k n : Nat) (hk : k = 1 ∨ k = 2 ∨ k = 8) (hn : n ≤ 1000) : readL (toL (nameB k 0 n)) = ((k : Int), 0, (n : Int)) := by
  have := text_read k 0 n (by omega) (by omega) (by omega)
  rw [toL_name]
  rcases hk with rfl | rfl | rfl
  all_goals (rw [show ((0 : Nat) : Int) = 0 from rfl] at this; rw [this]; simp [e1, n1, headL])
theorem dig1 (n : Nat) (h : n < 10) : Lib.decDigits n = [UInt8.ofNat (48 + n)] := by
  have h2 : n = 0 ∨ n = 1 ∨ n = 2 ∨ n = 3 ∨ n = 4 ∨ n = 5 ∨ n = 6 ∨ n = 7 ∨ n = 8 ∨ n = 9 := by omega
  rcases h2 with rfl | rfl | rfl | rfl | rfl | rfl | rfl | rfl | rfl | rfl <;> decide +kernel
theorem text_cache : textL (6 : Nat) (0 : Nat) (0 : Nat) = toL cacheB := by decide +kernel
theorem text_current : textL (4 : Nat) (0 : Nat) (0 : Nat) = toL currentB := by decide +kernel
theorem text_list9 : textL (3 : Nat) (0 : Nat) (9 : Nat) = toL list9B := by
  rw [text_one 3 (by decide) (by decide) 9 ((0 : Nat) : Int) (by omega), dig1 9 (by omega)]; decide +kernel
theorem text_mark7 : textL (8 : Nat) (0 : Nat) (7 : Nat) = toL mark7B := by
  rw [text_one 8 (by decide) (by decide) 7 ((0 : Nat) : Int) (by omega), dig1 7 (by omega)]; decide +kernel
theorem text_mark6 : textL (8 : Nat) (0 : Nat) (6 : Nat) = toL mark6B := by
  rw [text_one 8 (by decide) (by decide) 6 ((0 : Nat) : Int) (by omega), dig1 6 (by omega)]; decide +kernel
theorem read_cache : (readL (toL cacheB)).1 = 6 := by rw [← text_cache, text_read 6 0 0 (by omega) (by omega) (by omega)]; rfl
theorem read_current : (readL (toL currentB)).1 = 4 := by rw [← text_current, text_read 4 0 0 (by omega) (by omega) (by omega)]; rfl
theorem read_list9 : (readL (toL list9B)).1 = 3 := by rw [← text_list9, text_read 3 0 9 (by omega) (by omega) (by omega)]; rfl
theorem read_mark6 : (readL (toL mark6B)).1 = 8 := by rw [← text_mark6, text_read 8 0 6 (by omega) (by omega) (by omega)]; rfl
theorem needed_mem (x : ByteArray) (ss : List ByteArray) (log : Int) (h : x ∈ ss) : neededB x ss log = true := by
  unfold neededB; rw [(Lib.containsS_iff ss x).2 h]; rfl
theorem needed_not (x : ByteArray) (ss : List ByteArray) (log : Int) (h : x ∉ ss) (hk : (readL (toL x)).1 ≠ 1 ∨ (readL (toL x)).2.2 < log) : neededB x ss log = false := by
  unfold neededB
  have hc : Lib.containsS ss x = false := by
    cases hcc : Lib.containsS ss x with
    | false => rfl
    | true => exact absurd ((Lib.containsS_iff ss x).1 hcc) h
  rw [hc, Bool.false_or]
  rcases hk with hk | hk
  · rw [beq_eq_false_iff_ne.2 hk, Bool.false_and]
  · rw [decide_eq_false (by omega), Bool.and_false]
theorem mem_nearNames (ts : List Tab) (x : ByteArray) : x ∈ nearNames ts ↔ ∃ u ∈ ts, u.near = true ∧ x = nameB 2 0 u.num := by
  unfold nearNames
  rw [List.mem_map]
  constructor
  · rintro ⟨u, hu, rfl⟩
    have := List.mem_filter.1 hu
    exact ⟨u, this.1, by simpa using this.2, rfl⟩
  · rintro ⟨u, hu, hn, rfl⟩
    exact ⟨u, List.mem_filter.2 ⟨hu, by simpa using hn⟩, rfl⟩
theorem mem_farNames (ts : List Tab) (x : ByteArray) : x ∈ farNames ts ↔ ∃ u ∈ ts, u.far = true ∧ x = nameB 7 u.ep u.num := by
  unfold farNames
  rw [List.mem_map]
  constructor
  · rintro ⟨u, hu, rfl⟩
    have := List.mem_filter.1 hu
    exact ⟨u, this.1, by simpa using this.2, rfl⟩
  · rintro ⟨u, hu, hn, rfl⟩
    exact ⟨u, List.mem_filter.2 ⟨hu, by simpa using hn⟩, rfl⟩
def nearR (ts : List Tab) : List ByteArray := risB ([cacheB, currentB, list9B] ++ nearNames ts)
theorem mem_nearR (ts : List Tab) (x : ByteArray) : x ∈ nearR ts ↔ x = cacheB ∨ x = currentB ∨ x = list9B ∨ ∃ u ∈ ts, u.near = true ∧ x = nameB 2 0 u.num := by
  unfold nearR
  rw [mem_risB, List.mem_append, mem_nearNames]
  simp only [List.mem_cons, List.not_mem_nil, or_false]
  constructor
  · rintro ((h | h | h) | h)
    · exact .inl h
    · exact .inr (.inl h)
    · exact .inr (.inr (.inl h))
    · exact .inr (.inr (.inr h))
  · rintro (h | h | h | h)
    · exact .inl (.inl h)
    · exact .inl (.inr (.inl h))
    · exact .inl (.inr (.inr h))
    · exact .inr h
/-- a name of a kind that near's list does not hold, or of a number that no table has -/
theorem not_near (ts : List Tab) (x : ByteArray) (k : Int) (n : Int) (hx : (readL (toL x)).1 = k ∧ (readL (toL x)).2.2 = n) (hk : k = 1 ∨ k = 2) (hts : ∀ u ∈ ts, 1 ≤ u.num ∧ u.num ≤ 1000) (hn : k = 2 → ∀ u ∈ ts, u.num ≠ n) : x ∉ nearR ts := by
  intro h
  rw [mem_nearR] at h
  rcases h with rfl | rfl | rfl | ⟨u, hu, _, rfl⟩
  · rw [read_cache] at hx; omega
  · rw [read_current] at hx; omega
  · rw [read_list9] at hx; omega
  · have hb := hts u hu
    obtain ⟨m, hm⟩ : ∃ m : Nat, u.num = (m : Int) := ⟨u.num.toNat, by omega⟩
    rw [hm] at hx
    have hr := read_name 2 m (by omega) (by omega)
    rw [show ((2 : Nat) : Int) = 2 from rfl] at hr
    rw [hr] at hx
    exact hn (by have := hx.1; simp at this; omega) u hu (by rw [hm]; exact hx.2)
theorem more_near (ts : List Tab) (t : Tab) (x : ByteArray) (log : Int) (h : x ∈ nearR ts) : neededB x (nearR (t :: ts)) log = true := by
  refine needed_mem _ _ _ ?_
  rw [mem_nearR] at h ⊢
  rcases h with h | h | h | ⟨u, hu, h⟩
  · exact .inl h
  · exact .inr (.inl h)
  · exact .inr (.inr (.inl h))
  · exact .inr (.inr (.inr ⟨u, List.mem_cons_of_mem _ hu, h⟩))
theorem mine_in (ts : List Tab) (t : Tab) (log : Int) (ht : t.near = true) : neededB (nameB 2 0 t.num) (nearR (t :: ts)) log = true :=
  needed_mem _ _ _ ((mem_nearR _ _).2 (.inr (.inr (.inr ⟨t, List.mem_cons_self, ht, rfl⟩))))
theorem mine_out (ts : List Tab) (n : Int) (log : Int) (hn : 1 ≤ n ∧ n ≤ 100) (hts : ∀ u ∈ ts, 1 ≤ u.num ∧ u.num < n) : neededB (nameB 2 0 n) (nearR ts) log = false := by
  obtain ⟨m, rfl⟩ : ∃ m : Nat, n = (m : Int) := ⟨n.toNat, by omega⟩
  have hr := read_name 2 m (by omega) (by omega)
  rw [show ((2 : Nat) : Int) = 2 from rfl] at hr
  refine needed_not _ _ _ (not_near ts _ 2 m (by rw [hr]; exact ⟨rfl, rfl⟩) (.inr rfl) (fun u hu => by have := hts u hu; omega) (fun _ u hu => by have := hts u hu; omega)) (.inl (by rw [hr]; show (2 : Int) ≠ 1; decide))
theorem log_in (ss : List ByteArray) (n : Int) (hn : 0 ≤ n ∧ n ≤ 255) : neededB (nameB 1 0 n) ss n = true := by
  obtain ⟨m, rfl⟩ : ∃ m : Nat, n = (m : Int) := ⟨n.toNat, by omega⟩
  have hr := read_name 1 m (by omega) (by omega)
  rw [show ((1 : Nat) : Int) = 1 from rfl] at hr
  unfold neededB
  rw [hr]; simp
theorem log_out (ts : List Tab) (n : Int) (hn : 1 ≤ n ∧ n ≤ 255) (hts : ∀ u ∈ ts, 1 ≤ u.num ∧ u.num ≤ 1000) : neededB (nameB 1 0 (n - 1)) (nearR ts) n = false := by
  obtain ⟨m, hm⟩ : ∃ m : Nat, n - 1 = (m : Int) := ⟨(n - 1).toNat, by omega⟩
  have hr := read_name 1 m (by omega) (by omega)
  rw [show ((1 : Nat) : Int) = 1 from rfl] at hr
  rw [hm]
  refine needed_not _ _ _ (not_near ts _ 1 m (by rw [hr]; exact ⟨rfl, rfl⟩) (.inl rfl) hts (fun h => by omega)) (.inr (by rw [hr]; show (m : Int) < n; omega))
def farR (ts old : List Tab) (num : Int) : List ByteArray := risB (farNames ts ++ allNames old ++ markName num)
theorem more_far (ts : List Tab) (t : Tab) (x : ByteArray) (log : Int) (h : x ∈ farR ts [] 0) : neededB x (farR (t :: ts) ts 7) log = true := by
  refine needed_mem _ _ _ ?_
  unfold farR at h ⊢
  rw [mem_risB] at h ⊢
  have h2 : x ∈ farNames ts := by simpa [allNames, markName] using h
  rw [mem_farNames] at h2
  obtain ⟨u, hu, h3⟩ := h2
  exact List.mem_append_left _ (List.mem_append_left _ ((mem_farNames _ _).2 ⟨u, List.mem_cons_of_mem _ hu, h3⟩))
theorem far_in (ts : List Tab) (t : Tab) (log : Int) (ht : t.far = true) : neededB (nameB 7 t.ep t.num) (farR (t :: ts) ts 7) log = true := by
  refine needed_mem _ _ _ ?_
  unfold farR
  rw [mem_risB]
  exact List.mem_append_left _ (List.mem_append_left _ ((mem_farNames _ _).2 ⟨t, List.mem_cons_self, ht, rfl⟩))
theorem name_mark7 : nameB 8 0 7 = mark7B := by
  have := text_mark7
  show (⟨(textL ((8 : Nat) : Int) ((0 : Nat) : Int) ((7 : Nat) : Int)).toArray⟩ : ByteArray) = _
  rw [this]; rfl
theorem mark7_in (ts old : List Tab) (log : Int) : neededB mark7B (farR ts old 7) log = true := by
  refine needed_mem _ _ _ ?_
  unfold farR
  rw [mem_risB]
  refine List.mem_append_right _ ?_
  unfold markName
  rw [if_pos (by omega), name_mark7]
  exact List.mem_singleton.2 rfl
theorem far_head (e n : Int) : nameB 7 e n ≠ mark6B := by
  intro h
  have h2 : textL 7 e n = toL mark6B := by rw [← toL_name, h]
  unfold textL at h2
  rw [if_neg (by decide)] at h2
  split at h2
  · exact absurd h2 (by decide)
  · rw [if_neg (by decide)] at h2
    split at h2
    · exact absurd h2 (by decide)
    · simp [headL, toL, mark6B] at h2
theorem mark6_out (ts old : List Tab) (log : Int) : neededB mark6B (farR ts old 7) log = false := by
  refine needed_not _ _ _ ?_ (.inl (by rw [read_mark6]; decide))
  unfold farR
  rw [mem_risB]
  intro h
  rcases List.mem_append.1 h with h | h
  · rcases List.mem_append.1 h with h | h
    · obtain ⟨u, _, _, h⟩ := (mem_farNames _ _).1 h
      exact far_head _ _ h.symm
    · unfold allNames at h
      obtain ⟨u, _, h⟩ := List.mem_map.1 h
      exact far_head _ _ h
  · unfold markName at h
    rw [if_pos (by omega), name_mark7] at h
    exact absurd (List.mem_singleton.1 h) (by decide)
end Go.Proofs.YtpdbdobckjolkaaDoor
