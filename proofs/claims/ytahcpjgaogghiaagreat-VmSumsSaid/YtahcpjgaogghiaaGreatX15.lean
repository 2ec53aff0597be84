/- A binary heap of numbers, as a list: what sifting up and down keeps. Plain lists, no program. -/
set_option linter.unusedVariables false
set_option linter.unusedSimpArgs false
namespace Go.Heap
def g (xs : List Int) (i : Nat) : Int := xs.getD i 0
def sw (xs : List Int) (i j : Nat) : List Int := (xs.set i (g xs j)).set j (g xs i)
@[simp] theorem sw_length (xs : List Int) (i j : Nat) : (sw xs i j).length = xs.length := by simp [sw]
theorem g_get {xs : List Int} {i : Nat} (h : i < xs.length) : xs[i]? = some (g xs i) := by
  simp [g, List.getD_eq_getElem?_getD, List.getElem?_eq_getElem h]
theorem g_sw {xs : List Int} {i j : Nat} (hi : i < xs.length) (hj : j < xs.length) (k : Nat) : g (sw xs i j) k = if k = j then g xs i else if k = i then g xs j else g xs k := by
  unfold g sw
  simp only [List.getD_eq_getElem?_getD, List.getElem?_set, List.length_set]
  by_cases h1 : k = j
  · subst h1; simp [hj, g]
  · by_cases h2 : k = i
    · subst h2; simp [h1, Ne.symm h1, hi, g]
    · simp [h1, Ne.symm h1, h2, Ne.symm h2]
theorem sw_perm {xs : List Int} {i j : Nat} (hi : i < xs.length) (hj : j < xs.length) : (sw xs i j).Perm xs := by
  have := Array.swap_perm (xs := xs.toArray) (i := i) (j := j) (by simpa using hi) (by simpa using hj)
  have h2 := Array.perm_iff_toList_perm.1 this
  have e : (xs.toArray.swap i j (by simpa using hi) (by simpa using hj)).toList = sw xs i j := by
    unfold sw g
    simp [Array.swap, List.getD_eq_getElem?_getD, List.getElem?_eq_getElem hi, List.getElem?_eq_getElem hj]
  rw [e] at h2
  simpa using h2
/-- no number ahead of its parent, among the first n -/
def Ok (xs : List Int) (n : Nat) : Prop := ∀ k, 0 < k → k < n → g xs ((k - 1) / 2) ≤ g xs k
def Down (xs : List Int) (i n : Nat) : Prop :=
  (∀ k, 0 < k → k < n → (k - 1) / 2 ≠ i → g xs ((k - 1) / 2) ≤ g xs k) ∧ ∀ k, 0 < k → k < n → (k - 1) / 2 = i → 0 < i → g xs ((i - 1) / 2) ≤ g xs k
def Up (xs : List Int) (j n : Nat) : Prop :=
  (∀ k, 0 < k → k < n → k ≠ j → g xs ((k - 1) / 2) ≤ g xs k) ∧ ∀ k, 0 < k → k < n → (k - 1) / 2 = j → 0 < j → g xs ((j - 1) / 2) ≤ g xs k
theorem Ok.root {xs : List Int} {n : Nat} (h : Ok xs n) : ∀ k, k < n → g xs 0 ≤ g xs k := by
  intro k
  induction k using Nat.strongRecOn with
  | _ k ih =>
    intro hk
    rcases Nat.eq_zero_or_pos k with h0 | h0
    · subst h0; exact Int.le_refl _
    · exact Int.le_trans (ih ((k - 1) / 2) (by omega) (by omega)) (h k h0 hk)
theorem Down.leaf {xs : List Int} {i n : Nat} (h : Down xs i n) (hl : n ≤ 2 * i + 1) : Ok xs n := by
  intro k h0 hk
  exact h.1 k h0 hk (by omega)
/-- j is the least child of i; it is not less -/
theorem Down.stop {xs : List Int} {i j n : Nat} (h : Down xs i n) (hj : j = 2 * i + 1 ∨ j = 2 * i + 2) (hmin : ∀ k, (k = 2 * i + 1 ∨ k = 2 * i + 2) → k < n → g xs j ≤ g xs k) (hle : g xs i ≤ g xs j) : Ok xs n := by
  intro k h0 hk
  by_cases e : (k - 1) / 2 = i
  · rw [e]; exact Int.le_trans hle (hmin k (by omega) hk)
  · exact h.1 k h0 hk e
theorem Down.step {xs : List Int} {i j n : Nat} (h : Down xs i n) (hn : n ≤ xs.length) (hj : j = 2 * i + 1 ∨ j = 2 * i + 2) (hjn : j < n) (hmin : ∀ k, (k = 2 * i + 1 ∨ k = 2 * i + 2) → k < n → g xs j ≤ g xs k) (hlt : g xs j < g xs i) :
    Down (sw xs i j) j n := by
  have hz := g_sw (xs := xs) (i := i) (j := j) (by omega) (by omega)
  have hij : i ≠ j := by omega
  constructor
  · intro k h0 hk hp
    rw [hz, hz, if_neg hp]
    by_cases e1 : (k - 1) / 2 = i
    · rw [if_pos e1]
      by_cases e2 : k = j
      · rw [if_pos e2]; omega
      · rw [if_neg e2, if_neg (by omega)]; exact hmin k (by omega) hk
    · rw [if_neg e1]
      have e2 : k ≠ j := by omega
      rw [if_neg e2]
      by_cases e3 : k = i
      · subst e3
        rw [if_pos rfl]
        exact h.2 j (by omega) hjn (by omega) h0
      · rw [if_neg e3]; exact h.1 k h0 hk e1
  · intro k h0 hk hp _
    have e : (j - 1) / 2 = i := by omega
    rw [e, hz, hz, if_neg hij, if_pos rfl, if_neg (by omega), if_neg (by omega)]
    have := h.1 k h0 hk (by omega)
    rwa [hp] at this
theorem Up.top {xs : List Int} {n : Nat} (h : Up xs 0 n) : Ok xs n := fun k h0 hk => h.1 k h0 hk (by omega)
theorem Up.stop {xs : List Int} {j n : Nat} (h : Up xs j n) (hle : g xs ((j - 1) / 2) ≤ g xs j) : Ok xs n := by
  intro k h0 hk
  by_cases e : k = j
  · subst e; exact hle
  · exact h.1 k h0 hk e
theorem Up.step {xs : List Int} {j n : Nat} (h : Up xs j n) (hn : n ≤ xs.length) (hj0 : 0 < j) (hjn : j < n) (hlt : g xs j < g xs ((j - 1) / 2)) : Up (sw xs ((j - 1) / 2) j) ((j - 1) / 2) n := by
  generalize hi : (j - 1) / 2 = i at *
  have hz := g_sw (xs := xs) (i := i) (j := j) (by omega) (by omega)
  have hij : i ≠ j := by omega
  constructor
  · intro k h0 hk hki
    rw [hz, hz, if_neg hki]
    by_cases e1 : k = j
    · subst e1
      rw [if_pos rfl, hi, if_neg hij, if_pos rfl]; omega
    · rw [if_neg e1]
      by_cases e2 : (k - 1) / 2 = j
      · rw [if_pos e2]; have := h.2 k h0 hk e2 hj0; rwa [hi] at this
      · rw [if_neg e2]
        have hk' := h.1 k h0 hk e1
        by_cases e3 : (k - 1) / 2 = i
        · rw [if_pos e3]; rw [e3] at hk'; omega
        · rw [if_neg e3]; exact hk'
  · intro k h0 hk hp hi0
    rw [hz, hz, if_neg (by omega), if_neg (by omega), if_neg (by omega : k ≠ i)]
    have hii := h.1 i hi0 (by omega) hij
    by_cases e1 : k = j
    · rw [if_pos e1]; exact hii
    · rw [if_neg e1]
      have hk' := h.1 k h0 hk e1
      rw [hp] at hk'; omega
theorem Up.push {xs : List Int} {x : Int} (h : Ok xs xs.length) : Up (xs ++ [x]) xs.length (xs.length + 1) := by
  have hg : ∀ k, k < xs.length → g (xs ++ [x]) k = g xs k := fun k hk => by simp [g, List.getD_eq_getElem?_getD, List.getElem?_append_left hk]
  refine ⟨fun k h0 hk hne => ?_, fun k h0 hk hp hpos => by omega⟩
  rw [hg k (by omega), hg _ (by omega)]
  exact h k h0 (by omega)
theorem Down.pop {xs : List Int} (h : Ok xs xs.length) (h1 : 1 < xs.length) : Down (sw xs 0 (xs.length - 1)) 0 (xs.length - 1) := by
  have hz := g_sw (xs := xs) (i := 0) (j := xs.length - 1) (by omega) (by omega)
  refine ⟨fun k h0 hk hp => ?_, fun k h0 hk hp hpos => by omega⟩
  rw [hz, hz, if_neg (by omega), if_neg hp, if_neg (by omega), if_neg (by omega)]
  exact h k h0 (by omega)
end Go.Heap
