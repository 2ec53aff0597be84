/- The verify seat: VerifyGoes, walked. -/
import Derived.Test.YtnhhgadihmlabaaV25
set_option linter.unusedVariables false
set_option linter.unusedSimpArgs false
set_option maxRecDepth 10000
set_option maxHeartbeats 1000000
namespace Go.Proofs.Ytnhhgadihmlabaa
open Go.X Go.Heap
theorem firstErr_all : ∀ {l : List Int}, firstErr l = 0 → ∀ e ∈ l, e = 0
  | [], _, e, he => by simp at he
  | x :: l, h, e, he => by
    by_cases hx : x = 0
    · subst hx
      rw [firstErr_0] at h
      rcases List.mem_cons.1 he with rfl | he
      · rfl
      · exact firstErr_all h e he
    · simp [firstErr, hx] at h
theorem checkF_zero {m : Mdl} (h : checkF m = 0) : mdlOk m = true ∧ ∀ c ∈ m.threads, (threadF m c).2 = 0 := by
  unfold checkF at h
  by_cases hok : mdlOk m = true
  · rw [if_pos hok] at h
    exact ⟨hok, fun c hc => firstErr_all h _ (List.mem_map.2 ⟨c, hc, rfl⟩)⟩
  · rw [if_neg hok] at h; cases h
theorem nexts_nil {i : Ins} {a : Int} (h : nexts i a = []) : i.code = 34 := by
  rw [nexts_eq] at h
  split at h
  · rename_i e; exact eq_of_beq e
  · split at h
    · cases h
    · split at h
      · split at h <;> cases h
      · cases h
theorem pick_ok (n : Int) {l : Nat} (h : 0 < l) : (Int.tmod n l < 0 → 0 ≤ Int.tmod n l + l ∧ Int.tmod n l + l < l) ∧ (¬ Int.tmod n l < 0 → Int.tmod n l < l) := by
  have h1 := Int.tmod_lt_of_pos n (show (0 : Int) < l by omega)
  have h2 : -(l : Int) < Int.tmod n l := by
    have := Int.tmod_lt_of_pos (-n) (show (0 : Int) < l by omega)
    rw [Int.neg_tmod] at this; omega
  omega
end Go.Proofs.Ytnhhgadihmlabaa
