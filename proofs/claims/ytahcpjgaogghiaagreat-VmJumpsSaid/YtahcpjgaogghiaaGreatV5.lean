/- The verify seat: what codes take and put; what comes behind an instruction. -/
import Derived.Test.YtahcpjgaogghiaaGreatV4
import Derived.Test.YtahcpjgaogghiaaGreatX14
set_option linter.unusedVariables false
set_option linter.unusedSimpArgs false
set_option maxRecDepth 10000
namespace Go.Proofs.YtahcpjgaogghiaaGreat
open Go.X
def effI (c : Int) : Int × Int × Bool :=
  if ((decide (c < 1)) || (decide (c > 34))) = true then (0, 0, false)
  else if ((decide (c ≤ 3)) || (c == 30)) = true then (0, 1, true)
  else if ((((c == 4) || (c == 8)) || (c == 9)) || (c == 22)) = true then (1, 1, true)
  else if ((decide (c ≥ 10)) && (decide (c ≤ 18))) = true then (2, 1, true)
  else if (c == 7) = true then (2, 0, true)
  else if ((((((c == 5) || (c == 6)) || (c == 20)) || (c == 21)) || (c == 29)) || (c == 33)) = true then (1, 0, true)
  else (0, 0, true)
def effL : List (Int × Int) := [(0, 0), (0, 1), (0, 1), (0, 1), (1, 1), (1, 0), (1, 0), (2, 0), (1, 1), (1, 1), (2, 1), (2, 1), (2, 1), (2, 1), (2, 1), (2, 1), (2, 1), (2, 1), (2, 1), (0, 0), (1, 0), (1, 0), (1, 1), (0, 0), (0, 0), (0, 0), (0, 0), (0, 0), (0, 0), (1, 0), (0, 1), (0, 0), (0, 0), (1, 0), (0, 0)]
def effL0 : List (Int × Int) := [(0, 0), (0, 1), (0, 1), (0, 1), (1, 1), (1, 0), (1, 0), (2, 0), (1, 1), (1, 1), (0, 0), (0, 0), (0, 0), (0, 0), (0, 0), (0, 0), (0, 0), (0, 0), (0, 0), (0, 0), (1, 0), (1, 0), (1, 1), (0, 0), (0, 0), (0, 0), (0, 0), (0, 0), (0, 0), (1, 0), (0, 1), (0, 0), (0, 0), (1, 0), (0, 0)]
def effRow (x : Int × Int) : List Value := [.int .i64 x.1, .int .i64 x.2]
def effRows : List (List Value) := effL.map effRow
def effCells (k : Nat) : List Value := ((effL.take (10 + k) ++ effL0.drop (10 + k)).map effRow).flatten
theorem eff_get {c : Int} (h0 : 0 ≤ c) (h1 : c ≤ 34) : effL[c.toNat]? = some ((effI c).1, (effI c).2.1) := by
  have h : ∀ n : Fin 35, effL[n.1]? = some ((effI n.1).1, (effI n.1).2.1) := by decide
  have := h ⟨c.toNat, by omega⟩
  have this : effL[c.toNat]? = some ((effI (c.toNat : Int)).1, (effI (c.toNat : Int)).2.1) := this
  rwa [show (c.toNat : Int) = c from by omega] at this
theorem eff_ok (c : Int) : (effI c).2.2 = inI c 1 34 := by
  unfold effI inI
  by_cases h1 : ((decide (c < 1)) || (decide (c > 34))) = true
  · rw [if_pos h1]; simp at h1 ⊢; omega
  · rw [if_neg h1]
    have : (decide (1 ≤ c) && decide (c ≤ 34)) = true := by simp at h1 ⊢; omega
    rw [this]
    split
    · rfl
    · split
      · rfl
      · split
        · rfl
        · split
          · rfl
          · split <;> rfl
theorem eff_small (c : Int) : 0 ≤ (effI c).1 ∧ (effI c).1 ≤ 2 ∧ 0 ≤ (effI c).2.1 ∧ (effI c).2.1 ≤ 1 := by
  unfold effI
  split
  · decide
  · split
    · decide
    · split
      · decide
      · split
        · decide
        · split
          · decide
          · split <;> decide
theorem eff_rows : ∀ row ∈ effRows, row.length = 2 := by
  intro row hr
  obtain ⟨x, _, rfl⟩ := List.mem_map.1 hr; rfl
section
variable {w : World} {K : Value → World → Prop} {KP : List PanicEntry → World → Prop}
theorem C53 {c : Int} (h : K (.tuple #[.int .i64 (effI c).1, .int .i64 (effI c).2.1, .bool (effI c).2.2]) w) : XCP Tryz.prog 53 [.int .i64 c] w K KP := by
  refine E53 ?_
  unfold F53
  unfold effI at h
  by_cases h1 : ((decide (c < 1)) || (decide (c > 34))) = true
  · rw [if_pos h1] at h ⊢; exact h
  rw [if_neg h1] at h ⊢
  by_cases h2 : ((decide (c ≤ 3)) || (c == 30)) = true
  · rw [if_pos h2] at h ⊢; exact h
  rw [if_neg h2] at h ⊢
  by_cases h3 : ((((c == 4) || (c == 8)) || (c == 9)) || (c == 22)) = true
  · rw [if_pos h3] at h ⊢; exact h
  rw [if_neg h3] at h ⊢
  by_cases h4 : ((decide (c ≥ 10)) && (decide (c ≤ 18))) = true
  · rw [if_pos h4] at h ⊢; exact h
  rw [if_neg h4] at h ⊢
  by_cases h5 : (c == 7) = true
  · rw [if_pos h5] at h ⊢; exact h
  rw [if_neg h5] at h ⊢
  by_cases h6 : ((((((c == 5) || (c == 6)) || (c == 20)) || (c == 21)) || (c == 29)) || (c == 33)) = true
  · rw [if_pos h6] at h ⊢; exact h
  rw [if_neg h6] at h ⊢
  exact h
theorem C92 (h : ∀ u, Ex w u → K (.agg effRows.flatten.toArray) u) : XCP Tryz.prog 92 [] w K KP := by
  refine E92 ?_
  unfold F92
  intro w0 p w1 p1
  have hs : Sep w1 (bx w0.heap.size _ 196 :: bx w.heap.size _ 196 :: [oldA w]) := ((Sep.begin w).box _ _).box _ _
  clear_value w1
  refine hs.fill (vs := effCells 0) rfl fun w2 _ hs => ?_
  refine ⟨fun n u => 10 ≤ n ∧ n ≤ 19 ∧ Sep u (bx w0.heap.size (effCells (n.toNat - 10)) 196 :: bx w.heap.size _ 196 :: [oldA w]), fun n _ => 19 - n.toNat, ⟨by omega, by omega, hs⟩, ?_⟩
  rintro n u ⟨h0, h1, hs⟩
  by_cases hlt : n ≤ 18
  · rw [if_pos (by simpa using hlt), wi (by omega) (by omega)]
    refine ⟨by omega, by omega, ?_⟩
    have step : ∀ k : Nat, n = 10 + (k : Int) → k ≤ 8 → (effCells k).take (n.toNat * 2) ++ [.int .i64 2, .int .i64 1] ++ (effCells k).drop (n.toNat * 2 + 2) = effCells (k + 1) ∧ n.toNat * 2 + 2 ≤ (effCells k).length := by
      intro k e hk
      subst e
      rw [show (10 + (k : Int)).toNat = 10 + k by omega]
      match k, hk with
      | 0, _ => exact ⟨rfl, by decide⟩
      | 1, _ => exact ⟨rfl, by decide⟩
      | 2, _ => exact ⟨rfl, by decide⟩
      | 3, _ => exact ⟨rfl, by decide⟩
      | 4, _ => exact ⟨rfl, by decide⟩
      | 5, _ => exact ⟨rfl, by decide⟩
      | 6, _ => exact ⟨rfl, by decide⟩
      | 7, _ => exact ⟨rfl, by decide⟩
      | 8, _ => exact ⟨rfl, by decide⟩
    obtain ⟨e1, e2⟩ := step (n.toNat - 10) (by omega) (by omega)
    rw [add_lit, Nat.zero_add]
    refine hs.puts e2 fun w4 _ hs => ⟨⟨by omega, by omega, ?_⟩, by show 19 - (n + 1).toNat < 19 - n.toNat; omega⟩
    rw [show (n + 1).toNat - 10 = n.toNat - 10 + 1 by omega, ← e1]
    exact hs
  · rw [if_neg (by simpa using hlt)]
    have e : n = 19 := by omega
    subst e
    have hs : Sep u (bx w0.heap.size effRows.flatten 196 :: bx w.heap.size _ 196 :: [oldA w]) := hs
    refine ⟨_, _, _, _, _, _, _, _, _, _, _, _, _, _, _, _, _, _, _, _, _, _, _, _, _, _, _, _, _, _, _, _, _, _, _, _, _, _, _, _, _, _, _, _, _, _, _, _, _, _, _, _, _, _, _, _, _, _, _, _, _, _, _, _, _, _, _, _, _, _, hs.bx0.lds, ?_⟩
    refine hs.to1.fill (vs := effRows.flatten) rfl fun w5 _ hs => ⟨_, _, _, _, _, _, _, _, _, _, _, _, _, _, _, _, _, _, _, _, _, _, _, _, _, _, _, _, _, _, _, _, _, _, _, _, _, _, _, _, _, _, _, _, _, _, _, _, _, _, _, _, _, _, _, _, _, _, _, _, _, _, _, _, _, _, _, _, _, _, hs.bx0.lds, h w5 (hs.ex 2 rfl)⟩
theorem T196 : Tryz.prog.underlying 196 = some (.array 35 195) := by kernel_rfl
theorem Z63 (w : World) : (sizeOf 195).run Tryz.prog w = .ok 2 w := by kernel_rfl
theorem A63 (w : World) : (isAgg 195).run Tryz.prog w = .ok true w := by kernel_rfl
end
end Go.Proofs.YtahcpjgaogghiaaGreat
