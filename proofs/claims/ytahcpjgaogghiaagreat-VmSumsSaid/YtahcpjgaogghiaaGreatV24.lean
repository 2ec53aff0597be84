/- The verify seat: what the depths of a thread that may run say of each step. Plain lists. -/
import Derived.Test.YtahcpjgaogghiaaGreatV14
set_option linter.unusedVariables false
set_option linter.unusedSimpArgs false
namespace Go.Proofs.YtahcpjgaogghiaaGreat
open Go.X Go.Heap
/-- place a is gone on from rightly -/
def StepOk (ins : List Ins) (ds : List Int) (a : Nat) : Prop :=
  (oneF ins a (g ds a)).2 = 0 ∧ ∀ n ∈ nexts (insAt ins a) a, g ds n.toNat = newDepth (insAt ins a) (g ds a)
theorem spread_keep {N : Nat} {dn : List Bool} {b : Int} (hb0 : 0 ≤ b) (hb25 : b ≤ 25) : ∀ (l ds ds' : List Int), (∀ n ∈ l, 0 ≤ n ∧ n < N) → TI N ds dn → spreadF b l ds = some ds' →
    TI N ds' dn ∧ (∀ k, 0 ≤ g ds k → g ds' k = g ds k) ∧ ∀ n ∈ l, g ds' n.toNat = b
  | [], ds, ds', _, hT, h => by injection h with h; subst h; exact ⟨hT, fun _ _ => rfl, fun n hn => by simp at hn⟩
  | n :: l, ds, ds', hl, hT, h => by
    rw [spreadF] at h
    split at h
    · cases h
    · rename_i hc
      obtain ⟨h0, hN⟩ := hl n (by simp)
      have hlt : n.toNat < ds.length := by rw [hT.lds]; omega
      obtain ⟨q1, q2, q3⟩ := spread_keep hb0 hb25 l (ds.set n.toNat b) ds' (fun m hm => hl m (by simp [hm])) (hT.set (by omega) hb0 hb25) h
      have hgn : 0 ≤ g ds n.toNat → g ds n.toNat = b := fun hg => by
        unfold clash at hc
        simp at hc; exact hc hg
      refine ⟨q1, fun k hk => ?_, fun m hm => ?_⟩
      · have : g (ds.set n.toNat b) k = g ds k := by
          rw [g_set hlt]; split
          · rename_i e; subst e; exact (hgn hk).symm
          · rfl
        rw [q2 k (by rw [this]; exact hk), this]
      · rcases List.mem_cons.1 hm with rfl | hm
        · have : g (ds.set m.toNat b) m.toNat = b := by rw [g_set hlt, if_pos rfl]
          rw [q2 _ (by rw [this]; exact hb0), this]
        · exact q3 m hm
theorem leastF_inv {ds : List Int} {dn : List Bool} {a : Nat} (h : leastF ds dn = some a) : a < ds.length ∧ pendB ds dn a = true := by
  unfold leastF at h
  exact ⟨by simpa using List.mem_of_find?_eq_some h, List.find?_some h⟩
theorem leastF_inv0 {ds : List Int} {dn : List Bool} (h : leastF ds dn = none) {a : Nat} (ha : a < ds.length) : pendB ds dn a = false := by
  unfold leastF at h
  have := List.find?_eq_none.1 h a (by simpa using ha)
  simpa using this
theorem runF_good {ins : List Ins} (hok : ∀ x ∈ ins, insOk x = true) : ∀ (f : Nat) (ds : List Int) (dn : List Bool), TI ins.length ds dn → (∀ a, a < ins.length → dn.getD a true = true → StepOk ins ds a) → undone dn < f → (runF ins f ds dn).2 = 0 →
    (runF ins f ds dn).1.length = ins.length ∧ (0 ≤ g ds 0 → g (runF ins f ds dn).1 0 = g ds 0) ∧ ∀ a, a < ins.length → 0 ≤ g (runF ins f ds dn).1 a → StepOk ins (runF ins f ds dn).1 a
  | 0, ds, dn, _, _, h, _ => by omega
  | f + 1, ds, dn, hT, hI, hf, hz => by
    cases hl : leastF ds dn with
    | none =>
      rw [runF_none hl]
      refine ⟨hT.lds, fun _ => rfl, fun a ha hg => hI a ha ?_⟩
      have := leastF_inv0 hl (by rw [hT.lds]; exact ha)
      unfold pendB at this
      simp at this; exact this hg
    | some a =>
      obtain ⟨ha, hp⟩ := leastF_inv hl
      rw [hT.lds] at ha
      obtain ⟨hga, hda⟩ := pendB_iff.1 hp
      by_cases he : (oneF ins a (g ds a)).2 = 0
      · cases hs : spreadF (oneF ins a (g ds a)).1 (nexts (insAt ins a) a) ds with
        | none => rw [runF_clash hl he hs] at hz; cases hz
        | some ds' =>
          have hstep : runF ins (f + 1) ds dn = runF ins f ds' (dn.set a true) := by
            conv => lhs; rw [runF, hl]
            simp only []; rw [if_neg (by simp [he]), hs]
          rw [hstep] at hz ⊢
          obtain ⟨hbd, hbm, hro, hnd⟩ := oneF_ok he
          obtain ⟨hb0, hb25⟩ := newDepth_ok hbd
          have hin : ∀ n ∈ nexts (insAt ins a) a, 0 ≤ n ∧ n < ins.length := by
            intro n hn
            refine ⟨nexts_ok (hok _ (insAt_mem ha)) (by omega) hn, ?_⟩
            unfold runsOut at hro
            rw [List.any_eq_false] at hro
            have := hro n hn; simp at this; omega
          rw [hnd] at hs
          obtain ⟨q1, q2, q3⟩ := spread_keep hb0 hb25 _ ds ds' hin (hT.mark ha hga) hs
          have hun := undone_mark (dn := dn) (a := a) (by rw [hT.ldn]; exact ha) hda
          have hI' : ∀ a', a' < ins.length → (dn.set a true).getD a' true = true → StepOk ins ds' a' := by
            intro a' ha' hd'
            rw [gb_set (by rw [hT.ldn]; exact ha)] at hd'
            by_cases e : a' = a
            · subst e
              unfold StepOk
              rw [q2 a' hga]
              exact ⟨he, q3⟩
            · rw [if_neg e] at hd'
              obtain ⟨s1, s2⟩ := hI a' ha' hd'
              have hg' := hT.dn0 a' ha' hd'
              have hnd' := newDepth_ok (oneF_ok s1).1
              unfold StepOk
              rw [q2 a' hg']
              exact ⟨s1, fun n hn => by rw [q2 _ (by rw [s2 n hn]; exact hnd'.1)]; exact s2 n hn⟩
          obtain ⟨r1, r2, r3⟩ := runF_good hok f ds' (dn.set a true) q1 hI' (by omega) hz
          refine ⟨r1, fun h0 => ?_, r3⟩
          have := q2 0 h0
          rw [r2 (by rw [this]; exact h0), this]
      · rw [runF_err hl he] at hz; exact absurd hz he
/-- a thread that may run -/
theorem thread_good {m : Mdl} {c : Cod} (hok : ∀ x ∈ c.ins, insOk x = true) (hz : (threadF m c).2 = 0) : 0 < c.ins.length ∧ ∃ ds : List Int, g ds 0 = 0 ∧ ∀ a, a < c.ins.length → 0 ≤ g ds a → StepOk c.ins ds a := by
  unfold threadF at hz
  by_cases h0 : c.ins.length = 0
  · rw [if_pos h0] at hz; cases hz
  rw [if_neg h0] at hz
  by_cases hs : (c.ins.all (slotsB m c)) = false
  · rw [if_pos hs] at hz; cases hz
  rw [if_neg hs] at hz
  obtain ⟨_, r2, r3⟩ := runF_good hok _ _ _ (TI.first c.ins.length) (fun a ha hd => by simp [List.getD_eq_getElem?_getD, List.getElem?_replicate, ha] at hd) (Nat.lt_succ_self _) hz
  have hg0 : g (firstF c.ins.length) 0 = 0 := by rw [firstF, g_set (by simp; omega), if_pos rfl]
  exact ⟨by omega, _, by rw [r2 (by rw [hg0]; decide), hg0], r3⟩
end Go.Proofs.YtahcpjgaogghiaaGreat
