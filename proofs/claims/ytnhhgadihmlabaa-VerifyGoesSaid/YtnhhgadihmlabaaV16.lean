/- The verify seat: VerifyChecks, VerifyDepths, VerifyCodes, VerifyEffects, walked. -/
import Derived.Test.YtnhhgadihmlabaaV15
set_option linter.unusedVariables false
set_option linter.unusedSimpArgs false
set_option maxRecDepth 10000
set_option maxHeartbeats 1000000
namespace Go.Proofs.Ytnhhgadihmlabaa
open Go.X Go.Heap
theorem T22 : SlT Try.prog 22 2 1 8 [.int .i64 0] := ⟨by kernel_rfl, by kernel_rfl⟩
/-- the last of a conjunction of tests that all hold -/
theorem and_true {w : World} {J : Bool → World → Prop} {T : (Bool → World → Prop) → Prop} {b : Bool} (hb : b = true) (hT : ∀ kb : Bool → World → Prop, (∀ u, Ex w u → kb true u) → T kb) (hJ : ∀ u, Ex w u → J true u) :
    ∀ kb : Bool → World → Prop, (∀ (b : Bool) (w : World), J b w → kb b w) → if b = true then T kb else kb false w := by
  subst hb
  intro kb hkb
  rw [if_pos rfl]
  exact hT kb fun u hu => hkb _ _ (hJ u hu)
theorem spread_len (b : Int) : ∀ (l ds ds' : List Int), spreadF b l ds = some ds' → ds'.length = ds.length
  | [], ds, ds', h => by injection h with h; rw [h]
  | n :: l, ds, ds', h => by
    rw [spreadF] at h
    split at h
    · cases h
    · rw [spread_len b l _ _ h]; simp
theorem runF_len (ins : List Ins) : ∀ (f : Nat) (ds : List Int) (dn : List Bool), (runF ins f ds dn).1.length ≤ ds.length
  | 0, ds, dn => Nat.le_refl _
  | f + 1, ds, dn => by
    rw [runF]
    split
    · exact Nat.le_refl _
    · split
      · exact Nat.zero_le _
      · split
        · exact Nat.zero_le _
        · rename_i hs
          exact Nat.le_trans (runF_len ins f _ _) (Nat.le_of_eq (spread_len _ _ _ _ hs))
theorem threadF_len {m : Mdl} {c : Cod} (h : c.ins.length ≤ 1000) : (threadF m c).1.length ≤ 1000000 := by
  unfold threadF
  split
  · simp
  · split
    · simp
    · refine Nat.le_trans (runF_len _ _ _ _) ?_
      simp [firstF]; omega
section
variable {w : World} {K : Value → World → Prop} {KP : List PanicEntry → World → Prop}
theorem L3 {m : Mdl} {q : MdlH} {G : Nat → Prop} (hq : MdlP w G q m) (ht : m.threads.length ≤ 9223372036854775807) (hK : ∀ u, Ex w u → K (.bool true) u) : XCP Try.prog 3 [m.v q] w K KP := by
  show XCP Try.prog 3 [.agg #[.slice q.sv.a q.sv.l q.sv.c, .slice q.sa.a q.sa.l q.sa.c, .slice q.sc.a q.sc.l q.sc.c, .int .i64 m.mutexes, .int .i64 m.conds, .slice q.st.a q.st.l q.st.c]] w K KP
  refine E3 ?_
  unfold F3
  intro w0 p
  have hb : Blk w0 w.heap.size (m.cells q) 26 := Blk.new w _ _
  have he : Ex w w0 := Ex.alloc w _
  clear_value w0
  refine ⟨_, _, _, _, _, _, _, _, _, _, _, _, _, _, hb.lds, C9 (hq.ex he) ht fun u1 b e1 hsm => ⟨_, rfl, ?_⟩⟩
  cases b with
  | false => rw [if_pos (by decide)]; exact C10 fun u2 e2 => ⟨_, rfl, hK u2 (he.trans (Ex.trans e1 e2))⟩
  | true =>
    rw [if_neg (by decide)]
    intro kb hkb
    have e2 : Ex w0 u1.drew := e1.trans (Ex.drew u1)
    refine ⟨fun x => Ex w0 x, e2, _, _, _, _, _, _, _, _, _, _, _, _, _, _, fun x hx => (hx.blk hb).lds, _, _, _, _, _, _, _, _, _, _, _, _, _, _, fun x hx => (hx.blk hb).lds, ?_⟩
    refine C12 (hq.ex (he.trans e2)) (hsm rfl) fun u3 e3 => ⟨_, rfl, e2.trans e3, C11 ⟨_, rfl, e2.trans e3, C13 (hq.ex (he.trans (e2.trans e3))) (hsm rfl) fun u4 e4 => ⟨_, rfl, (e2.trans e3).trans e4, ?_⟩⟩⟩
    rw [if_pos (by simp)]
    exact C10 fun u5 e5 => ⟨_, rfl, fun _ => True, trivial, hkb _ _ (hK u5 (he.trans (((e2.trans e3).trans e4).trans e5)))⟩
theorem L7 {c : Int} (hK : ∀ u, Ex w u → K (.bool true) u) : XCP Try.prog 7 [.int .i64 c] w K KP := by
  refine E7 ?_
  unfold F7
  refine C18 fun u hu => ⟨_, _, _, rfl, C19 ⟨_, _, _, rfl, ?_⟩⟩
  intro kb hkb
  rw [if_pos (by simp)]
  exact C10 fun u2 e2 => ⟨_, rfl, hkb _ _ (hK u2 (hu.trans e2))⟩
theorem depthsF_no {m : Mdl} {t : Int} (h : (mdlOk m && decide (0 ≤ t) && decide (t < m.threads.length)) = false) : depthsF m t = ([], 2) := by
  unfold depthsF; rw [if_neg (by rw [h]; decide)]
theorem depthsF_at {m : Mdl} {t : Int} (hok : mdlOk m = true) (h0 : 0 ≤ t) (h1 : t.toNat < m.threads.length) : depthsF m t = threadF m m.threads[t.toNat] := by
  unfold depthsF
  rw [if_pos (by rw [hok]; simp; omega), List.getD_eq_getElem?_getD, List.getElem?_eq_getElem h1]; rfl
theorem NewI.len {u : World} {s : Sl} {xs : List Int} (h : NewI w u s xs) : s.l = xs.length := by have := h.2.1; simpa using this.symm
theorem L4 {m : Mdl} {q : MdlH} {G : Nat → Prop} (hq : MdlP w G q m) (ht : m.threads.length ≤ 9223372036854775807) {t : Int} (hK : ∀ u, Ex w u → K (.bool true) u) : XCP Try.prog 4 [m.v q, .int .i64 t] w K KP := by
  show XCP Try.prog 4 [.agg #[.slice q.sv.a q.sv.l q.sv.c, .slice q.sa.a q.sa.l q.sa.c, .slice q.sc.a q.sc.l q.sc.c, .int .i64 m.mutexes, .int .i64 m.conds, .slice q.st.a q.st.l q.st.c], .int .i64 t] w K KP
  refine E4 ?_
  unfold F4
  intro w0 p
  have hb : Blk w0 w.heap.size (m.cells q) 26 := Blk.new w _ _
  have he : Ex w w0 := Ex.alloc w _
  clear_value w0
  have l4 := hq.t.len
  refine ⟨_, _, _, _, _, _, _, _, _, _, _, _, _, _, hb.lds, C9 (hq.ex he) ht fun u1 b e1 hsm => ⟨_, rfl, ?_⟩⟩
  cases b with
  | false => rw [if_pos (by decide)]; exact C10 fun u2 e2 => ⟨_, rfl, hK u2 (he.trans (e1.trans e2))⟩
  | true =>
    rw [if_neg (by decide)]
    replace hsm := hsm rfl
    refine ⟨_, _, _, _, _, _, _, _, _, _, _, _, _, _, (e1.blk hb).lds, C14 (hq.ex (he.trans e1)) hsm fun s u3 hnew => ⟨_, _, _, _, rfl, ?_⟩⟩
    have e3 : Ex w0 u3 := e1.trans hnew.1
    refine ⟨_, _, _, _, _, _, _, _, _, _, _, _, _, _, (e3.blk hb).lds, C15 (hq.ex (he.trans e3)) fun u4 e4 => ⟨_, rfl, ?_⟩⟩
    have e34 : Ex w0 u4 := e3.trans e4
    intro kb hkb
    have hno : (mdlOk m && decide (0 ≤ t) && decide (t < m.threads.length)) = false → kb true u4 := by
      intro hx
      have hR := depthsF_no hx
      refine hkb _ _ ?_
      rw [if_pos rfl]
      have hl := NewI.len hnew
      rw [hR] at hl ⊢
      refine and_true (by simp; simpa using hl) (fun kb hk => C11 ⟨_, rfl, hk _ (Ex.refl _)⟩) fun u5 e5 => ?_
      refine and_true rfl (fun kb hk => C10 fun u6 e6 => ⟨_, rfl, hk _ e6⟩) fun u6 e6 => ?_
      exact hK u6 (he.trans (e34.trans (Ex.trans e5 e6)))
    by_cases hok : mdlOk m = true
    rotate_left
    · rw [if_pos (by rw [if_neg hok]; rfl)]
      exact hno (by simp [hok])
    rw [if_pos hok]
    by_cases ht0 : t < 0
    · rw [if_pos (by simp [ht0])]
      exact hno (by rw [show decide (0 ≤ t) = false from by simpa using ht0]; simp)
    rw [if_neg (by simp; omega)]
    refine ⟨_, _, _, (e34.blk hb).ld rfl, ?_⟩
    rw [l4]
    by_cases htl : t ≥ m.threads.length
    · rw [show decide (t ≥ (m.threads.length : Int)) = true from by simpa using htl]
      exact hno (by rw [show decide (t < (m.threads.length : Int)) = false from by simp; omega]; simp)
    rw [show decide (t ≥ (m.threads.length : Int)) = false from by simpa using htl]
    refine hkb _ _ ?_
    rw [if_neg (by decide)]
    clear hkb hno
    have hlt : t.toNat < m.threads.length := by omega
    have hR := depthsF_at hok (by omega) hlt
    obtain ⟨p2, row, hp2, ⟨qc, hr, hqc⟩, hc2⟩ := hq.t.nth (List.getElem?_eq_getElem hlt) (by decide)
    subst hr
    have hmem := List.getElem_mem hlt
    refine ⟨fun x => Ex u4 x, Ex.drew u4, _, _, _, _, _, _, _, _, _, _, _, _, _, _, fun x hx => ((e34.trans hx).blk hb).lds, _, _, _, fun x hx => ((e34.trans hx).blk hb).ld rfl, ?_⟩
    rw [hp2, xptr_some]
    refine ⟨by omega, by omega, _, _, _, _, _, _, _, _, fun x hx => (he.trans (e34.trans hx)).cells hc2, ?_⟩
    rw [← hp2]
    have e5 := e34.trans (Ex.drew u4)
    refine C16 (hq.ex (he.trans e5)) (hqc.ex (he.trans e5)) (hsm hok _ hmem) (mdl_ins hok hmem) fun s6 u6 hnew6 => ⟨_, _, _, _, rfl, fun _ => True, trivial, ?_⟩
    rw [hR] at hnew ⊢
    refine C17 (s := s) (s' := s6) ((SlR.of_ints (t := 3) hnew.2).old (e4.trans ((Ex.drew u4).trans hnew6.1))) (SlR.of_ints (t := 3) hnew6.2) (threadF_len (hsm hok _ hmem)) fun u7 e7 => ⟨_, rfl, ?_⟩
    refine and_true (by simp) (fun kb hk => C11 ⟨_, rfl, by rw [beq_self_eq_true]; exact hk _ (Ex.refl _)⟩) fun u8 e8 => ?_
    refine and_true rfl (fun kb hk => C10 fun u9 e9 => ⟨_, rfl, hk _ e9⟩) fun u9 e9 => ?_
    exact hK u9 (he.trans (e5.trans (hnew6.1.trans (Ex.trans e7 (Ex.trans e8 e9)))))
end
end Go.Proofs.Ytnhhgadihmlabaa
