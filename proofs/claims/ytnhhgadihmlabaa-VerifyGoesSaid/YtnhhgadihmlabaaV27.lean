/- The verify seat: VerifyGoes, walked. -/
import Derived.Test.YtnhhgadihmlabaaV26
set_option linter.unusedVariables false
set_option linter.unusedSimpArgs false
set_option maxRecDepth 10000
set_option maxHeartbeats 1000000
namespace Go.Proofs.Ytnhhgadihmlabaa
open Go.X Go.Heap
section
variable {w : World} {K : Value → World → Prop} {KP : List PanicEntry → World → Prop}
theorem L8 {m : Mdl} {q : MdlH} {G : Nat → Prop} (hq : MdlP w G q m) (ht : m.threads.length ≤ 9223372036854775807) {t : Int} {st : Sl} {ts : List Int} (hts : SlR (.int .i64) w T0 st ts) (hK : ∀ u, Ex w u → K (.bool true) u) : XCP Try.prog 8 [m.v q, .int .i64 t, st.v] w K KP := by
  show XCP Try.prog 8 [.agg #[.slice q.sv.a q.sv.l q.sv.c, .slice q.sa.a q.sa.l q.sa.c, .slice q.sc.a q.sc.l q.sc.c, .int .i64 m.mutexes, .int .i64 m.conds, .slice q.st.a q.st.l q.st.c], .int .i64 t, .slice st.a st.l st.c] w K KP
  refine E8 ?_
  unfold F8
  intro w0 p
  have hb : Blk w0 w.heap.size (m.cells q) 26 := Blk.new w _ _
  have he : Ex w w0 := Ex.alloc w _
  clear_value w0
  have l4 := hq.t.len
  have lt := hts.len
  refine ⟨_, _, _, _, _, _, _, _, _, _, _, _, _, _, hb.lds, C9 (hq.ex he) ht fun u1 b e1 hsm => ⟨_, rfl, ?_⟩⟩
  intro kb hkb
  have go : ∀ (x : Bool) u, Ex w0 u → (x = false → b = true ∧ checkF m = 0) → kb x u := by
    intro x u hu hx
    refine hkb _ _ ?_
    intro kb1 hkb1
    have go1 : ∀ (y : Bool) v, Ex w0 v → (y = false → b = true ∧ checkF m = 0 ∧ 0 ≤ t ∧ t < m.threads.length) → kb1 y v := by
      intro y v hv hy
      refine hkb1 _ _ ?_
      by_cases hbad : (y || decide ((st.l : Int) > 300)) = true
      · rw [if_pos hbad]
        exact C10 fun u2 e2 => ⟨_, rfl, hK u2 (he.trans (hv.trans e2))⟩
      rw [if_neg hbad]
      have hy' : y = false := by cases y; rfl; simp at hbad
      have hlt300 : st.l ≤ 300 := by subst hy'; simp at hbad; omega
      obtain ⟨hbt, hcz, ht0, htl'⟩ := hy hy'
      obtain ⟨hok, hthr⟩ := checkF_zero hcz
      have htl : t.toNat < m.threads.length := by omega
      have hmem := List.getElem_mem htl
      have hsz := hsm hbt hok _ hmem
      have hio := mdl_ins hok hmem
      obtain ⟨hpos, ds, hd0, hgood⟩ := thread_good hio (hthr _ hmem)
      obtain ⟨p2, row, hp2, ⟨qc, hr, hqc⟩, hc2⟩ := hq.t.nth (List.getElem?_eq_getElem htl) (by decide)
      subst hr
      have l5 := hqc.1.len
      refine ⟨_, _, _, (hv.blk hb).ld rfl, ?_⟩
      rw [hp2, xptr_some]
      refine ⟨ht0, by omega, _, _, _, _, _, _, _, _, (he.trans hv).cells hc2, ?_⟩
      intro w5 pc
      have hs : Sep w5 (bx v.heap.size _ 39 :: [oldA v]) := (Sep.begin v).box _ _
      clear_value w5
      refine hs.fill (vs := (m.threads[t.toNat]).cells qc) rfl fun w6 _ hs => ?_
      have hbc := hs.bx0
      have e6 : Ex w0 w6 := hv.trans (hs.ex 1 rfl)
      clear hs
      refine ⟨fun n6 n7 n8 x => ∃ a : Nat, n6 = a ∧ a < m.threads[t.toNat].ins.length ∧ n7 = g ds a ∧ 0 ≤ g ds a ∧ 0 ≤ n8 ∧ n8 ≤ ts.length ∧ Ex w6 x, fun _ _ n8 _ => ts.length - n8.toNat, ⟨0, rfl, hpos, hd0.symm, by rw [hd0]; decide, by omega, by omega, Ex.refl _⟩, ?_⟩
      rintro _ _ n8 x ⟨a, rfl, ha, rfl, hga, hn0, hn1, hx⟩
      by_cases hn : n8 < ts.length
      rotate_left
      · rw [if_neg (by simp; omega)]
        exact C10 fun u2 e2 => ⟨_, rfl, hK u2 (he.trans (e6.trans (hx.trans e2)))⟩
      rw [if_pos (by simp; omega)]
      have hbx := hx.blk hbc
      have hI := hio _ (insAt_mem ha)
      have hcode := insOk_code hI
      obtain ⟨hone, hnx⟩ := hgood a ha hga
      obtain ⟨hbd, hbm, hro, hnd⟩ := oneF_ok hone
      obtain ⟨hb0, hb25⟩ := newDepth_ok hbd
      have hes := eff_small (insAt m.threads[t.toNat].ins a).code
      obtain ⟨pp, row, hpp, hr, hci⟩ := hqc.1.nth (insAt_get ha) (by decide)
      have hr : row = (insAt m.threads[t.toNat].ins a).cells := hr
      subst hr
      have hload : ∀ y, Ex x y → y.cell? ((pp.add ((a : Int).toNat * 4)).add 0) = some (.int .i64 (insAt m.threads[t.toNat].ins a).code) := fun y hy => by
        rw [Int.toNat_natCast]; exact ((he.trans (e6.trans (hx.trans hy))).cells hci).1
      intro kb2 hkb2
      rw [if_neg (by simp)]
      refine ⟨_, _, _, hbx.ld rfl, ?_⟩
      rw [l5, show decide ((a : Int) ≥ (m.threads[t.toNat].ins.length : Int)) = false from by simp; omega]
      refine hkb2 _ _ ?_
      rw [if_neg (by decide)]
      refine ⟨_, _, _, hbx.ld rfl, ?_⟩
      rw [hpp, xptr_some]
      refine ⟨by omega, by omega, _, hload x (Ex.refl _), C18 fun u7 e7 => ⟨_, _, _, rfl, ?_⟩⟩
      have hb7 := e7.blk hbx
      rw [show IntKind.wrap .i64 (g ds a - (effI (insAt m.threads[t.toNat].ins a).code).1) = g ds a - (effI (insAt m.threads[t.toNat].ins a).code).1 from wi (by unfold newDepth at hb0 hb25; omega) (by unfold newDepth at hb0 hb25; omega),
        show IntKind.wrap .i64 (g ds a - (effI (insAt m.threads[t.toNat].ins a).code).1 + (effI (insAt m.threads[t.toNat].ins a).code).2.1) = newDepth (insAt m.threads[t.toNat].ins a) (g ds a) from wi (by unfold newDepth at hb0 hb25; omega) (by unfold newDepth at hb0 hb25; omega)]
      intro kb3 hkb3
      have hbd' : (((!(effI (insAt m.threads[t.toNat].ins a).code).2.2) || decide (g ds a < (effI (insAt m.threads[t.toNat].ins a).code).1)) || decide (newDepth (insAt m.threads[t.toNat].ins a) (g ds a) > 25)) = false := by
        rw [eff_ok, show inI (insAt m.threads[t.toNat].ins a).code 1 34 = true from by simp [inI]; omega, Bool.not_true, Bool.false_or]; exact hbd
      rw [if_neg (by rw [hbd']; decide)]
      have go3 : kb3 false u7 := by
        refine hkb3 _ _ ?_
        rw [if_neg (by decide)]
        have e8 : Ex w0 u7 := e6.trans (hx.trans e7)
        refine ⟨_, _, _, _, _, _, _, _, _, _, _, _, _, _, (e8.blk hb).lds, C20 (hq.ex (he.trans e8)) hok ht0 htl ha hsz fun s u9 hnew => ⟨_, _, _, _, rfl, C11 ⟨_, rfl, ?_⟩⟩⟩
        have e9 := hnew.1
        have hsl := NewI.len hnew
        have hnl := nexts_len (insAt m.threads[t.toNat].ins a) a
        rw [if_neg (by simp; omega)]
        by_cases hz : nexts (insAt m.threads[t.toNat].ins a) a = []
        · rw [if_pos (by rw [hsl, hz]; rfl)]
          refine ⟨_, _, _, (e9.blk hb7).ld rfl, ?_⟩
          rw [hpp, xptr_some]
          refine ⟨by omega, by omega, _, hload u9 (e7.trans e9), ?_⟩
          refine and_true (by rw [nexts_nil hz]; rfl) (fun kb hk => C10 fun u10 e10 => ⟨_, rfl, hk _ e10⟩) fun u10 e10 => ?_
          exact hK u10 (he.trans (e8.trans (e9.trans e10)))
        have hl0 : 0 < s.l := by rw [hsl]; exact List.length_pos_iff.2 hz
        rw [if_neg (by simp; omega)]
        obtain ⟨pt, hpt, hct⟩ := hts.int (i := n8.toNat) (by omega)
        rw [hpt, xptr_some]
        refine ⟨hn0, by omega, _, by rw [Nat.mul_one]; exact (he.trans (e8.trans e9)).cell hct, by omega, ?_⟩
        generalize ts[n8.toNat] = tv
        obtain ⟨k1, k2⟩ := pick_ok tv hl0
        intro kb5 hkb5
        have go5 : ∀ k : Int, 0 ≤ k → k < s.l → kb5 k u9 := by
          intro k hk0 hkl
          refine hkb5 _ _ ?_
          have hkn : k.toNat < (nexts (insAt m.threads[t.toNat].ins a) a).length := by omega
          have hx' := List.getElem?_eq_getElem hkn
          generalize (nexts (insAt m.threads[t.toNat].ins a) a)[k.toNat] = nx at hx'
          have hmn : nx ∈ nexts (insAt m.threads[t.toNat].ins a) a := List.mem_iff_getElem?.2 ⟨_, hx'⟩
          have hnx0 := nexts_ok hI (by omega) hmn
          have hnxl : nx < m.threads[t.toNat].ins.length := by
            unfold runsOut at hro; rw [List.any_eq_false] at hro
            have := hro nx hmn; simp at this; omega
          obtain ⟨ps, hps, -, hcs⟩ := hnew.2.rd.isSome (ints_get hx')
          rw [hps, xptr_some]
          refine ⟨hk0, hkl, nx, by rw [Nat.mul_one]; exact hcs, ?_⟩
          rw [show IntKind.wrap .i64 (n8 + 1) = n8 + 1 from wi (by omega) (by omega)]
          exact ⟨⟨nx.toNat, by omega, by omega, (hnx nx hmn).symm, by rw [hnx nx hmn]; exact hb0, by omega, by omega, hx.trans (e7.trans e9)⟩, by show ts.length - (n8 + 1).toNat < ts.length - n8.toNat; omega⟩
        by_cases hneg : Int.tmod tv s.l < 0
        · rw [if_pos (by simpa using hneg), wi (by omega) (by omega)]
          exact go5 _ (k1 hneg).1 (k1 hneg).2
        · rw [if_neg (by simpa using hneg)]
          exact go5 _ (by omega) (k2 hneg)
      clear hkb3
      refine ⟨_, _, _, hb7.ld rfl, ?_⟩
      rw [hpp, xptr_some]
      refine ⟨by omega, by omega, _, hload u7 e7, ?_⟩
      intro kb6 hkb6
      have go6 : kb6 ((insAt m.threads[t.toNat].ins a).code == 23 || (insAt m.threads[t.toNat].ins a).code == 34) u7 := by
        refine hkb6 _ _ ?_
        show kb3 (badMark (insAt m.threads[t.toNat].ins a) (g ds a)) u7
        rw [hbm]; exact go3
      cases h23 : ((insAt m.threads[t.toNat].ins a).code == 23) with
      | true => rw [h23] at go6; rw [if_pos rfl]; exact go6
      | false =>
        rw [h23] at go6
        rw [if_neg (by decide)]
        refine ⟨_, _, _, hb7.ld rfl, ?_⟩
        rw [hpp, xptr_some]
        exact ⟨by omega, by omega, _, hload u7 e7, go6⟩
    by_cases h1 : (x || decide (t < 0)) = true
    · rw [if_pos h1]
      refine go1 _ u hu fun hf => by cases hf
    rw [if_neg h1]
    have hx' : x = false := by cases x; rfl; simp at h1
    have ht0 : 0 ≤ t := by subst hx'; simp at h1; omega
    refine ⟨_, _, _, (hu.blk hb).ld rfl, go1 _ u hu fun hf => ?_⟩
    rw [l4] at hf
    exact ⟨(hx hx').1, (hx hx').2, ht0, by simpa using hf⟩
  clear hkb
  cases hbv : b with
  | false => rw [if_pos (by decide)]; exact go _ u1 e1 fun hf => by cases hf
  | true =>
    rw [if_neg (by decide)]
    refine ⟨_, _, _, _, _, _, _, _, _, _, _, _, _, _, (e1.blk hb).lds, C12 (hq.ex (he.trans e1)) (hsm hbv) fun u2 e2 => ⟨_, rfl, C11 ⟨_, rfl, go _ u2 (e1.trans e2) fun hf => ⟨hbv, by simpa using hf⟩⟩⟩⟩
end
end Go.Proofs.Ytnhhgadihmlabaa
