/- The verify seat: Next. -/
import Derived.Test.YtnhhgadihmlabaaV24
set_option linter.unusedVariables false
set_option linter.unusedSimpArgs false
set_option maxRecDepth 10000
set_option maxHeartbeats 1000000
namespace Go.Proofs.Ytnhhgadihmlabaa
open Go.X Go.Heap
section
variable {w : World} {K : Value → World → Prop} {KP : List PanicEntry → World → Prop}
/-- Next, of a place that is -/
theorem C20 {m : Mdl} {q : MdlH} {G : Nat → Prop} (hq : MdlP w G q m) (hok : mdlOk m = true) {t : Int} {a : Nat} (ht0 : 0 ≤ t) (htl : t.toNat < m.threads.length) (ha : a < m.threads[t.toNat].ins.length) (hsm : m.threads[t.toNat].ins.length ≤ 1000)
    (h : ∀ s u, NewI w u s (nexts (insAt m.threads[t.toNat].ins a) a) → K (.tuple #[s.v, .int .i64 0]) u) : XCP Try.prog 20 [m.v q, .int .i64 t, .int .i64 a] w K KP := by
  show XCP Try.prog 20 [.agg #[.slice q.sv.a q.sv.l q.sv.c, .slice q.sa.a q.sa.l q.sa.c, .slice q.sc.a q.sc.l q.sc.c, .int .i64 m.mutexes, .int .i64 m.conds, .slice q.st.a q.st.l q.st.c], .int .i64 t, .int .i64 a] w K KP
  refine E20 ?_
  unfold F20
  intro w0 p
  have hb : Blk w0 w.heap.size (m.cells q) 26 := Blk.new w _ _
  have he : Ex w w0 := Ex.alloc w _
  clear_value w0
  have l4 := hq.t.len
  refine ⟨_, _, _, _, _, _, _, _, _, _, _, _, _, _, hb.lds, C22 (hq.ex he) fun u1 e1 => ⟨_, rfl, ?_⟩⟩
  rw [if_pos hok, if_neg (by decide)]
  obtain ⟨p2, row, hp2, ⟨qc, hr, hqc⟩, hc2⟩ := hq.t.nth (List.getElem?_eq_getElem htl) (by decide)
  subst hr
  have l5 := hqc.1.len
  have hcl : ∀ x, Ex u1 x → cellsAt x (p2.add (t.toNat * 4)) 0 ((m.threads[t.toNat]).cells qc) := fun x hx => (he.trans (e1.trans hx)).cells hc2
  intro kb hkb
  rw [if_neg (by simp; omega)]
  refine ⟨_, _, _, (e1.blk hb).ld rfl, ?_⟩
  rw [l4, show decide (t ≥ (m.threads.length : Int)) = false from by simp; omega]
  refine hkb _ _ ?_
  intro kb1 hkb1
  rw [if_neg (by simp)]
  refine ⟨_, _, _, (e1.blk hb).ld rfl, ?_⟩
  rw [hp2, xptr_some]
  refine ⟨ht0, by omega, _, _, _, (hcl u1 (Ex.refl _)).2.2.1, ?_⟩
  rw [l5, show decide ((a : Int) ≥ (m.threads[t.toNat].ins.length : Int)) = false from by simp; omega]
  refine hkb1 _ _ ?_
  rw [if_neg (by decide)]
  refine ⟨_, _, _, (e1.blk hb).ld rfl, ?_⟩
  rw [hp2, xptr_some]
  refine ⟨ht0, by omega, _, _, _, (hcl u1 (Ex.refl _)).2.2.1, ?_⟩
  obtain ⟨pp, row, hpp, hr, hc⟩ := hqc.1.nth (insAt_get ha) (by decide)
  have hr : row = (insAt m.threads[t.toNat].ins a).cells := hr
  subst hr
  rw [hpp, xptr_some]
  refine ⟨by omega, by omega, _, _, _, _, by rw [Int.toNat_natCast]; exact (he.trans e1).cells hc, ?_⟩
  refine C31 (i := insAt m.threads[t.toNat].ins a) (n := a) (by omega) fun u2 bj bi bg ba e2 hbeh => ⟨_, rfl, C30 (by omega) hbeh fun s u3 hnew => ⟨_, _, _, rfl, h s u3 ⟨he.trans (e1.trans (e2.trans hnew.1)), ?_⟩⟩⟩
  exact Own.mono hnew.2 fun b _ hb' => Nat.le_trans (he.trans (e1.trans e2)).size hb'
end
end Go.Proofs.Ytnhhgadihmlabaa
