/- The sync seat: the document's Signal. -/
import Derived.Test.YthegnnifbgikmaaR8
set_option linter.unusedVariables false
set_option linter.unusedSimpArgs false
namespace Go.Proofs.Ythegnnifbgikmaa
open Go.X
section
variable {w : World} {K : Value → World → Prop} {KP : List PanicEntry → World → Prop} {z : S5} {R : RR} {G : Nat → Prop}
theorem C53 (hr : RefAt w z R G) (hs : R.small) {m : Int}
    (h : ∀ z' w', RefAt w' z' (R.signal m).1 (fun b => G b ∨ w.heap.size ≤ b) → (∀ D, Fr D w w') → K (.tuple #[S5.v z', .int .i64 (R.signal m).2.1, .int .i64 (R.signal m).2.2]) w') : XCP Try.prog 53 [z.v, .int .i64 m] w K KP := by
  show XCP Try.prog 53 [.agg #[.slice z.o.a z.o.l z.o.c, .slice z.c.a z.c.l z.c.c, .slice z.r.a z.r.l z.r.c, .slice z.s.a z.s.l z.s.c, .slice z.t.a z.t.l z.t.c], .int .i64 m] w K KP
  apply E53; unfold F53
  intro w0 p w1 p1
  have hB := RB.enter hr
  change RB w w1 w.heap.size w0.heap.size z R _ at hB
  clear_value w0 w1
  have lc := hB.ref.c.len
  unfold RR.signal at h
  intro kb hkb
  by_cases hm : m < 0 ∨ m ≥ R.conds.length
  · rw [if_pos hm] at h
    have fin : kb true w1 := hkb _ _ (by
      rw [if_pos rfl]
      refine hB.retD hB.box fun u' hf => ?_
      obtain ⟨h1, h2⟩ := hB.ret hf
      exact h z u' (h1.mono (fun b _ hb => .inl hb.1)) h2)
    by_cases h0 : m < 0
    · rw [if_pos (by simpa using h0)]; exact fin
    · rw [if_neg (by simpa using h0)]
      refine ⟨z.c.a, z.c.l, z.c.c, by show w1.cell? (Addr.add ⟨w.heap.size, 0, none⟩ 1) = _; rw [add_lit, hB.box.cell]; rfl, ?_⟩
      rw [show (decide (m ≥ ((z.c.l : Nat) : Int))) = true from by simp; omega]
      exact fin
  · rw [if_neg hm] at h
    have hmt : m.toNat < R.conds.length := by omega
    rw [if_neg (by simp; omega)]
    refine ⟨z.c.a, z.c.l, z.c.c, by show w1.cell? (Addr.add ⟨w.heap.size, 0, none⟩ 1) = _; rw [add_lit, hB.box.cell]; rfl, ?_⟩
    rw [show (decide (m ≥ ((z.c.l : Nat) : Int))) = false from by simp; omega]
    refine hkb _ _ ?_
    rw [if_neg (by decide)]
    rw [List.getElem?_eq_getElem hmt, Option.getD_some] at h
    refine ⟨z.c.a, z.c.l, z.c.c, by show w1.cell? (Addr.add ⟨w.heap.size, 0, none⟩ 1) = _; rw [add_lit, hB.box.cell]; rfl, ?_⟩
    obtain ⟨pz, q0, hpz, hq0, hqr0⟩ := hB.ref.c.nth (List.getElem?_eq_getElem hmt)
    rw [hpz, xptr_some]
    refine ⟨by omega, by omega, q0.a, q0.l, q0.c, by simpa [Sl.v] using hq0, ?_⟩
    have hql0 := hqr0.2.1
    cases hxs : R.conds[m.toNat] with
    | nil =>
      rw [hxs] at h hql0
      rw [if_pos (by simp [hql0])]
      refine hB.retD hB.box fun u' hf => ?_
      obtain ⟨h1, h2⟩ := hB.ret hf
      exact h z u' (h1.mono (fun b _ hb => .inl hb.1)) h2
    | cons x r =>
    rw [hxs] at h
    rw [if_neg (by rw [hql0, hxs]; simp; omega)]
    refine ⟨z.o.a, z.o.l, z.o.c, z.c.a, z.c.l, z.c.c, z.r.a, z.r.l, z.r.c, z.s.a, z.s.l, z.s.c, z.t.a, z.t.l, z.t.c, cellsAt_self hB.box, ?_⟩
    refine C74 (z := z) hB.ref hs fun zc g qc qs w7 hown hold hfr => ⟨zc.o.a, zc.o.l, zc.o.c, zc.c.a, zc.c.l, zc.c.c, zc.r.a, zc.r.l, zc.r.c, zc.s.a, zc.s.l, zc.s.c, zc.t.a, zc.t.l, zc.t.c, rfl, ?_⟩
    intro w8 p3
    have hb8 : Blk w8 w7.heap.size zero5 53 := Blk.new w7 _ _
    have hf8 : ∀ D, Fr D w7 w8 := fun D => Fr.alloc _ _ _
    clear_value w8
    refine storesAt_self hb8 rfl fun w9 hb9 hf9 hs9 => ?_
    have hC := hB.copied hown hold hfr hb9 (fun D => (hf8 D).trans hf9 (fun _ _ h => h) (fun k hk e => by omega))
    have hqc : m.toNat < qc.length := by rw [hC.own.nc]; exact hmt
    have lcc : zc.c.l = qc.length := by have := hC.own.c.1; simpa using this.symm
    obtain ⟨pc, hpc, -⟩ := hC.own.c.rd.isSome (i := m.toNat) (v := (qc[m.toNat]).v) (by simp [hqc])
    have hown9 := hC.drew.own
    have hqo := hown9.ci m.toNat _ _ (List.getElem?_eq_getElem hqc) (List.getElem?_eq_getElem hmt)
    have hcin : w9.drew.cell? (pc.add m.toNat) = some (qc[m.toNat]).v := by
      have := hown9.c.rd
      rw [hpc] at this
      exact this.cell (by simp [hqc])
    rw [hxs] at hqo
    have hlq := hqo.len
    simp at hlq
    refine ⟨fun x => Blk x w7.heap.size zc.cells 53 ∧ x.cell? (pc.add m.toNat) = some (qc[m.toNat]).v, ⟨hC.drew.dst, hcin⟩, ?_⟩
    refine ⟨zc.c.a, zc.c.l, zc.c.c, fun x hx => by rw [add_lit, hx.1.cell]; rfl, zc.c.a, zc.c.l, zc.c.c, fun x hx => by rw [add_lit, hx.1.cell]; rfl, ?_⟩
    rw [hpc, xptr_some]
    refine ⟨by omega, by omega, (qc[m.toNat]).a, (qc[m.toNat]).l, (qc[m.toNat]).c, fun x hx => by simpa [Sl.v] using hx.2, by omega, by omega, ?_⟩
    rw [xptr_some]
    refine ⟨by omega, by omega, ?_⟩
    rw [Nat.mul_one]
    have htl := Own.tail hqo 1 (by omega)
    refine hown9.setC (s' := ⟨if (qc[m.toNat]).c = 1 then (qc[m.toNat]).a else Option.map (fun q => Addr.add q (1 * 1)) (qc[m.toNat]).a, (qc[m.toNat]).l - 1, (qc[m.toNat]).c - 1⟩) (xs' := r) hmt hpc (Fr.refl _ _) (by
      have := htl.mono (G' := fun b => g b = 7 + 2 * m.toNat ∨ w9.drew.heap.size ≤ b) (fun b _ hb => .inl hb)
      simpa [OwnI] using this) fun u' hown' hf' hs' => ?_
    have hC' := (hC.drew.turn hf' (fun b hb => retag_old hb) hown').drew
    obtain ⟨pa, q, hpa, hq, hqr⟩ := hC'.base.ref.c.nth (List.getElem?_eq_getElem hmt)
    have hq1 := hqr.2.1
    rw [hxs] at hqr hq1
    obtain ⟨p7, hp7, hc7⟩ := hqr.nth (i := 0) (by simp)
    refine ⟨fun y => Blk y w7.heap.size zc.cells 53 ∧ Blk y w.heap.size z.cells 53 ∧ y.cell? (pa.add m.toNat) = some q.v ∧ y.cell? (p7.add 0) = some (.int .i64 x), ⟨hC'.dst, hC'.base.box, hq, hc7⟩, ?_⟩
    refine ⟨zc.o.a, zc.o.l, zc.o.c, zc.c.a, zc.c.l, zc.c.c, zc.r.a, zc.r.l, zc.r.c, zc.s.a, zc.s.l, zc.s.c, zc.t.a, zc.t.l, zc.t.c, fun x hx => cellsAt_self hx.1, ?_⟩
    refine ⟨z.c.a, z.c.l, z.c.c, fun x hx => by show x.cell? (Addr.add ⟨w.heap.size, 0, none⟩ 1) = _; rw [add_lit, hx.2.1.cell]; rfl, ?_⟩
    rw [hpa, xptr_some]
    refine ⟨by omega, by omega, q.a, q.l, q.c, fun x hx => by simpa [Sl.v] using hx.2.2.1, ?_⟩
    rw [hp7, xptr_some]
    simp at hq1
    refine ⟨by omega, by omega, x, fun y hy => by simpa using hy.2.2.2, ?_⟩
    have hbl : ∀ b, (G b ∧ b < w.heap.size) → b ≠ w0.heap.size := fun b hb => by have := hC'.base.rw_; omega
    have hpab : (pa.add m.toNat).block ≠ w0.heap.size := by
      rcases hC'.base.ref.c with ⟨qs', hq1, _, hq3, _⟩
      obtain ⟨p', hp', hg', -⟩ := hq1.isSome (i := m.toNat) (v := (qs'[m.toNat]'(by omega)).v) (by simp [show m.toNat < qs'.length from by omega])
      rw [hpa] at hp'; cases hp'
      rw [add_block]; exact hbl _ hg'
    have hp7b : (p7.add 0).block ≠ w0.heap.size := by
      obtain ⟨p', hp', hg', -⟩ := hqr.1.isSome (i := 0) (v := .int .i64 x) rfl
      rw [hp7] at hp'; cases hp'
      rw [add_block]; exact hbl _ hg'
    refine hC'.base.retD2 (fun x hx => ⟨hx.blk hC'.dst hC'.dr, hx.blk hC'.base.box hC'.base.ne, hx.cell hq hpab, hx.cell hc7 hp7b⟩) fun u2 hf2 => ?_
    obtain ⟨h1, h2⟩ := hC'.ret hf2
    exact h zc u2 (h1.mono (fun b _ hb => .inr hb)) h2
end
end Go.Proofs.Ythegnnifbgikmaa
