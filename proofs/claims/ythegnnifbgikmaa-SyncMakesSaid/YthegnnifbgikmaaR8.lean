/- The sync seat: the document's Signal and All. -/
import Derived.Test.YthegnnifbgikmaaR7
set_option linter.unusedVariables false
set_option linter.unusedSimpArgs false
namespace Go.Proofs.Ythegnnifbgikmaa
open Go.X

theorem RB.retD2 {w u : World} {pb rb : Nat} {z : S5} {R : RR} {G : Nat → Prop} (h : RB w u pb rb z R G) {z' : S5} {S : World → Prop}
    {Q : Option Addr → Nat → Nat → Option Addr → Nat → Nat → Option Addr → Nat → Nat → Option Addr → Nat → Nat → Option Addr → Nat → Nat → World → Prop}
    (hS : ∀ u', Fr (fun b => b = rb) u u' → S u')
    (hQ : ∀ u', Fr (fun b => b = rb) u u' → Q z'.o.a z'.o.l z'.o.c z'.c.a z'.c.l z'.c.c z'.r.a z'.r.l z'.r.c z'.s.a z'.s.l z'.s.c z'.t.a z'.t.l z'.t.c u') :
      storesAt ⟨rb, 0, none⟩ 0 [.slice z'.o.a z'.o.l z'.o.c, .slice z'.c.a z'.c.l z'.c.c, .slice z'.r.a z'.r.l z'.r.c, .slice z'.s.a z'.s.l z'.s.c, .slice z'.t.a z'.t.l z'.t.c] u fun w3 => S w3 ∧
        ∃ (a10 : Option Addr) (l10 : Nat) (c10 : Nat) (a11 : Option Addr) (l11 : Nat) (c11 : Nat) (a12 : Option Addr) (l12 : Nat) (c12 : Nat) (a13 : Option Addr) (l13 : Nat) (c13 : Nat) (a14 : Option Addr) (l14 : Nat) (c14 : Nat),
          cellsAt w3 ⟨rb, 0, none⟩ 0 [.slice a10 l10 c10, .slice a11 l11 c11, .slice a12 l12 c12, .slice a13 l13 c13, .slice a14 l14 c14] ∧ Q a10 l10 c10 a11 l11 c11 a12 l12 c12 a13 l13 c13 a14 l14 c14 w3 :=
  storesAt_self h.res rfl fun w3 hb3 hf3 hs3 =>
    ⟨hS w3 hf3, z'.o.a, z'.o.l, z'.o.c, z'.c.a, z'.c.l, z'.c.c, z'.r.a, z'.r.l, z'.r.c, z'.s.a, z'.s.l, z'.s.c, z'.t.a, z'.t.l, z'.t.c, cellsAt_self hb3, hQ w3 hf3⟩

section
variable {w : World} {K : Value → World → Prop} {KP : List PanicEntry → World → Prop} {z : S5} {R : RR} {G : Nat → Prop}
theorem C54 (hr : RefAt w z R G) (hs : R.small) {m : Int}
    (h : ∀ z' q w', RefAt w' z' (R.all m).1 (fun b => G b ∨ w.heap.size ≤ b) → RdI w' q (R.all m).2.1 (fun b => G b ∨ w.heap.size ≤ b) → (∀ D, Fr D w w') → K (.tuple #[S5.v z', Sl.v q, .int .i64 (R.all m).2.2]) w') : XCP Try.prog 54 [z.v, .int .i64 m] w K KP := by
  show XCP Try.prog 54 [.agg #[.slice z.o.a z.o.l z.o.c, .slice z.c.a z.c.l z.c.c, .slice z.r.a z.r.l z.r.c, .slice z.s.a z.s.l z.s.c, .slice z.t.a z.t.l z.t.c], .int .i64 m] w K KP
  apply E54; unfold F54
  intro w0 p w1 p1
  have hB := RB.enter hr
  change RB w w1 w.heap.size w0.heap.size z R _ at hB
  clear_value w0 w1
  have lc := hB.ref.c.len
  unfold RR.all at h
  intro kb hkb
  by_cases hm : m < 0 ∨ m ≥ R.conds.length
  · rw [if_pos hm] at h
    have fin : kb true w1 := hkb _ _ (by
      rw [if_pos rfl]
      refine hB.retD hB.box fun u' hf => ?_
      obtain ⟨h1, h2⟩ := hB.ret hf
      exact h z ⟨none, 0, 0⟩ u' (h1.mono (fun b _ hb => .inl hb.1)) ⟨.inl rfl, rfl, Nat.le_refl _⟩ h2)
    by_cases h0 : m < 0
    · rw [if_pos (by simpa using h0)]; exact fin
    · rw [if_neg (by simpa using h0)]
      refine ⟨z.c.a, z.c.l, z.c.c, by show w1.cell? (Addr.add ⟨w.heap.size, 0, none⟩ 1) = _; rw [add_lit, hB.box.cell]; rfl, ?_⟩
      rw [show (decide (m ≥ ((z.c.l : Nat) : Int))) = true from by simp; omega]
      exact fin
  · rw [if_neg hm] at h
    have hmt : m.toNat < R.conds.length := by omega
    rw [if_neg (by simp; omega)]
    refine ⟨z.c.a, z.c.l, z.c.c, by show w1.cell? (Addr.add ⟨w.heap.size, 0, none⟩ 1) = _; rw [add_lit, hB.box.cell]; rfl, ?_⟩
    rw [show (decide (m ≥ ((z.c.l : Nat) : Int))) = false from by simp; omega]
    refine hkb _ _ ?_
    rw [if_neg (by decide)]
    rw [List.getElem?_eq_getElem hmt, Option.getD_some] at h
    refine ⟨z.o.a, z.o.l, z.o.c, z.c.a, z.c.l, z.c.c, z.r.a, z.r.l, z.r.c, z.s.a, z.s.l, z.s.c, z.t.a, z.t.l, z.t.c, cellsAt_self hB.box, ?_⟩
    refine C74 (z := z) hB.ref hs fun zc g qc qs w7 hown hold hfr => ⟨zc.o.a, zc.o.l, zc.o.c, zc.c.a, zc.c.l, zc.c.c, zc.r.a, zc.r.l, zc.r.c, zc.s.a, zc.s.l, zc.s.c, zc.t.a, zc.t.l, zc.t.c, rfl, ?_⟩
    intro w8 p3
    have hb8 : Blk w8 w7.heap.size zero5 53 := Blk.new w7 _ _
    have hf8 : ∀ D, Fr D w7 w8 := fun D => Fr.alloc _ _ _
    clear_value w8
    refine storesAt_self hb8 rfl fun w9 hb9 hf9 hs9 => ?_
    have hC := hB.copied hown hold hfr hb9 (fun D => (hf8 D).trans hf9 (fun _ _ h => h) (fun k hk e => by omega))
    refine ⟨zc.c.a, zc.c.l, zc.c.c, by show w9.cell? (Addr.add ⟨w7.heap.size, 0, none⟩ 1) = _; rw [add_lit, hb9.cell]; rfl, ?_⟩
    have hqc : m.toNat < qc.length := by rw [hC.own.nc]; exact hmt
    have lcc : zc.c.l = qc.length := by have := hC.own.c.1; simpa using this.symm
    obtain ⟨pc, hpc, -⟩ := hC.own.c.rd.isSome (i := m.toNat) (v := (qc[m.toNat]).v) (by simp [hqc])
    rw [hpc, xptr_some]
    refine ⟨by omega, by omega, ?_⟩
    rw [Nat.mul_one]
    refine hC.own.setC (s' := ⟨none, 0, 0⟩) (xs' := []) hmt hpc (Fr.refl _ _) (Own.none _ _ _ _) fun u' hown' hf' hs' => ?_
    have hC' := (hC.turn hf' (fun b hb => retag_old hb) hown').drew
    obtain ⟨pa, q, hpa, hq, hqr⟩ := hC'.base.ref.c.nth (List.getElem?_eq_getElem hmt)
    refine ⟨fun x => Blk x w7.heap.size zc.cells 53 ∧ Blk x w.heap.size z.cells 53 ∧ x.cell? (pa.add m.toNat) = some q.v, ⟨hC'.dst, hC'.base.box, hq⟩, ?_⟩
    refine ⟨zc.o.a, zc.o.l, zc.o.c, zc.c.a, zc.c.l, zc.c.c, zc.r.a, zc.r.l, zc.r.c, zc.s.a, zc.s.l, zc.s.c, zc.t.a, zc.t.l, zc.t.c, fun x hx => cellsAt_self hx.1, ?_⟩
    refine ⟨z.c.a, z.c.l, z.c.c, fun x hx => by show x.cell? (Addr.add ⟨w.heap.size, 0, none⟩ 1) = _; rw [add_lit, hx.2.1.cell]; rfl, ?_⟩
    rw [hpa, xptr_some]
    refine ⟨by omega, by omega, q.a, q.l, q.c, fun x hx => by simpa [Sl.v] using hx.2.2, ?_⟩
    have hbl : ∀ b, (G b ∧ b < w.heap.size) → b ≠ w0.heap.size := fun b hb => by have := hC'.base.rw_; omega
    have hpab : (pa.add m.toNat).block ≠ w0.heap.size := by
      rcases hC'.base.ref.c with ⟨qs', hq1, _, hq3, _⟩
      obtain ⟨p', hp', hg', -⟩ := hq1.isSome (i := m.toNat) (v := (qs'[m.toNat]'(by omega)).v) (by simp [show m.toNat < qs'.length from by omega])
      rw [hpa] at hp'; cases hp'
      rw [add_block]; exact hbl _ hg'
    refine hC'.base.retD2 (fun x hx => ⟨hx.blk hC'.dst hC'.dr, hx.blk hC'.base.box hC'.base.ne, hx.cell hq hpab⟩) fun u2 hf2 => ?_
    obtain ⟨h1, h2⟩ := hC'.ret hf2
    exact h zc q u2 (h1.mono (fun b _ hb => .inr hb)) ((hqr.frame hf2 hbl).mono (fun b _ hb => .inl hb.1)) h2
end
end Go.Proofs.Ythegnnifbgikmaa
