/- The sync seat: the document's Send. -/
import Derived.Test.YthegnnifbgikmaaR10
set_option linter.unusedVariables false
set_option linter.unusedSimpArgs false
namespace Go.Proofs.Ythegnnifbgikmaa
open Go.X
section
variable {w : World} {K : Value → World → Prop} {KP : List PanicEntry → World → Prop} {z : S5} {R : RR} {G : Nat → Prop}
theorem C55 (hr : RefAt w z R G) (hs : R.small) (hw : R.wf) {m v : Int}
    (h : ∀ z' w', RefAt w' z' (R.send m v).1 (fun b => G b ∨ w.heap.size ≤ b) → (∀ D, Fr D w w') → K (.tuple #[S5.v z', .int .i64 (R.send m v).2.1, .int .i64 (R.send m v).2.2]) w') : XCP Try.prog 55 [z.v, .int .i64 m, .int .i64 v] w K KP := by
  show XCP Try.prog 55 [.agg #[.slice z.o.a z.o.l z.o.c, .slice z.c.a z.c.l z.c.c, .slice z.r.a z.r.l z.r.c, .slice z.s.a z.s.l z.s.c, .slice z.t.a z.t.l z.t.c], .int .i64 m, .int .i64 v] w K KP
  apply E55; unfold F55
  intro w0 p w1 p1
  have hB := RB.enter hr
  change RB w w1 w.heap.size w0.heap.size z R _ at hB
  clear_value w0 w1
  have lc := hB.ref.r.2.1
  unfold RR.send at h
  intro kb hkb
  by_cases hm : m < 0 ∨ m ≥ R.rooms.length
  · rw [if_pos hm] at h
    have fin : kb true w1 := hkb _ _ (by
      rw [if_pos rfl]
      refine hB.retD hB.box fun u' hf => ?_
      obtain ⟨h1, h2⟩ := hB.ret hf
      exact h z u' (h1.mono (fun b _ hb => .inl hb.1)) h2)
    by_cases h0 : m < 0
    · rw [if_pos (by simpa using h0)]; exact fin
    · rw [if_neg (by simpa using h0)]
      refine ⟨z.r.a, z.r.l, z.r.c, by show w1.cell? (Addr.add ⟨w.heap.size, 0, none⟩ 2) = _; rw [add_lit, hB.box.cell]; rfl, ?_⟩
      rw [show (decide (m ≥ ((z.r.l : Nat) : Int))) = true from by simp; omega]
      exact fin
  · rw [if_neg hm] at h
    have hmt : m.toNat < R.rooms.length := by omega
    have hst : m.toNat < R.sent.length := by rw [hw.sl]; exact hmt
    have htt : m.toNat < R.taken.length := by rw [hw.tl]; exact hmt
    have hwt := hw.t0 m.toNat hmt
    have hmc : ((m.toNat : Nat) : Int) = m := by omega
    rw [hmc] at hwt
    have es : R.sentAt m = R.sent[m.toNat] := by unfold RR.sentAt; rw [List.getElem?_eq_getElem hst]; rfl
    have er : R.roomAt m = R.rooms[m.toNat] := by unfold RR.roomAt; rw [List.getElem?_eq_getElem hmt]; rfl
    rw [if_neg (by simp; omega)]
    refine ⟨z.r.a, z.r.l, z.r.c, by show w1.cell? (Addr.add ⟨w.heap.size, 0, none⟩ 2) = _; rw [add_lit, hB.box.cell]; rfl, ?_⟩
    rw [show (decide (m ≥ ((z.r.l : Nat) : Int))) = false from by simp; omega]
    refine hkb _ _ ?_
    rw [if_neg (by decide)]
    by_cases hv : v < -2147483648 ∨ v > 2147483647
    · rw [if_pos hv] at h
      rw [if_pos (by simpa using hv)]
      refine hB.retD hB.box fun u' hf => ?_
      obtain ⟨h1, h2⟩ := hB.ret hf
      exact h z u' (h1.mono (fun b _ hb => .inl hb.1)) h2
    · rw [if_neg hv] at h
      rw [if_neg (by simpa using hv)]
      replace hB := hB.drew
      obtain ⟨pr, hpr, hcr⟩ := hB.ref.r.nth hmt
      refine ⟨fun y => Blk y w.heap.size z.cells 53 ∧ y.cell? (pr.add m.toNat) = some (.int .i64 (R.roomAt m)), ⟨hB.box, by rw [er]; exact hcr⟩, ?_⟩
      refine ⟨z.o.a, z.o.l, z.o.c, z.c.a, z.c.l, z.c.c, z.r.a, z.r.l, z.r.c, z.s.a, z.s.l, z.s.c, z.t.a, z.t.l, z.t.c, fun y hy => cellsAt_self hy.1, ?_⟩
      refine ⟨z.r.a, z.r.l, z.r.c, fun y hy => by show y.cell? (Addr.add ⟨w.heap.size, 0, none⟩ 2) = _; rw [add_lit, hy.1.cell]; rfl, ?_⟩
      rw [hpr, xptr_some]
      refine ⟨by omega, by omega, R.roomAt m, fun y hy => by simpa using hy.2, ?_⟩
      have x0 : 0 ≤ m := by omega
      have x1 : m < R.sent.length := by omega
      have x2 : m < R.taken.length := by omega
      rw [← hpr]
      refine C57 (w := w1.drew) (z := z) (R := R) (n := m) (KP := KP) hB.ref x0 x1 x2 hwt.1 hwt.2 fun q u4 hq4 hf4 => ⟨q.a, q.l, q.c, rfl, ?_⟩
      have hS4 : Blk u4 w.heap.size z.cells 53 ∧ u4.cell? (pr.add m.toNat) = some (.int .i64 (R.roomAt m)) := ⟨(hf4 (fun _ => False)).blk hB.box (fun h => h), by rw [er]; exact (hf4 (fun _ => False)).cell hcr (fun h => h)⟩
      refine ⟨hS4, ?_⟩
      replace hB := hB.frame (hf4 (fun _ => False)) (fun _ h => h.elim)
      have hql := hq4.2.1
      by_cases hroom : ((R.values m).length : Int) ≥ R.roomAt m
      · rw [if_pos hroom] at h
        rw [if_pos (by rw [hql]; simpa using hroom)]
        refine hB.retD hB.box fun u' hf => ?_
        obtain ⟨h1, h2⟩ := hB.ret hf
        exact h z u' (h1.mono (fun b _ hb => .inl hb.1)) h2
      · rw [if_neg hroom] at h
        rw [if_neg (by rw [hql]; simpa using hroom)]
        refine ⟨z.o.a, z.o.l, z.o.c, z.c.a, z.c.l, z.c.c, z.r.a, z.r.l, z.r.c, z.s.a, z.s.l, z.s.c, z.t.a, z.t.l, z.t.c, cellsAt_self hB.box, ?_⟩
        refine C74 (z := z) hB.ref hs fun zc g qc qs w7 hown hold hfr => ⟨zc.o.a, zc.o.l, zc.o.c, zc.c.a, zc.c.l, zc.c.c, zc.r.a, zc.r.l, zc.r.c, zc.s.a, zc.s.l, zc.s.c, zc.t.a, zc.t.l, zc.t.c, rfl, ?_⟩
        intro w8 p3
        have hb8 : Blk w8 w7.heap.size zero5 53 := Blk.new w7 _ _
        have hf8 : ∀ D, Fr D w7 w8 := fun D => Fr.alloc _ _ _
        clear_value w8
        refine storesAt_self hb8 rfl fun w9 hb9 hf9 hs9 => ?_
        have hC := (hB.copied hown hold hfr hb9 (fun D => (hf8 D).trans hf9 (fun _ _ h => h) (fun k hk e => by omega))).drew
        have hqs : m.toNat < qs.length := by rw [hC.own.ns]; exact hst
        have lss : zc.s.l = qs.length := by have := hC.own.s.1; simpa using this.symm
        obtain ⟨pc, hpc, -, hcin⟩ := hC.own.s.rd.isSome (i := m.toNat) (v := (qs[m.toNat]).v) (by simp [hqs])
        have hqo := hC.own.si m.toNat _ _ (List.getElem?_eq_getElem hqs) (List.getElem?_eq_getElem hst)
        have hsx := hs.si _ (List.getElem_mem hst)
        have hlq := hqo.len
        have hpcb : g pc.block = 5 := by
          obtain ⟨b, o, B, rfl, hg, _⟩ := Own.at_ hC.own.s hpc
          exact hg
        refine ⟨fun y => Blk y w7.heap.size zc.cells 53 ∧ y.cell? (pc.add m.toNat) = some (qs[m.toNat]).v, ⟨hC.dst, hcin⟩, ?_⟩
        refine ⟨zc.s.a, zc.s.l, zc.s.c, fun y hy => by rw [add_lit, hy.1.cell]; rfl, zc.s.a, zc.s.l, zc.s.c, fun y hy => by rw [add_lit, hy.1.cell]; rfl, ?_⟩
        rw [hpc, xptr_some]
        refine ⟨by omega, by omega, (qs[m.toNat]).a, (qs[m.toNat]).l, (qs[m.toNat]).c, fun y hy => by simpa [Sl.v] using hy.2, ?_⟩
        refine xr_build T28 rfl (cs := [.int .i64 v]) (by rfl) rfl (by omega) fun w18 ho18 hf18 _ => ⟨_, _, _, rfl, ⟨(hf18 (fun _ => False)).blk hC.dst (fun h => h), (hf18 (fun _ => False)).cell hcin (fun h => h)⟩, ?_⟩
        have hqo18 : Own w18 1 2 (qs[m.toNat]).a (qs[m.toNat]).l (qs[m.toNat]).c (ints R.sent[m.toNat]) (fun b => g b = 8 + 2 * m.toNat ∧ b < w9.drew.heap.size) := Own.frame (hqo.mono (fun b hb hg => ⟨hg, hb⟩)) (hf18 (fun _ => False)) (fun _ _ h => h)
        have e18 := (hf18 (fun _ => False)).size
        refine xr_append T28 rfl hqo18 ho18.rd rfl (by intro u hu; simp at hu; subst hu; rfl) (by omega) (by omega) fun a' c' w19 ho19 hf19 _ => ?_
        have hf919 : Fr (g · = 8 + 2 * m.toNat) w9.drew w19 := (hf18 (g · = 8 + 2 * m.toNat)).trans hf19 (fun _ _ h => h) (fun _ _ h => h.1)
        have hd19 := hf919.blk hC.dst (fun e => by have e : g w7.heap.size = _ := e; have := hC.dz; omega)
        have hc19 := hf919.cell hcin (fun e => by rw [add_block] at e; have e : g pc.block = _ := e; omega)
        refine ⟨_, _, _, rfl, ⟨hd19, hc19⟩, ?_⟩
        rw [xptr_some]
        refine ⟨by omega, by omega, ?_⟩
        rw [Nat.mul_one]
        have ho19' : OwnI w19 2 ⟨a', (qs[m.toNat]).l + 1, c'⟩ (R.sent[m.toNat] ++ [v]) (fun b => g b = 8 + 2 * m.toNat ∨ w9.drew.heap.size ≤ b) := by
          have := ho19.mono (G' := fun b => g b = 8 + 2 * m.toNat ∨ w9.drew.heap.size ≤ b) (fun b _ hb => by rcases hb with hb | hb; exact .inl hb.1; exact .inr (by omega))
          simpa [OwnI] using this
        refine hC.own.setS hst hpc hf919 ho19' fun u' hown' hf' hs' => ?_
        have hC' := (hC.turn hf' (fun b hb => retag_old hb) hown').drew
        rw [← es] at hC'
        obtain ⟨ps, qq, hps, hqq, hqqr⟩ := hC'.base.ref.s.nth (List.getElem?_eq_getElem hst)
        rw [← es] at hqqr
        have lqq := hqqr.2.1
        have lsl := hC'.base.ref.s.len
        refine ⟨fun y => Blk y w7.heap.size zc.cells 53 ∧ Blk y w.heap.size z.cells 53 ∧ y.cell? (ps.add m.toNat) = some qq.v, ⟨hC'.dst, hC'.base.box, hqq⟩, ?_⟩
        refine ⟨zc.o.a, zc.o.l, zc.o.c, zc.c.a, zc.c.l, zc.c.c, zc.r.a, zc.r.l, zc.r.c, zc.s.a, zc.s.l, zc.s.c, zc.t.a, zc.t.l, zc.t.c, fun y hy => cellsAt_self hy.1, ?_⟩
        refine ⟨z.s.a, z.s.l, z.s.c, fun y hy => by show y.cell? (Addr.add ⟨w.heap.size, 0, none⟩ 3) = _; rw [add_lit, hy.2.1.cell]; rfl, ?_⟩
        rw [hps, xptr_some]
        refine ⟨by omega, by omega, qq.a, qq.l, qq.c, fun y hy => by simpa [Sl.v] using hy.2.2, ?_⟩
        have hbl : ∀ b, (G b ∧ b < w.heap.size) → b ≠ w0.heap.size := fun b hb => by have := hC'.base.rw_; omega
        have n1 : (ps.add m.toNat).block ≠ w0.heap.size := by
          obtain ⟨qs', hq1, _, hq3, _⟩ := hC'.base.ref.s
          obtain ⟨p', hp', hg', -⟩ := hq1.isSome (i := m.toNat) (v := (qs'[m.toNat]'(by omega)).v) (by simp [show m.toNat < qs'.length from by omega])
          rw [hps] at hp'; cases hp'
          rw [add_block]; exact hbl _ hg'
        refine hC'.base.retD2 (fun y hy => ⟨hy.blk hC'.dst hC'.dr, hy.blk hC'.base.box hC'.base.ne, hy.cell hqq n1⟩) fun u2 hf2 => ?_
        obtain ⟨h1, h2⟩ := hC'.ret hf2
        rw [lqq]
        exact h zc u2 (h1.mono (fun b _ hb => .inr hb)) h2
end
end Go.Proofs.Ythegnnifbgikmaa
