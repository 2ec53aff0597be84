/- The sync seat: the document's Values and Recv. -/
import Derived.Test.YthegnnifbgikmaaR9
set_option linter.unusedVariables false
set_option linter.unusedSimpArgs false
namespace Go.Proofs.Ythegnnifbgikmaa
open Go.X

theorem add_add (p : Addr) (a b : Nat) : (p.add a).add b = p.add (a + b) := by
  cases a with
  | zero => simp [Addr.add]
  | succ a => cases b with
    | zero => simp [Addr.add]
    | succ b => simp [Addr.add, Nat.add_assoc]
theorem RdI.tail {w : World} {s : Sl} {xs : List Int} {G : Nat → Prop} (h : RdI w s xs G) (n : Nat) (hn : n ≤ xs.length) :
    RdI w ⟨if s.c = n then s.a else Option.map (fun q => Addr.add q (n * 1)) s.a, s.l - n, s.c - n⟩ (xs.drop n) G := by
  obtain ⟨h1, h2, h3⟩ := h
  refine ⟨?_, by simp [h2], by show s.l - n ≤ s.c - n; omega⟩
  by_cases he : n = xs.length
  · left; simp [he]
  · right
    have hlt : n < xs.length := by omega
    obtain ⟨p, hp, hg, -⟩ := h1.isSome (ints_get_iff hlt)
    refine ⟨p.add n, ?_, by rw [add_block]; exact hg, fun i v hi => ?_⟩
    · show (if s.c = n then s.a else _) = _
      rw [if_neg (by omega), hp]; simp
    · rw [add_add]
      rw [hp] at h1
      refine h1.cell ?_
      have : ints (xs.drop n) = (ints xs).drop n := by simp [ints]
      rw [this, List.getElem?_drop] at hi
      exact hi

section
variable {w : World} {K : Value → World → Prop} {KP : List PanicEntry → World → Prop} {z : S5} {R : RR} {G : Nat → Prop}
theorem C57 (hr : RefAt w z R G) {n : Int} (h0 : 0 ≤ n) (h1 : n < R.sent.length) (h2 : n < R.taken.length) (h3 : 0 ≤ R.takenAt n) (h4 : R.takenAt n ≤ (R.sentAt n).length)
    (h : ∀ q w', RdI w' q (R.values n) G → (∀ D, Fr D w w') → K (Sl.v q) w') : XCP Try.prog 57 [z.v, .int .i64 n] w K KP := by
  show XCP Try.prog 57 [.agg #[.slice z.o.a z.o.l z.o.c, .slice z.c.a z.c.l z.c.c, .slice z.r.a z.r.l z.r.c, .slice z.s.a z.s.l z.s.c, .slice z.t.a z.t.l z.t.c], .int .i64 n] w K KP
  apply E57; unfold F57
  intro w0 p
  have hb0 : Blk w0 w.heap.size z.cells 53 := Blk.new w _ _
  have hf0 : ∀ D, Fr D w w0 := fun D => Fr.alloc _ _ _
  clear_value w0
  have hf1 : ∀ D, Fr D w w0.drew := fun D => (hf0 D).trans (Fr.drew D w0) (fun _ _ h => h) (fun _ _ h => h)
  have hr1 : RefAt w0.drew z R G := hr.frame (hf1 (fun _ => False)) (fun _ _ h => h)
  have hst : n.toNat < R.sent.length := by omega
  have htt : n.toNat < R.taken.length := by omega
  obtain ⟨p1, q, hp1, hq, hqr⟩ := hr1.s.nth (List.getElem?_eq_getElem hst)
  obtain ⟨p2, hp2, hc2⟩ := hr1.t.nth htt
  have ls := hr1.s.len
  have lt := hr1.t.2.1
  have es : R.sentAt n = R.sent[n.toNat] := by unfold RR.sentAt; rw [List.getElem?_eq_getElem hst]; rfl
  have et : R.takenAt n = R.taken[n.toNat] := by unfold RR.takenAt; rw [List.getElem?_eq_getElem htt]; rfl
  have hq2 := hqr.2.1
  refine ⟨fun u => u = w0.drew, rfl, ?_⟩
  refine ⟨z.s.a, z.s.l, z.s.c, fun u hu => by subst hu; show w0.drew.cell? (Addr.add ⟨w.heap.size, 0, none⟩ 3) = _; rw [add_lit, hb0.drew.cell]; rfl, ?_⟩
  rw [hp1, xptr_some]
  refine ⟨h0, by omega, q.a, q.l, q.c, fun u hu => by subst hu; simpa [Sl.v] using hq, ?_⟩
  refine ⟨z.t.a, z.t.l, z.t.c, fun u hu => by subst hu; show w0.drew.cell? (Addr.add ⟨w.heap.size, 0, none⟩ 4) = _; rw [add_lit, hb0.drew.cell]; rfl, ?_⟩
  rw [hp2, xptr_some]
  refine ⟨h0, by omega, R.taken[n.toNat], fun u hu => by subst hu; simpa using hc2, ?_⟩
  rw [← et]
  rw [← es] at hqr hq2
  refine ⟨h3, by omega, ?_⟩
  exact h ⟨_, _, _⟩ w0.drew (hqr.tail (R.takenAt n).toNat (by omega)) hf1

theorem C56 (hr : RefAt w z R G) (hs : R.small) (hw : R.wf) {m : Int} (hb : R.takenAt m ≤ 1000000)
    (h : ∀ z' w', RefAt w' z' (R.recv m).1 (fun b => G b ∨ w.heap.size ≤ b) → (∀ D, Fr D w w') → K (.tuple #[S5.v z', .int .i64 (R.recv m).2.1, .int .i64 (R.recv m).2.2.1, .int .i64 (R.recv m).2.2.2]) w') : XCP Try.prog 56 [z.v, .int .i64 m] w K KP := by
  show XCP Try.prog 56 [.agg #[.slice z.o.a z.o.l z.o.c, .slice z.c.a z.c.l z.c.c, .slice z.r.a z.r.l z.r.c, .slice z.s.a z.s.l z.s.c, .slice z.t.a z.t.l z.t.c], .int .i64 m] w K KP
  apply E56; unfold F56
  intro w0 p w1 p1
  have hB := RB.enter hr
  change RB w w1 w.heap.size w0.heap.size z R _ at hB
  clear_value w0 w1
  have lc := hB.ref.r.2.1
  unfold RR.recv at h
  intro kb hkb
  by_cases hm : m < 0 ∨ m ≥ R.rooms.length
  · rw [if_pos hm] at h
    have fin : kb true w1 := hkb _ _ (by
      rw [if_pos rfl]
      refine hB.retD hB.box fun u' hf => ?_
      obtain ⟨h1, h2⟩ := hB.ret hf
      exact h z u' (h1.mono (fun b _ hb => .inl hb.1)) h2)
    by_cases h0 : m < 0
    · rw [if_pos (by simpa using h0)]; exact fin
    · rw [if_neg (by simpa using h0)]
      refine ⟨z.r.a, z.r.l, z.r.c, by show w1.cell? (Addr.add ⟨w.heap.size, 0, none⟩ 2) = _; rw [add_lit, hB.box.cell]; rfl, ?_⟩
      rw [show (decide (m ≥ ((z.r.l : Nat) : Int))) = true from by simp; omega]
      exact fin
  · rw [if_neg hm] at h
    have hmt : m.toNat < R.rooms.length := by omega
    have hst : m.toNat < R.sent.length := by rw [hw.sl]; exact hmt
    have htt : m.toNat < R.taken.length := by rw [hw.tl]; exact hmt
    have hwt := hw.t0 m.toNat hmt
    have hmc : ((m.toNat : Nat) : Int) = m := by omega
    rw [hmc] at hwt
    have es : R.sentAt m = R.sent[m.toNat] := by unfold RR.sentAt; rw [List.getElem?_eq_getElem hst]; rfl
    have et : R.takenAt m = R.taken[m.toNat] := by unfold RR.takenAt; rw [List.getElem?_eq_getElem htt]; rfl
    rw [if_neg (by simp; omega)]
    refine ⟨z.r.a, z.r.l, z.r.c, by show w1.cell? (Addr.add ⟨w.heap.size, 0, none⟩ 2) = _; rw [add_lit, hB.box.cell]; rfl, ?_⟩
    rw [show (decide (m ≥ ((z.r.l : Nat) : Int))) = false from by simp; omega]
    refine hkb _ _ ?_
    rw [if_neg (by decide)]
    refine ⟨z.o.a, z.o.l, z.o.c, z.c.a, z.c.l, z.c.c, z.r.a, z.r.l, z.r.c, z.s.a, z.s.l, z.s.c, z.t.a, z.t.l, z.t.c, cellsAt_self hB.box, ?_⟩
    refine C57 (z := z) hB.ref (by omega) (by omega) (by omega) hwt.1 hwt.2 fun q u4 hq4 hf4 => ⟨q.a, q.l, q.c, rfl, ?_⟩
    replace hB := hB.frame (hf4 (fun _ => False)) (fun _ h => h.elim)
    have hql := hq4.2.1
    cases hxs : R.values m with
    | nil =>
      rw [hxs] at h hql
      rw [if_pos (by simp [hql])]
      refine hB.retD hB.box fun u' hf => ?_
      obtain ⟨h1, h2⟩ := hB.ret hf
      exact h z u' (h1.mono (fun b _ hb => .inl hb.1)) h2
    | cons x r =>
      rw [hxs] at h hql
      rw [if_neg (by rw [hql]; simp; omega)]
      have hvx : (R.sentAt m)[(R.takenAt m).toNat]? = some x := by
        have : (R.values m)[0]? = some x := by rw [hxs]; rfl
        unfold RR.values at this
        simpa using this
      have hvlt : (R.takenAt m).toNat < (R.sentAt m).length := (List.getElem?_eq_some_iff.1 hvx).1
      refine ⟨z.o.a, z.o.l, z.o.c, z.c.a, z.c.l, z.c.c, z.r.a, z.r.l, z.r.c, z.s.a, z.s.l, z.s.c, z.t.a, z.t.l, z.t.c, cellsAt_self hB.box, ?_⟩
      refine C74 (z := z) hB.ref hs fun zc g qc qs w7 hown hold hfr => ⟨zc.o.a, zc.o.l, zc.o.c, zc.c.a, zc.c.l, zc.c.c, zc.r.a, zc.r.l, zc.r.c, zc.s.a, zc.s.l, zc.s.c, zc.t.a, zc.t.l, zc.t.c, rfl, ?_⟩
      intro w8 p3
      have hb8 : Blk w8 w7.heap.size zero5 53 := Blk.new w7 _ _
      have hf8 : ∀ D, Fr D w7 w8 := fun D => Fr.alloc _ _ _
      clear_value w8
      refine storesAt_self hb8 rfl fun w9 hb9 hf9 hs9 => ?_
      have hC := hB.copied hown hold hfr hb9 (fun D => (hf8 D).trans hf9 (fun _ _ h => h) (fun k hk e => by omega))
      refine ⟨zc.t.a, zc.t.l, zc.t.c, by show w9.cell? (Addr.add ⟨w7.heap.size, 0, none⟩ 4) = _; rw [add_lit, hb9.cell]; rfl, ?_⟩
      obtain ⟨pt, hpt, hct⟩ := (OwnI_rdI hC.own.t).nth htt
      have ltt := hC.own.t.len
      rw [hpt, xptr_some]
      refine ⟨by omega, by omega, R.taken[m.toNat], by simpa using hct, ?_⟩
      rw [xptr_some]
      refine ⟨by omega, by omega, ?_⟩
      rw [Nat.mul_one, ← et, wi (by omega) (by omega)]
      refine hC.own.setT htt hpt fun u' hown' hf' hs' => ?_
      have hC' := (hC.turn hf' (fun _ _ => rfl) hown').drew
      obtain ⟨ps, qq, hps, hqq, hqqr⟩ := hC'.base.ref.s.nth (List.getElem?_eq_getElem hst)
      obtain ⟨pu, hpu, hcu⟩ := hC'.base.ref.t.nth htt
      rw [← es] at hqqr
      rw [← et] at hcu
      obtain ⟨pv, hpv, hcv⟩ := hqqr.nth hvlt
      have hxe : (R.sentAt m)[(R.takenAt m).toNat] = x := by rw [List.getElem?_eq_getElem hvlt] at hvx; exact Option.some.inj hvx
      rw [hxe] at hcv
      have lss := hC'.base.ref.s.len
      have ltl := hC'.base.ref.t.2.1
      have lqq := hqqr.2.1
      refine ⟨fun y => Blk y w7.heap.size zc.cells 53 ∧ Blk y w.heap.size z.cells 53 ∧ y.cell? (ps.add m.toNat) = some qq.v ∧ y.cell? (pu.add m.toNat) = some (.int .i64 (R.takenAt m)) ∧ y.cell? (pv.add (R.takenAt m).toNat) = some (.int .i64 x), ⟨hC'.dst, hC'.base.box, hqq, hcu, hcv⟩, ?_⟩
      refine ⟨zc.o.a, zc.o.l, zc.o.c, zc.c.a, zc.c.l, zc.c.c, zc.r.a, zc.r.l, zc.r.c, zc.s.a, zc.s.l, zc.s.c, zc.t.a, zc.t.l, zc.t.c, fun y hy => cellsAt_self hy.1, ?_⟩
      refine ⟨z.s.a, z.s.l, z.s.c, fun y hy => by show y.cell? (Addr.add ⟨w.heap.size, 0, none⟩ 3) = _; rw [add_lit, hy.2.1.cell]; rfl, ?_⟩
      rw [hps, xptr_some]
      refine ⟨by omega, by omega, qq.a, qq.l, qq.c, fun y hy => by simpa [Sl.v] using hy.2.2.1, ?_⟩
      refine ⟨z.t.a, z.t.l, z.t.c, fun y hy => by show y.cell? (Addr.add ⟨w.heap.size, 0, none⟩ 4) = _; rw [add_lit, hy.2.1.cell]; rfl, ?_⟩
      rw [hpu, xptr_some]
      refine ⟨by omega, by omega, R.takenAt m, fun y hy => by simpa using hy.2.2.2.1, ?_⟩
      rw [hpv, xptr_some]
      refine ⟨by omega, by omega, x, fun y hy => by simpa using hy.2.2.2.2, ?_⟩
      refine ⟨z.t.a, z.t.l, z.t.c, fun y hy => by show y.cell? (Addr.add ⟨w.heap.size, 0, none⟩ 4) = _; rw [add_lit, hy.2.1.cell]; rfl, ?_⟩
      rw [hpu, xptr_some]
      refine ⟨by omega, by omega, R.takenAt m, fun y hy => by simpa using hy.2.2.2.1, ?_⟩
      have hbl : ∀ b, (G b ∧ b < w.heap.size) → b ≠ w0.heap.size := fun b hb => by have := hC'.base.rw_; omega
      have n1 : (ps.add m.toNat).block ≠ w0.heap.size := by
        obtain ⟨qs', hq1, _, hq3, _⟩ := hC'.base.ref.s
        obtain ⟨p', hp', hg', -⟩ := hq1.isSome (i := m.toNat) (v := (qs'[m.toNat]'(by omega)).v) (by simp [show m.toNat < qs'.length from by omega])
        rw [hps] at hp'; cases hp'
        rw [add_block]; exact hbl _ hg'
      have n2 : (pu.add m.toNat).block ≠ w0.heap.size := by
        obtain ⟨p', hp', hg', -⟩ := hC'.base.ref.t.1.isSome (ints_get_iff htt)
        rw [hpu] at hp'; cases hp'
        rw [add_block]; exact hbl _ hg'
      have n3 : (pv.add (R.takenAt m).toNat).block ≠ w0.heap.size := by
        obtain ⟨p', hp', hg', -⟩ := hqqr.1.isSome (ints_get_iff hvlt)
        rw [hpv] at hp'; cases hp'
        rw [add_block]; exact hbl _ hg'
      refine hC'.base.retD2 (fun y hy => ⟨hy.blk hC'.dst hC'.dr, hy.blk hC'.base.box hC'.base.ne, hy.cell hqq n1, hy.cell hcu n2, hy.cell hcv n3⟩) fun u2 hf2 => ?_
      obtain ⟨h1, h2⟩ := hC'.ret hf2
      exact h zc u2 (h1.mono (fun b _ hb => .inr hb)) h2
end
end Go.Proofs.Ythegnnifbgikmaa
