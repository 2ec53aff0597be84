/- The sync seat: a copy of the document's state, whole. -/
import Derived.Test.YthegnnifbgikmaaR3
set_option linter.unusedVariables false
set_option linter.unusedSimpArgs false
namespace Go.Proofs.Ythegnnifbgikmaa
open Go.X

structure DI (w0 u : World) (pb rb d : Nat) (z : S5) (R : RR) (G : Nat → Prop) (g : Nat → Nat) (z' : S5) (R' : RR) (qc qs : List Sl) : Prop where
  base : CBase w0 u pb rb z R G g
  own : RefOwn u z' R' g qc qs
  dst : Blk u d z'.cells 53
  dt : g d = 1
theorem DI.dne {w0 u : World} {pb rb d : Nat} {z : S5} {R : RR} {G : Nat → Prop} {g : Nat → Nat} {z' : S5} {R' : RR} {qc qs : List Sl} (h : DI w0 u pb rb d z R G g z' R' qc qs) : w0.heap.size ≤ d ∧ d ≠ pb ∧ d ≠ rb := by
  have h1 := h.dt
  have h2 := h.base.bt
  have h3 := h.base.rt
  refine ⟨?_, fun e => by subst e; omega, fun e => by subst e; omega⟩
  rcases Nat.lt_or_ge d w0.heap.size with h4 | h4
  · have := h.base.old d h4; omega
  · exact h4

theorem C74 {w : World} {K : Value → World → Prop} {KP : List PanicEntry → World → Prop} {z : S5} {R : RR} {G : Nat → Prop} (hr : RefAt w z R G) (hs : R.small)
    (h : ∀ z' g qc qs w', RefOwn w' z' R g qc qs → (∀ b, b < w.heap.size → g b = 0) → (∀ D, Fr D w w') → K (S5.v z') w') : XCP Try.prog 74 [z.v] w K KP := by
  show XCP Try.prog 74 [.agg #[.slice z.o.a z.o.l z.o.c, .slice z.c.a z.c.l z.c.c, .slice z.r.a z.r.l z.r.c, .slice z.s.a z.s.l z.s.c, .slice z.t.a z.t.l z.t.c]] w K KP
  apply E74; unfold F74
  intro w0 p w1 p1
  have hb0 : Blk w0 w.heap.size z.cells 53 := Blk.new w _ _
  have hf0 : ∀ D, Fr D w w0 := fun D => Fr.alloc _ _ _
  have hs0 : w0.heap.size = w.heap.size + 1 := by simp [w0]
  clear_value w0
  have hb1 : Blk w1 w0.heap.size zero5 53 := Blk.new w0 _ _
  have hf1 : ∀ D, Fr D w0 w1 := fun D => Fr.alloc _ _ _
  clear_value w1
  have hf01 : ∀ D, Fr D w w1 := fun D => (hf0 D).trans (hf1 D) (fun _ _ h => h) (fun _ _ h => h)
  have hbase : CBase w w1 w.heap.size w0.heap.size z R (fun b => G b ∧ b < w.heap.size) (fun _ => 0) := {
    box := (hf1 (fun _ => False)).blk hb0 (fun h => h), bt := rfl, res := hb1, rt := rfl, ne := by omega
    ref := (hr.mono (G' := fun b => G b ∧ b < w.heap.size) (fun b hb hg => ⟨hg, hb⟩)).frame (hf01 (fun _ => False)) (fun _ _ h => h)
    gl := fun b hb => hb.2, old := fun _ _ => rfl, sup := fun _ _ => rfl, fr := hf01 }
  intro kb hkb
  refine copy_region (w0 := w) (w := w1) (pb := w.heap.size) (rb := w0.heap.size) (z := z) (R := R) (G := fun b => G b ∧ b < w.heap.size) ⟨_, hbase, (fun _ _ e => by cases e), (fun _ _ e => by cases e), (fun _ _ e => by cases e), (fun _ e => by cases e)⟩ hs ?_
  intro u a b c d ⟨g, hI⟩
  obtain ⟨hbd, hgd⟩ := hI.d d rfl
  refine storesAt_self hbd rfl fun w2 hb2 hf2 hs2 => hkb _ w2 ?_
  have hdlt := hbd.lt
  have hD0 : DI w w2 w.heap.size w0.heap.size d z R (fun b => G b ∧ b < w.heap.size) g ⟨a, ⟨none, 0, 0⟩, b, ⟨none, 0, 0⟩, c⟩ ⟨R.owners, [], R.rooms, [], R.taken⟩ [] [] := by
    have hdw : w.heap.size ≤ d := by
      rcases Nat.lt_or_ge d w.heap.size with h4 | h4
      · have := hI.base.old d h4; omega
      · exact h4
    have hdne : d ≠ w.heap.size ∧ d ≠ w0.heap.size := ⟨fun e => by have := hI.base.bt; rw [← e] at this; omega, fun e => by have := hI.base.rt; rw [← e] at this; omega⟩
    refine ⟨hI.base.frame hf2 (fun k hk => by subst hk; exact ⟨hdw, hdne.1, hdne.2⟩), ?_, hb2, hgd⟩
    exact { o := Own.frame (hI.a _ _ rfl) hf2 (fun k hk e => by subst e; omega), r := Own.frame (hI.b _ _ rfl) hf2 (fun k hk e => by subst e; omega), t := Own.frame (hI.c _ _ rfl) hf2 (fun k hk e => by subst e; omega)
            c := Own.none _ _ _ _, s := Own.none _ _ _ _, nc := rfl, ns := rfl, ci := fun i q xs hq _ => by simp at hq, si := fun i q xs hq _ => by simp at hq
            sup := fun k hk => hI.base.sup k (by omega) }
  clear hI hb2 hf2 hs2 hbd hdlt hkb
  refine ⟨fun n u => 0 ≤ n ∧ n ≤ R.conds.length ∧ ∃ g z' qc, DI w u w.heap.size w0.heap.size d z R (fun b => G b ∧ b < w.heap.size) g z' ⟨R.owners, R.conds.take n.toNat, R.rooms, [], R.taken⟩ qc [], fun n u => R.conds.length - n.toNat, ⟨by omega, by omega, g, _, [], by simpa using hD0⟩, ?_⟩
  clear hD0 hgd
  rintro n w3 ⟨hn0, hn1, g, z', qc, hI⟩
  have hcl := hI.base.ref.c.len
  have hcs := hs.c
  refine ⟨z.c.a, z.c.l, z.c.c, by show w3.cell? (Addr.add ⟨w.heap.size, 0, none⟩ 1) = _; rw [add_lit, hI.base.box.cell]; rfl, ?_⟩
  by_cases hn : n < R.conds.length
  · rw [if_pos (by simp [hcl]; omega)]
    have hnt : n.toNat < R.conds.length := by omega
    obtain ⟨p3, q, hp3, hq, hqr⟩ := hI.base.ref.c.nth (List.getElem?_eq_getElem hnt)
    have hxs := hs.ci _ (List.getElem_mem hnt)
    have hqc : qc.length = n.toNat := by have := hI.own.nc; simp at this; omega
    refine ⟨fun u => Blk u w.heap.size z.cells 53 ∧ Blk u d z'.cells 53 ∧ u.cell? (p3.add n.toNat) = some q.v, ⟨hI.base.box, hI.dst, hq⟩, ?_⟩
    rw [xptr_some]
    refine ⟨z'.c.a, z'.c.l, z'.c.c, fun u hu => by rw [add_lit, hu.2.1.cell]; rfl, z.c.a, z.c.l, z.c.c, fun u hu => by show u.cell? (Addr.add ⟨w.heap.size, 0, none⟩ 1) = _; rw [add_lit, hu.1.cell]; rfl, ?_⟩
    rw [hp3, xptr_some]
    refine ⟨hn0, by omega, q.a, q.l, q.c, fun u hu => by simpa [Sl.v] using hu.2.2, ?_⟩
    refine xr_build T29 rfl (cs := []) (by rfl) rfl (by omega) fun w8 ho8 hf8 _ => ⟨_, _, _, rfl, ⟨(hf8 (fun _ => False)).blk hI.base.box (fun h => h), (hf8 (fun _ => False)).blk hI.dst (fun h => h), (hf8 (fun _ => False)).cell hq (fun h => h)⟩, ?_⟩
    have e8 := (hf8 (fun _ => False)).size
    have e4 : w3.drew.heap.size = w3.heap.size := rfl
    refine xr_append T29 rfl ho8 (((hqr.1.mono (G' := fun _ => True) (fun _ _ _ => trivial)).drew).frame (hf8 (fun _ => False)) (fun _ _ h => h)) (by simp [hqr.2]) (ints_one _) (by have := hqr.2; omega) (by have := hqr.2; omega) fun a9 c9 w9 ho9 hf9 _ => ?_
    have hf39 : ∀ D, Fr D w3 w9 := fun D => ((Fr.drew D w3).trans (hf8 D) (fun _ _ h => h) (fun _ _ h => h)).trans hf9 (fun _ _ h => h) (fun k hk e => by omega)
    refine ⟨_, _, _, rfl, ⟨(hf39 (fun _ => False)).blk hI.base.box (fun h => h), (hf39 (fun _ => False)).blk hI.dst (fun h => h), (hf39 (fun _ => False)).cell hq (fun h => h)⟩, ?_⟩
    have e9 := (hf39 (fun _ => False)).size
    refine xr_build T50 rfl (cs := [.slice a9 (0 + q.l) c9]) (by rfl) rfl (by omega) fun w10 ho10 hf10 _ => ?_
    have hf310 : ∀ D, Fr D w3 w10 := fun D => (hf39 D).trans (hf10 D) (fun _ _ h => h) (fun _ _ h => h)
    refine ⟨_, _, _, rfl, ⟨(hf310 (fun _ => False)).blk hI.base.box (fun h => h), (hf310 (fun _ => False)).blk hI.dst (fun h => h), (hf310 (fun _ => False)).cell hq (fun h => h)⟩, ?_⟩
    have e10 := (hf310 (fun _ => False)).size
    have hoc : Own w10 1 29 z'.c.a z'.c.l z'.c.c (qc.map Sl.v) (fun b => g b = 3 ∧ b < w3.heap.size) := Own.frame (hI.own.c.mono (fun b hb hg => ⟨hg, hb⟩)) (hf310 (fun _ => False)) (fun _ _ h => h)
    have hclen : z'.c.l = n.toNat := by have := hI.own.c.1; simp at this; omega
    refine xr_append T50 rfl hoc ho10.rd rfl (by intro u hu; simp at hu; subst hu; rfl) (by omega) (by omega) fun a12 c12 w11 ho12 hf12 _ => ⟨_, _, _, rfl, fun _ => True, trivial, ?_⟩
    rw [xptr_some]
    have hq10 : OwnI w10 3 ⟨a9, 0 + q.l, c9⟩ R.conds[n.toNat] (fun b => w3.heap.size ≤ b) := by
      have h1 : OwnI w9 3 ⟨a9, 0 + q.l, c9⟩ R.conds[n.toNat] (fun b => w3.heap.size ≤ b) := by
        have := ho9.mono (G' := fun b => w3.heap.size ≤ b) (fun b _ hb => by rcases hb with hb | hb <;> omega)
        simpa [OwnI] using this
      exact Own.frame h1 (hf10 (fun _ => False)) (fun _ _ h => h)
    have hadd := hI.own.addCond hf310 hq10 ho12 hf12
    have hdl := hI.dst.lt
    have hdne := hI.dne
    have hbase1 := hI.base.step (k := 7 + 2 * qc.length) (by omega) (hf310 _)
    have hbase2 := hbase1.step (k := 3) (by decide) (hf12.mono (fun b hb hh => by show Go.Proofs.Ythegnnifbgikmaa.retag _ _ _ _ b = 3; rw [retag_old hh.2]; exact hh.1))
    have hd11 : Blk w11 d z'.cells 53 := hf12.blk ((hf310 (fun _ => False)).blk hI.dst (fun h => h)) (fun e => by have := hI.dt; omega)
    have htd : Go.Proofs.Ythegnnifbgikmaa.retag (Go.Proofs.Ythegnnifbgikmaa.retag g w3.heap.size w10.heap.size (7 + 2 * qc.length)) w10.heap.size w11.heap.size 3 d = 1 := by rw [retag_old (by omega), retag_old hdl]; exact hI.dt
    refine storeP_blk hd11 (by simp [S5.cells]) fun w12 hb12 hf12' hs12 => ?_
    rw [wi (by omega) (by omega)]
    refine ⟨⟨by omega, by omega, _, { z' with c := ⟨a12, z'.c.l + 1, c12⟩ }, qc ++ [⟨a9, 0 + q.l, c9⟩], hbase2.frame hf12' (fun k hk => by subst hk; exact hdne), ?_, hb12, htd⟩, by show R.conds.length - (n + 1).toNat < R.conds.length - n.toNat; omega⟩
    have := hadd.frame hf12' (fun k hk => by subst hk; rw [htd]; omega)
    rw [show (n + 1).toNat = n.toNat + 1 from by omega, List.take_add_one, List.getElem?_eq_getElem hnt]
    exact this
  · rw [if_neg (by simp [hcl]; omega)]
    rw [List.take_of_length_le (by omega)] at hI
    clear hn0 hn1 hn hcl hcs
    refine ⟨fun n u => 0 ≤ n ∧ n ≤ R.sent.length ∧ ∃ g z' qs, DI w u w.heap.size w0.heap.size d z R (fun b => G b ∧ b < w.heap.size) g z' ⟨R.owners, R.conds, R.rooms, R.sent.take n.toNat, R.taken⟩ qc qs, fun n u => R.sent.length - n.toNat, ⟨by omega, by omega, g, z', [], by simpa using hI⟩, ?_⟩
    clear hI
    rintro n w3 ⟨hn0, hn1, g, z', qs, hI⟩
    have hcl := hI.base.ref.s.len
    have hcs := hs.s
    refine ⟨z.s.a, z.s.l, z.s.c, by show w3.cell? (Addr.add ⟨w.heap.size, 0, none⟩ 3) = _; rw [add_lit, hI.base.box.cell]; rfl, ?_⟩
    by_cases hn : n < R.sent.length
    · rw [if_pos (by simp [hcl]; omega)]
      have hnt : n.toNat < R.sent.length := by omega
      obtain ⟨p3, q, hp3, hq, hqr⟩ := hI.base.ref.s.nth (List.getElem?_eq_getElem hnt)
      have hxs := hs.si _ (List.getElem_mem hnt)
      have hqc : qs.length = n.toNat := by have := hI.own.ns; simp at this; omega
      refine ⟨fun u => Blk u w.heap.size z.cells 53 ∧ Blk u d z'.cells 53 ∧ u.cell? (p3.add n.toNat) = some q.v, ⟨hI.base.box, hI.dst, hq⟩, ?_⟩
      rw [xptr_some]
      refine ⟨z'.s.a, z'.s.l, z'.s.c, fun u hu => by rw [add_lit, hu.2.1.cell]; rfl, z.s.a, z.s.l, z.s.c, fun u hu => by show u.cell? (Addr.add ⟨w.heap.size, 0, none⟩ 3) = _; rw [add_lit, hu.1.cell]; rfl, ?_⟩
      rw [hp3, xptr_some]
      refine ⟨hn0, by omega, q.a, q.l, q.c, fun u hu => by simpa [Sl.v] using hu.2.2, ?_⟩
      refine xr_build T28 rfl (cs := []) (by rfl) rfl (by omega) fun w8 ho8 hf8 _ => ⟨_, _, _, rfl, ⟨(hf8 (fun _ => False)).blk hI.base.box (fun h => h), (hf8 (fun _ => False)).blk hI.dst (fun h => h), (hf8 (fun _ => False)).cell hq (fun h => h)⟩, ?_⟩
      have e8 := (hf8 (fun _ => False)).size
      have e4 : w3.drew.heap.size = w3.heap.size := rfl
      refine xr_append T28 rfl ho8 (((hqr.1.mono (G' := fun _ => True) (fun _ _ _ => trivial)).drew).frame (hf8 (fun _ => False)) (fun _ _ h => h)) (by simp [hqr.2]) (ints_one _) (by have := hqr.2; omega) (by have := hqr.2; omega) fun a9 c9 w9 ho9 hf9 _ => ?_
      have hf39 : ∀ D, Fr D w3 w9 := fun D => ((Fr.drew D w3).trans (hf8 D) (fun _ _ h => h) (fun _ _ h => h)).trans hf9 (fun _ _ h => h) (fun k hk e => by omega)
      refine ⟨_, _, _, rfl, ⟨(hf39 (fun _ => False)).blk hI.base.box (fun h => h), (hf39 (fun _ => False)).blk hI.dst (fun h => h), (hf39 (fun _ => False)).cell hq (fun h => h)⟩, ?_⟩
      have e9 := (hf39 (fun _ => False)).size
      refine xr_build T51 rfl (cs := [.slice a9 (0 + q.l) c9]) (by rfl) rfl (by omega) fun w10 ho10 hf10 _ => ?_
      have hf310 : ∀ D, Fr D w3 w10 := fun D => (hf39 D).trans (hf10 D) (fun _ _ h => h) (fun _ _ h => h)
      refine ⟨_, _, _, rfl, ⟨(hf310 (fun _ => False)).blk hI.base.box (fun h => h), (hf310 (fun _ => False)).blk hI.dst (fun h => h), (hf310 (fun _ => False)).cell hq (fun h => h)⟩, ?_⟩
      have e10 := (hf310 (fun _ => False)).size
      have hoc : Own w10 1 28 z'.s.a z'.s.l z'.s.c (qs.map Sl.v) (fun b => g b = 5 ∧ b < w3.heap.size) := Own.frame (hI.own.s.mono (fun b hb hg => ⟨hg, hb⟩)) (hf310 (fun _ => False)) (fun _ _ h => h)
      have hclen : z'.s.l = n.toNat := by have := hI.own.s.1; simp at this; omega
      refine xr_append T51 rfl hoc ho10.rd rfl (by intro u hu; simp at hu; subst hu; rfl) (by omega) (by omega) fun a12 c12 w11 ho12 hf12 _ => ⟨_, _, _, rfl, fun _ => True, trivial, ?_⟩
      rw [xptr_some]
      have hq10 : OwnI w10 2 ⟨a9, 0 + q.l, c9⟩ R.sent[n.toNat] (fun b => w3.heap.size ≤ b) := by
        have h1 : OwnI w9 2 ⟨a9, 0 + q.l, c9⟩ R.sent[n.toNat] (fun b => w3.heap.size ≤ b) := by
          have := ho9.mono (G' := fun b => w3.heap.size ≤ b) (fun b _ hb => by rcases hb with hb | hb <;> omega)
          simpa [OwnI] using this
        exact Own.frame h1 (hf10 (fun _ => False)) (fun _ _ h => h)
      have hadd := hI.own.addSent hf310 hq10 ho12 hf12
      have hdl := hI.dst.lt
      have hdne := hI.dne
      have hbase1 := hI.base.step (k := 8 + 2 * qs.length) (by omega) (hf310 _)
      have hbase2 := hbase1.step (k := 5) (by decide) (hf12.mono (fun b hb hh => by show Go.Proofs.Ythegnnifbgikmaa.retag _ _ _ _ b = 5; rw [retag_old hh.2]; exact hh.1))
      have hd11 : Blk w11 d z'.cells 53 := hf12.blk ((hf310 (fun _ => False)).blk hI.dst (fun h => h)) (fun e => by have := hI.dt; omega)
      have htd : Go.Proofs.Ythegnnifbgikmaa.retag (Go.Proofs.Ythegnnifbgikmaa.retag g w3.heap.size w10.heap.size (8 + 2 * qs.length)) w10.heap.size w11.heap.size 5 d = 1 := by rw [retag_old (by omega), retag_old hdl]; exact hI.dt
      refine storeP_blk hd11 (by simp [S5.cells]) fun w12 hb12 hf12' hs12 => ?_
      rw [wi (by omega) (by omega)]
      refine ⟨⟨by omega, by omega, _, { z' with s := ⟨a12, z'.s.l + 1, c12⟩ }, qs ++ [⟨a9, 0 + q.l, c9⟩], hbase2.frame hf12' (fun k hk => by subst hk; exact hdne), ?_, hb12, htd⟩, by show R.sent.length - (n + 1).toNat < R.sent.length - n.toNat; omega⟩
      have := hadd.frame hf12' (fun k hk => by subst hk; rw [htd]; omega)
      rw [show (n + 1).toNat = n.toNat + 1 from by omega, List.take_add_one, List.getElem?_eq_getElem hnt]
      exact this
    · rw [if_neg (by simp [hcl]; omega)]
      rw [List.take_of_length_le (by omega)] at hI
      rw [xptr_some]
      refine ⟨z'.o.a, z'.o.l, z'.o.c, z'.c.a, z'.c.l, z'.c.c, z'.r.a, z'.r.l, z'.r.c, z'.s.a, z'.s.l, z'.s.c, z'.t.a, z'.t.l, z'.t.c, cellsAt_self hI.dst, ?_⟩
      refine storesAt_self hI.base.res rfl fun w23 hb23 hf23 hs23 => ?_
      refine ⟨z'.o.a, z'.o.l, z'.o.c, z'.c.a, z'.c.l, z'.c.c, z'.r.a, z'.r.l, z'.r.c, z'.s.a, z'.s.l, z'.s.c, z'.t.a, z'.t.l, z'.t.c, cellsAt_self hb23, ?_⟩
      refine h z' g qc qs w23 (hI.own.frame hf23 (fun k hk => by subst hk; have := hI.base.rt; omega)) hI.base.old fun D => (hI.base.fr D).trans hf23 (fun _ _ h => h) (fun k hk e => by omega)
end Go.Proofs.Ythegnnifbgikmaa
