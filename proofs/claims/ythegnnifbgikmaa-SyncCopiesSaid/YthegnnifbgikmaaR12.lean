/- The sync seat: the document's Wait. -/
import Derived.Test.YthegnnifbgikmaaR11
set_option linter.unusedVariables false
set_option linter.unusedSimpArgs false
namespace Go.Proofs.Ythegnnifbgikmaa
open Go.X
section
variable {w : World} {K : Value → World → Prop} {KP : List PanicEntry → World → Prop} {z : S5} {R : RR} {G : Nat → Prop}
theorem C52 (hr : RefAt w z R G) (hs : R.small) {m t : Int}
    (h : ∀ z' w', RefAt w' z' (R.wait m t).1 (fun b => G b ∨ w.heap.size ≤ b) → (∀ D, Fr D w w') → K (.tuple #[S5.v z', .int .i64 (R.wait m t).2]) w') : XCP Try.prog 52 [z.v, .int .i64 m, .int .i64 t] w K KP := by
  show XCP Try.prog 52 [.agg #[.slice z.o.a z.o.l z.o.c, .slice z.c.a z.c.l z.c.c, .slice z.r.a z.r.l z.r.c, .slice z.s.a z.s.l z.s.c, .slice z.t.a z.t.l z.t.c], .int .i64 m, .int .i64 t] w K KP
  apply E52; unfold F52
  intro w0 p w1 p1
  have hB := RB.enter hr
  change RB w w1 w.heap.size w0.heap.size z R _ at hB
  clear_value w0 w1
  have lc := hB.ref.c.len
  unfold RR.wait at h
  intro kb hkb
  -- back as it came
  have back : ∀ (e : Int), (∀ z' w', RefAt w' z' R (fun b => G b ∨ w.heap.size ≤ b) → (∀ D, Fr D w w') → K (.tuple #[S5.v z', .int .i64 e]) w') →
      ∀ u', Fr (fun b => b = w0.heap.size) w1 u' → K (.tuple #[S5.v z, .int .i64 e]) u' := by
    intro e hk u' hf
    obtain ⟨h1, h2⟩ := hB.ret hf
    exact hk z u' (h1.mono (fun b _ hb => .inl hb.1)) h2
  have box1 : ∀ {u : World}, u = w1 → u.cell? (Addr.add p 1) = some (.slice z.c.a z.c.l z.c.c) := by
    intro u hu; rw [hu]
    show w1.cell? (Addr.add ⟨w.heap.size, 0, none⟩ 1) = _
    rw [add_lit, hB.box.cell]; rfl
  by_cases hm : m < 0 ∨ m ≥ R.conds.length
  · rw [if_pos hm] at h
    have fin : kb true w1 := hkb _ _ (by rw [if_pos rfl]; exact hB.retD hB.box (back _ h))
    by_cases h0 : m < 0
    · rw [if_pos (by simpa using h0)]; exact fin
    · rw [if_neg (by simpa using h0)]
      refine ⟨z.c.a, z.c.l, z.c.c, box1 rfl, ?_⟩
      rw [show (decide (m ≥ ((z.c.l : Nat) : Int))) = true from by simp; omega]
      exact fin
  · rw [if_neg hm] at h
    have hmt : m.toNat < R.conds.length := by omega
    rw [if_neg (by simp; omega)]
    refine ⟨z.c.a, z.c.l, z.c.c, box1 rfl, ?_⟩
    rw [show (decide (m ≥ ((z.c.l : Nat) : Int))) = false from by simp; omega]
    refine hkb _ _ ?_
    rw [if_neg (by decide)]
    refine C73 ⟨_, rfl, ?_⟩
    by_cases ht : thr t ≠ 0
    · rw [if_pos ht] at h
      rw [if_pos (by simpa using ht)]
      rw [thr_two ht] at h
      exact hB.retD hB.box (back _ h)
    · rw [if_neg ht] at h
      rw [if_neg (by simpa using ht)]
      have hcs := hs.c
      refine ⟨fun n u => u = w1 ∧ 0 ≤ n ∧ n ≤ R.conds.length ∧ t ∉ (R.conds.take n.toNat).flatten, fun n u => R.conds.length - n.toNat, ⟨rfl, by omega, by omega, by simp⟩, ?_⟩
      rintro n u ⟨rfl, hn0, hn1, hnot⟩
      refine ⟨z.c.a, z.c.l, z.c.c, box1 rfl, ?_⟩
      by_cases hn : n < R.conds.length
      · rw [if_pos (by simp [lc]; omega)]
        have hnt : n.toNat < R.conds.length := by omega
        obtain ⟨p2, q, hp2, hq, hqr⟩ := hB.ref.c.nth (List.getElem?_eq_getElem hnt)
        have hql := hqr.2.1
        have hxs := hs.ci _ (List.getElem_mem hnt)
        refine ⟨fun k v => v = u ∧ 0 ≤ k ∧ k ≤ q.l ∧ t ∉ R.conds[n.toNat].take k.toNat, fun k v => q.l - k.toNat, ⟨rfl, by omega, by omega, by simp⟩, ?_⟩
        rintro k v ⟨rfl, hk0, hk1, hknot⟩
        refine ⟨z.c.a, z.c.l, z.c.c, box1 rfl, ?_⟩
        have hq' : v.cell? (p2.add (n.toNat * 1)) = some (.slice q.a q.l q.c) := by simpa [Sl.v] using hq
        rw [show xptr z.c.a = xptr (some p2) from by rw [hp2], xptr_some]
        refine ⟨hn0, by omega, q.a, q.l, q.c, hq', ?_⟩
        by_cases hk : k < q.l
        · rw [if_pos (by simpa using hk)]
          have hkt : k.toNat < R.conds[n.toNat].length := by omega
          obtain ⟨p4, hp4, hc4⟩ := hqr.nth hkt
          refine ⟨z.c.a, z.c.l, z.c.c, box1 rfl, ?_⟩
          rw [show xptr z.c.a = xptr (some p2) from by rw [hp2], xptr_some]
          refine ⟨hn0, by omega, q.a, q.l, q.c, hq', ?_⟩
          rw [show xptr q.a = xptr (some p4) from by rw [hp4], xptr_some]
          refine ⟨hk0, by omega, R.conds[n.toNat][k.toNat], by simpa using hc4, ?_⟩
          by_cases he : R.conds[n.toNat][k.toNat] = t
          · rw [if_pos (by simpa using he)]
            have hin : t ∈ R.conds.flatten := by
              rw [List.mem_flatten]; exact ⟨_, List.getElem_mem hnt, by rw [← he]; exact List.getElem_mem hkt⟩
            rw [if_pos hin] at h
            exact hB.retD hB.box (back _ h)
          · rw [if_neg (by simpa using he), wi (by omega) (by omega)]
            refine ⟨⟨rfl, by omega, by omega, ?_⟩, by show q.l - (k + 1).toNat < q.l - k.toNat; omega⟩
            rw [show (k + 1).toNat = k.toNat + 1 from by omega, List.take_add_one, List.getElem?_eq_getElem hkt]
            rw [List.mem_append, not_or]
            exact ⟨hknot, by simp [Ne.symm he]⟩
        · rw [if_neg (by simpa using hk), wi (by omega) (by omega)]
          refine ⟨⟨rfl, by omega, by omega, ?_⟩, by show R.conds.length - (n + 1).toNat < R.conds.length - n.toNat; omega⟩
          rw [List.take_of_length_le (by omega)] at hknot
          rw [show (n + 1).toNat = n.toNat + 1 from by omega, List.take_add_one, List.getElem?_eq_getElem hnt, List.flatten_append]
          simp only [Option.toList_some, List.flatten_cons, List.flatten_nil, List.append_nil, List.mem_append, not_or]
          exact ⟨hnot, hknot⟩
      · rw [if_neg (by simp [lc]; omega)]
        rw [List.take_of_length_le (by omega)] at hnot
        rw [if_neg hnot, List.getElem?_eq_getElem hmt, Option.getD_some] at h
        refine ⟨z.o.a, z.o.l, z.o.c, z.c.a, z.c.l, z.c.c, z.r.a, z.r.l, z.r.c, z.s.a, z.s.l, z.s.c, z.t.a, z.t.l, z.t.c, cellsAt_self hB.box, ?_⟩
        refine C74 (z := z) hB.ref hs fun zc g qc qs w7 hown hold hfr => ⟨zc.o.a, zc.o.l, zc.o.c, zc.c.a, zc.c.l, zc.c.c, zc.r.a, zc.r.l, zc.r.c, zc.s.a, zc.s.l, zc.s.c, zc.t.a, zc.t.l, zc.t.c, rfl, ?_⟩
        intro w8 p3
        have hb8 : Blk w8 w7.heap.size zero5 53 := Blk.new w7 _ _
        have hf8 : ∀ D, Fr D w7 w8 := fun D => Fr.alloc _ _ _
        clear_value w8
        refine storesAt_self hb8 rfl fun w9 hb9 hf9 hs9 => ?_
        have hC := (hB.copied hown hold hfr hb9 (fun D => (hf8 D).trans hf9 (fun _ _ h => h) (fun k hk e => by omega))).drew
        have hqs : m.toNat < qc.length := by rw [hC.own.nc]; exact hmt
        have lss : zc.c.l = qc.length := by have := hC.own.c.1; simpa using this.symm
        obtain ⟨pc, hpc, -, hcin⟩ := hC.own.c.rd.isSome (i := m.toNat) (v := (qc[m.toNat]).v) (by simp [hqs])
        have hqo := hC.own.ci m.toNat _ _ (List.getElem?_eq_getElem hqs) (List.getElem?_eq_getElem hmt)
        have hsx := hs.ci _ (List.getElem_mem hmt)
        have hlq := hqo.len
        have hpcb : g pc.block = 3 := by
          obtain ⟨b, o, B, rfl, hg, _⟩ := Own.at_ hC.own.c hpc
          exact hg
        refine ⟨fun y => Blk y w7.heap.size zc.cells 53 ∧ y.cell? (pc.add m.toNat) = some (qc[m.toNat]).v, ⟨hC.dst, hcin⟩, ?_⟩
        refine ⟨zc.c.a, zc.c.l, zc.c.c, fun y hy => by rw [add_lit, hy.1.cell]; rfl, zc.c.a, zc.c.l, zc.c.c, fun y hy => by rw [add_lit, hy.1.cell]; rfl, ?_⟩
        rw [hpc, xptr_some]
        refine ⟨by omega, by omega, (qc[m.toNat]).a, (qc[m.toNat]).l, (qc[m.toNat]).c, fun y hy => by simpa [Sl.v] using hy.2, ?_⟩
        refine xr_build T29 rfl (cs := [.int .i64 t]) (by rfl) rfl (by omega) fun w18 ho18 hf18 _ => ⟨_, _, _, rfl, ⟨(hf18 (fun _ => False)).blk hC.dst (fun h => h), (hf18 (fun _ => False)).cell hcin (fun h => h)⟩, ?_⟩
        have hqo18 : Own w18 1 3 (qc[m.toNat]).a (qc[m.toNat]).l (qc[m.toNat]).c (ints R.conds[m.toNat]) (fun b => g b = 7 + 2 * m.toNat ∧ b < w9.drew.heap.size) := Own.frame (hqo.mono (fun b hb hg => ⟨hg, hb⟩)) (hf18 (fun _ => False)) (fun _ _ h => h)
        have e18 := (hf18 (fun _ => False)).size
        refine xr_append T29 rfl hqo18 ho18.rd rfl (by intro u hu; simp at hu; subst hu; rfl) (by omega) (by omega) fun a' c' w19 ho19 hf19 _ => ?_
        have hf919 : Fr (g · = 7 + 2 * m.toNat) w9.drew w19 := (hf18 (g · = 7 + 2 * m.toNat)).trans hf19 (fun _ _ h => h) (fun _ _ h => h.1)
        have hd19 := hf919.blk hC.dst (fun e => by have e : g w7.heap.size = _ := e; have := hC.dz; omega)
        have hc19 := hf919.cell hcin (fun e => by rw [add_block] at e; have e : g pc.block = _ := e; omega)
        refine ⟨_, _, _, rfl, ⟨hd19, hc19⟩, ?_⟩
        rw [xptr_some]
        refine ⟨by omega, by omega, ?_⟩
        rw [Nat.mul_one]
        have ho19' : OwnI w19 3 ⟨a', (qc[m.toNat]).l + 1, c'⟩ (R.conds[m.toNat] ++ [t]) (fun b => g b = 7 + 2 * m.toNat ∨ w9.drew.heap.size ≤ b) := by
          have := ho19.mono (G' := fun b => g b = 7 + 2 * m.toNat ∨ w9.drew.heap.size ≤ b) (fun b _ hb => by rcases hb with hb | hb; exact .inl hb.1; exact .inr (by omega))
          simpa [OwnI] using this
        refine hC.own.setC hmt hpc hf919 ho19' fun u' hown' hf' hs' => ?_
        have hC' := hC.turn hf' (fun b hb => retag_old hb) hown'
        refine hC'.base.retD hC'.dst fun u2 hf2 => ?_
        obtain ⟨h1, h2⟩ := hC'.ret hf2
        exact h zc u2 (h1.mono (fun b _ hb => .inr hb)) h2
end
end Go.Proofs.Ythegnnifbgikmaa
