/- The sync seat: the document's calls on conditions. -/
import Derived.Test.YthegnnifbgikmaaR6
set_option linter.unusedVariables false
set_option linter.unusedSimpArgs false
namespace Go.Proofs.Ythegnnifbgikmaa
open Go.X
section
variable {u : World} {z : S5} {R : RR} {g : Nat → Nat} {qc qs : List Sl}
/-- one list of waiting threads set, its slice put into its place -/
theorem RefOwn.setC {u0 : World} (h : RefOwn u0 z R g qc qs) {i : Nat} {s' : Sl} {xs' : List Int} (hi : i < R.conds.length) {p : Addr} (hp : z.c.a = some p) (hf1 : Fr (g · = 7 + 2 * i) u0 u) (ho : OwnI u 3 s' xs' (fun b => g b = 7 + 2 * i ∨ u0.heap.size ≤ b)) {Q : World → Prop}
    (hQ : ∀ u', RefOwn u' z { R with conds := R.conds.set i xs' } (retag g u0.heap.size u'.heap.size (7 + 2 * i)) (qc.set i s') qs → Fr (fun b => g b ≠ 0) u0 u' → u'.heap.size = u.heap.size → Q u') : storeP u (p.add i) s'.v Q := by
  obtain ⟨b, o, B, rfl, hg, hb0, hfit, hv⟩ := Own.at_ h.c hp
  have hb : Blk u b B 29 := hf1.blk hb0 (fun e => by have e : g b = _ := e; omega)
  have hl : z.c.l = qc.length := by have := h.c.1; simpa using this.symm
  have hq : i < qc.length := by rw [h.nc]; exact hi
  have hle := h.c.2.1
  rw [add_lit]
  refine storeP_blk hb (by omega) fun u' hb' hf hs => hQ u' ?_ (hf1.trans hf (fun k _ e => by omega) (fun k _ e => by subst e; omega)) hs
  have hf2 : Fr (fun k => k = b ∨ g k = 7 + 2 * i) u0 u' := hf1.trans hf (fun _ _ h => .inr h) (fun _ _ h => .inl h)
  have es : u'.heap.size = u.heap.size := hs
  exact { c := by
            obtain ⟨b2, o2, B2, hp2, hg2, hb2, hlt2, hset⟩ := Own.set (w' := u') (v := s'.v) h.c (i := i) (by simpa using hq) hp
            cases hp2
            have : B2 = B := by have := hb2.symm.trans hb0; simpa using this
            subst this
            have := hset hb'
            rw [List.map_set]
            obtain ⟨h1, h2, h3 | ⟨b3, o3, B3, h3, h4, h5, h6⟩⟩ := this
            · rw [h3.1] at hp; cases hp
            · rw [hp] at h3; cases h3
              exact ⟨h1, h2, .inr ⟨b, o, B3, hp, by show Go.Proofs.Ythegnnifbgikmaa.retag g _ _ _ b = 3; rw [retag_old hb0.lt]; exact hg, h5, h6⟩⟩
          o := Own.retag h.o hf2 (fun k hk e => by rcases e with e | e <;> first | omega | (subst e; omega)), r := Own.retag h.r hf2 (fun k hk e => by rcases e with e | e <;> first | omega | (subst e; omega))
          s := Own.retag h.s hf2 (fun k hk e => by rcases e with e | e <;> first | omega | (subst e; omega)), t := Own.retag h.t hf2 (fun k hk e => by rcases e with e | e <;> first | omega | (subst e; omega))
          nc := by simpa using h.nc, ns := h.ns
          ci := fun j s xs hs hx => by
            by_cases hj : i = j
            · subst hj
              rw [List.getElem?_set_self (by simpa using hq)] at hs
              rw [List.getElem?_set_self (by simpa using hi)] at hx
              cases hs; cases hx
              refine (Own.frame ho hf (fun k hk e => by subst e; rcases hk with hk | hk <;> first | omega | (have := hb0.lt; omega))).mono (fun k hk hh => ?_)
              show Go.Proofs.Ythegnnifbgikmaa.retag g _ _ _ k = _
              rcases Nat.lt_or_ge k u0.heap.size with h | h
              · rw [retag_old h]; rcases hh with hh | hh; exact hh; omega
              · rw [retag_new h hk]
            · rw [List.getElem?_set_ne hj] at hs
              rw [List.getElem?_set_ne hj] at hx
              exact Own.retag (h.ci j s xs hs hx) hf2 (fun k hk e => by rcases e with e | e <;> first | omega | (subst e; omega))
          si := fun j s xs hs hx => Own.retag (h.si j s xs hs hx) hf2 (fun k hk e => by rcases e with e | e <;> first | omega | (subst e; omega))
          sup := fun k hk => retag_sup hf2.size hk }
/-- one list of sent values set, its slice put into its place -/
theorem RefOwn.setS {u0 : World} (h : RefOwn u0 z R g qc qs) {i : Nat} {s' : Sl} {xs' : List Int} (hi : i < R.sent.length) {p : Addr} (hp : z.s.a = some p) (hf1 : Fr (g · = 8 + 2 * i) u0 u) (ho : OwnI u 2 s' xs' (fun b => g b = 8 + 2 * i ∨ u0.heap.size ≤ b)) {Q : World → Prop}
    (hQ : ∀ u', RefOwn u' z { R with sent := R.sent.set i xs' } (retag g u0.heap.size u'.heap.size (8 + 2 * i)) qc (qs.set i s') → Fr (fun b => g b ≠ 0) u0 u' → u'.heap.size = u.heap.size → Q u') : storeP u (p.add i) s'.v Q := by
  obtain ⟨b, o, B, rfl, hg, hb0, hfit, hv⟩ := Own.at_ h.s hp
  have hb : Blk u b B 28 := hf1.blk hb0 (fun e => by have e : g b = _ := e; omega)
  have hl : z.s.l = qs.length := by have := h.s.1; simpa using this.symm
  have hq : i < qs.length := by rw [h.ns]; exact hi
  have hle := h.s.2.1
  rw [add_lit]
  refine storeP_blk hb (by omega) fun u' hb' hf hs => hQ u' ?_ (hf1.trans hf (fun k _ e => by omega) (fun k _ e => by subst e; omega)) hs
  have hf2 : Fr (fun k => k = b ∨ g k = 8 + 2 * i) u0 u' := hf1.trans hf (fun _ _ h => .inr h) (fun _ _ h => .inl h)
  have es : u'.heap.size = u.heap.size := hs
  exact { s := by
            obtain ⟨b2, o2, B2, hp2, hg2, hb2, hlt2, hset⟩ := Own.set (w' := u') (v := s'.v) h.s (i := i) (by simpa using hq) hp
            cases hp2
            have : B2 = B := by have := hb2.symm.trans hb0; simpa using this
            subst this
            have := hset hb'
            rw [List.map_set]
            obtain ⟨h1, h2, h3 | ⟨b3, o3, B3, h3, h4, h5, h6⟩⟩ := this
            · rw [h3.1] at hp; cases hp
            · rw [hp] at h3; cases h3
              exact ⟨h1, h2, .inr ⟨b, o, B3, hp, by show Go.Proofs.Ythegnnifbgikmaa.retag g _ _ _ b = 5; rw [retag_old hb0.lt]; exact hg, h5, h6⟩⟩
          o := Own.retag h.o hf2 (fun k hk e => by rcases e with e | e <;> first | omega | (subst e; omega)), r := Own.retag h.r hf2 (fun k hk e => by rcases e with e | e <;> first | omega | (subst e; omega))
          c := Own.retag h.c hf2 (fun k hk e => by rcases e with e | e <;> first | omega | (subst e; omega)), t := Own.retag h.t hf2 (fun k hk e => by rcases e with e | e <;> first | omega | (subst e; omega))
          ns := by simpa using h.ns, nc := h.nc
          si := fun j s xs hs hx => by
            by_cases hj : i = j
            · subst hj
              rw [List.getElem?_set_self (by simpa using hq)] at hs
              rw [List.getElem?_set_self (by simpa using hi)] at hx
              cases hs; cases hx
              refine (Own.frame ho hf (fun k hk e => by subst e; rcases hk with hk | hk <;> first | omega | (have := hb0.lt; omega))).mono (fun k hk hh => ?_)
              show Go.Proofs.Ythegnnifbgikmaa.retag g _ _ _ k = _
              rcases Nat.lt_or_ge k u0.heap.size with h | h
              · rw [retag_old h]; rcases hh with hh | hh; exact hh; omega
              · rw [retag_new h hk]
            · rw [List.getElem?_set_ne hj] at hs
              rw [List.getElem?_set_ne hj] at hx
              exact Own.retag (h.si j s xs hs hx) hf2 (fun k hk e => by rcases e with e | e <;> first | omega | (subst e; omega))
          ci := fun j s xs hs hx => Own.retag (h.ci j s xs hs hx) hf2 (fun k hk e => by rcases e with e | e <;> first | omega | (subst e; omega))
          sup := fun k hk => retag_sup hf2.size hk }
end
section
variable {w : World} {K : Value → World → Prop} {KP : List PanicEntry → World → Prop} {z : S5} {R : RR} {G : Nat → Prop}
theorem C51 (hr : RefAt w z R G) (hs : R.small) {m t : Int}
    (h : ∀ z' w', RefAt w' z' (R.unlock m t).1 (fun b => G b ∨ w.heap.size ≤ b) → (∀ D, Fr D w w') → K (.tuple #[S5.v z', .int .i64 (R.unlock m t).2]) w') : XCP Try.prog 51 [z.v, .int .i64 m, .int .i64 t] w K KP := by
  show XCP Try.prog 51 [.agg #[.slice z.o.a z.o.l z.o.c, .slice z.c.a z.c.l z.c.c, .slice z.r.a z.r.l z.r.c, .slice z.s.a z.s.l z.s.c, .slice z.t.a z.t.l z.t.c], .int .i64 m, .int .i64 t] w K KP
  apply E51; unfold F51
  intro w0 p w1 p1
  have hB := RB.enter hr
  change RB w w1 w.heap.size w0.heap.size z R _ at hB
  clear_value w0 w1
  have lo := hB.ref.o.2
  unfold RR.unlock at h
  intro kb hkb
  -- back as it came
  have back : ∀ (u : World), RB w u w.heap.size w0.heap.size z R (fun b => G b ∧ b < w.heap.size) → ∀ (e : _), (∀ z' w', RefAt w' z' R (fun b => G b ∨ w.heap.size ≤ b) → (∀ D, Fr D w w') → K (.tuple #[S5.v z', .int .i64 e]) w') →
      ∀ u', Fr (fun b => b = w0.heap.size) u u' → K (.tuple #[S5.v z, .int .i64 e]) u' := by
    intro u hu e hk u' hf
    obtain ⟨h1, h2⟩ := hu.ret hf
    exact hk z u' (h1.mono (fun b _ hb => .inl hb.1)) h2
  by_cases hm : m < 0 ∨ m ≥ R.owners.length
  · rw [if_pos hm] at h
    have fin : kb true w1 := hkb _ _ (by rw [if_pos rfl]; exact hB.retD hB.box (back w1 hB _ h))
    by_cases h0 : m < 0
    · rw [if_pos (by simpa using h0)]; exact fin
    · rw [if_neg (by simpa using h0)]
      refine ⟨z.o.a, z.o.l, z.o.c, by show w1.cell? (Addr.add ⟨w.heap.size, 0, none⟩ 0) = _; rw [add_lit, hB.box.cell]; rfl, ?_⟩
      rw [show (decide (m ≥ ((z.o.l : Nat) : Int))) = true from by simp; omega]
      exact fin
  · rw [if_neg hm] at h
    have hmt : m.toNat < R.owners.length := by omega
    rw [if_neg (by simp; omega)]
    refine ⟨z.o.a, z.o.l, z.o.c, by show w1.cell? (Addr.add ⟨w.heap.size, 0, none⟩ 0) = _; rw [add_lit, hB.box.cell]; rfl, ?_⟩
    rw [show (decide (m ≥ ((z.o.l : Nat) : Int))) = false from by simp; omega]
    refine hkb _ _ ?_
    rw [if_neg (by decide)]
    refine C73 ⟨_, rfl, ?_⟩
    by_cases ht : thr t ≠ 0
    · rw [if_pos ht] at h
      rw [if_pos (by simpa using ht)]
      have e2 := thr_two ht
      rw [e2] at h
      exact hB.retD hB.box (back w1 hB _ h)
    · rw [if_neg ht] at h
      rw [if_neg (by simpa using ht)]
      refine ⟨z.o.a, z.o.l, z.o.c, by show w1.cell? (Addr.add ⟨w.heap.size, 0, none⟩ 0) = _; rw [add_lit, hB.box.cell]; rfl, ?_⟩
      obtain ⟨pa, hpa, hc⟩ := hB.ref.o.nth hmt
      rw [hpa, xptr_some]
      rw [List.getElem?_eq_getElem hmt, Option.getD_some] at h
      refine ⟨by omega, by omega, R.owners[m.toNat], by simpa using hc, ?_⟩
      by_cases ho : R.owners[m.toNat] ≠ t
      · rw [if_pos ho] at h
        rw [if_pos (by simpa using ho)]
        exact hB.retD hB.box (back w1 hB _ h)
      · rw [if_neg ho] at h
        rw [if_neg (by simpa using ho)]
        refine ⟨z.o.a, z.o.l, z.o.c, z.c.a, z.c.l, z.c.c, z.r.a, z.r.l, z.r.c, z.s.a, z.s.l, z.s.c, z.t.a, z.t.l, z.t.c, cellsAt_self hB.box, ?_⟩
        refine C74 (z := z) hB.ref hs fun zc g qc qs w7 hown hold hfr => ⟨zc.o.a, zc.o.l, zc.o.c, zc.c.a, zc.c.l, zc.c.c, zc.r.a, zc.r.l, zc.r.c, zc.s.a, zc.s.l, zc.s.c, zc.t.a, zc.t.l, zc.t.c, rfl, ?_⟩
        intro w8 p3
        have hb8 : Blk w8 w7.heap.size zero5 53 := Blk.new w7 _ _
        have hf8 : ∀ D, Fr D w7 w8 := fun D => Fr.alloc _ _ _
        clear_value w8
        refine storesAt_self hb8 rfl fun w9 hb9 hf9 hs9 => ?_
        have hC := hB.copied hown hold hfr hb9 (fun D => (hf8 D).trans hf9 (fun _ _ h => h) (fun k hk e => by omega))
        refine ⟨zc.o.a, zc.o.l, zc.o.c, by show w9.cell? (Addr.add ⟨w7.heap.size, 0, none⟩ 0) = _; rw [add_lit, hb9.cell]; rfl, ?_⟩
        obtain ⟨pc, hpc, -⟩ := (OwnI_rdI hC.own.o).nth hmt
        have lc := hC.own.o.len
        rw [hpc, xptr_some]
        refine ⟨by omega, by omega, ?_⟩
        rw [Nat.mul_one]
        refine hC.own.setO hmt hpc fun u' hown' hf' hs' => ?_
        have hC' := hC.turn hf' (fun _ _ => rfl) hown'
        refine hC'.base.retD hC'.dst fun u2 hf2 => ?_
        obtain ⟨h1, h2⟩ := hC'.ret hf2
        exact h zc u2 (h1.mono (fun b _ hb => .inr hb)) h2
end
end Go.Proofs.Ythegnnifbgikmaa
