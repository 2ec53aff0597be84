/- The verify seat: the document's check of a module. -/
import Derived.Test.YtahcpjgaogghiaaGreatV3
set_option linter.unusedVariables false
set_option linter.unusedSimpArgs false
set_option maxRecDepth 10000
namespace Go.Proofs.YtahcpjgaogghiaaGreat
open Go.X
/-- a loop that looks at each, and changes nothing -/
theorem each (N : Nat) (F : Nat → Prop) {w0 : World} {H : (Int → World → Prop) → (Int → World → Nat) → Int → World → Prop}
    (step : ∀ (I : Int → World → Prop) (μ : Int → World → Nat) (n : Int) (u : World), Ex w0 u → 0 ≤ n → n.toNat < N → (∀ i, i < n.toNat → F i) → (F n.toNat → ∀ u', Ex u u' → I (n + 1) u' ∧ μ (n + 1) u' < μ n u) → H I μ n u)
    (last : ∀ (I : Int → World → Prop) (μ : Int → World → Nat) (u : World), Ex w0 u → (∀ i, i < N → F i) → H I μ N u) :
    ∃ (I : Int → World → Prop) (μ : Int → World → Nat), I 0 w0 ∧ ∀ (n : Int) (u : World), I n u → H I μ n u := by
  refine ⟨fun n u => 0 ≤ n ∧ n ≤ N ∧ Ex w0 u ∧ ∀ i, i < n.toNat → F i, fun n _ => N - n.toNat, ⟨by omega, by omega, Ex.refl w0, fun i h => by omega⟩, ?_⟩
  rintro n u ⟨h0, h1, he, hf⟩
  by_cases hlt : n.toNat < N
  · refine step _ _ n u he h0 hlt hf fun hF u' hu' => ⟨⟨by omega, by omega, he.trans hu', fun i hi => ?_⟩, by show N - (n + 1).toNat < N - n.toNat; omega⟩
    by_cases e : i = n.toNat
    · rw [e]; exact hF
    · exact hf i (by omega)
  · have e : n = (N : Int) := by omega
    subst e
    exact last _ _ u he fun i hi => hf i (by omega)
theorem all_get {α : Type} {xs : List α} {f : α → Bool} : (∀ i, i < xs.length → ∀ x, xs[i]? = some x → f x = true) ↔ xs.all f = true := by
  rw [List.all_eq_true]
  constructor
  · intro h x hx
    obtain ⟨i, hi, rfl⟩ := List.getElem_of_mem hx
    exact h i hi _ (List.getElem?_eq_getElem hi)
  · intro h i hi x hx
    rw [List.getElem?_eq_getElem hi] at hx; injection hx with hx; subst hx
    exact h _ (List.getElem_mem hi)
def codBad (c : Cod) : Bool := (((decide ((c.name.size : Int) < 1) || decide ((c.name.size : Int) > 16)) || !inI c.locals 0 32) || decide ((c.ins.length : Int) > 65536)) || ((c.lines.length : Int) != c.ins.length)
theorem codOk_iff (c : Cod) : codOk c = true ↔ codBad c = false ∧ c.ins.all insOk = true ∧ (c.lines.all fun n => inI n 0 65536) = true := by
  unfold codOk codBad allOk
  simp only [Bool.and_eq_true, Bool.or_eq_false_iff, decide_eq_true_eq, decide_eq_false_iff_not, Bool.not_eq_false', bne_eq_false_iff_eq, beq_iff_eq, inI]
  constructor
  · rintro ⟨⟨⟨⟨⟨a1, a2⟩, a3, a4⟩, a5, a6⟩, a7⟩, a8, a9⟩
    exact ⟨⟨⟨⟨⟨by omega, by omega⟩, a3, a4⟩, by omega⟩, a7⟩, a6, a9⟩
  · rintro ⟨⟨⟨⟨⟨a1, a2⟩, a3, a4⟩, a5⟩, a7⟩, a6, a9⟩
    exact ⟨⟨⟨⟨⟨by omega, by omega⟩, a3, a4⟩, by omega, a6⟩, a7⟩, by omega, a9⟩
def mdlBad (m : Mdl) : Bool := ((((decide ((m.vars.length : Int) > 64) || decide ((m.arrays.length : Int) > 64)) || decide ((m.chans.length : Int) > 64)) || decide ((m.threads.length : Int) > 64)) || !inI m.mutexes 0 64) || !inI m.conds 0 64
theorem mdlOk_iff (m : Mdl) : mdlOk m = true ↔ mdlBad m = false ∧ (m.vars.all fun n => inI n (-2147483648) 2147483647) = true ∧ (m.arrays.all fun n => inI n 0 256) = true ∧ (m.chans.all fun n => inI n 1 16) = true ∧ m.threads.all codOk = true := by
  unfold mdlOk mdlBad allOk
  simp only [Bool.and_eq_true, Bool.or_eq_false_iff, decide_eq_true_eq, decide_eq_false_iff_not, Bool.not_eq_false']
  constructor
  · rintro ⟨⟨⟨⟨⟨⟨a1, b1⟩, a2, b2⟩, a3, b3⟩, a4⟩, a5⟩, a6, b6⟩
    exact ⟨⟨⟨⟨⟨⟨by omega, by omega⟩, by omega⟩, by omega⟩, a4⟩, a5⟩, b1, b2, b3, b6⟩
  · rintro ⟨⟨⟨⟨⟨⟨a1, a2⟩, a3⟩, a6⟩, a4⟩, a5⟩, b1, b2, b3, b6⟩
    exact ⟨⟨⟨⟨⟨⟨by omega, b1⟩, by omega, b2⟩, by omega, b3⟩, a4⟩, a5⟩, by omega, b6⟩
section
variable {w : World} {K : Value → World → Prop} {KP : List PanicEntry → World → Prop}
theorem C99 {c : Cod} {q : CodH} {G : Nat → Prop} (hq : CodP w G q c) (h : ∀ u, Ex w u → K (.bool (codOk c)) u) : XCP Tryz.prog 99 [c.v q] w K KP := by
  show XCP Tryz.prog 99 [.agg #[.string c.name, .int .i64 c.locals, .slice q.si.a q.si.l q.si.c, .slice q.sl.a q.sl.l q.sl.c]] w K KP
  refine E99 ?_
  unfold F99
  intro w0 p
  have hb : Blk w0 w.heap.size (c.cells q) 46 := Blk.new w _ _
  have he : Ex w w0 := Ex.alloc w _
  clear_value w0
  have l1 := hq.1.len
  have l2 := hq.2.len
  have hfin : ∀ u, Ex w0 u → K (.bool (codOk c)) u := fun u hu => h u (he.trans hu)
  have hno : ∀ u, Ex w0 u → codOk c = false → K (.bool false) u := fun u hu e => by have := hfin u hu; rwa [e] at this
  refine ⟨_, hb.ld rfl, ?_⟩
  refine or_join (c := decide ((c.name.size : Int) > 16)) (fun kb hk => ⟨_, hb.ld rfl, hk _ (Ex.refl _)⟩) fun u1 e1 => ?_
  refine or_join (c := !inI c.locals 0 32) (fun kb hk => ⟨_, (e1.blk hb).ld rfl, C98 ⟨_, rfl, hk _ (Ex.refl _)⟩⟩) fun u2 e2 => ?_
  have e2 := e1.trans e2
  refine or_join (c := decide ((c.ins.length : Int) > 65536)) (fun kb hk => ⟨_, _, _, (e2.blk hb).ld rfl, by rw [l1]; exact hk _ (Ex.refl _)⟩) fun u3 e3 => ?_
  have e3 := e2.trans e3
  refine or_join (c := ((c.lines.length : Int) != c.ins.length)) (fun kb hk => ⟨_, _, _, (e3.blk hb).ld rfl, _, _, _, (e3.blk hb).ld rfl, by rw [l1, l2]; exact hk _ (Ex.refl _)⟩) fun u4 e4 => ?_
  have e4 := e3.trans e4
  show if codBad c = true then _ else _
  cases hbad : codBad c with
  | true =>
    rw [if_pos rfl]
    refine hno u4 e4 ?_
    cases hc : codOk c with
    | false => rfl
    | true => have := ((codOk_iff c).1 hc).1; rw [hbad] at this; cases this
  | false =>
    rw [if_neg (by decide)]
    have hlen : c.ins.length ≤ 65536 ∧ c.lines.length = c.ins.length := by
      unfold codBad at hbad
      simp only [Bool.or_eq_false_iff, decide_eq_false_iff_not, bne_eq_false_iff_eq] at hbad
      omega
    refine each c.ins.length (fun i => (∀ x, c.ins[i]? = some x → insOk x = true) ∧ ∀ x, c.lines[i]? = some x → inI x 0 65536 = true) (fun I μ n u hu h0 hlt hpre next => ?_) fun I μ u hu hall => ?_
    · have hu := e4.trans hu
      refine ⟨_, _, _, (hu.blk hb).ld rfl, ?_⟩
      rw [if_pos (by simp; omega)]
      refine ⟨_, _, _, (hu.blk hb).ld rfl, ?_⟩
      obtain ⟨p1, row, hp1, hr, hc⟩ := hq.1.nth (List.getElem?_eq_getElem hlt) (by decide)
      have hr : row = (c.ins[n.toNat]).cells := hr
      subst hr
      rw [hp1, xptr_some]
      refine ⟨h0, by omega, _, _, _, _, (he.trans hu).cells hc, C147 fun u1 g1 => ⟨_, rfl, ?_⟩⟩
      refine or_join (c := !inI (c.lines[n.toNat]'(by omega)) 0 65536) (fun kb hk => ?_) fun u2 g2 => ?_
      · refine ⟨_, _, _, ((hu.trans g1).blk hb).ld rfl, ?_⟩
        obtain ⟨p2, hp2, hc2⟩ := hq.2.int (i := n.toNat) (by omega)
        rw [hp2, xptr_some]
        exact ⟨h0, by omega, _, by rw [Nat.mul_one]; exact (he.trans (hu.trans g1)).cell hc2, C98 ⟨_, rfl, hk _ (Ex.refl _)⟩⟩
      · have g2 := g1.trans g2
        cases hx : (!insOk c.ins[n.toNat] || !inI (c.lines[n.toNat]'(by omega)) 0 65536) with
        | true =>
          rw [if_pos rfl]
          refine hno u2 (hu.trans g2) ?_
          cases hc : codOk c with
          | false => rfl
          | true =>
            obtain ⟨-, a1, a2⟩ := (codOk_iff c).1 hc
            rw [List.all_eq_true.1 a1 _ (List.getElem_mem hlt), List.all_eq_true.1 a2 _ (List.getElem_mem (show n.toNat < c.lines.length by omega))] at hx
            cases hx
        | false =>
          rw [if_neg (by decide), wi (by omega) (by omega)]
          simp only [Bool.or_eq_false_iff, Bool.not_eq_false'] at hx
          exact next ⟨fun x hx' => by rw [List.getElem?_eq_getElem hlt] at hx'; injection hx' with hx'; rw [← hx']; exact hx.1, fun x hx' => by rw [List.getElem?_eq_getElem (show n.toNat < c.lines.length by omega)] at hx'; injection hx' with hx'; rw [← hx']; exact hx.2⟩ u2 g2
    · have hu := e4.trans hu
      refine ⟨_, _, _, (hu.blk hb).ld rfl, ?_⟩
      rw [if_neg (by simp; omega)]
      have hok : codOk c = true := (codOk_iff c).2 ⟨hbad, all_get.1 fun i hi => (hall i hi).1, all_get.1 fun i hi => (hall i (by omega)).2⟩
      have := hfin u hu
      rwa [hok] at this
theorem C56 {m : Mdl} {q : MdlH} {G : Nat → Prop} (hq : MdlP w G q m) (h : ∀ u, Ex w u → K (.int .i64 (if mdlOk m then 0 else 2)) u) : XCP Tryz.prog 56 [m.v q] w K KP := by
  show XCP Tryz.prog 56 [.agg #[.slice q.sv.a q.sv.l q.sv.c, .slice q.sa.a q.sa.l q.sa.c, .slice q.sc.a q.sc.l q.sc.c, .int .i64 m.mutexes, .int .i64 m.conds, .slice q.st.a q.st.l q.st.c]] w K KP
  refine E56 ?_
  unfold F56
  intro w0 p
  have hb : Blk w0 w.heap.size (m.cells q) 26 := Blk.new w _ _
  have he : Ex w w0 := Ex.alloc w _
  clear_value w0
  have l1 := hq.v.len
  have l2 := hq.a.len
  have l3 := hq.c.len
  have l4 := hq.t.len
  have hfin : ∀ u, Ex w0 u → K (.int .i64 (if mdlOk m then 0 else 2)) u := fun u hu => h u (he.trans hu)
  have hno : ∀ u, Ex w0 u → mdlOk m = false → K (.int .i64 2) u := fun u hu e => by have := hfin u hu; rwa [e] at this
  refine ⟨_, _, _, hb.ld rfl, ?_⟩
  rw [l1]
  refine or_join (c := decide ((m.arrays.length : Int) > 64)) (fun kb hk => ⟨_, _, _, hb.ld rfl, by rw [l2]; exact hk _ (Ex.refl _)⟩) fun u1 e1 => ?_
  refine or_join (c := decide ((m.chans.length : Int) > 64)) (fun kb hk => ⟨_, _, _, (e1.blk hb).ld rfl, by rw [l3]; exact hk _ (Ex.refl _)⟩) fun u2 e2 => ?_
  have e2 := e1.trans e2
  refine or_join (c := decide ((m.threads.length : Int) > 64)) (fun kb hk => ⟨_, _, _, (e2.blk hb).ld rfl, by rw [l4]; exact hk _ (Ex.refl _)⟩) fun u3 e3 => ?_
  have e3 := e2.trans e3
  refine or_join (c := !inI m.mutexes 0 64) (fun kb hk => ⟨_, (e3.blk hb).ld rfl, C98 ⟨_, rfl, hk _ (Ex.refl _)⟩⟩) fun u4 e4 => ?_
  have e4 := e3.trans e4
  refine or_join (c := !inI m.conds 0 64) (fun kb hk => ⟨_, (e4.blk hb).ld rfl, C98 ⟨_, rfl, hk _ (Ex.refl _)⟩⟩) fun u5 e5 => ?_
  have e5 := e4.trans e5
  show if mdlBad m = true then _ else _
  cases hbad : mdlBad m with
  | true =>
    rw [if_pos rfl]
    refine hno u5 e5 ?_
    cases hc : mdlOk m with
    | false => rfl
    | true => have := ((mdlOk_iff m).1 hc).1; rw [hbad] at this; cases this
  | false =>
    rw [if_neg (by decide)]
    have hlen : m.vars.length ≤ 64 ∧ m.arrays.length ≤ 64 ∧ m.chans.length ≤ 64 ∧ m.threads.length ≤ 64 := by
      unfold mdlBad at hbad
      simp only [Bool.or_eq_false_iff, decide_eq_false_iff_not] at hbad
      omega
    refine each m.vars.length (fun i => ∀ x, m.vars[i]? = some x → inI x (-2147483648) 2147483647 = true) (fun I μ n u hu h0 hlt hpre next => ?_) fun I μ u hu hall1 => ?_
    · have hu := e5.trans hu
      refine ⟨_, _, _, (hu.blk hb).ld rfl, ?_⟩
      rw [if_pos (by simp; omega)]
      refine ⟨_, _, _, (hu.blk hb).ld rfl, ?_⟩
      obtain ⟨p2, hp2, hc2⟩ := hq.v.int (i := n.toNat) (by omega)
      rw [hp2, xptr_some]
      refine ⟨h0, by omega, _, by rw [Nat.mul_one]; exact (he.trans hu).cell hc2, C98 ⟨_, rfl, ?_⟩⟩
      show if (!inI m.vars[n.toNat] (-2147483648) 2147483647) = true then _ else _
      cases hx : inI m.vars[n.toNat] (-2147483648) 2147483647 with
      | false =>
        rw [if_pos (by decide)]
        refine hno u hu ?_
        cases hc : mdlOk m with
        | false => rfl
        | true => rw [List.all_eq_true.1 ((mdlOk_iff m).1 hc).2.1 _ (List.getElem_mem hlt)] at hx; cases hx
      | true =>
        rw [if_neg (by decide), wi (by omega) (by omega)]
        exact next (fun x hx' => by rw [List.getElem?_eq_getElem hlt] at hx'; injection hx' with hx'; rw [← hx']; exact hx) u (Ex.refl u)
    have e6 := e5.trans hu
    refine ⟨_, _, _, (e6.blk hb).ld rfl, ?_⟩
    rw [if_neg (by simp; omega)]
    clear hu
    refine each m.arrays.length (fun i => ∀ x, m.arrays[i]? = some x → inI x 0 256 = true) (fun I μ n u hu h0 hlt hpre next => ?_) fun I μ u hu hall2 => ?_
    · have hu := e6.trans hu
      refine ⟨_, _, _, (hu.blk hb).ld rfl, ?_⟩
      rw [if_pos (by simp; omega)]
      refine ⟨_, _, _, (hu.blk hb).ld rfl, ?_⟩
      obtain ⟨p2, hp2, hc2⟩ := hq.a.int (i := n.toNat) (by omega)
      rw [hp2, xptr_some]
      refine ⟨h0, by omega, _, by rw [Nat.mul_one]; exact (he.trans hu).cell hc2, C98 ⟨_, rfl, ?_⟩⟩
      show if (!inI m.arrays[n.toNat] 0 256) = true then _ else _
      cases hx : inI m.arrays[n.toNat] 0 256 with
      | false =>
        rw [if_pos (by decide)]
        refine hno u hu ?_
        cases hc : mdlOk m with
        | false => rfl
        | true => rw [List.all_eq_true.1 ((mdlOk_iff m).1 hc).2.2.1 _ (List.getElem_mem hlt)] at hx; cases hx
      | true =>
        rw [if_neg (by decide), wi (by omega) (by omega)]
        exact next (fun x hx' => by rw [List.getElem?_eq_getElem hlt] at hx'; injection hx' with hx'; rw [← hx']; exact hx) u (Ex.refl u)
    have e7 := e6.trans hu
    refine ⟨_, _, _, (e7.blk hb).ld rfl, ?_⟩
    rw [if_neg (by simp; omega)]
    clear hu
    refine each m.chans.length (fun i => ∀ x, m.chans[i]? = some x → inI x 1 16 = true) (fun I μ n u hu h0 hlt hpre next => ?_) fun I μ u hu hall3 => ?_
    · have hu := e7.trans hu
      refine ⟨_, _, _, (hu.blk hb).ld rfl, ?_⟩
      rw [if_pos (by simp; omega)]
      refine ⟨_, _, _, (hu.blk hb).ld rfl, ?_⟩
      obtain ⟨p2, hp2, hc2⟩ := hq.c.int (i := n.toNat) (by omega)
      rw [hp2, xptr_some]
      refine ⟨h0, by omega, _, by rw [Nat.mul_one]; exact (he.trans hu).cell hc2, C98 ⟨_, rfl, ?_⟩⟩
      show if (!inI m.chans[n.toNat] 1 16) = true then _ else _
      cases hx : inI m.chans[n.toNat] 1 16 with
      | false =>
        rw [if_pos (by decide)]
        refine hno u hu ?_
        cases hc : mdlOk m with
        | false => rfl
        | true => rw [List.all_eq_true.1 ((mdlOk_iff m).1 hc).2.2.2.1 _ (List.getElem_mem hlt)] at hx; cases hx
      | true =>
        rw [if_neg (by decide), wi (by omega) (by omega)]
        exact next (fun x hx' => by rw [List.getElem?_eq_getElem hlt] at hx'; injection hx' with hx'; rw [← hx']; exact hx) u (Ex.refl u)
    have e8 := e7.trans hu
    refine ⟨_, _, _, (e8.blk hb).ld rfl, ?_⟩
    rw [if_neg (by simp; omega)]
    clear hu
    refine each m.threads.length (fun i => ∀ x, m.threads[i]? = some x → codOk x = true) (fun I μ n u hu h0 hlt hpre next => ?_) fun I μ u hu hall4 => ?_
    · have hu := e8.trans hu
      refine ⟨_, _, _, (hu.blk hb).ld rfl, ?_⟩
      rw [if_pos (by simp; omega)]
      refine ⟨_, _, _, (hu.blk hb).ld rfl, ?_⟩
      obtain ⟨p2, row, hp2, ⟨qc, hr, hqc⟩, hc2⟩ := hq.t.nth (List.getElem?_eq_getElem hlt) (by decide)
      subst hr
      rw [hp2, xptr_some]
      refine ⟨h0, by omega, _, _, _, _, _, _, _, _, (he.trans hu).cells hc2, C99 (hqc.ex (he.trans hu)) fun u1 g1 => ⟨_, rfl, ?_⟩⟩
      cases hx : codOk m.threads[n.toNat] with
      | false =>
        rw [if_pos (by decide)]
        refine hno u1 (hu.trans g1) ?_
        cases hc : mdlOk m with
        | false => rfl
        | true => rw [List.all_eq_true.1 ((mdlOk_iff m).1 hc).2.2.2.2 _ (List.getElem_mem hlt)] at hx; cases hx
      | true =>
        rw [if_neg (by decide), wi (by omega) (by omega)]
        exact next (fun x hx' => by rw [List.getElem?_eq_getElem hlt] at hx'; injection hx' with hx'; rw [← hx']; exact hx) u1 g1
    have e9 := e8.trans hu
    refine ⟨_, _, _, (e9.blk hb).ld rfl, ?_⟩
    rw [if_neg (by simp; omega)]
    have hok : mdlOk m = true := (mdlOk_iff m).2 ⟨hbad, all_get.1 hall1, all_get.1 hall2, all_get.1 hall3, all_get.1 hall4⟩
    have := hfin u e9
    rwa [hok] at this
end
end Go.Proofs.YtahcpjgaogghiaaGreat
