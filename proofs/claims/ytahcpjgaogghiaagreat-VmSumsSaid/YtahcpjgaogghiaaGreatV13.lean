/- The verify seat: the depths of a thread, as the document works them out. -/
import Derived.Test.YtahcpjgaogghiaaGreatV12
set_option linter.unusedVariables false
set_option linter.unusedSimpArgs false
set_option maxRecDepth 10000
set_option maxHeartbeats 1000000
namespace Go.Proofs.YtahcpjgaogghiaaGreat
open Go.X Go.Heap
def bools (l : List Bool) : List Value := l.map .bool
theorem bools_set (l : List Bool) (i : Nat) (b : Bool) : bools (l.set i b) = (bools l).set i (.bool b) := by simp [bools, List.map_set]
theorem bools_get {l : List Bool} {i : Nat} (h : i < l.length) : (bools l)[i]? = some (.bool (l.getD i true)) := by
  simp [bools, List.getD_eq_getElem?_getD, List.getElem?_eq_getElem h]
theorem T88 : SlT Tryz.prog 88 4 1 1 [.bool false] := ⟨by kernel_rfl, by kernel_rfl⟩
section
variable {w : World} {K : Value → World → Prop} {KP : List PanicEntry → World → Prop}
theorem C30 {c : Cod} {qc : CodH} {G : Nat → Prop} (hqc : CodP w G qc c) {a : Nat} (ha : a < c.ins.length) (hn : c.ins.length ≤ 1000000) {d : Int} (hd : -1 ≤ d ∧ d ≤ 25)
    (h : ∀ u, Ex w u → K (.tuple #[.int .i64 (oneF c.ins a d).1, .int .i64 (oneF c.ins a d).2]) u) : XCP Tryz.prog 30 [c.v qc, .int .i64 a, .int .i64 d] w K KP := by
  show XCP Tryz.prog 30 [.agg #[.string c.name, .int .i64 c.locals, .slice qc.si.a qc.si.l qc.si.c, .slice qc.sl.a qc.sl.l qc.sl.c], .int .i64 a, .int .i64 d] w K KP
  refine E30 ?_
  unfold F30
  intro w0 p
  have hs : Sep w0 (bx w.heap.size (c.cells qc) 46 :: [oldA w]) := (Sep.begin w).box _ _
  clear_value w0
  have l5 := hqc.1.len
  have hes := eff_small (insAt c.ins a).code
  refine ⟨_, _, _, hs.bx0.ld rfl, ?_⟩
  obtain ⟨pp, row, hpp, hr, hc⟩ := hqc.1.nth (insAt_get ha) (by decide)
  have hr : row = (insAt c.ins a).cells := hr
  subst hr
  rw [hpp, xptr_some]
  refine ⟨by omega, by omega, _, _, _, _, by rw [Int.toNat_natCast]; exact (hs.ex 1 rfl).cells hc, ?_⟩
  intro w1 p2
  replace hs : Sep w1 (bx w0.heap.size _ 52 :: _) := hs.box _ _
  clear_value w1
  refine hs.fill (vs := (insAt c.ins a).cells) rfl fun w2 _ hs => ?_
  refine ⟨_, hs.bx0.ld rfl, C53 ⟨_, _, _, rfl, ?_⟩⟩
  rw [show IntKind.wrap .i64 (d - (effI (insAt c.ins a).code).1) = d - (effI (insAt c.ins a).code).1 from wi (by omega) (by omega),
    show IntKind.wrap .i64 (d - (effI (insAt c.ins a).code).1 + (effI (insAt c.ins a).code).2.1) = newDepth (insAt c.ins a) d from wi (by omega) (by omega)]
  have hb1 := hs.bx0
  have hb2 := hs.bx1
  have hex := hs.ex 2 rfl
  clear hs
  unfold oneF at h
  show if badDepth (insAt c.ins a) d = true then _ else _
  by_cases h1 : badDepth (insAt c.ins a) d = true
  · rw [if_pos h1] at h ⊢
    exact h w2 hex
  rw [if_neg h1] at h ⊢
  refine ⟨_, hb1.ld rfl, ?_⟩
  refine or_join (c := (insAt c.ins a).code == 34) (fun kb hk => ⟨_, hb1.ld rfl, hk _ (Ex.refl _)⟩) fun u eu => ?_
  show if badMark (insAt c.ins a) d = true then _ else _
  by_cases h2 : badMark (insAt c.ins a) d = true
  · rw [if_pos h2] at h ⊢
    exact h u (hex.trans eu)
  rw [if_neg h2] at h ⊢
  refine ⟨_, _, _, _, (eu.blk hb1).lds, C31 (i := insAt c.ins a) (n := a) (by omega) fun s u2 hnew => ⟨_, _, _, rfl, ?_⟩⟩
  have e2 : Ex w2 u2 := eu.trans hnew.1
  have hsl : s.l = (nexts (insAt c.ins a) a).length := by have := hnew.2.1; simpa using this.symm
  have hnl := nexts_len (insAt c.ins a) a
  have hrd := hnew.2.rd
  have hout : runsOut c.ins (insAt c.ins a) a = false ↔ ∀ i, i < (nexts (insAt c.ins a) a).length → ∀ x, (nexts (insAt c.ins a) a)[i]? = some x → (decide (x < c.ins.length)) = true := by
    rw [all_get]
    unfold runsOut
    rw [List.any_eq_false, List.all_eq_true]
    constructor
    · intro hh x hx; have := hh x hx; simp at this ⊢; omega
    · intro hh x hx; have := hh x hx; simp at this ⊢; omega
  refine each (nexts (insAt c.ins a) a).length (fun i => ∀ x, (nexts (insAt c.ins a) a)[i]? = some x → (decide (x < c.ins.length)) = true) (fun I μ n v hv h0 hlt hpre next => ?_) fun I μ v hv hall => ?_
  · rw [if_pos (by simp; omega)]
    have hx := List.getElem?_eq_getElem hlt
    generalize hxe : (nexts (insAt c.ins a) a)[n.toNat] = x at hx
    obtain ⟨pl, hpl, -, hcl⟩ := hrd.isSome (ints_get hx)
    refine ⟨fun y => Ex v y, Ex.drew v, ?_⟩
    rw [hpl, xptr_some]
    refine ⟨h0, by omega, x, fun y hy => by rw [Nat.mul_one]; exact (hv.trans hy).cell hcl, _, _, _, fun y hy => ((e2.trans (hv.trans hy)).blk hb2).ld rfl, ?_⟩
    by_cases hge : x ≥ qc.si.l
    · rw [if_pos (by simpa using hge)]
      have h3 : runsOut c.ins (insAt c.ins a) a = true := by
        cases hr : runsOut c.ins (insAt c.ins a) a with
        | true => rfl
        | false => have := hout.1 hr _ hlt x hx; simp at this; omega
      rw [if_pos h3] at h
      exact h _ (hex.trans (e2.trans (hv.trans (Ex.drew v))))
    · rw [if_neg (by simpa using hge), wi (by omega) (by omega)]
      exact next (fun y hy => by rw [hx] at hy; injection hy with hy; subst hy; simp; omega) _ (Ex.drew v)
  · rw [if_neg (by simp; omega)]
    rw [hout.2 hall, if_neg (by decide)] at h
    exact h v (hex.trans (e2.trans hv))
theorem C15 {m : Mdl} {q : MdlH} {c : Cod} {qc : CodH} {G : Nat → Prop} (hq : MdlP w G q m) {G' : Nat → Prop} (hqc : CodP w G' qc c) (hn : c.ins.length ≤ 1000) (hok : ∀ x ∈ c.ins, insOk x = true)
    (h : ∀ s u, NewI w u s (threadF m c).1 → K (.tuple #[s.v, .int .i64 (threadF m c).2]) u) : XCP Tryz.prog 15 [m.v q, c.v qc] w K KP := by
  show XCP Tryz.prog 15 [.agg #[.slice q.sv.a q.sv.l q.sv.c, .slice q.sa.a q.sa.l q.sa.c, .slice q.sc.a q.sc.l q.sc.c, .int .i64 m.mutexes, .int .i64 m.conds, .slice q.st.a q.st.l q.st.c],
    .agg #[.string c.name, .int .i64 c.locals, .slice qc.si.a qc.si.l qc.si.c, .slice qc.sl.a qc.sl.l qc.sl.c]] w K KP
  refine E15 ?_
  unfold F15
  intro w0 p w1 p1
  have hs : Sep w1 (bx w0.heap.size (c.cells qc) 46 :: bx w.heap.size (m.cells q) 26 :: [oldA w]) := ((Sep.begin w).box _ _).box _ _
  clear_value w1
  have l5 := hqc.1.len
  have finE : ∀ (u : World) (e : Int), Ex w u → threadF m c = ([], e) → K (.tuple #[.slice none 0 0, .int .i64 e]) u := by
    intro u e he hR
    have := h ⟨none, 0, 0⟩ u ⟨he, by rw [hR]; exact ⟨rfl, Nat.le_refl _, .inl ⟨rfl, rfl⟩⟩⟩
    rw [hR] at this; exact this
  refine ⟨_, _, _, hs.bx0.ld rfl, ?_⟩
  by_cases h0 : c.ins.length = 0
  · rw [if_pos (by simp; omega)]
    exact finE w1 170 (hs.ex 2 rfl) (by unfold threadF; rw [if_pos h0])
  rw [if_neg (by simp; omega)]
  refine ⟨_, _, _, hs.bx0.ld rfl, ?_⟩
  rw [l5]
  refine Sep.make (cs := ints (List.replicate c.ins.length 0)) T23 rfl hs (by omega) (Int.le_refl _) (by omega) (by omega) (by simp) (fun i hi => by simp at hi; simp [ints, hi, Nat.mod_one]) fun dsl w2 hdl hs _ => ⟨_, _, _, rfl, ?_⟩
  refine ⟨_, _, _, hs.bx1.ld rfl, ?_⟩
  rw [l5]
  refine Sep.make (cs := bools (List.replicate c.ins.length false)) T88 rfl hs (by omega) (Int.le_refl _) (by omega) (by omega) (by simp [bools]) (fun i hi => by simp at hi; simp [bools, hi, Nat.mod_one]) fun dnl w3 hnl hs _ => ⟨_, _, _, rfl, ?_⟩
  have hdl : dsl.l = c.ins.length := by simpa using hdl
  have hnl : dnl.l = c.ins.length := by simpa using hnl
  replace hs := hs.to1
  -- the slots
  refine ⟨fun n u => 0 ≤ n ∧ n ≤ c.ins.length ∧ (∀ i, i < n.toNat → ∀ x, c.ins[i]? = some x → slotsB m c x = true) ∧ ∃ ds : List Int, ds.length = c.ins.length ∧ (∀ i, i < n.toNat → g ds i = -1) ∧
      Sep u [row 1 3 dsl (ints ds), row 1 4 dnl (bools (List.replicate c.ins.length false)), bx w0.heap.size (c.cells qc) 46, bx w.heap.size (m.cells q) 26, oldA w], fun n _ => c.ins.length - n.toNat, ⟨by omega, by omega, fun i hi => by omega, _, by simp, fun i hi => by omega, hs⟩, ?_⟩
  clear hs
  rintro n u ⟨hn0, hn1, hpre, ds, hds, hpre2, hs⟩
  refine ⟨_, _, _, (hs.blkAt 2 rfl).ld rfl, ?_⟩
  by_cases hlt : n.toNat < c.ins.length
  · rw [if_pos (by simp; omega)]
    obtain ⟨pd, hpd, -⟩ := hs.rowCellAt 0 rfl (ints_g (show n.toNat < ds.length by omega))
    rw [hpd, xptr_some]
    refine ⟨hn0, by omega, ?_⟩
    rw [Nat.mul_one]
    refine hs.rowPutAt 0 rfl (j := n.toNat) (by simp; omega) hpd fun w5 _ hs => ?_
    rw [← ints_set] at hs
    replace hs : Sep w5 [row 1 3 dsl (ints (ds.set n.toNat (-1))), row 1 4 dnl (bools (List.replicate c.ins.length false)), bx w0.heap.size (c.cells qc) 46, bx w.heap.size (m.cells q) 26, oldA w] := hs
    refine ⟨fun x => Sep x [row 1 3 dsl (ints (ds.set n.toNat (-1))), row 1 4 dnl (bools (List.replicate c.ins.length false)), bx w0.heap.size (c.cells qc) 46, bx w.heap.size (m.cells q) 26, oldA w], hs.drew,
      _, _, _, _, _, _, _, _, _, _, _, _, _, _, fun x hx => (Sep.blkAt hx 3 rfl).lds, _, _, _, _, _, _, _, _, fun x hx => (Sep.blkAt hx 2 rfl).lds, _, _, _, fun x hx => (Sep.blkAt hx 2 rfl).ld rfl, ?_⟩
    obtain ⟨pp, row, hpp, hr, hc⟩ := hqc.1.nth (List.getElem?_eq_getElem hlt) (by decide)
    have hr : row = (c.ins[n.toNat]).cells := hr
    subst hr
    rw [hpp, xptr_some]
    refine ⟨hn0, by omega, _, _, _, _, fun x hx => (Sep.ex hx 4 rfl).cells hc, ?_⟩
    rw [← hpp]
    have hw := hs.drew.ex 4 rfl
    refine C29 (i := c.ins[n.toNat]) (hq.ex hw) ⟨hqc.1.old hw, hqc.2.old hw⟩ fun w11 he => ⟨_, rfl, fun _ => True, trivial, ?_⟩
    have hs := hs.drew.ext he
    cases hsl : slotsB m c (c.ins[n.toNat]) with
    | false =>
      rw [if_pos (by decide)]
      refine finE w11 171 (hs.ex 4 rfl) ?_
      unfold threadF
      rw [if_neg h0, if_pos]
      cases hall : c.ins.all (slotsB m c) with
      | false => rfl
      | true => rw [List.all_eq_true.1 hall _ (List.getElem_mem hlt)] at hsl; cases hsl
    | true =>
      rw [if_neg (by decide), wi (by omega) (by omega)]
      refine ⟨⟨by omega, by omega, fun i hi x hx => ?_, _, by simp [hds], fun i hi => ?_, hs⟩, by show c.ins.length - (n + 1).toNat < c.ins.length - n.toNat; omega⟩
      · by_cases e : i = n.toNat
        · subst e; rw [List.getElem?_eq_getElem hlt] at hx; injection hx with hx; rw [← hx]; exact hsl
        · exact hpre i (by omega) x hx
      · rw [g_set (by omega)]
        split
        · rfl
        · exact hpre2 i (by omega)
  rw [if_neg (by simp; omega)]
  have hne : n.toNat = c.ins.length := by omega
  rw [hne] at hpre hpre2
  have hT : threadF m c = runF c.ins (undone (List.replicate c.ins.length false) + 1) (firstF c.ins.length) (List.replicate c.ins.length false) := by
    unfold threadF
    rw [if_neg h0, if_neg (by rw [all_get.1 (fun i hi => hpre i hi)]; decide)]
  obtain ⟨pd, hpd, -⟩ := hs.rowCellAt 0 rfl (ints_g (show 0 < ds.length by omega))
  rw [hpd]
  simp only [xptr_some]
  refine ⟨by decide, by omega, ?_⟩
  refine hs.rowPutAt 0 rfl (j := 0) (by simp; omega) hpd fun w12 _ hs => ?_
  rw [← ints_set] at hs
  have hfirst : ds.set 0 0 = firstF c.ins.length := by
    refine g_ext (by simp [firstF, hds]) fun k hk => ?_
    simp at hk
    rw [g_set (by omega), firstF, g_set (by simp; omega)]
    split
    · rfl
    · rw [hpre2 k (by omega)]; simp [g, List.getD_eq_getElem?_getD, List.getElem?_replicate, show k < c.ins.length by omega]
  rw [hfirst] at hs
  replace hs : Sep w12 [row 1 3 dsl (ints (firstF c.ins.length)), row 1 4 dnl (bools (List.replicate c.ins.length false)), bx w0.heap.size (c.cells qc) 46, bx w.heap.size (m.cells q) 26, oldA w] := hs
  clear hpre hpre2 hds hne hn0 hn1 hlt hfirst
  refine ghost_loop (P := fun u n => ∃ (ds : List Int) (dn : List Bool), Sep u [row 1 3 dsl (ints ds), row 1 4 dnl (bools dn), bx w0.heap.size (c.cells qc) 46, bx w.heap.size (m.cells q) 26, oldA w] ∧ TI c.ins.length ds dn ∧ undone dn = n ∧ runF c.ins (undone dn + 1) ds dn = threadF m c)
    (n0 := undone (List.replicate c.ins.length false)) ⟨_, _, hs, TI.first _, rfl, hT.symm⟩ ?_
  clear hs hT
  rintro I1 μ1 u k ⟨ds, dn, hs, hTI, rfl, hrun⟩ next
  have hlds := hTI.lds
  have hldn := hTI.ldn
  refine ⟨fun x i u => 0 ≤ i ∧ i ≤ c.ins.length ∧ Sep u [row 1 3 dsl (ints ds), row 1 4 dnl (bools dn), bx w0.heap.size (c.cells qc) 46, bx w.heap.size (m.cells q) 26, oldA w] ∧
      ((x = -1 ∧ ∀ j, j < i.toNat → pendB ds dn j = false) ∨ (∃ a : Nat, x = a ∧ a < c.ins.length ∧ pendB ds dn a = true ∧ ∀ j, j < a → pendB ds dn j = false)), fun x i _ => c.ins.length - i.toNat, ⟨by omega, by omega, hs, .inl ⟨rfl, fun j hj => by omega⟩⟩, ?_⟩
  clear hs
  rintro x i v ⟨hi0, hi1, hs, hx⟩
  by_cases hgo : i < c.ins.length ∧ x < 0
  · obtain ⟨hil, hx0⟩ := hgo
    rw [if_pos (by simp; omega)]
    obtain ⟨rfl, hall⟩ : x = -1 ∧ ∀ j, j < i.toNat → pendB ds dn j = false := by
      rcases hx with hx | ⟨a, rfl, -⟩
      · exact hx
      · omega
    intro kb hkb
    have go : ∀ (b : Bool), b = pendB ds dn i.toNat → (if b = true then kb i v else kb (-1) v) := by
      intro b hb
      subst hb
      cases hp : pendB ds dn i.toNat with
      | true =>
        rw [if_pos rfl]
        refine hkb _ _ ?_
        rw [wi (by omega) (by omega)]
        exact ⟨⟨by omega, by omega, hs, .inr ⟨i.toNat, by omega, by omega, hp, hall⟩⟩, by show c.ins.length - (i + 1).toNat < c.ins.length - i.toNat; omega⟩
      | false =>
        rw [if_neg (by decide)]
        refine hkb _ _ ?_
        rw [wi (by omega) (by omega)]
        refine ⟨⟨by omega, by omega, hs, .inl ⟨rfl, fun j hj => ?_⟩⟩, by show c.ins.length - (i + 1).toNat < c.ins.length - i.toNat; omega⟩
        by_cases e : j = i.toNat
        · rw [e]; exact hp
        · exact hall j (by omega)
    clear hkb
    obtain ⟨pd', hpd', hcd⟩ := hs.rowCellAt 0 rfl (ints_g (show i.toNat < ds.length by omega))
    rw [hpd] at hpd'; cases hpd'
    refine ⟨hi0, by omega, _, by rw [Nat.mul_one]; exact hcd, ?_⟩
    intro kb1 hkb1
    unfold pendB at go
    by_cases hg : g ds i.toNat ≥ 0
    · rw [if_pos (by simpa using hg)]
      obtain ⟨pn, hpn, hcn⟩ := hs.rowCellAt 1 rfl (bools_get (show i.toNat < dn.length by omega))
      rw [hpn, xptr_some]
      refine ⟨hi0, by omega, _, by rw [Nat.mul_one]; exact hcn, hkb1 _ _ (go _ ?_)⟩
      simp [hg]
    · rw [if_neg (by simpa using hg)]
      refine hkb1 _ _ (go _ ?_)
      simp [hg]
  rw [if_neg (by simp; omega)]
  rcases hx with ⟨rfl, hall⟩ | ⟨a, rfl, ha, hpa, hall⟩
  · rw [if_pos (by decide)]
    have hR : threadF m c = (ds, 0) := by rw [← hrun, runF_none (leastF_none fun j hj => hall j (by omega))]
    have := h dsl v ⟨hs.ex 4 rfl, by rw [hR]; exact hs.fresh 0 4 rfl rfl (by decide)⟩
    rw [hR, Sl.v, hpd] at this
    exact this
  rw [if_neg (by simp)]
  have hleast := leastF_some (by omega) hpa hall
  obtain ⟨hga, hda⟩ := pendB_iff.1 hpa
  have hI : insOk (insAt c.ins a) = true := hok _ (insAt_mem ha)
  have hcode := insOk_code hI
  have hlo := hTI.lo a ha
  obtain ⟨pn, hpn, -⟩ := hs.rowCellAt 1 rfl (bools_get (show a < dn.length by omega))
  rw [hpn, xptr_some]
  refine ⟨by omega, by omega, ?_⟩
  rw [Int.toNat_natCast, Nat.mul_one]
  refine hs.rowPutAt 1 rfl (j := a) (by simp [bools]; omega) hpn fun w17 _ hs => ?_
  rw [← bools_set] at hs
  replace hs : Sep w17 [row 1 3 dsl (ints ds), row 1 4 dnl (bools (dn.set a true)), bx w0.heap.size (c.cells qc) 46, bx w.heap.size (m.cells q) 26, oldA w] := hs
  refine ⟨fun x => Sep x [row 1 3 dsl (ints ds), row 1 4 dnl (bools (dn.set a true)), bx w0.heap.size (c.cells qc) 46, bx w.heap.size (m.cells q) 26, oldA w], hs.drew, _, _, _, _, _, _, _, _, fun x hx => (Sep.blkAt hx 2 rfl).lds, by omega, by omega, g ds a, fun x hx => ?_, ?_⟩
  · obtain ⟨pd', hpd', hcd⟩ := Sep.rowCellAt hx 0 rfl (ints_g (show a < ds.length by omega))
    rw [hpd] at hpd'; cases hpd'
    simpa using hcd
  have hw := hs.drew.ex 4 rfl
  refine C30 ⟨hqc.1.old hw, hqc.2.old hw⟩ ha (by omega) hlo fun w21 he => ⟨_, _, rfl, fun _ => True, trivial, ?_⟩
  replace hs := hs.drew.ext he
  by_cases herr : (oneF c.ins a (g ds a)).2 ≠ 0
  · rw [if_pos (by simpa using herr)]
    exact finE w21 _ (hs.ex 4 rfl) (by rw [← hrun, runF_err hleast herr])
  have herr : (oneF c.ins a (g ds a)).2 = 0 := by simpa using herr
  rw [if_neg (by simp [herr])]
  obtain ⟨hbd, hbm, hrout, hnd⟩ := oneF_ok herr
  obtain ⟨hb0, hb25⟩ := newDepth_ok hbd
  rw [← hnd] at hb0 hb25
  generalize hbe : (oneF c.ins a (g ds a)).1 = b at *
  refine ⟨_, _, _, (hs.blkAt 2 rfl).ld rfl, ?_⟩
  obtain ⟨pp, row', hpp, hr, hc⟩ := hqc.1.nth (insAt_get ha) (by decide)
  have hr : row' = (insAt c.ins a).cells := hr
  subst hr
  rw [hpp, xptr_some]
  refine ⟨by omega, by omega, _, _, _, _, (hs.ex 4 rfl).cells hc, ?_⟩
  refine C31 (i := insAt c.ins a) (n := a) (by omega) fun s w22 hnew => ⟨_, _, _, rfl, ?_⟩
  have hs := Sep.add (A := row 1 3 s (ints (nexts (insAt c.ins a) a))) hs hnew.1 hnew.2
  have hsl : s.l = (nexts (insAt c.ins a) a).length := by have := hnew.2.1; simpa using this.symm
  have hnxl := nexts_len (insAt c.ins a) a
  have hin : ∀ n ∈ nexts (insAt c.ins a) a, 0 ≤ n ∧ n < c.ins.length := by
    intro n hn
    refine ⟨nexts_ok hI (by omega) hn, ?_⟩
    unfold runsOut at hrout
    rw [List.any_eq_false] at hrout
    have := hrout n hn; simp at this; omega
  refine ⟨fun k u => 0 ≤ k ∧ k ≤ (nexts (insAt c.ins a) a).length ∧ ∃ ds', Sep u [row 1 3 s (ints (nexts (insAt c.ins a) a)), row 1 3 dsl (ints ds'), row 1 4 dnl (bools (dn.set a true)), bx w0.heap.size (c.cells qc) 46, bx w.heap.size (m.cells q) 26, oldA w] ∧
      spreadF b ((nexts (insAt c.ins a) a).take k.toNat) ds = some ds' ∧ TI c.ins.length ds' (dn.set a true), fun k _ => (nexts (insAt c.ins a) a).length - k.toNat, ⟨by omega, by omega, ds, hs, rfl, hTI.mark ha hga⟩, ?_⟩
  clear hs
  rintro k u' ⟨hk0, hk1, ds', hs, hsp, hTI'⟩
  by_cases hkl : k.toNat < (nexts (insAt c.ins a) a).length
  · rw [if_pos (by simp; omega)]
    have hx := List.getElem?_eq_getElem hkl
    have htk : (nexts (insAt c.ins a) a).take (k + 1).toNat = (nexts (insAt c.ins a) a).take k.toNat ++ [(nexts (insAt c.ins a) a)[k.toNat]] := by
      rw [show (k + 1).toNat = k.toNat + 1 from by omega, List.take_add_one, List.getElem?_eq_getElem hkl]; rfl
    have hrest : nexts (insAt c.ins a) a = (nexts (insAt c.ins a) a).take (k + 1).toNat ++ (nexts (insAt c.ins a) a).drop (k + 1).toNat := (List.take_append_drop _ _).symm
    generalize hte : (nexts (insAt c.ins a) a)[k.toNat] = t at hx htk
    obtain ⟨ht0, htn⟩ := hin t (List.mem_iff_getElem?.2 ⟨_, hx⟩)
    have htd : t.toNat < ds'.length := by rw [hTI'.lds]; omega
    have hsp1 : spreadF b ((nexts (insAt c.ins a) a).take (k + 1).toNat) ds = spreadF b [t] ds' := by rw [htk, spread_app, hsp]; rfl
    obtain ⟨pl, hpl, hcl⟩ := hs.rowCellAt 0 rfl (ints_get hx)
    obtain ⟨pd', hpd', hcd⟩ := hs.rowCellAt 1 rfl (ints_g htd)
    rw [hpd] at hpd'; cases hpd'
    rw [hpl]
    simp only [xptr_some]
    refine ⟨hk0, by omega, t, by rw [Nat.mul_one]; exact hcl, ht0, by omega, _, by rw [Nat.mul_one]; exact hcd, ?_⟩
    intro kb2 hkb2
    have go : kb2 (clash b t ds') u' := by
      refine hkb2 _ _ ?_
      cases hcl' : clash b t ds' with
      | true =>
        rw [if_pos rfl]
        refine finE u' 174 (hs.ex 5 rfl) ?_
        rw [← hrun]
        refine runF_clash hleast herr ?_
        rw [hbe, hrest, spread_app, hsp1, spreadF, if_pos hcl']; rfl
      | false =>
        rw [if_neg (by decide)]
        refine ⟨hk0, by omega, t, by rw [Nat.mul_one]; exact hcl, ht0, by omega, ?_⟩
        rw [Nat.mul_one]
        refine hs.rowPutAt 1 rfl (j := t.toNat) (by simpa using htd) hpd fun w25 _ hs => ?_
        rw [← ints_set] at hs
        rw [wi (by omega) (by omega)]
        refine ⟨⟨by omega, by omega, _, hs, ?_, hTI'.set (by omega) hb0 hb25⟩, by show (nexts (insAt c.ins a) a).length - (k + 1).toNat < (nexts (insAt c.ins a) a).length - k.toNat; omega⟩
        rw [hsp1, spreadF, if_neg (by rw [hcl']; decide)]; rfl
    clear hkb2
    unfold clash at go
    by_cases hg : g ds' t.toNat ≥ 0
    · rw [if_pos (by simpa using hg)]
      refine ⟨hk0, by omega, t, by rw [Nat.mul_one]; exact hcl, ht0, by omega, _, by rw [Nat.mul_one]; exact hcd, ?_⟩
      rw [show decide (g ds' t.toNat ≥ 0) = true from by simpa using hg, Bool.true_and] at go
      exact go
    · rw [if_neg (by simpa using hg)]
      rw [show decide (g ds' t.toNat ≥ 0) = false from by simpa using hg, Bool.false_and] at go
      exact go
  · rw [if_neg (by simp; omega)]
    rw [List.take_of_length_le (by omega)] at hsp
    refine next u' (undone (dn.set a true)) ⟨ds', dn.set a true, hs.tail, hTI', rfl, ?_⟩ ?_
    · rw [← hrun]
      exact (runF_step hleast (by omega) hda herr (by rw [hbe]; exact hsp)).symm
    · have := undone_mark (dn := dn) (a := a) (by omega) hda; omega
end
end Go.Proofs.YtahcpjgaogghiaaGreat
