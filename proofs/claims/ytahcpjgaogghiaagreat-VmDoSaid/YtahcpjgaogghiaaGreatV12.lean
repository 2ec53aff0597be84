/- The verify seat: depths, which the program works out with a heap. -/
import Derived.Test.YtahcpjgaogghiaaGreatV11
set_option linter.unusedVariables false
set_option linter.unusedSimpArgs false
set_option maxRecDepth 10000
set_option maxHeartbeats 1000000
namespace Go.Proofs.YtahcpjgaogghiaaGreat
open Go.X Go.Heap
theorem Sep.single {w : World} {A : Assn} {G : Nat → Prop} (h : A.p w G) : Sep w [A] := by
  refine ⟨fun b => if b < w.heap.size then 1 else 0, fun b hb => by simp [Nat.not_lt.2 hb], fun i B hB => ?_⟩
  cases i with
  | zero => simp at hB; subst hB; exact A.mono h fun b hb _ => by simp [hb]
  | succ i => simp at hB
theorem zero77 (w : World) : (zeroValue 190).run Tryz.prog w = .ok .nilFunc w := by kernel_rfl
theorem effLoad {u : World} {be : Nat} (hb : Blk u be effRows.flatten 196) {c : Int} (h0 : 0 ≤ c) (h1 : c ≤ 34) : cellsAt u (Addr.add ⟨be, 0, none⟩ (c.toNat * 2)) 0 [.int .i64 (effI c).1, .int .i64 (effI c).2.1] := by
  have hrow : effRows[c.toNat]? = some [.int .i64 (effI c).1, .int .i64 (effI c).2.1] := by
    rw [effRows, List.getElem?_map, eff_get h0 h1]; rfl
  refine cellsAt_of fun j v hv => ?_
  rw [Nat.zero_add, addr_add]
  exact hb.ld (flatten_get eff_rows hrow hv)
theorem mkI82 {K : Value → World → Prop} {u : World} {b : Nat} (h : K (opV b) u) : XRun Tryz.prog (Instr.makeInterface 200 (.pointer (some ⟨b, 0, none⟩))) u K := by
  have : (Instr.makeInterface 200 (.pointer (some ⟨b, 0, none⟩))).run Tryz.prog u = .ok (opV b) u := by
    simp [Instr.makeInterface, run_underlying U82, Result.andThen, opV]
  exact xr_ok this h
theorem ta3 {K : Value → World → Prop} {u : World} {x : Int} (h : K (.int .i64 x) u) : XRun Tryz.prog (Instr.typeAssert (.iface 3 (.int .i64 x)) 20 3 false) u K := by
  have h3 : Tryz.prog.underlying 3 = some (.int .i64) := by kernel_rfl
  have : (Instr.typeAssert (.iface 3 (.int .i64 x)) 20 3 false).run Tryz.prog u = .ok (.int .i64 x) u := by
    simp [Instr.typeAssert, run_underlying h3, Result.andThen]
  exact xr_ok this h
abbrev Can (w : World) (Γ : List Assn) (bq bo br bh : Nat) (out s : Sl) (e : Int) (ds ys : List Int) : List Assn :=
  [bx bq [s.v] 201, row 1 3 s (ints ys), bx bo [out.v] 23, row 1 3 out (ints ds), bx br [.int .i64 e] 57, bx bh [.pointer (some ⟨bq, 0, none⟩)] 200, pers Γ, oldA w]
section
variable {w : World} {K : Value → World → Prop} {KP : List PanicEntry → World → Prop}
theorem insOk_code {i : Ins} (h : insOk i = true) : 1 ≤ i.code ∧ i.code ≤ 34 ∧ 0 ≤ i.a ∧ i.a ≤ 65535 := by
  unfold insOk inI at h
  simp only [Bool.and_eq_true, decide_eq_true_eq] at h
  omega
theorem nexts_ok {i : Ins} {a : Int} (hi : insOk i = true) (ha : 0 ≤ a) {n : Int} (h : n ∈ nexts i a) : 0 ≤ n := by
  have := insOk_code hi
  unfold nexts at h
  rcases List.mem_append.1 h with h | h
  · split at h
    · simp at h; omega
    · simp at h
  · split at h
    · simp at h; omega
    · simp at h
theorem C55 {m : Mdl} {q : MdlH} {c : Cod} {qc : CodH} {G : Nat → Prop} (hq : MdlP w G q m) {G' : Nat → Prop} (hqc : CodP w G' qc c) (hn : c.ins.length ≤ 1000) (hok : ∀ x ∈ c.ins, insOk x = true)
    (h : ∀ s u, NewI w u s (threadF m c).1 → K (.tuple #[s.v, .int .i64 (threadF m c).2]) u) : XCP Tryz.prog 55 [m.v q, c.v qc] w K KP := by
  show XCP Tryz.prog 55 [.agg #[.slice q.sv.a q.sv.l q.sv.c, .slice q.sa.a q.sa.l q.sa.c, .slice q.sc.a q.sc.l q.sc.c, .int .i64 m.mutexes, .int .i64 m.conds, .slice q.st.a q.st.l q.st.c],
    .agg #[.string c.name, .int .i64 c.locals, .slice qc.si.a qc.si.l qc.si.c, .slice qc.sl.a qc.sl.l qc.sl.c]] w K KP
  refine E55 ?_
  unfold F55
  intro KP0 KP' w0 p w1 p1 w2 p2 w3 p3
  have hs : Sep w3 (bx w2.heap.size [.int .i64 0] 57 :: bx w1.heap.size [.slice none 0 0] 23 :: bx w0.heap.size (c.cells qc) 46 :: bx w.heap.size (m.cells q) 26 :: [oldA w]) := ((((Sep.begin w).box _ _).box _ _).box _ _).box _ _
  clear_value w3
  have l5 := hqc.1.len
  -- the ends
  have fin : ∀ (u : World) (out : Sl) (e : Int), Blk u w1.heap.size [out.v] 23 → Blk u w2.heap.size [.int .i64 e] 57 → Ex w u → Own u 1 3 out.a out.l out.c (ints (threadF m c).1) (fun b => w.heap.size ≤ b) → e = (threadF m c).2 →
      ∀ u', ShutD w.heap.size u u' → ∃ (a : Option Addr) (l c : Nat), u'.cell? p2 = some (.slice a l c) ∧ ∃ n : Int, u'.cell? p3 = some (.int .i64 n) ∧ K (.tuple #[.slice a l c, .int .i64 n]) u' := by
    intro u out e h1 h2 h3 h4 he u' hsh
    subst he
    exact ⟨_, _, _, (h1.shut hsh).ld' rfl, _, (h2.shut hsh).ld' rfl, h out u' ⟨hsh.ex h3 (Nat.le_refl _), Own.shut hsh h4⟩⟩
  have finE : ∀ (u : World) (e : Int), Blk u w1.heap.size [Sl.v ⟨none, 0, 0⟩] 23 → Blk u w2.heap.size [.int .i64 e] 57 → Ex w u → (threadF m c) = ([], e) →
      ∀ u', ShutD w.heap.size u u' → ∃ (a : Option Addr) (l c : Nat), u'.cell? p2 = some (.slice a l c) ∧ ∃ n : Int, u'.cell? p3 = some (.int .i64 n) ∧ K (.tuple #[.slice a l c, .int .i64 n]) u' := by
    intro u e h1 h2 h3 he
    exact fin u ⟨none, 0, 0⟩ e h1 h2 h3 (by rw [he]; exact ⟨rfl, Nat.le_refl _, .inl ⟨rfl, rfl⟩⟩) (by rw [he])
  refine ⟨_, _, _, hs.bx2.ld rfl, ?_⟩
  by_cases h0 : c.ins.length = 0
  · rw [if_pos (by simp; omega)]
    refine hs.putAt 1 rfl (o := 0) Nat.zero_lt_one fun u1 _ hs => ?_
    refine hs.putAt 0 rfl (o := 0) Nat.zero_lt_one fun u2 _ hs => ?_
    exact finE u2 170 (hs.blkAt 1 rfl) (hs.blkAt 0 rfl) (hs.ex 4 rfl) (by unfold threadF; rw [if_pos h0])
  rw [if_neg (by simp; omega)]
  refine ⟨_, _, _, _, _, _, _, _, _, _, _, _, _, _, hs.bx3.lds, _, _, _, _, _, _, _, _, hs.bx2.lds, ?_⟩
  refine C91 (hq.ex (hs.ex 4 rfl)) ⟨hqc.1.old (hs.ex 4 rfl), hqc.2.old (hs.ex 4 rfl)⟩ fun u r f Γ he hp hF => ⟨_, rfl, C92 fun u2 e2 => ⟨_, _, _, _, _, _, _, _, _, _, _, _, _, _, _, _, _, _, _, _, _, _, _, _, _, _, _, _, _, _, _, _, _, _, _, _, _, _, _, _, _, _, _, _, _, _, _, _, _, _, _, _, _, _, _, _, _, _, _, _, _, _, _, _, _, _, _, _, _, _, rfl, ?_⟩⟩
  replace hs := (Sep.add (A := pers (mpA r dI f :: Γ)) hs he hp).ext e2
  clear hp he e2
  intro w9 p4
  replace hs : Sep w9 (bx u2.heap.size _ 196 :: _) := hs.box _ _
  clear_value w9
  refine hs.fill (vs := effRows.flatten) rfl fun w10 _ hs => ?_
  refine ⟨_, _, _, (hs.blkAt 4 rfl).ld rfl, ?_⟩
  refine each c.ins.length (fun i => ∀ x, c.ins[i]? = some x → slotsB m c x = true) (fun I μ n u hu h0' hlt hpre next => ?_) fun I μ u hu hall => ?_
  · rw [if_pos (by simp; omega)]
    replace hs := hs.ext hu
    obtain ⟨pp, row, hpp, hr, hc⟩ := hqc.1.nth (List.getElem?_eq_getElem hlt) (by decide)
    have hr : row = (c.ins[n.toNat]).cells := hr
    subst hr
    rw [hpp, xptr_some]
    refine ⟨h0', by omega, _, _, _, _, (hs.ex 6 rfl).cells hc, ?_⟩
    intro w12 p6
    have hs6 : Sep w12 (bx u.heap.size _ 52 :: [oldA u]) := (Sep.begin u).box _ _
    clear_value w12
    refine hs6.fill (vs := (c.ins[n.toNat]).cells) rfl fun w13 _ hs6 => ?_
    have e13 : Ex u w13 := hs6.ex 1 rfl
    have hb6 := hs6.bx0
    replace hs := hs.ext e13
    clear hs6
    refine ⟨_, hb6.ld rfl, ?_⟩
    obtain ⟨Gp, hGp⟩ := hs.persAt 1 rfl
    refine Sep.lookup2 M78 M44 (by rfl) zero77 (Sep.single (hGp 0 _ rfl)) ⟨_, _, rfl, ?_⟩
    intro kb hkb
    have go : ∀ u', Ex w13 u' → kb (!slotsB m c (c.ins[n.toNat])) u' := by
      intro u' hu'
      refine hkb _ _ ?_
      replace hs := hs.ext hu'
      cases hsl : slotsB m c (c.ins[n.toNat]) with
      | false =>
        rw [if_pos (by decide)]
        refine hs.putAt 3 rfl (o := 0) Nat.zero_lt_one fun u1 _ hs => ?_
        refine hs.putAt 2 rfl (o := 0) Nat.zero_lt_one fun u2 _ hs => ?_
        refine finE u2 171 (hs.blkAt 3 rfl) (hs.blkAt 2 rfl) (hs.ex 6 rfl) ?_
        unfold threadF
        rw [if_neg h0, if_pos]
        cases hall : c.ins.all (slotsB m c) with
        | false => rfl
        | true => rw [List.all_eq_true.1 hall _ (List.getElem_mem hlt)] at hsl; cases hsl
      | true =>
        rw [if_neg (by decide), wi (by omega) (by omega)]
        exact next (fun x hx => by rw [List.getElem?_eq_getElem hlt] at hx; injection hx with hx; rw [← hx]; exact hsl) u' (e13.trans hu')
    clear hkb next
    have hFc := hF (c.ins[n.toNat]).code
    cases hf : f (.int .i64 (c.ins[n.toNat]).code) with
    | none =>
      have h1 := go w13 (Ex.refl _)
      rw [show slotsB m c (c.ins[n.toNat]) = true from hFc.1 hf _] at h1
      exact h1
    | some v =>
      rw [if_pos (show (some v).isSome = true from rfl)]
      exact ⟨_, _, _, _, hb6.lds, hFc.2 v hf (c.ins[n.toNat]) w13 Gp _ _ (fun j A hA => hGp (j + 1) A hA) fun u' hu' => ⟨_, rfl, go u' hu'⟩⟩
  have hT : threadF m c = runF c.ins (undone (List.replicate c.ins.length false) + 1) (firstF c.ins.length) (List.replicate c.ins.length false) := by
    unfold threadF
    rw [if_neg h0, if_neg (by rw [all_get.1 hall]; decide)]
  rw [if_neg (by simp; omega)]
  replace hs := hs.ext hu
  clear hall hu
  refine Sep.build (cs := ints [-1]) T23 rfl hs rfl rfl (by decide) fun x w20 hxl hs _ => ⟨_, _, _, rfl, _, _, _, (hs.blkAt 5 rfl).ld rfl, ?_⟩
  obtain ⟨Gx, hx, -, -⟩ := hs.rowAt 0 rfl
  rw [l5]
  refine C93 (s := x) hx hxl (by omega) (by omega) fun out w21 hown hfr => ⟨_, _, _, rfl, ?_⟩
  replace hs := Sep.add (A := row 1 3 out (ints (List.replicate c.ins.length (-1)))) hs hfr hown
  clear hown hfr hx
  refine hs.putAt 5 rfl (o := 0) Nat.zero_lt_one fun w22 _ hs => ?_
  refine ⟨_, _, _, (hs.blkAt 5 rfl).ld' rfl, ?_⟩
  obtain ⟨pout, hpout, -⟩ := hs.rowCellAt 0 rfl (j := 0) (v := .int .i64 (-1)) (ints_get (by rw [List.getElem?_replicate, if_pos (by omega)]))
  obtain ⟨-, -, -, hol⟩ := hs.rowAt 0 rfl
  have hol : out.l = c.ins.length := by simpa using hol.symm
  rw [hpout, xptr_some]
  refine ⟨by decide, by omega, ?_⟩
  refine hs.rowPutAt 0 rfl (j := 0) (by simp; omega) hpout fun w23 _ hs => ?_
  rw [show (ints (List.replicate c.ins.length (-1))).set 0 (.int .i64 0) = ints (firstF c.ins.length) from by rw [firstF, ints_set]] at hs
  refine Sep.build (cs := ints [0]) T201 rfl hs rfl rfl (by decide) fun y w24 hyl hs _ => ⟨_, _, _, rfl, ?_⟩
  intro w25 p8 w26 p9
  replace hs : Sep w26 (bx w25.heap.size [.pointer none] 200 :: bx w24.heap.size [y.v] 201 :: _) := (hs.box _ _).box _ _
  clear_value w26
  refine hs.putAt 0 rfl (o := 0) Nat.zero_lt_one fun w27 _ hs => ?_
  replace hs : Sep w27 (bx w25.heap.size [.pointer (some p8)] 200 :: bx w24.heap.size [y.v] 201 :: row 1 3 y (ints [0]) :: row 1 3 out (ints (firstF c.ins.length)) :: row 1 3 x (ints [-1]) :: bx u2.heap.size effRows.flatten 196 :: pers (mpA r dI f :: Γ) ::
    bx w2.heap.size [.int .i64 0] 57 :: bx w1.heap.size [out.v] 23 :: bx w0.heap.size (c.cells qc) 46 :: bx w.heap.size (m.cells q) 26 :: [oldA w]) := hs
  replace hs : Sep w27 [bx u2.heap.size effRows.flatten 196, bx w0.heap.size (c.cells qc) 46, bx w24.heap.size [y.v] 201, row 1 3 y (ints [0]), bx w1.heap.size [out.v] 23, row 1 3 out (ints (firstF c.ins.length)), bx w2.heap.size [.int .i64 0] 57, bx w25.heap.size [.pointer (some p8)] 200, oldA w] :=
    hs.pick [5, 9, 1, 2, 8, 3, 7, 0, 11] rfl rfl
  replace hs : Sep w27 (Can w [bx w0.heap.size (c.cells qc) 46, bx u2.heap.size effRows.flatten 196] w24.heap.size w1.heap.size w2.heap.size w25.heap.size out y 0 (firstF c.ins.length) [0]) := hs.pers1.to1.keep.behind 6 (by simp)
  -- the ends of the looks
  intro kb1 hkb1
  have kbE : ∀ (u : World) (Γ : List Assn) (out s : Sl) (e : Int) (ds ys : List Int), Sep u (Can w Γ w24.heap.size w1.heap.size w2.heap.size w25.heap.size out s e ds ys) → e ≠ 0 → threadF m c = ([], e) → kb1 u := by
    intro u Γ out s e ds ys hs he hR
    refine hkb1 u ⟨_, (hs.blkAt 4 rfl).ld' rfl, ?_⟩
    rw [if_pos (by simpa using he)]
    refine ⟨fun x => Blk x w2.heap.size [.int .i64 e] 57, hs.drew.blkAt 4 rfl, e, fun x hx => hx.ld' rfl, ?_⟩
    refine hs.drew.putAt 2 rfl (o := 0) Nat.zero_lt_one fun w31 _ hs => ⟨hs.blkAt 4 rfl, ?_⟩
    refine hs.putAt 4 rfl (o := 0) Nat.zero_lt_one fun w32 _ hs => ?_
    exact finE w32 e (hs.blkAt 2 rfl) (hs.blkAt 4 rfl) (hs.ex 7 rfl) hR
  have kbO : ∀ (u : World) (Γ : List Assn) (out s : Sl) (ds ys : List Int), Sep u (Can w Γ w24.heap.size w1.heap.size w2.heap.size w25.heap.size out s 0 ds ys) → threadF m c = (ds, 0) → kb1 u := by
    intro u Γ out s ds ys hs hR
    refine hkb1 u ⟨_, (hs.blkAt 4 rfl).ld' rfl, ?_⟩
    rw [if_neg (by decide)]
    refine ⟨_, _, _, (hs.blkAt 2 rfl).ld' rfl, ?_⟩
    refine hs.putAt 2 rfl (o := 0) Nat.zero_lt_one fun w31 _ hs => ?_
    refine hs.putAt 4 rfl (o := 0) Nat.zero_lt_one fun w32 _ hs => ?_
    exact fin w32 out 0 (hs.blkAt 2 rfl) (hs.blkAt 4 rfl) (hs.ex 7 rfl) (by rw [hR]; exact hs.fresh 3 7 rfl rfl (by decide)) (by rw [hR])
  clear hkb1 hol hpout pout
  refine ghost_loop (P := fun u n => ∃ (ds : List Int) (dn : List Bool) (ys : List Int) (out s : Sl), Sep u (Can w [bx w0.heap.size (c.cells qc) 46, bx u2.heap.size effRows.flatten 196] w24.heap.size w1.heap.size w2.heap.size w25.heap.size out s 0 ds ys) ∧ TI c.ins.length ds dn ∧ Pend c.ins.length ds dn ys ∧ Ok ys ys.length ∧ undone dn = n ∧ runF c.ins (undone dn + 1) ds dn = threadF m c)
    (n0 := undone (List.replicate c.ins.length false)) ⟨_, _, _, _, _, hs, TI.first _, Pend.first (by omega), fun k hk0 hk => by simp at hk; omega, rfl, hT.symm⟩ ?_
  clear hs hT hF hxl hyl
  rintro I1 μ1 u n ⟨ds, dn, ys, out, s, hs, hTI, hPe, hOk, rfl, hrun⟩ next
  have hyl := hPe.len
  refine ⟨_, (hs.blkAt 5 rfl).ld' rfl, ?_⟩
  rw [xptr_some]
  refine ⟨_, _, _, (hs.blkAt 0 rfl).ld' rfl, E94 ?_⟩
  unfold F94
  refine ⟨_, rfl, ?_⟩
  rw [OpL.len (xs := ys) hs]
  by_cases hy0 : ys = []
  · subst hy0
    rw [if_neg (by decide)]
    exact kbO u _ out s ds [] hs (by rw [← hrun, runF_none (hPe.empty hTI.lds)])
  have hy1 : 0 < ys.length := List.length_pos_iff.2 hy0
  rw [if_pos (by simp; omega)]
  refine ⟨_, (hs.blkAt 5 rfl).ld' rfl, mkI82 ⟨_, rfl, ?_⟩⟩
  refine C95 (pb := w24.heap.size) hs (by omega) hy1 hOk fun uz s' zs x hs hperm hmin hOk' => ⟨_, rfl, ta3 ⟨_, rfl, ?_⟩⟩
  obtain ⟨a, rfl, ha, hga, hda, hleast, hPe'⟩ := hPe.pop hTI.lds hTI.ldn hperm hmin
  replace hs : Sep uz (Can w [bx w0.heap.size (c.cells qc) 46, bx u2.heap.size effRows.flatten 196] w24.heap.size w1.heap.size w2.heap.size w25.heap.size out s' 0 ds zs) := hs
  have hI : insOk (insAt c.ins a) = true := hok _ (insAt_mem ha)
  have hcode := insOk_code hI
  refine ⟨_, _, _, (hs.persBlk 6 rfl 0 rfl).ld rfl, ?_⟩
  obtain ⟨pp, row, hpp, hr, hc⟩ := hqc.1.nth (insAt_get ha) (by decide)
  have hr : row = (insAt c.ins a).cells := hr
  subst hr
  rw [hpp, xptr_some]
  refine ⟨by omega, by omega, _, _, _, _, by rw [Int.toNat_natCast]; exact (hs.ex 7 rfl).cells hc, ?_⟩
  intro w42 p12
  replace hs : Sep w42 (bx uz.heap.size _ 52 :: _) := hs.box _ _
  clear_value w42
  refine hs.fill (vs := (insAt c.ins a).cells) rfl fun w43 _ hs => ?_
  refine ⟨_, hs.bx0.ld rfl, by omega, by omega, _, _, effLoad (hs.persBlk 7 rfl 1 rfl) (by omega) (by omega), ?_⟩
  intro w44 p13
  replace hs : Sep w44 (bx w43.heap.size _ 195 :: _) := hs.box _ _
  clear_value w44
  refine hs.fill (vs := [.int .i64 (effI (insAt c.ins a).code).1, .int .i64 (effI (insAt c.ins a).code).2.1]) rfl fun w45 _ hs => ?_
  replace hs := hs.drew
  have hdl : a < ds.length := by rw [hTI.lds]; exact ha
  obtain ⟨pout, hpout, -⟩ := hs.rowCellAt 5 rfl (ints_g hdl)
  obtain ⟨-, -, -, hol⟩ := hs.rowAt 5 rfl
  have hol : out.l = c.ins.length := by simpa [hTI.lds] using hol.symm
  have hlo := hTI.lo a ha
  have hes := eff_small (insAt c.ins a).code
  refine ⟨fun x => Sep x (bx w43.heap.size [.int .i64 (effI (insAt c.ins a).code).1, .int .i64 (effI (insAt c.ins a).code).2.1] 195 :: bx uz.heap.size (insAt c.ins a).cells 52 :: Can w [bx w0.heap.size (c.cells qc) 46, bx u2.heap.size effRows.flatten 196] w24.heap.size w1.heap.size w2.heap.size w25.heap.size out s' 0 ds zs), hs, _, _, _, fun x hx => (Sep.blkAt hx 4 rfl).ld' rfl, ?_⟩
  rw [hpout, xptr_some]
  refine ⟨by omega, by omega, g ds a, fun x hx => ?_, _, fun x hx => hx.bx0.ld rfl, _, fun x hx => hx.bx0.ld rfl, ?_⟩
  · obtain ⟨p', hp', hc'⟩ := hx.rowCellAt 5 rfl (ints_g hdl)
    rw [hpout] at hp'; cases hp'; simpa using hc'
  intro w51 p15
  replace hs : Sep w51 (bx w45.drew.heap.size [.int .i64 0] 3 :: _) := hs.box _ _
  clear_value w51
  refine ⟨hs.tail, ?_⟩
  rw [show IntKind.wrap .i64 (IntKind.wrap .i64 (g ds a - (effI (insAt c.ins a).code).1) + (effI (insAt c.ins a).code).2.1) = newDepth (insAt c.ins a) (g ds a) from by
    rw [show IntKind.wrap .i64 (g ds a - (effI (insAt c.ins a).code).1) = g ds a - (effI (insAt c.ins a).code).1 from wi (by omega) (by omega), wi (by omega) (by omega)]; rfl]
  refine hs.putAt 0 rfl (o := 0) Nat.zero_lt_one fun w52 _ hs => ?_
  replace hs : Sep w52 (Can w [bx w45.drew.heap.size [.int .i64 (newDepth (insAt c.ins a) (g ds a))] 3, bx w43.heap.size [.int .i64 (effI (insAt c.ins a).code).1, .int .i64 (effI (insAt c.ins a).code).2.1] 195, bx uz.heap.size (insAt c.ins a).cells 52, bx w0.heap.size (c.cells qc) 46, bx u2.heap.size effRows.flatten 196] w24.heap.size w1.heap.size w2.heap.size w25.heap.size out s' 0 ds zs) := ((hs.front 2 rfl).keepAt 8 rfl |>.to1.keepAt 7 rfl).keepAt 6 rfl
  have hD : badDepth (insAt c.ins a) (g ds a) = false → 0 ≤ newDepth (insAt c.ins a) (g ds a) ∧ newDepth (insAt c.ins a) (g ds a) ≤ 25 := newDepth_ok
  intro kb2 hkb2
  have k2E : ∀ (u : World) (e : Int), Sep u (Can w [bx w45.drew.heap.size [.int .i64 (newDepth (insAt c.ins a) (g ds a))] 3, bx w43.heap.size [.int .i64 (effI (insAt c.ins a).code).1, .int .i64 (effI (insAt c.ins a).code).2.1] 195, bx uz.heap.size (insAt c.ins a).cells 52, bx w0.heap.size (c.cells qc) 46, bx u2.heap.size effRows.flatten 196] w24.heap.size w1.heap.size w2.heap.size w25.heap.size out s' e ds zs) → e ≠ 0 → threadF m c = ([], e) → kb2 u := by
    intro v e hs he hR
    refine hkb2 v ⟨_, (hs.blkAt 4 rfl).ld' rfl, ?_⟩
    rw [if_pos (by simpa using he)]
    exact kbE v _ out s' e ds zs hs he hR
  have k2O : ∀ (u : World), Sep u (Can w [bx w45.drew.heap.size [.int .i64 (newDepth (insAt c.ins a) (g ds a))] 3, bx w43.heap.size [.int .i64 (effI (insAt c.ins a).code).1, .int .i64 (effI (insAt c.ins a).code).2.1] 195, bx uz.heap.size (insAt c.ins a).cells 52, bx w0.heap.size (c.cells qc) 46, bx u2.heap.size effRows.flatten 196] w24.heap.size w1.heap.size w2.heap.size w25.heap.size out s' 0 ds zs) → badDepth (insAt c.ins a) (g ds a) = false → badMark (insAt c.ins a) (g ds a) = false → kb2 u := by
    intro v hs hbd hbm
    obtain ⟨hb0, hb25⟩ := hD hbd
    have hab : -1000000000 ≤ (a : Int) ∧ (a : Int) ≤ 1000000000 := by omega
    refine hkb2 v ⟨_, (hs.blkAt 4 rfl).ld' rfl, ?_⟩
    rw [if_neg (by decide)]
    refine ⟨_, _, _, _, (hs.persBlk 6 rfl 2 rfl).lds, C96 (i := insAt c.ins a) (n := a) hab fun v1 bj bi bg ba he hb => ⟨_, rfl, ?_⟩⟩
    replace hs : Sep v1 (Can w [behA bj bi bg ba (insAt c.ins a) a, bx w45.drew.heap.size [.int .i64 (newDepth (insAt c.ins a) (g ds a))] 3, bx w43.heap.size [.int .i64 (effI (insAt c.ins a).code).1, .int .i64 (effI (insAt c.ins a).code).2.1] 195, bx uz.heap.size (insAt c.ins a).cells 52, bx w0.heap.size (c.cells qc) 46, bx u2.heap.size effRows.flatten 196] w24.heap.size w1.heap.size w2.heap.size w25.heap.size out s' 0 ds zs) := (Sep.add hs he hb).keepAt 6 rfl
    clear he hb
    intro l1 r1 hl1 hst1 hpn1 rule1
    have hs := (hs.newLoop r1).toEnd
    rw [← hl1] at hs
    generalize (v1.alloc (.deferred (some []))).alloc (.loop r1) = v2 at hs ⊢
    show XCP Tryz.prog 145 [.func (.yield l1) #[] #[], .pointer (some ⟨bj, 0, none⟩), .pointer (some ⟨bi, 0, none⟩), .pointer (some ⟨bg, 0, none⟩), .pointer (some ⟨ba, 0, none⟩)] v2 _ _
    refine XC.mono (K := fun _ u => (Sep u (Can w [behA bj bi bg ba (insAt c.ins a) a, bx w45.drew.heap.size [.int .i64 (newDepth (insAt c.ins a) (g ds a))] 3, bx w43.heap.size [.int .i64 (effI (insAt c.ins a).code).1, .int .i64 (effI (insAt c.ins a).code).2.1] 195, bx uz.heap.size (insAt c.ins a).cells 52, bx w0.heap.size (c.cells qc) 46, bx u2.heap.size effRows.flatten 196] w24.heap.size w1.heap.size w2.heap.size w25.heap.size out s' 0 ds zs ++ [loopA l1 r1]) ∧ ∀ n ∈ nexts (insAt c.ins a) a, n < c.ins.length) ∨
        (Sep u (Can w [behA bj bi bg ba (insAt c.ins a) a, bx w45.drew.heap.size [.int .i64 (newDepth (insAt c.ins a) (g ds a))] 3, bx w43.heap.size [.int .i64 (effI (insAt c.ins a).code).1, .int .i64 (effI (insAt c.ins a).code).2.1] 195, bx uz.heap.size (insAt c.ins a).cells 52, bx w0.heap.size (c.cells qc) 46, bx u2.heap.size effRows.flatten 196] w24.heap.size w1.heap.size w2.heap.size w25.heap.size out s' 172 ds zs ++ [loopA l1 { r1 with state := .done, pending := some (.exit 2) }]) ∧ ∃ n ∈ nexts (insAt c.ins a) a, n ≥ c.ins.length))
      (C145 (J := fun d u => Sep u (Can w [behA bj bi bg ba (insAt c.ins a) a, bx w45.drew.heap.size [.int .i64 (newDepth (insAt c.ins a) (g ds a))] 3, bx w43.heap.size [.int .i64 (effI (insAt c.ins a).code).1, .int .i64 (effI (insAt c.ins a).code).2.1] 195, bx uz.heap.size (insAt c.ins a).cells 52, bx w0.heap.size (c.cells qc) 46, bx u2.heap.size effRows.flatten 196] w24.heap.size w1.heap.size w2.heap.size w25.heap.size out s' 0 ds zs ++ [loopA l1 r1]) ∧ ∀ n ∈ d, n < c.ins.length)
        (R := fun u => Sep u (Can w [behA bj bi bg ba (insAt c.ins a) a, bx w45.drew.heap.size [.int .i64 (newDepth (insAt c.ins a) (g ds a))] 3, bx w43.heap.size [.int .i64 (effI (insAt c.ins a).code).1, .int .i64 (effI (insAt c.ins a).code).2.1] 195, bx uz.heap.size (insAt c.ins a).cells 52, bx w0.heap.size (c.cells qc) 46, bx u2.heap.size effRows.flatten 196] w24.heap.size w1.heap.size w2.heap.size w25.heap.size out s' 172 ds zs ++ [loopA l1 { r1 with state := .done, pending := some (.exit 2) }]) ∧ ∃ n ∈ nexts (insAt c.ins a) a, n ≥ c.ins.length)
        hab (fun d u hJ => hJ.1.persAt' 6 rfl 0 rfl) ?hy ⟨hs, by simp⟩ (fun u hu => .inl hu) fun u hu => .inr hu) ?post
    case hy =>
      intro d t rest hd v3 ⟨hs, hall⟩ K1 hk1 hk2
      refine rule1 t v3 K1 (hs.loopAt 8 rfl) ⟨hs.loopAt 8 rfl, ?_⟩
      replace hs := hs.setLoopAt 8 rfl { r1 with state := .busy }
      generalize setLoop v3 l1 { r1 with state := .busy } = v4 at hs ⊢
      refine ⟨_, _, _, (hs.persBlk 6 rfl 4 rfl).ld rfl, ?_⟩
      rw [l5]
      by_cases ht : t ≥ c.ins.length
      · rw [if_pos (by simpa using ht)]
        refine hs.putAt 4 rfl (o := 0) Nat.zero_lt_one fun v5 _ hs => ⟨hs.loopAt 8 rfl, hk2 _ ⟨hs.setLoopAt 8 rfl _, t, by rw [hd]; simp, ht⟩⟩
      · rw [if_neg (by simpa using ht)]
        refine ⟨hs.loopAt 8 rfl, hk1 _ ⟨hs.setLoopAt 8 rfl r1, fun n hn => ?_⟩⟩
        rcases List.mem_append.1 hn with h | h
        · exact hall n h
        · simp at h; omega
    case post =>
      rintro _ v3 (⟨hs, hall⟩ | ⟨hs, n, hn, hge⟩)
      · left
        have hr1 : ({ r1 with state := .ready, pending := none } : Loop) = r1 := by rw [← hst1, ← hpn1]
        refine ⟨.ready, by rw [hr1]; exact hs.loopAt 8 rfl, by decide, ?_⟩
        replace hs := hs.setLoopAt 8 rfl { r1 with state := .exhausted, pending := none }
        generalize setLoop v3 l1 { r1 with state := .exhausted, pending := none } = v4 at hs ⊢
        replace hs : Sep v4 (Can w [bx w45.drew.heap.size [.int .i64 (newDepth (insAt c.ins a) (g ds a))] 3, bx w43.heap.size [.int .i64 (effI (insAt c.ins a).code).1, .int .i64 (effI (insAt c.ins a).code).2.1] 195, bx uz.heap.size (insAt c.ins a).cells 52, bx w0.heap.size (c.cells qc) 46, bx u2.heap.size effRows.flatten 196] w24.heap.size w1.heap.size w2.heap.size w25.heap.size out s' 0 ds zs) := (hs.dropAt 8 rfl).forgetAt 6 rfl (fun i A hA => ⟨i + 1, hA⟩)
        clear rule1 hl1 hst1 hpn1 hr1
        have hrout : runsOut c.ins (insAt c.ins a) a = false := by
          unfold runsOut
          rw [List.any_eq_false]
          intro n hn; have := hall n hn; simp; omega
        have hone : oneF c.ins a (g ds a) = (newDepth (insAt c.ins a) (g ds a), 0) := by
          unfold oneF; rw [hbd, hbm, hrout]; rfl
        refine ⟨_, _, _, _, (hs.persBlk 6 rfl 2 rfl).lds, C96 (i := insAt c.ins a) (n := a) hab fun v5 bj bi bg ba he hb => ⟨_, rfl, ?_⟩⟩
        replace hs : Sep v5 (Can w [behA bj bi bg ba (insAt c.ins a) a, bx w45.drew.heap.size [.int .i64 (newDepth (insAt c.ins a) (g ds a))] 3, bx w43.heap.size [.int .i64 (effI (insAt c.ins a).code).1, .int .i64 (effI (insAt c.ins a).code).2.1] 195, bx uz.heap.size (insAt c.ins a).cells 52, bx w0.heap.size (c.cells qc) 46, bx u2.heap.size effRows.flatten 196] w24.heap.size w1.heap.size w2.heap.size w25.heap.size out s' 0 ds zs) := (Sep.add hs he hb).keepAt 6 rfl
        clear he hb
        intro l2 r2 hl2 hst2 hpn2 rule2
        have hs := (hs.newLoop r2).toEnd
        rw [← hl2] at hs
        generalize (v5.alloc (.deferred (some []))).alloc (.loop r2) = v6 at hs ⊢
        have hTI1 : TI c.ins.length ds (dn.set a true) := hTI.mark ha hga
        show XCP Tryz.prog 145 [.func (.yield l2) #[] #[], .pointer (some ⟨bj, 0, none⟩), .pointer (some ⟨bi, 0, none⟩), .pointer (some ⟨bg, 0, none⟩), .pointer (some ⟨ba, 0, none⟩)] v6 _ _
        refine XC.mono (K := fun _ u => (∃ ds' ys' t', Sep u (Can w [behA bj bi bg ba (insAt c.ins a) a, bx w45.drew.heap.size [.int .i64 (newDepth (insAt c.ins a) (g ds a))] 3, bx w43.heap.size [.int .i64 (effI (insAt c.ins a).code).1, .int .i64 (effI (insAt c.ins a).code).2.1] 195, bx uz.heap.size (insAt c.ins a).cells 52, bx w0.heap.size (c.cells qc) 46, bx u2.heap.size effRows.flatten 196] w24.heap.size w1.heap.size w2.heap.size w25.heap.size out t' 0 ds' ys' ++ [loopA l2 r2]) ∧ spreadF (newDepth (insAt c.ins a) (g ds a)) (nexts (insAt c.ins a) a) ds = some ds' ∧ TI c.ins.length ds' (dn.set a true) ∧ Pend c.ins.length ds' (dn.set a true) ys' ∧ Ok ys' ys'.length) ∨
            (∃ ds' ys' t', Sep u (Can w [behA bj bi bg ba (insAt c.ins a) a, bx w45.drew.heap.size [.int .i64 (newDepth (insAt c.ins a) (g ds a))] 3, bx w43.heap.size [.int .i64 (effI (insAt c.ins a).code).1, .int .i64 (effI (insAt c.ins a).code).2.1] 195, bx uz.heap.size (insAt c.ins a).cells 52, bx w0.heap.size (c.cells qc) 46, bx u2.heap.size effRows.flatten 196] w24.heap.size w1.heap.size w2.heap.size w25.heap.size out t' 174 ds' ys' ++ [loopA l2 { r2 with state := .done, pending := some (.exit 2) }]) ∧ spreadF (newDepth (insAt c.ins a) (g ds a)) (nexts (insAt c.ins a) a) ds = none))
          (C145 (J := fun d u => ∃ ds' ys' t', Sep u (Can w [behA bj bi bg ba (insAt c.ins a) a, bx w45.drew.heap.size [.int .i64 (newDepth (insAt c.ins a) (g ds a))] 3, bx w43.heap.size [.int .i64 (effI (insAt c.ins a).code).1, .int .i64 (effI (insAt c.ins a).code).2.1] 195, bx uz.heap.size (insAt c.ins a).cells 52, bx w0.heap.size (c.cells qc) 46, bx u2.heap.size effRows.flatten 196] w24.heap.size w1.heap.size w2.heap.size w25.heap.size out t' 0 ds' ys' ++ [loopA l2 r2]) ∧ spreadF (newDepth (insAt c.ins a) (g ds a)) d ds = some ds' ∧ TI c.ins.length ds' (dn.set a true) ∧ Pend c.ins.length ds' (dn.set a true) ys' ∧ Ok ys' ys'.length)
            (R := fun u => ∃ ds' ys' t', Sep u (Can w [behA bj bi bg ba (insAt c.ins a) a, bx w45.drew.heap.size [.int .i64 (newDepth (insAt c.ins a) (g ds a))] 3, bx w43.heap.size [.int .i64 (effI (insAt c.ins a).code).1, .int .i64 (effI (insAt c.ins a).code).2.1] 195, bx uz.heap.size (insAt c.ins a).cells 52, bx w0.heap.size (c.cells qc) 46, bx u2.heap.size effRows.flatten 196] w24.heap.size w1.heap.size w2.heap.size w25.heap.size out t' 174 ds' ys' ++ [loopA l2 { r2 with state := .done, pending := some (.exit 2) }]) ∧ spreadF (newDepth (insAt c.ins a) (g ds a)) (nexts (insAt c.ins a) a) ds = none)
            hab (fun d u hJ => by obtain ⟨ds', ys', t', hs, _⟩ := hJ; exact hs.persAt' 6 rfl 0 rfl) ?hy ⟨_, _, _, hs, rfl, hTI1, hPe', hOk'⟩ (fun u hu => .inl hu) fun u hu => .inr hu) ?post
        case hy =>
          intro d t rest hd v7 ⟨ds', ys', t', hs, hsp, hTI', hPe1, hOk1⟩ K1 hk1 hk2
          have htm : t ∈ nexts (insAt c.ins a) a := by rw [hd]; simp
          have ht0 : 0 ≤ t := nexts_ok hI (by omega) htm
          have htn : t < c.ins.length := hall t htm
          have htd : t.toNat < ds'.length := by rw [hTI'.lds]; omega
          have hyl1 := hPe1.len
          refine rule2 t v7 K1 (hs.loopAt 8 rfl) ⟨hs.loopAt 8 rfl, ?_⟩
          replace hs := hs.setLoopAt 8 rfl { r2 with state := .busy }
          generalize setLoop v7 l2 { r2 with state := .busy } = v8 at hs ⊢
          replace hs : Sep v8 (Can w [behA bj bi bg ba (insAt c.ins a) a, bx w45.drew.heap.size [.int .i64 (newDepth (insAt c.ins a) (g ds a))] 3, bx w43.heap.size [.int .i64 (effI (insAt c.ins a).code).1, .int .i64 (effI (insAt c.ins a).code).2.1] 195, bx uz.heap.size (insAt c.ins a).cells 52, bx w0.heap.size (c.cells qc) 46, bx u2.heap.size effRows.flatten 196] w24.heap.size w1.heap.size w2.heap.size w25.heap.size out t' 0 ds' ys' ++ [loopA l2 { r2 with state := .busy }]) := hs
          refine ⟨_, _, _, (hs.blkAt 2 rfl).ld' rfl, ?_⟩
          obtain ⟨pt, hpt, hct⟩ := hs.rowCellAt 3 rfl (ints_g htd)
          rw [hpout] at hpt; cases hpt
          rw [hpout, xptr_some]
          refine ⟨ht0, by omega, g ds' t.toNat, by rw [Nat.mul_one]; exact hct, ?_⟩
          intro kb3 hkb3
          have hk3 : ∀ (u : World) (ds'' ys'' : List Int) (t'' : Sl), Sep u (Can w [behA bj bi bg ba (insAt c.ins a) a, bx w45.drew.heap.size [.int .i64 (newDepth (insAt c.ins a) (g ds a))] 3, bx w43.heap.size [.int .i64 (effI (insAt c.ins a).code).1, .int .i64 (effI (insAt c.ins a).code).2.1] 195, bx uz.heap.size (insAt c.ins a).cells 52, bx w0.heap.size (c.cells qc) 46, bx u2.heap.size effRows.flatten 196] w24.heap.size w1.heap.size w2.heap.size w25.heap.size out t'' 0 ds'' ys'' ++ [loopA l2 { r2 with state := .busy }]) → spreadF (newDepth (insAt c.ins a) (g ds a)) (d ++ [t]) ds = some ds'' →
              TI c.ins.length ds'' (dn.set a true) → Pend c.ins.length ds'' (dn.set a true) ys'' → Ok ys'' ys''.length → kb3 u := by
            intro u ds'' ys'' t'' hs q1 q2 q3 q4
            exact hkb3 u ⟨hs.loopAt 8 rfl, hk1 _ ⟨ds'', ys'', t'', hs.setLoopAt 8 rfl r2, q1, q2, q3, q4⟩⟩
          clear hkb3
          have hsp1 : spreadF (newDepth (insAt c.ins a) (g ds a)) (d ++ [t]) ds = spreadF (newDepth (insAt c.ins a) (g ds a)) [t] ds' := by rw [spread_app, hsp]; rfl
          refine ⟨_, (hs.persBlk 6 rfl 1 rfl).ld' rfl, ?_⟩
          by_cases hsame : g ds' t.toNat = newDepth (insAt c.ins a) (g ds a)
          · rw [if_pos (by simpa using hsame)]
            obtain ⟨e1, e2⟩ := clash_same htd hsame
            exact hk3 v8 ds' ys' t' hs (by rw [hsp1, spreadF, if_neg (by rw [e1]; decide), e2]; rfl) hTI' hPe1 hOk1
          rw [if_neg (by simpa using hsame)]
          by_cases hnew : g ds' t.toNat = -1
          · rw [if_pos (by simpa using hnew)]
            refine ⟨_, _, _, (hs.blkAt 2 rfl).ld' rfl, _, (hs.persBlk 6 rfl 1 rfl).ld' rfl, ?_⟩
            rw [hpout, xptr_some]
            refine ⟨ht0, by omega, ?_⟩
            rw [Nat.mul_one]
            refine hs.rowPutAt 3 rfl (j := t.toNat) (by simpa using htd) hpout fun v9 _ hs => ?_
            rw [← ints_set] at hs
            refine ⟨_, (hs.blkAt 5 rfl).ld' rfl, mkI82 ⟨_, rfl, mkI3 ⟨_, rfl, ?_⟩⟩⟩
            refine C97 (pb := w24.heap.size) (s := t') (xs := ys') (L := [bx w1.heap.size [out.v] 23, row 1 3 out (ints (ds'.set t.toNat (newDepth (insAt c.ins a) (g ds a)))), bx w2.heap.size [.int .i64 0] 57, bx w25.heap.size [.pointer (some ⟨w24.heap.size, 0, none⟩)] 200, pers [behA bj bi bg ba (insAt c.ins a) a, bx w45.drew.heap.size [.int .i64 (newDepth (insAt c.ins a) (g ds a))] 3, bx w43.heap.size [.int .i64 (effI (insAt c.ins a).code).1, .int .i64 (effI (insAt c.ins a).code).2.1] 195, bx uz.heap.size (insAt c.ins a).cells 52, bx w0.heap.size (c.cells qc) 46, bx u2.heap.size effRows.flatten 196], oldA w, loopA l2 { r2 with state := .busy }]) hs (by omega) hOk1 fun v10 t'' ys'' hs hperm hOk'' => ⟨rfl, ?_⟩
            refine hk3 v10 _ ys'' t'' hs (by rw [hsp1, spreadF, if_neg (by rw [clash_new hnew]; decide)]; rfl) (hTI'.set (by omega) hb0 hb25) ((hPe1.push hTI' ht0 (by omega) hnew hb0).perm hperm) hOk''
          · rw [if_neg (by simpa using hnew)]
            refine hs.putAt 4 rfl (o := 0) Nat.zero_lt_one fun v9 _ hs => ⟨hs.loopAt 8 rfl, hk2 _ ⟨ds', ys', t', hs.setLoopAt 8 rfl _, ?_⟩⟩
            rw [hd, show d ++ t :: rest = (d ++ [t]) ++ rest from by simp, spread_app, hsp1, spreadF, if_pos (clash_else hTI' (by omega) hnew hsame)]; rfl
        case post =>
          rintro _ v7 (⟨ds', ys', t', hs, hsp, hTI', hPe1, hOk1⟩ | ⟨ds', ys', t', hs, hsp⟩)
          · left
            have hr2 : ({ r2 with state := .ready, pending := none } : Loop) = r2 := by rw [← hst2, ← hpn2]
            refine ⟨.ready, by rw [hr2]; exact hs.loopAt 8 rfl, by decide, ?_⟩
            replace hs := hs.setLoopAt 8 rfl { r2 with state := .exhausted, pending := none }
            generalize setLoop v7 l2 { r2 with state := .exhausted, pending := none } = v8 at hs ⊢
            refine next v8 (undone (dn.set a true)) ⟨ds', dn.set a true, ys', out, t', (hs.dropAt 8 rfl).forgetAt 6 rfl (fun i A hA => ⟨i + 4, hA⟩), hTI', hPe1, hOk1, rfl, ?_⟩ ?_
            · rw [← hrun]
              refine (runF_step hleast (by rw [hTI.ldn]; exact ha) hda (by rw [hone]) ?_).symm
              rw [hone]; exact hsp
            · have := undone_mark (dn := dn) (a := a) (by rw [hTI.ldn]; exact ha) hda; omega
          · right; right; left
            refine ⟨.done, hs.loopAt 8 rfl, by decide, ?_⟩
            replace hs := hs.setLoopAt 8 rfl { r2 with state := .exhausted, pending := some (.exit 2) }
            generalize setLoop v7 l2 { r2 with state := .exhausted, pending := some (.exit 2) } = v8 at hs ⊢
            refine kbE v8 _ out t' 174 ds' ys' (hs.dropAt 8 rfl) (by decide) ?_
            rw [← hrun]
            exact runF_clash hleast (by rw [hone]) (by rw [hone]; exact hsp)
      · right; right; left
        refine ⟨.done, hs.loopAt 8 rfl, by decide, ?_⟩
        replace hs := hs.setLoopAt 8 rfl { r1 with state := .exhausted, pending := some (.exit 2) }
        generalize setLoop v3 l1 { r1 with state := .exhausted, pending := some (.exit 2) } = v4 at hs ⊢
        refine kbE v4 _ out s' 172 ds zs (hs.dropAt 8 rfl) (by decide) ?_
        have hrout : runsOut c.ins (insAt c.ins a) a = true := by
          unfold runsOut
          rw [List.any_eq_true]
          exact ⟨n, hn, by simpa using hge⟩
        have hone : oneF c.ins a (g ds a) = (0, 172) := by
          unfold oneF; rw [hbd, hbm, hrout]; rfl
        rw [← hrun, runF_err hleast (by rw [hone]; decide), hone]
  clear hkb2 next kbO
  intro kb4 hkb4
  have go4 : ∀ u, Sep u (Can w [bx w45.drew.heap.size [.int .i64 (newDepth (insAt c.ins a) (g ds a))] 3, bx w43.heap.size [.int .i64 (effI (insAt c.ins a).code).1, .int .i64 (effI (insAt c.ins a).code).2.1] 195, bx uz.heap.size (insAt c.ins a).cells 52, bx w0.heap.size (c.cells qc) 46, bx u2.heap.size effRows.flatten 196] w24.heap.size w1.heap.size w2.heap.size w25.heap.size out s' 0 ds zs) → kb4 (badDepth (insAt c.ins a) (g ds a)) u := by
    intro v hs
    refine hkb4 _ _ ?_
    cases hbd : badDepth (insAt c.ins a) (g ds a) with
    | true =>
      rw [if_pos rfl]
      refine hs.putAt 4 rfl (o := 0) Nat.zero_lt_one fun v1 _ hs => k2E v1 173 hs (by decide) ?_
      have hone : oneF c.ins a (g ds a) = (0, 173) := by unfold oneF; rw [hbd]; rfl
      rw [← hrun, runF_err hleast (by rw [hone]; decide), hone]
    | false =>
      rw [if_neg (by decide)]
      refine ⟨_, (hs.persBlk 6 rfl 2 rfl).ld rfl, ?_⟩
      intro kb5 hkb5
      have go5 : kb5 ((insAt c.ins a).code == 23 || (insAt c.ins a).code == 34) v := by
        refine hkb5 _ _ ?_
        intro kb6 hkb6
        have go6 : kb6 (badMark (insAt c.ins a) (g ds a)) v := by
          refine hkb6 _ _ ?_
          cases hbm : badMark (insAt c.ins a) (g ds a) with
          | true =>
            rw [if_pos rfl]
            refine hs.putAt 4 rfl (o := 0) Nat.zero_lt_one fun v1 _ hs => k2E v1 175 hs (by decide) ?_
            have hone : oneF c.ins a (g ds a) = (0, 175) := by unfold oneF; rw [hbd, hbm]; rfl
            rw [← hrun, runF_err hleast (by rw [hone]; decide), hone]
          | false =>
            rw [if_neg (by decide)]
            exact k2O v hs hbd hbm
        clear hkb6
        unfold badMark at go6
        cases hm : ((insAt c.ins a).code == 23 || (insAt c.ins a).code == 34) with
        | true =>
          rw [hm] at go6
          rw [if_pos rfl]
          refine ⟨_, _, _, (hs.blkAt 2 rfl).ld' rfl, ?_⟩
          obtain ⟨pt, hpt, hct⟩ := hs.rowCellAt 3 rfl (ints_g hdl)
          rw [hpout] at hpt; cases hpt
          rw [hpout, xptr_some]
          exact ⟨by omega, by omega, g ds a, by simpa using hct, go6⟩
        | false =>
          rw [hm] at go6
          rw [if_neg (by decide)]
          exact go6
      clear hkb5
      cases h23 : ((insAt c.ins a).code == 23) with
      | true => rw [h23] at go5; rw [if_pos rfl]; exact go5
      | false => rw [h23] at go5; rw [if_neg (by decide)]; exact ⟨_, (hs.persBlk 6 rfl 2 rfl).ld rfl, go5⟩
  refine ⟨fun x => Sep x (Can w [bx w45.drew.heap.size [.int .i64 (newDepth (insAt c.ins a) (g ds a))] 3, bx w43.heap.size [.int .i64 (effI (insAt c.ins a).code).1, .int .i64 (effI (insAt c.ins a).code).2.1] 195, bx uz.heap.size (insAt c.ins a).cells 52, bx w0.heap.size (c.cells qc) 46, bx u2.heap.size effRows.flatten 196] w24.heap.size w1.heap.size w2.heap.size w25.heap.size out s' 0 ds zs), hs.drew, _, _, _, fun x hx => (Sep.blkAt hx 2 rfl).ld' rfl, ?_⟩
  rw [hpout, xptr_some]
  refine ⟨by omega, by omega, g ds a, fun x hx => ?_, _, fun x hx => (Sep.persBlk hx 6 rfl 1 rfl).ld rfl, ?_⟩
  · obtain ⟨p', hp', hc'⟩ := Sep.rowCellAt hx 3 rfl (ints_g hdl)
    rw [hpout] at hp'; cases hp'; simpa using hc'
  have go4 := go4 _ hs.drew
  unfold badDepth at go4
  cases hx : decide (g ds a < (effI (insAt c.ins a).code).1) with
  | true => rw [hx] at go4; rw [if_pos rfl]; exact go4
  | false => rw [hx] at go4; rw [if_neg (by decide)]; exact ⟨_, fun x hx => (Sep.persBlk hx 6 rfl 0 rfl).ld' rfl, go4⟩
end
end Go.Proofs.YtahcpjgaogghiaaGreat
