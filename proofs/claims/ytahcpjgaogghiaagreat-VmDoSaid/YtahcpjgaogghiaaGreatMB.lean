/- The vm seat: which frames may be. -/
import Derived.Test.YtahcpjgaogghiaaGreatMA
import Derived.Test.YtahcpjgaogghiaaGreatV24
/- The vm seat: which frames may be. -/
set_option linter.unusedVariables false
set_option linter.unusedSimpArgs false
set_option maxRecDepth 10000
set_option maxHeartbeats 4000000
namespace Go.Proofs.YtahcpjgaogghiaaGreat
open Go.X Go.Heap
def mayD (d : List Int × Int) (f : Frm) (less : Int) : Bool := if (d.2 == 0) = true then (if decide (g d.1 f.pc.toNat ≥ 0) = true then g d.1 f.pc.toNat == f.stack.length + less else false) else false
def badC (c : Cod) (f : Frm) : Bool := (((decide (f.pc < 0) || decide (f.pc ≥ c.ins.length)) || ((f.locals.length : Int) != c.locals)) || !valsB f.locals) || !valsB f.stack
def badM (m : Mdl) (f : Frm) : Bool := ((checkF m != 0) || decide (f.code < 0)) || decide (f.code ≥ m.threads.length)
def mayF (m : Mdl) (f : Frm) (less : Int) : Bool :=
  if badM m f = true then false else if badC (m.threads.getD f.code.toNat noCod) f = true then false else mayD (threadF m (m.threads.getD f.code.toNat noCod)) f less
theorem check_ok {m : Mdl} (h : checkF m = 0) : mdlOk m = true ∧ ∀ c ∈ m.threads, (threadF m c).2 = 0 := by
  unfold checkF at h
  split at h
  · rename_i hok
    refine ⟨hok, ?_⟩
    have key : ∀ l : List Int, firstErr l = 0 → ∀ e ∈ l, e = 0 := by
      intro l
      induction l with
      | nil => intro _ e he; cases he
      | cons x r ih =>
        intro hf e he
        unfold firstErr at hf
        split at hf
        · rename_i hx; exact absurd hf hx
        · rename_i hx
          have hx : x = 0 := by omega
          rcases List.mem_cons.1 he with rfl | he
          · exact hx
          · exact ih hf e he
    intro c hc
    exact key _ h _ (List.mem_map.2 ⟨c, hc, rfl⟩)
  · cases h
theorem thread_len {m : Mdl} {c : Cod} (hok : ∀ x ∈ c.ins, insOk x = true) (hz : (threadF m c).2 = 0) : (threadF m c).1.length = c.ins.length := by
  unfold threadF at hz ⊢
  by_cases h0 : c.ins.length = 0
  · rw [if_pos h0] at hz; cases hz
  rw [if_neg h0] at hz ⊢
  by_cases hs : (c.ins.all (slotsB m c)) = false
  · rw [if_pos hs] at hz; cases hz
  rw [if_neg hs] at hz ⊢
  exact (runF_good hok _ _ _ (TI.first c.ins.length) (fun a ha hd => by simp [List.getD_eq_getElem?_getD, List.getElem?_replicate, ha] at hd) (Nat.lt_succ_self _) hz).1
theorem g_at {ds : List Int} {k : Nat} (h : k < ds.length) : g ds k = ds[k] := by
  simp [g, List.getD_eq_getElem?_getD, List.getElem?_eq_getElem h]
section
variable {w : World} {K : Value → World → Prop} {KP : List PanicEntry → World → Prop}
theorem C35 {m : Mdl} {q : MdlH} {f : Frm} {qf : FrmH} {less : Int} {G G' : Nat → Prop} (hq : MdlP w G q m) (hf : FrmP w G' qf f) (hsm : mdlOk m = true → Small m) (hb1 : f.locals.length ≤ 1000000) (hb2 : f.stack.length ≤ 1000000) (hl : 0 ≤ less ∧ less ≤ 10)
    (h : ∀ u, Ex w u → K (.bool (mayF m f less)) u) : XCP Tryz.prog 35 [m.v q, f.v qf, .int .i64 less] w K KP := by
  show XCP Tryz.prog 35 [.agg #[.slice q.sv.a q.sv.l q.sv.c, .slice q.sa.a q.sa.l q.sa.c, .slice q.sc.a q.sc.l q.sc.c, .int .i64 m.mutexes, .int .i64 m.conds, .slice q.st.a q.st.l q.st.c], .agg #[.int .i64 f.code, .int .i64 f.pc, .slice qf.sl.a qf.sl.l qf.sl.c, .slice qf.ss.a qf.ss.l qf.ss.c], .int .i64 less] w K KP
  refine E35 ?_
  unfold F35
  intro w0 p w1 p1
  have hs : Sep w1 (bx w0.heap.size (f.cells qf) 28 :: bx w.heap.size (m.cells q) 26 :: [oldA w]) := ((Sep.begin w).box _ _).box _ _
  have hF : Blk w1 w0.heap.size (f.cells qf) 28 := hs.bx0
  have hM : Blk w1 w.heap.size (m.cells q) 26 := hs.bx1
  have e1 : Ex w w1 := hs.ex 2 rfl
  clear hs
  clear_value w1
  refine ⟨_, _, _, _, _, _, _, _, _, _, _, _, _, _, hM.lds, C32 (hq.ex e1) hsm fun u2 e2 => ⟨_, rfl, ?_⟩⟩
  refine or_join (c := decide (f.code < 0)) (fun kb hk => ⟨_, (e2.blk hF).ld rfl, hk _ (Ex.refl _)⟩) fun u3 e3 => ?_
  replace e3 := e2.trans e3
  have lt := hq.t.len
  refine or_join (c := decide (f.code ≥ m.threads.length)) (fun kb hk => ⟨_, (e3.blk hF).ld rfl, _, _, _, (e3.blk hM).ld rfl, by rw [lt]; exact hk _ (Ex.refl _)⟩) fun u4 e4 => ?_
  replace e4 := e3.trans e4
  show if badM m f = true then _ else _
  unfold mayF at h
  by_cases hbm : badM m f = true
  · rw [if_pos hbm] at h ⊢
    exact h u4 (e1.trans e4)
  rw [if_neg hbm] at h ⊢
  unfold badM at hbm
  simp only [Bool.or_eq_true, bne_iff_ne, ne_eq, decide_eq_true_eq, not_or, Decidable.not_not] at hbm
  obtain ⟨⟨hck, hc0⟩, hc1⟩ := hbm
  have hct : f.code.toNat < m.threads.length := by omega
  obtain ⟨hok, hth⟩ := check_ok hck
  obtain ⟨pt, row, hpt, ⟨qc, hrow, hqc⟩, hcells⟩ := (hq.t.old (e1.trans e4)).nth (List.getElem?_eq_getElem hct) (by decide)
  have hgd : m.threads.getD f.code.toNat noCod = m.threads[f.code.toNat] := by simp [List.getD_eq_getElem?_getD, List.getElem?_eq_getElem hct]
  rw [hgd] at h
  generalize hcd : m.threads[f.code.toNat] = c at *
  have hcm : c ∈ m.threads := by rw [← hcd]; exact List.getElem_mem _
  subst hrow
  refine ⟨_, _, _, (e4.blk hM).ld rfl, _, (e4.blk hF).ld rfl, ?_⟩
  rw [hpt, xptr_some]
  refine ⟨by omega, by omega, _, _, _, _, _, _, _, _, hcells, ?_⟩
  intro w5 p3
  have hs5 : Sep w5 (bx u4.heap.size _ 46 :: [oldA u4]) := (Sep.begin u4).box _ _
  clear_value w5
  refine hs5.fill (vs := c.cells qc) rfl fun w6 _ hs6 => ?_
  have hC : Blk w6 u4.heap.size (c.cells qc) 46 := hs6.bx0
  have e6 : Ex w1 w6 := e4.trans (hs6.ex 1 rfl)
  have hqc6 := hqc.ex (hs6.ex 1 rfl)
  clear hs5 hs6 hcells
  have li := hqc6.1.len
  have ll := hf.l.len
  have ls := hf.s.len
  refine ⟨_, (e6.blk hF).ld rfl, ?_⟩
  refine or_join (c := decide (f.pc ≥ c.ins.length)) (fun kb hk => ⟨_, (e6.blk hF).ld rfl, _, _, _, hC.ld rfl, by rw [li]; exact hk _ (Ex.refl _)⟩) fun u7 e7 => ?_
  refine or_join (c := (f.locals.length : Int) != c.locals) (fun kb hk => ⟨_, _, _, ((e6.trans e7).blk hF).ld rfl, _, (e7.blk hC).ld rfl, by rw [ll]; exact hk _ (Ex.refl _)⟩) fun u8 e8 => ?_
  replace e8 := e7.trans e8
  refine or_join (c := !valsB f.locals) (fun kb hk => ⟨_, _, _, ((e6.trans e8).blk hF).ld rfl, C36 (hf.l.old (e1.trans (e6.trans e8))) (by omega) fun u hu => ⟨_, rfl, hk u hu⟩⟩) fun u9 e9 => ?_
  replace e9 := e8.trans e9
  refine or_join (c := !valsB f.stack) (fun kb hk => ⟨_, _, _, ((e6.trans e9).blk hF).ld rfl, C36 (hf.s.old (e1.trans (e6.trans e9))) (by omega) fun u hu => ⟨_, rfl, hk u hu⟩⟩) fun u10 e10 => ?_
  replace e10 := e9.trans e10
  show if badC c f = true then _ else _
  by_cases hbc : badC c f = true
  · rw [if_pos hbc] at h ⊢
    exact h u10 (e1.trans (e6.trans e10))
  rw [if_neg hbc] at h ⊢
  unfold badC at hbc
  simp only [Bool.or_eq_true, bne_iff_ne, ne_eq, decide_eq_true_eq, not_or, Decidable.not_not] at hbc
  have e610 := e6.trans e10
  refine ⟨_, _, _, _, _, _, _, _, _, _, _, _, _, _, (e610.blk hM).lds, _, (e610.blk hF).ld rfl, C57 (hq.ex (e1.trans e610)) hsm fun s u11 hnew => ⟨_, _, _, _, rfl, ?_⟩⟩
  have hdf : depthsF m f.code = threadF m c := by
    unfold depthsF
    rw [if_pos (by simp [hok]; omega), hgd]
  rw [hdf] at hnew ⊢
  obtain ⟨e11, hown⟩ := hnew
  have hds : ReadsI u11 T0 s (threadF m c).1 := (SlR.of_ints (t := 3) hown).mono fun _ _ _ => trivial
  have hz := hth c hcm
  have hlen := thread_len (mdl_ins hok hcm) hz
  have hpcn : f.pc.toNat < (threadF m c).1.length := by rw [hlen]; omega
  have hE := e1.trans (e610.trans e11)
  intro kb hk
  have hk : ∀ b, K (.bool b) u11.drew → kb b u11.drew := fun b => hk b _
  have hD : K (.bool (mayD (threadF m c) f less)) u11.drew := h _ (hE.trans (Ex.drew _))
  have lds := hds.len
  refine ⟨fun z => Ex u11 z, Ex.drew _, ?_⟩
  intro w13
  rw [hz, if_pos (by rfl)]
  obtain ⟨pd, hpd, hcell⟩ := SlR.atI hds hpcn
  refine ⟨_, fun z hz => ((e610.trans (e11.trans hz)).blk hF).ld rfl, ?_⟩
  rw [hpd, xptr_some]
  refine ⟨by omega, by omega, _, fun z hz => by simpa using hcell z hz, ?_⟩
  unfold mayD at hD
  rw [hz, if_pos (by rfl), g_at hpcn] at hD
  by_cases hg : decide ((threadF m c).1[f.pc.toNat] ≥ 0) = true
  · rw [if_pos hg] at hD ⊢
    refine ⟨_, fun z hz => ((e610.trans (e11.trans hz)).blk hF).ld rfl, ?_⟩
    rw [xptr_some]
    refine ⟨by omega, by omega, _, fun z hz => by simpa using hcell z hz, _, _, _, fun z hz => ((e610.trans (e11.trans hz)).blk hF).ld rfl, ?_⟩
    rw [ls, wi (by omega) (by omega)]
    exact hk _ hD
  · rw [if_neg hg] at hD ⊢
    exact hk _ hD
theorem C19 {m : Mdl} {q : MdlH} {f : Frm} {qf : FrmH} {less : Int} {G G' : Nat → Prop} (hq : MdlP w G q m) (hf : FrmP w G' qf f) (hsm : mdlOk m = true → Small m) (hb1 : f.locals.length ≤ 1000000) (hb2 : f.stack.length ≤ 1000000) (hl : 0 ≤ less ∧ less ≤ 10)
    (h : ∀ u, Ex w u → K (.bool (mayF m f less)) u) : XCP Tryz.prog 19 [m.v q, f.v qf, .int .i64 less] w K KP := by
  show XCP Tryz.prog 19 [.agg #[.slice q.sv.a q.sv.l q.sv.c, .slice q.sa.a q.sa.l q.sa.c, .slice q.sc.a q.sc.l q.sc.c, .int .i64 m.mutexes, .int .i64 m.conds, .slice q.st.a q.st.l q.st.c], .agg #[.int .i64 f.code, .int .i64 f.pc, .slice qf.sl.a qf.sl.l qf.sl.c, .slice qf.ss.a qf.ss.l qf.ss.c], .int .i64 less] w K KP
  refine E19 ?_
  unfold F19
  intro w0 p w1 p1
  have hs : Sep w1 (bx w0.heap.size (f.cells qf) 28 :: bx w.heap.size (m.cells q) 26 :: [oldA w]) := ((Sep.begin w).box _ _).box _ _
  have hF : Blk w1 w0.heap.size (f.cells qf) 28 := hs.bx0
  have hM : Blk w1 w.heap.size (m.cells q) 26 := hs.bx1
  have e1 : Ex w w1 := hs.ex 2 rfl
  clear hs
  clear_value w1
  refine ⟨_, _, _, _, _, _, _, _, _, _, _, _, _, _, hM.lds, C34 (hq.ex e1) hsm fun u2 e2 => ⟨_, rfl, ?_⟩⟩
  refine or_join (c := decide (f.code < 0)) (fun kb hk => ⟨_, (e2.blk hF).ld rfl, hk _ (Ex.refl _)⟩) fun u3 e3 => ?_
  replace e3 := e2.trans e3
  have lt := hq.t.len
  refine or_join (c := decide (f.code ≥ m.threads.length)) (fun kb hk => ⟨_, (e3.blk hF).ld rfl, _, _, _, (e3.blk hM).ld rfl, by rw [lt]; exact hk _ (Ex.refl _)⟩) fun u4 e4 => ?_
  replace e4 := e3.trans e4
  show if badM m f = true then _ else _
  unfold mayF at h
  by_cases hbm : badM m f = true
  · rw [if_pos hbm] at h ⊢
    exact h u4 (e1.trans e4)
  rw [if_neg hbm] at h ⊢
  unfold badM at hbm
  simp only [Bool.or_eq_true, bne_iff_ne, ne_eq, decide_eq_true_eq, not_or, Decidable.not_not] at hbm
  obtain ⟨⟨hck, hc0⟩, hc1⟩ := hbm
  have hct : f.code.toNat < m.threads.length := by omega
  obtain ⟨hok, hth⟩ := check_ok hck
  obtain ⟨pt, row, hpt, ⟨qc, hrow, hqc⟩, hcells⟩ := (hq.t.old (e1.trans e4)).nth (List.getElem?_eq_getElem hct) (by decide)
  have hgd : m.threads.getD f.code.toNat noCod = m.threads[f.code.toNat] := by simp [List.getD_eq_getElem?_getD, List.getElem?_eq_getElem hct]
  rw [hgd] at h
  generalize hcd : m.threads[f.code.toNat] = c at *
  have hcm : c ∈ m.threads := by rw [← hcd]; exact List.getElem_mem _
  subst hrow
  refine ⟨_, _, _, (e4.blk hM).ld rfl, _, (e4.blk hF).ld rfl, ?_⟩
  rw [hpt, xptr_some]
  refine ⟨by omega, by omega, _, _, _, _, _, _, _, _, hcells, ?_⟩
  intro w5 p3
  have hs5 : Sep w5 (bx u4.heap.size _ 46 :: [oldA u4]) := (Sep.begin u4).box _ _
  clear_value w5
  refine hs5.fill (vs := c.cells qc) rfl fun w6 _ hs6 => ?_
  have hC : Blk w6 u4.heap.size (c.cells qc) 46 := hs6.bx0
  have e6 : Ex w1 w6 := e4.trans (hs6.ex 1 rfl)
  have hqc6 := hqc.ex (hs6.ex 1 rfl)
  clear hs5 hs6 hcells
  have li := hqc6.1.len
  have ll := hf.l.len
  have ls := hf.s.len
  refine ⟨_, (e6.blk hF).ld rfl, ?_⟩
  refine or_join (c := decide (f.pc ≥ c.ins.length)) (fun kb hk => ⟨_, (e6.blk hF).ld rfl, _, _, _, hC.ld rfl, by rw [li]; exact hk _ (Ex.refl _)⟩) fun u7 e7 => ?_
  refine or_join (c := (f.locals.length : Int) != c.locals) (fun kb hk => ⟨_, _, _, ((e6.trans e7).blk hF).ld rfl, _, (e7.blk hC).ld rfl, by rw [ll]; exact hk _ (Ex.refl _)⟩) fun u8 e8 => ?_
  replace e8 := e7.trans e8
  refine or_join (c := !valsB f.locals) (fun kb hk => ⟨_, _, _, ((e6.trans e8).blk hF).ld rfl, C12 (hf.l.old (e1.trans (e6.trans e8))) (by omega) fun u hu => ⟨_, rfl, hk u hu⟩⟩) fun u9 e9 => ?_
  replace e9 := e8.trans e9
  refine or_join (c := !valsB f.stack) (fun kb hk => ⟨_, _, _, ((e6.trans e9).blk hF).ld rfl, C12 (hf.s.old (e1.trans (e6.trans e9))) (by omega) fun u hu => ⟨_, rfl, hk u hu⟩⟩) fun u10 e10 => ?_
  replace e10 := e9.trans e10
  show if badC c f = true then _ else _
  by_cases hbc : badC c f = true
  · rw [if_pos hbc] at h ⊢
    exact h u10 (e1.trans (e6.trans e10))
  rw [if_neg hbc] at h ⊢
  unfold badC at hbc
  simp only [Bool.or_eq_true, bne_iff_ne, ne_eq, decide_eq_true_eq, not_or, Decidable.not_not] at hbc
  have e610 := e6.trans e10
  refine ⟨_, _, _, _, _, _, _, _, _, _, _, _, _, _, (e610.blk hM).lds, _, _, _, _, _, _, _, _, (e10.blk hC).lds, C15 (hq.ex (e1.trans e610)) (hqc6.ex e10) (hsm hok c hcm) (mdl_ins hok hcm) fun s u11 hnew => ⟨_, _, _, _, rfl, ?_⟩⟩
  obtain ⟨e11, hown⟩ := hnew
  have hds : ReadsI u11 T0 s (threadF m c).1 := (SlR.of_ints (t := 3) hown).mono fun _ _ _ => trivial
  have hz := hth c hcm
  have hlen := thread_len (mdl_ins hok hcm) hz
  have hpcn : f.pc.toNat < (threadF m c).1.length := by rw [hlen]; omega
  have hE := e1.trans (e610.trans e11)
  intro kb hk
  have hk : ∀ b, K (.bool b) u11.drew → kb b u11.drew := fun b => hk b _
  have hD : K (.bool (mayD (threadF m c) f less)) u11.drew := h _ (hE.trans (Ex.drew _))
  have lds := hds.len
  refine ⟨fun z => Ex u11 z, Ex.drew _, ?_⟩
  intro w13
  rw [hz, if_pos (by rfl)]
  obtain ⟨pd, hpd, hcell⟩ := SlR.atI hds hpcn
  refine ⟨_, fun z hz => ((e610.trans (e11.trans hz)).blk hF).ld rfl, ?_⟩
  rw [hpd, xptr_some]
  refine ⟨by omega, by omega, _, fun z hz => by simpa using hcell z hz, ?_⟩
  unfold mayD at hD
  rw [hz, if_pos (by rfl), g_at hpcn] at hD
  by_cases hg : decide ((threadF m c).1[f.pc.toNat] ≥ 0) = true
  · rw [if_pos hg] at hD ⊢
    refine ⟨_, fun z hz => ((e610.trans (e11.trans hz)).blk hF).ld rfl, ?_⟩
    rw [xptr_some]
    refine ⟨by omega, by omega, _, fun z hz => by simpa using hcell z hz, _, _, _, fun z hz => ((e610.trans (e11.trans hz)).blk hF).ld rfl, ?_⟩
    rw [ls, wi (by omega) (by omega)]
    exact hk _ hD
  · rw [if_neg hg] at hD ⊢
    exact hk _ hD
end
end Go.Proofs.YtahcpjgaogghiaaGreat
/- The vm seat: how many cells; frames copied; what is recovered. -/
set_option linter.unusedVariables false
set_option linter.unusedSimpArgs false
set_option maxRecDepth 10000
set_option maxHeartbeats 4000000
namespace Go.Proofs.YtahcpjgaogghiaaGreat
open Go.X Go.Heap
theorem Sep.joins {w u : World} {L M : List Assn} (h : Sep w L) (hM : Sep u (M ++ [oldA w])) : Sep u (M ++ L) := by
  have hold : (M ++ [oldA w])[M.length]? = some (oldA w) := by simp
  have hex : Ex w u := hM.ex M.length hold
  obtain ⟨gL, hL0, hL⟩ := h
  obtain ⟨gM, hM0, hM⟩ := hM
  have hsz := (hex (fun _ => False)).size
  refine ⟨fun b => if b < w.heap.size then (if gL b = 0 then 0 else gL b + M.length) else (if gM b ≤ M.length then gM b else 0), fun b hb => ?_, fun i A hA => ?_⟩
  · show (if b < w.heap.size then _ else _) = 0
    rw [if_neg (by omega), hM0 b hb]; simp
  · by_cases hi : i < M.length
    · rw [List.getElem?_append_left hi] at hA
      refine A.mono (hM i A (by rw [List.getElem?_append_left hi]; exact hA)) fun b hb hg => ?_
      have hg : gM b = i + 1 := hg
      show (if b < w.heap.size then _ else _) = i + 1
      by_cases hbw : b < w.heap.size
      · have e : gM b = M.length + 1 := ((hM M.length _ hold).2 b hbw).1
        omega
      · rw [if_neg hbw, if_pos (by omega)]; exact hg
    · rw [List.getElem?_append_right (by omega)] at hA
      have h1 := A.frame (hL _ A hA) (hex (fun _ => False)) (fun _ _ h => h)
      refine A.mono h1 fun b hb hg => ?_
      have hg : gL b = i - M.length + 1 := hg
      show (if b < w.heap.size then _ else _) = i + 1
      by_cases hbw : b < w.heap.size
      · rw [if_pos hbw, if_neg (by omega)]; omega
      · rw [hL0 b (by omega)] at hg; omega
section
variable {w : World} {K : Value → World → Prop} {KP : List PanicEntry → World → Prop}
theorem C33 {m : Mdl} {q : MdlH} {G : Nat → Prop} (hq : MdlP w G q m) (hvl : m.vars.length ≤ 64) (hal : m.arrays.length ≤ 64) (hav : ∀ v ∈ m.arrays, 0 ≤ v ∧ v ≤ 256) (h : ∀ u, Ex w u → K (.int .i64 (countF m)) u) : XCP Tryz.prog 33 [m.v q] w K KP := by
  show XCP Tryz.prog 33 [.agg #[.slice q.sv.a q.sv.l q.sv.c, .slice q.sa.a q.sa.l q.sa.c, .slice q.sc.a q.sc.l q.sc.c, .int .i64 m.mutexes, .int .i64 m.conds, .slice q.st.a q.st.l q.st.c]] w K KP
  refine E33 ?_
  unfold F33
  intro w0 p
  have hs : Sep w0 (bx w.heap.size (m.cells q) 26 :: [oldA w]) := (Sep.begin w).box _ _
  have hM : Blk w0 w.heap.size (m.cells q) 26 := hs.bx0
  have e0 : Ex w w0 := hs.ex 1 rfl
  clear hs
  clear_value w0
  have lv := hq.v.len
  have la := hq.a.len
  refine ⟨_, _, _, hM.ld rfl, _, _, _, hM.ld rfl, ?_⟩
  refine ⟨fun n2 n3 u => ∃ k : Nat, n3 = k ∧ k ≤ m.arrays.length ∧ n2 = m.vars.length + (m.arrays.take k).sum ∧ Ex w u, fun _ n3 _ => m.arrays.length - n3.toNat, ⟨0, rfl, Nat.zero_le _, by rw [lv]; simp, e0⟩, ?_⟩
  rintro n2 n3 u ⟨k, rfl, hk, rfl, hu⟩
  have hb := sum_take_le hav k
  by_cases hlt : k < m.arrays.length
  · rw [if_pos (by simp; omega)]
    obtain ⟨p1, hp1, hc⟩ := (hq.a.old hu).int hlt
    rw [hp1, xptr_some]
    have hv := hav m.arrays[k] (List.getElem_mem _)
    refine ⟨by omega, by omega, _, by simpa using hc, ?_⟩
    rw [wi (by omega) (by omega), wi (by omega) (by omega)]
    refine ⟨⟨k + 1, rfl, hlt, by rw [sum_take_add _ k hlt]; omega, hu⟩, ?_⟩
    show m.arrays.length - ((k : Int) + 1).toNat < m.arrays.length - ((k : Int)).toNat
    omega
  · rw [if_neg (by simp; omega)]
    have e : k = m.arrays.length := by omega
    subst e
    rw [List.take_length]
    exact h u hu
theorem C14 {m : Mdl} {q : MdlH} {G : Nat → Prop} (hq : MdlP w G q m) (hvl : m.vars.length ≤ 64) (hal : m.arrays.length ≤ 64) (hav : ∀ v ∈ m.arrays, 0 ≤ v ∧ v ≤ 256) (h : ∀ u, Ex w u → K (.int .i64 (countF m)) u) : XCP Tryz.prog 14 [m.v q] w K KP := by
  show XCP Tryz.prog 14 [.agg #[.slice q.sv.a q.sv.l q.sv.c, .slice q.sa.a q.sa.l q.sa.c, .slice q.sc.a q.sc.l q.sc.c, .int .i64 m.mutexes, .int .i64 m.conds, .slice q.st.a q.st.l q.st.c]] w K KP
  refine E14 ?_
  unfold F14
  intro w0 p
  have hs : Sep w0 (bx w.heap.size (m.cells q) 26 :: [oldA w]) := (Sep.begin w).box _ _
  have hM : Blk w0 w.heap.size (m.cells q) 26 := hs.bx0
  have e0 : Ex w w0 := hs.ex 1 rfl
  clear hs
  clear_value w0
  have lv := hq.v.len
  have la := hq.a.len
  refine ⟨_, _, _, hM.ld rfl, ?_⟩
  refine ⟨fun n2 n3 u => ∃ k : Nat, n3 = k ∧ k ≤ m.arrays.length ∧ n2 = m.vars.length + (m.arrays.take k).sum ∧ Ex w0 u, fun _ n3 _ => m.arrays.length - n3.toNat, ⟨0, rfl, Nat.zero_le _, by rw [lv]; simp, Ex.refl _⟩, ?_⟩
  rintro n2 n3 u ⟨k, rfl, hk, rfl, hu⟩
  have hb := sum_take_le hav k
  refine ⟨_, _, _, (hu.blk hM).ld rfl, ?_⟩
  by_cases hlt : k < m.arrays.length
  · rw [if_pos (by simp; omega)]
    obtain ⟨p1, hp1, hc⟩ := (hq.a.old (e0.trans hu)).int hlt
    refine ⟨_, _, _, (hu.blk hM).ld rfl, ?_⟩
    rw [hp1, xptr_some]
    have hv := hav m.arrays[k] (List.getElem_mem _)
    refine ⟨by omega, by omega, _, by simpa using hc, ?_⟩
    rw [wi (by omega) (by omega), wi (by omega) (by omega)]
    refine ⟨⟨k + 1, rfl, hlt, by rw [sum_take_add _ k hlt]; omega, hu⟩, ?_⟩
    show m.arrays.length - ((k : Int) + 1).toNat < m.arrays.length - ((k : Int)).toNat
    omega
  · rw [if_neg (by simp; omega)]
    have e : k = m.arrays.length := by omega
    subst e
    rw [List.take_length]
    exact h u (e0.trans hu)
/-- a frame copied -/
theorem D38 {f : Frm} {qf : FrmH} {G : Nat → Prop} {L : List Assn} (hw : Sep w L) (hf : FrmP w G qf f) (h1 : f.locals.length ≤ 1000000) (h2 : f.stack.length ≤ 1000000)
    (h : ∀ (q' : FrmH) u, Ex w u → Sep u (row 1 2 q'.ss (ints f.stack) :: row 1 2 q'.sl (ints f.locals) :: L) → K (f.v q') u) : XCP Tryz.prog 38 [f.v qf] w K KP := by
  show XCP Tryz.prog 38 [.agg #[.int .i64 f.code, .int .i64 f.pc, .slice qf.sl.a qf.sl.l qf.sl.c, .slice qf.ss.a qf.ss.l qf.ss.c]] w K KP
  refine E38 ?_
  unfold F38
  intro w0 p w1 p1
  have hs : Sep w1 (bx w0.heap.size [.int .i64 0, .int .i64 0, .slice none 0 0, .slice none 0 0] 28 :: bx w.heap.size (f.cells qf) 28 :: [oldA w]) := ((Sep.begin w).box _ _).box _ _
  clear_value w1
  refine ⟨fun z => Blk z w.heap.size (f.cells qf) 28, hs.drew.bx1, ?_⟩
  refine ⟨_, _, _, fun z hz => hz.ld rfl, _, _, _, fun z hz => hz.ld rfl, ?_⟩
  have e1 : Ex w w1 := hs.ex 2 rfl
  refine D60 hs.drew (hf.l.old (e1.trans (Ex.drew _))) h1 fun sl' u2 e2 hs2 => ⟨_, _, _, rfl, hs2.bx2, ?_⟩
  refine D60 hs2 (hf.s.old (e1.trans ((Ex.drew _).trans e2))) h2 fun ss' u3 e3 hs3 => ⟨_, _, _, rfl, fun _ => True, trivial, ?_⟩
  show storeP u3 ⟨w.heap.size, 2, none⟩ _ _
  refine hs3.putAt 3 rfl (o := 2) (by simp [Frm.cells]) fun u4 _ hs4 => ⟨fun _ => True, trivial, ?_⟩
  show storeP u4 ⟨w.heap.size, 3, none⟩ _ _
  refine hs4.putAt 3 rfl (o := 3) (by simp [Frm.cells]) fun u5 _ hs5 => ?_
  refine ⟨_, _, _, _, _, _, _, _, (hs5.blkAt 3 rfl).lds, ?_⟩
  refine Sep.fillAt hs5 2 rfl (vs := f.cells ⟨sl', ss'⟩) rfl fun u6 _ hs6 => ?_
  refine ⟨_, _, _, _, _, _, _, _, (hs6.blkAt 2 rfl).lds, ?_⟩
  have hj := Sep.joins (M := [row 1 2 ss' (ints f.stack), row 1 2 sl' (ints f.locals), bx w0.heap.size (f.cells ⟨sl', ss'⟩) 28, bx w.heap.size (f.cells ⟨sl', ss'⟩) 28]) hw hs6
  exact h ⟨sl', ss'⟩ u6 (hs6.ex 4 rfl) ((hj.dropAt 2 rfl).dropAt 2 rfl)
def trapDid (t : Int) : DidV := ⟨7, 0, false, 0, noIns, 0, t⟩
theorem D37r {o1 o2 o3 o4 : Option Addr} {K : FrameMode → World → Prop} {KP : List PanicEntry → FrameMode → World → Prop} (h : K .returning w) : XPD Tryz.prog 37 [.pointer o1, .pointer o2, .pointer o3, .pointer o4] .returning w K KP := by
  refine E37 ?_
  unfold F37
  show ∀ kb : World → Prop, _
  intro kb hkb
  exact eqNil ⟨_, rfl, hkb w h⟩
theorem D37p {t : Int} {f : Frm} {qf : FrmH} {u0 : World} {b1 b2 b3 b4 : Nat} {V2 V3 : List Value} {V4 : Value} {L : List Assn} (hw : Sep w (bx b2 V2 28 :: bx b3 V3 68 :: bx b4 [V4] 57 :: bx b1 (f.cells qf) 28 :: oldA u0 :: L)) (hV2 : V2.length = 4) (hV3 : V3.length = 10)
    (hf : FrmP u0 T0 qf f) (h1 : f.locals.length ≤ 1000000) (h2 : f.stack.length ≤ 1000000) {K : FrameMode → World → Prop} {KP : List PanicEntry → FrameMode → World → Prop}
    (h : ∀ (q' : FrmH) u, Sep u (bx b2 (f.cells q') 28 :: bx b3 (trapDid t).cells 68 :: bx b4 [.int .i64 0] 57 :: row 1 2 q'.ss (ints f.stack) :: row 1 2 q'.sl (ints f.locals) :: oldA u0 :: L) → K (.panicking [{ v := .iface 95 (.agg #[.int .i64 t]), recovered := true }]) u) :
    XPD Tryz.prog 37 [.pointer (some ⟨b1, 0, none⟩), .pointer (some ⟨b2, 0, none⟩), .pointer (some ⟨b3, 0, none⟩), .pointer (some ⟨b4, 0, none⟩)] (.panicking (trapV t)) w K KP := by
  refine E37 ?_
  unfold F37
  show ∀ kb : World → Prop, _
  intro kb hkb
  refine eqSome ⟨_, rfl, ?_⟩
  rw [if_neg (by decide)]
  refine ta95 ⟨_, _, rfl, ?_⟩
  rw [if_pos rfl]
  intro w3 p
  have hs : Sep w3 (bx w.heap.size [.int .i64 0] 95 :: bx b2 V2 28 :: bx b3 V3 68 :: bx b4 [V4] 57 :: bx b1 (f.cells qf) 28 :: oldA u0 :: L) := hw.box _ _
  clear_value w3
  refine hs.fill (vs := [.int .i64 t]) rfl fun w4 _ hs => ?_
  refine ⟨fun z => Blk z w.heap.size [.int .i64 t] 95 ∧ Blk z b1 (f.cells qf) 28, ⟨hs.drew.bx0, hs.drew.bx4⟩, ?_⟩
  rw [xptr_some]
  refine ⟨_, _, _, _, _, _, _, _, fun z hz => hz.2.lds, _, fun z hz => hz.1.ld rfl, ?_⟩
  have hfr := hf.ex (hs.drew.ex 5 rfl)
  refine D38 hs.drew hfr h1 h2 fun q' u1 e1 hs1 => ⟨_, _, _, _, _, _, _, _, rfl, ⟨(hs1.blkAt 2 rfl), (hs1.blkAt 6 rfl)⟩, ?_⟩
  rw [xptr_some]
  refine Sep.fillAt hs1 3 rfl (vs := f.cells q') (by rw [hV2]; rfl) fun u2 _ hs2 => ⟨⟨(hs2.blkAt 2 rfl), (hs2.blkAt 6 rfl)⟩, ?_⟩
  rw [xptr_some]
  refine Sep.fillAt hs2 4 rfl (vs := (trapDid t).cells) (by rw [hV3]; rfl) fun u3 _ hs3 => ⟨fun _ => True, trivial, ?_⟩
  rw [xptr_some]
  refine hs3.putAt 5 rfl (o := 0) Nat.zero_lt_one fun u4 _ hs4 => hkb u4 (h q' u4 ?_)
  have hs5 : Sep u4 (row 1 2 q'.ss (ints f.stack) :: row 1 2 q'.sl (ints f.locals) :: bx w.heap.size [.int .i64 t] 95 :: bx b2 (f.cells q') 28 :: bx b3 (trapDid t).cells 68 :: bx b4 [.int .i64 0] 57 :: bx b1 (f.cells qf) 28 :: oldA u0 :: L) := hs4
  have h6 : Sep u4 (row 1 2 q'.ss (ints f.stack) :: row 1 2 q'.sl (ints f.locals) :: bx b2 (f.cells q') 28 :: bx b3 (trapDid t).cells 68 :: bx b4 [.int .i64 0] 57 :: oldA u0 :: L) := (hs5.dropAt 2 rfl).dropAt 5 rfl
  exact (h6.to4.to4).to4
end
end Go.Proofs.YtahcpjgaogghiaaGreat
/- The vm seat: an instruction tried on a frame. -/
set_option linter.unusedVariables false
set_option linter.unusedSimpArgs false
set_option maxRecDepth 10000
set_option maxHeartbeats 8000000
namespace Go.Proofs.YtahcpjgaogghiaaGreat
open Go.X Go.Heap
theorem thread_step {m : Mdl} {c : Cod} (hok : ∀ x ∈ c.ins, insOk x = true) (hz : (threadF m c).2 = 0) : (∀ x ∈ c.ins, slotsB m c x = true) ∧ ∀ a, a < c.ins.length → 0 ≤ g (threadF m c).1 a → StepOk c.ins (threadF m c).1 a := by
  unfold threadF at hz ⊢
  by_cases h0 : c.ins.length = 0
  · rw [if_pos h0] at hz; cases hz
  rw [if_neg h0] at hz ⊢
  by_cases hs : (c.ins.all (slotsB m c)) = false
  · rw [if_pos hs] at hz; cases hz
  rw [if_neg hs] at hz ⊢
  refine ⟨?_, (runF_good hok _ _ _ (TI.first c.ins.length) (fun a ha hd => by simp [List.getD_eq_getElem?_getD, List.getElem?_replicate, ha] at hd) (Nat.lt_succ_self _) hz).2.2⟩
  rw [Bool.not_eq_false, List.all_eq_true] at hs
  exact hs
theorem decK_at {m : Mdl} {c : Cod} {i : Ins} (h : slotsB m c i = true) : (i.code = 2 ∨ i.code = 5 → i.a < m.vars.length) ∧ (i.code = 3 ∨ i.code = 6 → i.a < c.locals) ∧ (i.code = 4 ∨ i.code = 7 → i.a < m.arrays.length) := by
  unfold slotsB decK at h
  refine ⟨fun hc => ?_, fun hc => ?_, fun hc => ?_⟩
  · rcases hc with hc | hc <;> (rw [hc] at h; simpa using h)
  · rcases hc with hc | hc <;> (rw [hc] at h; simpa using h)
  · rcases hc with hc | hc <;> (rw [hc] at h; simpa using h)
def codF (m : Mdl) (f : Frm) : Cod := m.threads.getD f.code.toNat noCod
def insF (m : Mdl) (f : Frm) : Ins := insAt (codF m f).ins f.pc.toNat
/-- what it is that a frame may be -/
theorem may_fit {m : Mdl} {f : Frm} (h : mayF m f 0 = true) (hl : f.stack.length ≤ 900) : mdlOk m = true ∧ 0 ≤ f.code ∧ f.code.toNat < m.threads.length ∧ 0 ≤ f.pc ∧ f.pc.toNat < (codF m f).ins.length ∧ StepFit m f.locals f.stack (insF m f) ∧
    valsB f.locals = true := by
  unfold mayF at h
  by_cases hbm : badM m f = true
  · rw [if_pos hbm] at h; cases h
  rw [if_neg hbm] at h
  unfold badM at hbm
  simp only [Bool.or_eq_true, bne_iff_ne, ne_eq, decide_eq_true_eq, not_or, Decidable.not_not] at hbm
  obtain ⟨⟨hck, hc0⟩, hc1⟩ := hbm
  have hct : f.code.toNat < m.threads.length := by omega
  obtain ⟨hok, hth⟩ := check_ok hck
  have hgd : codF m f = m.threads[f.code.toNat] := by simp [codF, List.getD_eq_getElem?_getD, List.getElem?_eq_getElem hct]
  have hcm : codF m f ∈ m.threads := by rw [hgd]; exact List.getElem_mem _
  change (if badC (codF m f) f = true then false else mayD (threadF m (codF m f)) f 0) = true at h
  by_cases hbc : badC (codF m f) f = true
  · rw [if_pos hbc] at h; cases h
  rw [if_neg hbc] at h
  unfold badC at hbc
  simp only [Bool.or_eq_true, bne_iff_ne, ne_eq, decide_eq_true_eq, not_or, Decidable.not_not, Bool.not_eq_true', Bool.not_eq_false] at hbc
  obtain ⟨⟨⟨⟨hp0, hp1⟩, hll⟩, hvl⟩, hvs⟩ := hbc
  have hz := hth _ hcm
  have hpt : f.pc.toNat < (codF m f).ins.length := by omega
  unfold mayD at h
  rw [hz, if_pos (by rfl)] at h
  by_cases hg : decide (g (threadF m (codF m f)).1 f.pc.toNat ≥ 0) = true
  · rw [if_pos hg] at h
    have hg0 : 0 ≤ g (threadF m (codF m f)).1 f.pc.toNat := by simpa using hg
    have hgs : g (threadF m (codF m f)).1 f.pc.toNat = f.stack.length := by
      have := eq_of_beq h
      omega
    obtain ⟨hsl, hst⟩ := thread_step (mdl_ins hok hcm) hz
    have hmem : insF m f ∈ (codF m f).ins := insAt_mem hpt
    obtain ⟨q1, q2, q3⟩ := decK_at (hsl _ hmem)
    obtain ⟨hone, -⟩ := hst _ hpt hg0
    have hbd := (oneF_ok hone).1
    have htk : (effI (insF m f).code).1 ≤ f.stack.length := by
      unfold badDepth at hbd
      rw [hgs] at hbd
      simp only [Bool.or_eq_false_iff, decide_eq_false_iff_not] at hbd
      have := hbd.1
      show (effI (insAt (codF m f).ins f.pc.toNat).code).1 ≤ _
      omega
    refine ⟨hok, by omega, hct, by omega, hpt, ⟨mdl_ins hok hcm _ hmem, q1, fun hc => by rw [hll]; exact q2 hc, q3, htk, ?_, hl⟩, hvl⟩
    unfold valsB at hvs
    exact List.all_eq_true.1 hvs
  · rw [if_neg hg] at h; cases h
theorem mdl_nums {m : Mdl} (h : mdlOk m = true) : m.vars.length ≤ 64 ∧ m.arrays.length ≤ 64 ∧ ∀ v ∈ m.arrays, 0 ≤ v ∧ v ≤ 256 := by
  unfold mdlOk allOk at h
  simp only [Bool.and_eq_true, decide_eq_true_eq, List.all_eq_true] at h
  obtain ⟨⟨⟨⟨⟨⟨hv, _⟩, ⟨ha, ha2⟩⟩, _⟩, _⟩, _⟩, _⟩ := h
  refine ⟨by omega, by omega, fun v hv => ?_⟩
  have := ha2 v hv
  unfold inI at this
  simpa using this
def outF (f : Frm) (r : Res) : Frm × DidV :=
  match r with
  | .ok st lo pc did => (⟨f.code, pc, lo, st⟩, did)
  | .trap t => (f, trapDid t)
def plain : DidV := ⟨1, 0, false, 0, noIns, 0, 0⟩
def doF (m : Mdl) (f : Frm) (cs : List Int) : Frm × DidV := outF f (doesF m cs (insF m f) f.stack f.locals (f.pc + 1) plain)
def okDo (m : Mdl) (f : Frm) (cs : List Int) : Bool := if mayF m f 0 = true then ((cs.length : Int) == countF m) && valsB cs else false
section
variable {w : World} {K : Value → World → Prop} {KP : List PanicEntry → World → Prop}
theorem codP_at {m : Mdl} {q : MdlH} {f : Frm} (hq : MdlP w T0 q m) (h1 : f.code.toNat < m.threads.length) : ∃ (p : Addr) (qc : CodH), q.st.a = some p ∧ ∀ z, Ex w z → CodP z T0 qc (codF m f) ∧ cellsAt z (p.add (f.code.toNat * 4)) 0 ((codF m f).cells qc) := by
  obtain ⟨pt, row, hpt, ⟨qc, hrow, hqc⟩, hcells⟩ := hq.t.nth (List.getElem?_eq_getElem h1) (by decide)
  have hgd : codF m f = m.threads[f.code.toNat] := by simp [codF, List.getD_eq_getElem?_getD, List.getElem?_eq_getElem h1]
  refine ⟨pt, qc, hpt, fun z hz => ?_⟩
  rw [hgd]
  subst hrow
  exact ⟨hqc.ex hz, hz.cells hcells⟩
theorem insP_at {c : Cod} {qc : CodH} (hc : CodP w T0 qc c) {k : Nat} (hk : k < c.ins.length) : ∃ p, qc.si.a = some p ∧ ∀ z, Ex w z → cellsAt z (p.add (k * 4)) 0 (insAt c.ins k).cells := by
  obtain ⟨p, row, hp, hr, hcells⟩ := hc.1.nth (List.getElem?_eq_getElem hk) (by decide)
  have hr : row = (c.ins[k]).cells := hr
  have e : insAt c.ins k = c.ins[k] := by simp [insAt, List.getD_eq_getElem?_getD, List.getElem?_eq_getElem hk]
  subst hr
  refine ⟨p, hp, fun z hz => ?_⟩
  rw [e]; exact hz.cells hcells
theorem cellsAt_ix {z : World} {p : Addr} {vs : List Value} (h : cellsAt z p 0 vs) {j : Nat} {v : Value} (hv : vs[j]? = some v) : z.cell? (p.add j) = some v := by
  have := cellsAt_get h j v hv
  rwa [Nat.zero_add] at this
theorem C20 {m : Mdl} {q : MdlH} {f : Frm} {qf : FrmH} {sc : Sl} {cs : List Int} (hq : MdlP w T0 q m) (hf : FrmP w T0 qf f) (hc : ReadsI w T0 sc cs) (hsm : mdlOk m = true → Small m) (hb1 : f.locals.length ≤ 1000000) (hb2 : f.stack.length ≤ 900) (hb3 : cs.length ≤ 1000000)
    (h0 : okDo m f cs = false → ∀ u, Ex w u → K (.tuple #[noFrm.v noFrmH, noDid.v, .int .i64 2]) u)
    (h1 : okDo m f cs = true → ∀ q' u, Ex w u → FrmP u T0 q' (doF m f cs).1 → K (.tuple #[(doF m f cs).1.v q', (doF m f cs).2.v, .int .i64 0]) u) :
    XCP Tryz.prog 20 [m.v q, f.v qf, sc.v] w K KP := by
  show XCP Tryz.prog 20 [.agg #[.slice q.sv.a q.sv.l q.sv.c, .slice q.sa.a q.sa.l q.sa.c, .slice q.sc.a q.sc.l q.sc.c, .int .i64 m.mutexes, .int .i64 m.conds, .slice q.st.a q.st.l q.st.c], .agg #[.int .i64 f.code, .int .i64 f.pc, .slice qf.sl.a qf.sl.l qf.sl.c, .slice qf.ss.a qf.ss.l qf.ss.c], .slice sc.a sc.l sc.c] w K KP
  refine E20 ?_
  unfold F20
  intro w0 p w1 p1 w2 p2 w3 p3 w4 p4
  have hs : Sep w4 (bx w3.heap.size [.int .i64 0] 57 :: bx w2.heap.size noDid.cells 68 :: bx w1.heap.size (noFrm.cells noFrmH) 28 :: bx w0.heap.size (f.cells qf) 28 :: bx w.heap.size (m.cells q) 26 :: [oldA w]) := (((((Sep.begin w).box _ _).box _ _).box _ _).box _ _).box _ _
  clear_value w4
  have e4 : Ex w w4 := hs.ex 5 rfl
  refine ⟨_, _, _, _, _, _, _, _, _, _, _, _, _, _, (hs.blkAt 4 rfl).lds, _, _, _, _, _, _, _, _, (hs.blkAt 3 rfl).lds, ?_⟩
  refine C35 (hq.ex e4) (hf.ex e4) hsm hb1 (by omega) (by omega) fun u5 e5 => ⟨_, rfl, ?_⟩
  have hs5 := hs.ext e5
  clear hs
  have lc := hc.len
  by_cases hmay : mayF m f 0 = true
  rotate_left
  · have hok : okDo m f cs = false := by rw [okDo, if_neg hmay]
    rw [Bool.not_eq_true] at hmay
    rw [hmay]
    intro kb hkb
    rw [if_pos (by rfl)]
    refine hkb _ _ ?_
    intro kb1 hk1
    rw [if_pos rfl]
    refine hk1 _ _ ?_
    rw [if_pos rfl]
    refine Sep.fillAt hs5 2 rfl (vs := noFrm.cells noFrmH) rfl fun u6 _ hs6 => ?_
    refine Sep.fillAt hs6 1 rfl (vs := noDid.cells) rfl fun u7 _ hs7 => ?_
    refine hs7.putAt 0 rfl (o := 0) Nat.zero_lt_one fun u8 _ hs8 => ?_
    exact ⟨_, _, _, _, _, _, _, _, (hs8.blkAt 2 rfl).lds, _, _, _, _, _, _, _, _, _, _, (hs8.blkAt 1 rfl).lds, _, (hs8.blkAt 0 rfl).ld' rfl, h0 hok u8 (hs8.ex 5 rfl)⟩
  rw [hmay]
  obtain ⟨hmok, hc0, hct, hp0, hpl, hfit, hvl⟩ := may_fit hmay hb2
  obtain ⟨hn1, hn2, hn3⟩ := mdl_nums hmok
  have hokE : okDo m f cs = ((cs.length : Int) == countF m && valsB cs) := by rw [okDo, if_pos hmay]
  refine or_join (b := !true) (c := (cs.length : Int) != countF m) (fun kb hk => ?_) fun u6 e6 => ?_
  · refine ⟨_, _, _, _, _, _, _, _, _, _, _, _, _, _, (hs5.blkAt 4 rfl).lds, ?_⟩
    refine C33 (hq.ex (e4.trans e5)) hn1 hn2 hn3 fun u6 e6 => ⟨_, rfl, ?_⟩
    rw [lc]; exact hk u6 e6
  refine or_join (c := !valsB cs) (fun kb hk => ?_) fun u7 e7 => ?_
  · exact C36 (hc.old (e4.trans (e5.trans e6))) (by omega) fun u7 e7 => ⟨_, rfl, hk u7 e7⟩
  have hs7 := (hs5.ext e6).ext e7
  clear hs5
  have e57 := e4.trans (e5.trans (e6.trans e7))
  have hbb : (((!true) || ((cs.length : Int) != countF m)) || !valsB cs) = !okDo m f cs := by
    rw [hokE]
    cases valsB cs <;> simp [bne]
  show if (((!true) || ((cs.length : Int) != countF m)) || !valsB cs) = true then _ else _
  rw [hbb]
  by_cases hok : okDo m f cs = true
  rotate_left
  · rw [Bool.not_eq_true] at hok
    rw [hok, if_pos (by rfl)]
    refine Sep.fillAt hs7 2 rfl (vs := noFrm.cells noFrmH) rfl fun u8 _ hs8 => ?_
    refine Sep.fillAt hs8 1 rfl (vs := noDid.cells) rfl fun u9 _ hs9 => ?_
    refine hs9.putAt 0 rfl (o := 0) Nat.zero_lt_one fun u10 _ hs10 => ?_
    exact ⟨_, _, _, _, _, _, _, _, (hs10.blkAt 2 rfl).lds, _, _, _, _, _, _, _, _, _, _, (hs10.blkAt 1 rfl).lds, _, (hs10.blkAt 0 rfl).ld' rfl, h0 hok u10 (hs10.ex 5 rfl)⟩
  rw [hok, if_neg (by decide)]
  have hcl : (cs.length : Int) = countF m := by
    rw [hokE] at hok
    simp at hok; exact hok.1
  have hF : Fit w q m sc cs := ⟨hq, hc, hn1, hn2, hn3, hcl⟩
  intro KD hKD
  refine ⟨_, _, _, _, _, _, _, _, (hs7.blkAt 3 rfl).lds, ?_⟩
  refine D38 hs7 (hf.ex e57) hb1 (by omega) fun q' u8 e8 hs8 => ⟨_, _, _, _, _, _, _, _, rfl, ?_⟩
  intro w14 p5
  have hs14 := hs8.box #[.int .i64 0, .int .i64 0, .slice none 0 0, .slice none 0 0] 28
  change Sep w14 _ at hs14
  clear_value w14
  refine hs14.fill (vs := f.cells q') rfl fun w15 _ hs15 => ?_
  refine ⟨_, _, _, hs15.bx0.ld rfl, ?_⟩
  refine ⟨_, _, _, _, _, _, _, _, _, _, _, _, _, _, (hs15.blkAt 7 rfl).lds, ?_⟩
  refine ⟨_, _, _, _, _, _, _, _, hs15.bx0.lds, ?_⟩
  intro w16 p6
  have hs16 := hs15.box #[q'.ss.v, q.sv.v, q.sa.v, q.sc.v, .int .i64 m.mutexes, .int .i64 m.conds, q.st.v, .int .i64 f.code, .int .i64 f.pc, q'.sl.v, q'.ss.v, sc.v, .int .i64 1, .int .i64 0, .bool false, .int .i64 0, .int .i64 0, .int .i64 0, .int .i64 0, .int .i64 0, .int .i64 0, .int .i64 0] 101
  change Sep w16 _ at hs16
  clear_value w16
  have hX : Sep w16 (Xp w15.heap.size ⟨q'.ss, f.stack, q, m, f.code, f.pc, q'.sl, f.locals, q'.ss, sc, plain⟩ w
      [bx w1.heap.size (noFrm.cells noFrmH) 28, bx w2.heap.size noDid.cells 68, bx w3.heap.size [.int .i64 0] 57, bx w0.heap.size (f.cells qf) 28, bx w.heap.size (m.cells q) 26]) :=
    hs16.pick [0, 2, 3, 9, 6, 5, 4, 7, 8] rfl rfl
  clear hs16 hs15 hs14 hs8 hs7
  have hlen1 : (codF m f).ins.length ≤ 1000 := hsm hmok _ (by unfold codF; rw [List.getD_eq_getElem?_getD, List.getElem?_eq_getElem hct]; exact List.getElem_mem _)
  refine ⟨f.pc, (hX.blkAt 0 rfl).ld' (o := 8) rfl, ?_⟩
  rw [wi (by omega) (by omega)]
  show storeP w16 ⟨w15.heap.size, 8, none⟩ _ _
  refine hX.putAt 0 rfl (o := 8) (by simp [XS.cells]) fun w17 _ hX => ?_
  replace hX : Sep w17 (Xp w15.heap.size ⟨q'.ss, f.stack, q, m, f.code, f.pc + 1, q'.sl, f.locals, q'.ss, sc, plain⟩ w
      [bx w1.heap.size (noFrm.cells noFrmH) 28, bx w2.heap.size noDid.cells 68, bx w3.heap.size [.int .i64 0] 57, bx w0.heap.size (f.cells qf) 28, bx w.heap.size (m.cells q) 26]) := hX
  obtain ⟨pt, qc, hpt, hcod⟩ := codP_at (f := f) hq hct
  obtain ⟨pi, hpi, hins⟩ := insP_at (hcod w (Ex.refl w)).1 hpl
  have lt := hq.t.len
  have li := (hcod w (Ex.refl w)).1.1.len
  refine ⟨fun z => Blk z w.heap.size (m.cells q) 26 ∧ Blk z w0.heap.size (f.cells qf) 28 ∧ Ex w z, ⟨(hX.drew.blkAt 8 rfl), (hX.drew.blkAt 7 rfl), hX.drew.ex 3 rfl⟩, ?_⟩
  refine ⟨_, _, _, fun z hz => hz.1.ld rfl, _, fun z hz => hz.2.1.ld rfl, ?_⟩
  rw [hpt, xptr_some]
  refine ⟨hc0, by omega, _, _, _, fun z hz => cellsAt_ix (hcod z hz.2.2).2 (j := 2) rfl, _, fun z hz => hz.2.1.ld rfl, ?_⟩
  rw [hpi, xptr_some]
  refine ⟨hp0, by omega, _, _, _, _, fun z hz => hins z hz.2.2, ?_⟩
  refine D39 (i := insF m f) hX.drew hF hfit ⟨by show 0 ≤ f.pc + 1; omega, by show f.pc + 1 ≤ 1000000; omega⟩ ?_ ?_
  · intro s' st' lo' pc' did' u9 heq hs9
    refine ⟨rfl, _, _, _, (hs9.blkAt 0 rfl).ld' (o := 0) rfl, ?_⟩
    show storeP u9 ⟨w15.heap.size, 10, none⟩ _ _
    refine hs9.putAt 0 rfl (o := 10) (by simp [XS.cells]) fun u10 _ hs10 => ?_
    replace hs10 : Sep u10 (Xp w15.heap.size ⟨s', st', q, m, f.code, pc', q'.sl, lo', s', sc, did'⟩ w
      [bx w1.heap.size (noFrm.cells noFrmH) 28, bx w2.heap.size noDid.cells 68, bx w3.heap.size [.int .i64 0] 57, bx w0.heap.size (f.cells qf) 28, bx w.heap.size (m.cells q) 26]) := hs10
    refine ⟨fun z => Blk z w15.heap.size (XS.cells ⟨s', st', q, m, f.code, pc', q'.sl, lo', s', sc, did'⟩) 101, hs10.drew.blkAt 0 rfl, ?_⟩
    refine ⟨_, _, _, _, _, _, _, _, fun z hz => ⟨hz.ld' (o := 7) rfl, hz.ld' (o := 8) rfl, hz.ld' (o := 9) rfl, hz.ld' (o := 10) rfl, trivial⟩, ?_⟩
    refine ⟨_, _, _, _, _, _, _, _, _, _, fun z hz => ⟨hz.ld' (o := 12) rfl, hz.ld' (o := 13) rfl, hz.ld' (o := 14) rfl, hz.ld' (o := 15) rfl, hz.ld' (o := 16) rfl, hz.ld' (o := 17) rfl, hz.ld' (o := 18) rfl, hz.ld' (o := 19) rfl, hz.ld' (o := 20) rfl, hz.ld' (o := 21) rfl, trivial⟩, ?_⟩
    refine Sep.fillAt hs10.drew 4 rfl (vs := [.int .i64 f.code, .int .i64 pc', q'.sl.v, s'.v]) rfl fun u11 _ hs11 => ⟨hs11.blkAt 0 rfl, ?_⟩
    refine Sep.fillAt hs11 5 rfl (vs := did'.cells) rfl fun u12 _ hs12 => ⟨fun _ => True, trivial, ?_⟩
    refine hs12.putAt 6 rfl (o := 0) Nat.zero_lt_one fun u13 _ hs13 => ?_
    show XPD Tryz.prog 37 [.pointer (some ⟨w0.heap.size, 0, none⟩), .pointer (some ⟨w1.heap.size, 0, none⟩), .pointer (some ⟨w2.heap.size, 0, none⟩), .pointer (some ⟨w3.heap.size, 0, none⟩)] .returning u13 _ _
    refine D37r ?_
    show ∃ n58 : Int, _
    have hd : doF m f cs = (⟨f.code, pc', lo', st'⟩, did') := by
      unfold doF
      rw [show doesF m cs (insF m f) f.stack f.locals (f.pc + 1) plain = .ok st' lo' pc' did' from heq]
      rfl
    have hr1 := Sep.rowReads hs13 1 rfl
    have hr2 := Sep.rowReads hs13 2 rfl
    have := h1 hok ⟨q'.sl, s'⟩ u13 (hs13.ex 3 rfl) (by rw [hd]; exact ⟨hr2, hr1⟩)
    rw [hd] at this
    exact ⟨_, _, _, _, _, _, _, _, (hs13.blkAt 4 rfl).lds, _, _, _, _, _, _, _, _, _, _, (hs13.blkAt 5 rfl).lds, _, (hs13.blkAt 6 rfl).ld' rfl, this⟩
  · intro t u9 heq hs9
    refine hKD _ _ ?_
    show XPD Tryz.prog 37 [.pointer (some ⟨w0.heap.size, 0, none⟩), .pointer (some ⟨w1.heap.size, 0, none⟩), .pointer (some ⟨w2.heap.size, 0, none⟩), .pointer (some ⟨w3.heap.size, 0, none⟩)] (.panicking (trapV t)) u9 _ _
    have hs9' : Sep u9 (bx w1.heap.size (noFrm.cells noFrmH) 28 :: bx w2.heap.size noDid.cells 68 :: bx w3.heap.size [.int .i64 0] 57 :: bx w0.heap.size (f.cells qf) 28 :: oldA w :: [bx w.heap.size (m.cells q) 26]) := hs9.pick [1, 2, 3, 4, 0, 5] rfl rfl
    refine D37p hs9' rfl rfl hf hb1 (by omega) fun q'' u10 hs10 => ?_
    show ∃ n58 : Int, _
    have hd : doF m f cs = (f, trapDid t) := by
      unfold doF
      rw [show doesF m cs (insF m f) f.stack f.locals (f.pc + 1) plain = .trap t from heq]
      rfl
    have hr1 := Sep.rowReads hs10 3 rfl
    have hr2 := Sep.rowReads hs10 4 rfl
    have := h1 hok q'' u10 (hs10.ex 5 rfl) (by rw [hd]; exact ⟨hr2, hr1⟩)
    rw [hd] at this
    exact ⟨_, _, _, _, _, _, _, _, (hs10.blkAt 0 rfl).lds, _, _, _, _, _, _, _, _, _, _, (hs10.blkAt 1 rfl).lds, _, (hs10.blkAt 2 rfl).ld' rfl, this⟩
end
end Go.Proofs.YtahcpjgaogghiaaGreat
/- The vm seat: what the document's layer 5 makes of two values. -/
set_option linter.unusedVariables false
set_option linter.unusedSimpArgs false
set_option maxRecDepth 10000
set_option maxHeartbeats 8000000
namespace Go.Proofs.YtahcpjgaogghiaaGreat
open Go.X Go.Heap
def nilS : Value := .slice none 0 0
def i0 : Value := .int .i64 0
def stZ : List Value := [nilS, nilS, i0, i0, nilS, nilS, i0, i0, nilS, nilS, nilS, nilS, nilS, nilS, nilS, nilS, nilS, nilS, nilS, i0, i0, i0, i0]
def exC (k n op : Int) (s : Sl) : List Value := [.int .i64 k, .int .i64 n, .string ByteArray.empty, .int .i64 0, .bool false, .int .i64 op, s.v]
def nilSl : Sl := ⟨none, 0, 0⟩
def pairE (e : Except Int Int) : Int × Int :=
  match e with
  | .ok v => (v, 0)
  | .error t => (0, t)
section
variable {w : World} {K : Value → World → Prop} {KP : List PanicEntry → World → Prop}
theorem C115 {b : Bool} (h : K (.int .i64 (truI b)) w) : XCP Tryz.prog 115 [.bool b] w K KP := E115 (by unfold F115; cases b <;> exact h)
theorem C114 {c a b : Int} (hc : 10 ≤ c ∧ c ≤ 18) (ha : valB a = true) (hb : valB b = true) (h : K (.tuple #[.int .i64 (pairE (twoF c a b)).1, .int .i64 (pairE (twoF c a b)).2]) w) : XCP Tryz.prog 114 [.int .i64 (c - 7), .int .i64 a, .int .i64 b] w K KP := by
  have hm := mul_bound ha hb
  have hdv := div_bound (b := b) ha
  have hmd := mod_bound (b := b) ha
  have ha' := val_iff.1 ha
  have hb' := val_iff.1 hb
  have made : ∀ (n : Int) (J : Int → World → Prop), (K (.tuple #[.int .i64 (pairE (madeE n)).1, .int .i64 (pairE (madeE n)).2]) w) → (∀ (n3 : Int) (w0 : World), (if ((decide (n3 < (-2147483648))) || (decide (n3 > 2147483647))) = true then (K (.tuple #[(.int .i64 0), (.int .i64 2)]) w0) else (K (.tuple #[(.int .i64 n3), (.int .i64 0)]) w0)) → J n3 w0) → J n w := by
    intro n J h1 h2
    refine h2 _ _ ?_
    by_cases hv : valB n = true
    · have := val_iff.1 hv
      rw [if_neg (by simp; omega)]
      rw [madeE, if_pos hv] at h1; exact h1
    · rw [madeE, if_neg hv] at h1
      have : ¬(-2147483648 ≤ n ∧ n ≤ 2147483647) := fun hh => hv (val_iff.2 hh)
      rw [if_pos (by simp; omega)]
      exact h1
  refine E114 ?_
  unfold F114
  intro kb hkb
  have hcs : c = 10 ∨ c = 11 ∨ c = 12 ∨ c = 13 ∨ c = 14 ∨ c = 15 ∨ c = 16 ∨ c = 17 ∨ c = 18 := by omega
  rcases hcs with rfl | rfl | rfl | rfl | rfl | rfl | rfl | rfl | rfl
  · rw [if_pos (by rfl)]; exact C115 ⟨_, rfl, h⟩
  · rw [if_neg (by decide), if_pos (by rfl)]; exact C115 ⟨_, rfl, h⟩
  · rw [if_neg (by decide), if_neg (by decide), if_pos (by rfl)]; exact C115 ⟨_, rfl, h⟩
  · rw [if_neg (by decide), if_neg (by decide), if_neg (by decide), if_pos (by rfl)]; exact C115 ⟨_, rfl, h⟩
  · rw [if_neg (by decide), if_neg (by decide), if_neg (by decide), if_neg (by decide), if_pos (by rfl), wi (by omega) (by omega)]
    exact made _ kb h hkb
  · rw [if_neg (by decide), if_neg (by decide), if_neg (by decide), if_neg (by decide), if_neg (by decide), if_pos (by rfl), wi (by omega) (by omega)]
    exact made _ kb h hkb
  · rw [if_neg (by decide), if_neg (by decide), if_neg (by decide), if_neg (by decide), if_neg (by decide), if_neg (by decide), if_pos (by rfl), wi (by omega) (by omega)]
    exact made _ kb h hkb
  · rw [if_neg (by decide), if_neg (by decide), if_neg (by decide), if_neg (by decide), if_neg (by decide), if_neg (by decide), if_neg (by decide), if_pos (by rfl)]
    have e : twoF 17 a b = if b = 0 then .error 1 else madeE (a.tdiv b) := rfl
    rw [e] at h
    by_cases hb0 : b = 0
    · rw [if_pos hb0] at h
      rw [if_pos (by simp [hb0])]
      exact h
    · rw [if_neg hb0] at h
      rw [if_neg (by simpa using hb0), wi (by omega) (by omega)]
      exact ⟨hb0, made _ kb h hkb⟩
  · rw [if_neg (by decide), if_neg (by decide), if_neg (by decide), if_neg (by decide), if_neg (by decide), if_neg (by decide), if_neg (by decide), if_neg (by decide), if_pos (by rfl)]
    have e : twoF 18 a b = if b = 0 then .error 1 else .ok (a.tmod b) := rfl
    rw [e] at h
    by_cases hb0 : b = 0
    · rw [if_pos hb0] at h
      rw [if_pos (by simp [hb0])]
      exact h
    · rw [if_neg hb0] at h
      rw [if_neg (by simpa using hb0)]
      refine ⟨hb0, made _ kb ?_ hkb⟩
      rw [madeE, if_pos hmd]; exact h
/-- a number -/
theorem C68n {n : Int} {op : Int} {s : Sl} (h : ∀ u, Ex w u → K (.agg #[.int .i64 n, .int .i64 0, nilS]) u) : XCP Tryz.prog 68 [.agg stZ.toArray, .agg (exC 1 n op s).toArray, nilS] w K KP := by
  refine E68 ?_
  unfold F68
  intro w0 p w1 p1 w2 p2
  have hs : Sep w2 (bx w1.heap.size [i0, i0, nilS] 141 :: bx w0.heap.size (exC 1 n op s) 138 :: bx w.heap.size stZ 149 :: [oldA w]) := (((Sep.begin w).box _ _).box _ _).box _ _
  clear_value w2
  refine ⟨_, hs.bx1.ld rfl, ?_⟩
  rw [if_pos (by rfl)]
  refine ⟨_, hs.bx1.ld rfl, ?_⟩
  refine hs.fill (vs := [.int .i64 n, i0, nilS]) rfl fun w3 _ hs => ⟨_, _, _, _, _, hs.bx0.lds, ?_⟩
  exact h w3 (hs.ex 3 rfl)
end
end Go.Proofs.YtahcpjgaogghiaaGreat
