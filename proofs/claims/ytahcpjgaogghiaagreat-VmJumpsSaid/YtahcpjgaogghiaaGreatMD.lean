/- The vm seat: what was done held against what was done; instructions held against one another. -/
import Derived.Test.YtahcpjgaogghiaaGreatMC
import Derived.Test.YtahcpjgaogghiaaGreatX19
import Derived.ProofKit
import Derived.OpenShut
import Derived.ShutString
import Derived.ChangeOld
import Derived.Below
import Derived.Deep.Slices
import Derived.Deep.Strs
import Derived.Lib.SmallJoins
/- The vm seat: what was done held against what was done; instructions held against one another. -/
set_option linter.unusedVariables false
set_option linter.unusedSimpArgs false
set_option maxRecDepth 10000
set_option maxHeartbeats 2000000
namespace Go.Proofs.YtahcpjgaogghiaaGreat
open Go.X Go.Heap
theorem und52 : Tryz.prog.underlying 52 = some (.struct #[⟨ "Code", 50, 0, false, "", "", 0⟩, ⟨ "A", 3, 1, false, "", "", 8⟩, ⟨ "B", 3, 2, false, "", "", 16⟩, ⟨ "Num", 2, 3, false, "", "", 24⟩]) := by kernel_rfl
theorem und68 : Tryz.prog.underlying 68 = some (.struct #[⟨ "Kind", 63, 0, false, "", "", 0⟩, ⟨ "Access", 65, 1, false, "", "", 8⟩, ⟨ "Ins", 52, 4, false, "", "", 32⟩, ⟨ "Value", 2, 8, false, "", "", 64⟩, ⟨ "Trap", 66, 9, false, "", "", 72⟩]) := by kernel_rfl
theorem und65 : Tryz.prog.underlying 65 = some (.struct #[⟨ "Cell", 3, 0, false, "", "", 0⟩, ⟨ "Write", 4, 1, false, "", "", 8⟩, ⟨ "Value", 2, 2, false, "", "", 16⟩]) := by kernel_rfl
theorem und2 : Tryz.prog.underlying 2 = some (.int .i64) := by kernel_rfl
theorem und3 : Tryz.prog.underlying 3 = some (.int .i64) := by kernel_rfl
theorem und4 : Tryz.prog.underlying 4 = some .bool := by kernel_rfl
theorem und50 : Tryz.prog.underlying 50 = some (.int .i64) := by kernel_rfl
theorem und63 : Tryz.prog.underlying 63 = some (.int .i64) := by kernel_rfl
theorem und66 : Tryz.prog.underlying 66 = some (.int .i64) := by kernel_rfl
theorem info52 : ∃ i, Tryz.prog.info? 52 = some i ∧ i.size = 4 := by
  have h : (Tryz.prog.info? 52).map (·.size) = some 4 := by kernel_rfl
  cases he : Tryz.prog.info? 52 with
  | none => rw [he] at h; cases h
  | some i => rw [he] at h; exact ⟨i, rfl, by simpa using h⟩
theorem info65 : ∃ i, Tryz.prog.info? 65 = some i ∧ i.size = 3 := by
  have h : (Tryz.prog.info? 65).map (·.size) = some 3 := by kernel_rfl
  cases he : Tryz.prog.info? 65 with
  | none => rw [he] at h; cases h
  | some i => rw [he] at h; exact ⟨i, rfl, by simpa using h⟩
theorem Ins.eq_iff {a b : Ins} : a = b ↔ a.code = b.code ∧ a.a = b.a ∧ a.b = b.b ∧ a.num = b.num := by
  cases a; cases b; simp
theorem DidV.eq_iff {a b : DidV} : a = b ↔ a.kind = b.kind ∧ (a.cell = b.cell ∧ a.write = b.write ∧ a.av = b.av) ∧ a.ins = b.ins ∧ a.value = b.value ∧ a.trap = b.trap := by
  cases a; cases b; simp [and_assoc]
section
variable {w : World} {K : Value → World → Prop} {KP : List PanicEntry → World → Prop}
theorem eqIn_ins (a b : Ins) (d : Nat) (w : World) : (Op.equalIn (d + 2) 52 a.v b.v).run Tryz.prog w = .ok (decide (a = b)) w := by
  refine (eqIn_struct und52 (by kernel_rfl) [a.code == b.code, a.a == b.a, a.b == b.b, a.num == b.num] rfl fun i f r h1 h2 => ?_).trans ?_
  · match i, h1, h2 with
    | 0, h1, h2 => simp at h1 h2; subst h1; subst h2; exact fieldI (by decide) und50 rfl rfl
    | 1, h1, h2 => simp at h1 h2; subst h1; subst h2; exact fieldI (by decide) und3 rfl rfl
    | 2, h1, h2 => simp at h1 h2; subst h1; subst h2; exact fieldI (by decide) und3 rfl rfl
    | 3, h1, h2 => simp at h1 h2; subst h1; subst h2; exact fieldI (by decide) und2 rfl rfl
    | i + 4, h1, h2 => simp at h2
  · congr 1
    rw [Bool.eq_iff_iff]
    simp [Ins.eq_iff, and_assoc]
theorem eqIn_acc (a b : DidV) (d : Nat) (w : World) : (Op.equalIn (d + 2) 65 (.agg #[.int .i64 a.cell, .bool a.write, .int .i64 a.av]) (.agg #[.int .i64 b.cell, .bool b.write, .int .i64 b.av])).run Tryz.prog w = .ok (a.cell == b.cell && (a.write == b.write && a.av == b.av)) w := by
  refine (eqIn_struct und65 (by kernel_rfl) [a.cell == b.cell, a.write == b.write, a.av == b.av] rfl fun i f r h1 h2 => ?_).trans ?_
  · match i, h1, h2 with
    | 0, h1, h2 => simp at h1 h2; subst h1; subst h2; exact fieldI (by decide) und3 rfl rfl
    | 1, h1, h2 => simp at h1 h2; subst h1; subst h2; exact fieldB (by decide) und4 rfl rfl
    | 2, h1, h2 => simp at h1 h2; subst h1; subst h2; exact fieldI (by decide) und2 rfl rfl
    | i + 3, h1, h2 => simp at h2
  · congr 1
    simp
theorem eqIn_did (a b : DidV) (d : Nat) (w : World) : (Op.equalIn (d + 3) 68 a.v b.v).run Tryz.prog w = .ok (decide (a = b)) w := by
  obtain ⟨i5, hi5, hs5⟩ := info65
  obtain ⟨i2, hi2, hs2⟩ := info52
  refine (eqIn_struct und68 (by kernel_rfl) [a.kind == b.kind, a.cell == b.cell && (a.write == b.write && a.av == b.av), decide (a.ins = b.ins), a.value == b.value, a.trap == b.trap] rfl fun i f r h1 h2 => ?_).trans ?_
  · match i, h1, h2 with
    | 0, h1, h2 => simp at h1 h2; subst h1; subst h2; exact fieldI (by decide) und63 rfl rfl
    | 1, h1, h2 => simp only [List.getElem?_toArray, List.getElem?_cons_succ, List.getElem?_cons_zero, Option.some.injEq] at h1 h2; subst h1; subst h2; refine fieldA (by decide) und65 rfl hi5 ?_; rw [hs5]; exact eqIn_acc a b d w
    | 2, h1, h2 => simp only [List.getElem?_toArray, List.getElem?_cons_succ, List.getElem?_cons_zero, Option.some.injEq] at h1 h2; subst h1; subst h2; refine fieldA (by decide) und52 rfl hi2 ?_; rw [hs2]; exact eqIn_ins a.ins b.ins d w
    | 3, h1, h2 => simp at h1 h2; subst h1; subst h2; exact fieldI (by decide) und2 rfl rfl
    | 4, h1, h2 => simp at h1 h2; subst h1; subst h2; exact fieldI (by decide) und66 rfl rfl
    | i + 5, h1, h2 => simp at h2
  · congr 1
    rw [Bool.eq_iff_iff]
    simp [DidV.eq_iff, and_assoc]
theorem xr_ins_ne {x y : Operand} {a b : Ins} (h : K (.bool (!decide (a = b))) w) : XRun Tryz.prog (do eqGuard .neq 52 x y a.v b.v; binOp .neq 52 a.v b.v) w K :=
  xr_struct_ne (by kernel_rfl) (fun d => eqIn_ins a b (d + 2) w) h
theorem xr_did_eq {x y : Operand} {a b : DidV} (h : K (.bool (decide (a = b))) w) : XRun Tryz.prog (do eqGuard .eql 68 x y a.v b.v; binOp .eql 68 a.v b.v) w K :=
  xr_struct_eq (by kernel_rfl) (fun d => eqIn_did a b (d + 1) w) h
end
end Go.Proofs.YtahcpjgaogghiaaGreat
/- The vm seat: does an instruction what the document says? -/
set_option linter.unusedVariables false
set_option linter.unusedSimpArgs false
set_option maxRecDepth 10000
set_option maxHeartbeats 4000000
namespace Go.Proofs.YtahcpjgaogghiaaGreat
open Go.X Go.Heap
theorem or_left {w : World} {J : Bool → World → Prop} {T : (Bool → World → Prop) → Prop} {b : Bool} (hb : b = true) (hJ : J true w) :
    ∀ kb : Bool → World → Prop, (∀ (b : Bool) (w : World), J b w → kb b w) → if b = true then kb true w else T kb := by
  subst hb
  intro kb hkb
  rw [if_pos rfl]
  exact hkb _ _ hJ
theorem and_left {w : World} {J : Bool → World → Prop} {T : (Bool → World → Prop) → Prop} {b : Bool} (hb : b = false) (hJ : J false w) :
    ∀ kb : Bool → World → Prop, (∀ (b : Bool) (w : World), J b w → kb b w) → if b = true then T kb else kb false w := by
  subst hb
  intro kb hkb
  rw [if_neg (by decide)]
  exact hkb _ _ hJ
/-- the right side is worked out only where the left one does not tell -/
theorem or_join' {b c : Bool} {w : World} {J : Bool → World → Prop} {T : (Bool → World → Prop) → Prop} (hT : b = false → ∀ kb : Bool → World → Prop, (∀ u, Ex w u → kb c u) → T kb) (hJ : ∀ u, Ex w u → J (b || c) u) :
    ∀ kb : Bool → World → Prop, (∀ (b : Bool) (w : World), J b w → kb b w) → if b = true then kb true w else T kb := by
  intro kb hkb
  cases b with
  | true => rw [if_pos rfl]; exact hkb _ _ (hJ w (Ex.refl w))
  | false => rw [if_neg (by decide)]; exact hT rfl kb fun u hu => hkb _ _ (hJ u hu)
section
variable {w : World} {K : Value → World → Prop} {KP : List PanicEntry → World → Prop}
def triF (m : Mdl) (f : Frm) (cs : List Int) : Frm × DidV × Int := if okDo m f cs = true then ((doF m f cs).1, (doF m f cs).2, 0) else (noFrm, noDid, 2)
theorem C20' {m : Mdl} {q : MdlH} {f : Frm} {qf : FrmH} {sc : Sl} {cs : List Int} (hq : MdlP w T0 q m) (hf : FrmP w T0 qf f) (hc : ReadsI w T0 sc cs) (hsm : mdlOk m = true → Small m) (hb1 : f.locals.length ≤ 1000000) (hb2 : f.stack.length ≤ 900) (hb3 : cs.length ≤ 1000000)
    (h : ∀ (o : Frm) (qo : FrmH) (d : DidV) (e : Int) u, Ex w u → FrmP u T0 qo o → (o, d, e) = triF m f cs → K (.tuple #[o.v qo, d.v, .int .i64 e]) u) : XCP Tryz.prog 20 [m.v q, f.v qf, sc.v] w K KP := by
  refine C20 hq hf hc hsm hb1 hb2 hb3 (fun h0 u hu => h noFrm noFrmH noDid 2 u hu (noFrmP u) ?_) fun h1 q' u hu hr => h _ q' _ 0 u hu hr ?_
  · rw [triF, if_neg (by rw [h0]; decide)]
  · rw [triF, if_pos h1]
theorem C23' {m : Mdl} {q : MdlH} {f : Frm} {qf : FrmH} (hq : MdlP w T0 q m) (hf : FrmP w T0 qf f) (hsm : mdlOk m = true → Small m) (hb1 : f.locals.length ≤ 1000000) (hb2 : f.stack.length ≤ 900)
    (h : ∀ (i : Ins) (e : Int) u, Ex w u → (i, e) = (if mayF m f 0 = true then (insF m f, (0 : Int)) else (noIns, 2)) → K (.tuple #[i.v, .int .i64 e]) u) : XCP Tryz.prog 23 [m.v q, f.v qf] w K KP := by
  refine C23 hq hf hsm hb1 hb2 (fun h0 u hu => h _ _ u hu ?_) fun h1 u hu => h _ _ u hu ?_
  · rw [if_neg (by rw [h0]; decide)]
  · rw [if_pos h1]
theorem do_len {m : Mdl} {f : Frm} {cs : List Int} (h1 : f.stack.length ≤ 900) (h2 : f.locals.length ≤ 900000) : (doF m f cs).1.locals.length ≤ 1000000 ∧ (doF m f cs).1.stack.length ≤ 1000000 := by
  have key : ∀ {i : Ins} {st lo : List Int} {pc : Int} {did : DidV} {st' lo' : List Int} {pc' : Int} {did' : DidV}, doesF m cs i st lo pc did = .ok st' lo' pc' did' → st'.length ≤ st.length + 1 ∧ lo'.length = lo.length := by
    intro i st lo pc did st' lo' pc' did' e
    have hr : ∀ {r : Except Int Int} {s : List Int}, s.length ≤ st.length → resE r s lo pc did = .ok st' lo' pc' did' → st'.length ≤ st.length + 1 ∧ lo'.length = lo.length := by
      intro r s hl hr
      cases r with
      | ok v => cases hr; simp; omega
      | error t => cases hr
    have hm : memF m cs i st lo pc did = .ok st' lo' pc' did' → st'.length ≤ st.length + 1 ∧ lo'.length = lo.length := by
      intro e
      unfold memF at e
      repeat' split at e
      all_goals first
        | (cases e; done)
        | (cases e; simp; try omega)
    unfold doesF at e
    by_cases h1 : i.code = 1
    · rw [if_pos h1] at e; cases e; simp
    rw [if_neg h1] at e
    by_cases h2 : 2 ≤ i.code ∧ i.code ≤ 7
    · rw [if_pos h2] at e; exact hm e
    rw [if_neg h2] at e
    by_cases h3 : i.code = 8
    · rw [if_pos h3] at e; exact hr (by simp) e
    rw [if_neg h3] at e
    by_cases h4 : i.code = 9
    · rw [if_pos h4] at e; cases e; simp
    rw [if_neg h4] at e
    by_cases h5 : 10 ≤ i.code ∧ i.code ≤ 18
    · rw [if_pos h5] at e; exact hr (by simp; omega) e
    rw [if_neg h5] at e
    repeat' split at e
    all_goals (cases e; simp; try omega)
  unfold doF outF
  split
  · rename_i st lo pc did e
    have := key e
    exact ⟨by show lo.length ≤ _; omega, by show st.length ≤ _; omega⟩
  · exact ⟨by show f.locals.length ≤ _; omega, by show f.stack.length ≤ _; omega⟩
theorem C10 {m : Mdl} {q : MdlH} {f : Frm} {qf : FrmH} {sc : Sl} {cs : List Int} (hq : MdlP w T0 q m) (hf : FrmP w T0 qf f) (hc : ReadsI w T0 sc cs) (hsm : mdlOk m = true → Small m) (hb1 : f.locals.length ≤ 900000) (hb2 : f.stack.length ≤ 890) (hb3 : cs.length ≤ 1000000)
    (h : ∀ u, Ex w u → K (.bool true) u) : XCP Tryz.prog 10 [m.v q, f.v qf, sc.v] w K KP := by
  show XCP Tryz.prog 10 [.agg #[.slice q.sv.a q.sv.l q.sv.c, .slice q.sa.a q.sa.l q.sa.c, .slice q.sc.a q.sc.l q.sc.c, .int .i64 m.mutexes, .int .i64 m.conds, .slice q.st.a q.st.l q.st.c], .agg #[.int .i64 f.code, .int .i64 f.pc, .slice qf.sl.a qf.sl.l qf.sl.c, .slice qf.ss.a qf.ss.l qf.ss.c], .slice sc.a sc.l sc.c] w K KP
  refine E10 ?_
  unfold F10
  intro w0 p w1 p1
  have hs : Sep w1 (bx w0.heap.size (f.cells qf) 28 :: bx w.heap.size (m.cells q) 26 :: [oldA w]) := ((Sep.begin w).box _ _).box _ _
  clear_value w1
  have e1 : Ex w w1 := hs.ex 2 rfl
  refine ⟨_, _, _, _, _, _, _, _, _, _, _, _, _, _, (hs.blkAt 1 rfl).lds, _, _, _, _, _, _, _, _, (hs.blkAt 0 rfl).lds, ?_⟩
  refine C20' (hq.ex e1) (hf.ex e1) (hc.old e1) hsm (by omega) (by omega) hb3 fun o qo d e u2 e2 ho hod => ⟨_, _, _, _, _, _, _, _, _, _, _, _, _, _, _, _, _, _, _, rfl, ?_⟩
  have hF : Blk u2 w0.heap.size (f.cells qf) 28 := e2.blk (hs.blkAt 0 rfl)
  have hM : Blk u2 w.heap.size (m.cells q) 26 := e2.blk (hs.blkAt 1 rfl)
  replace e2 := e1.trans e2
  clear hs
  clear e1
  intro w3 p2 w4 p3
  have hs : Sep w4 (bx w3.heap.size noDid.cells 68 :: bx u2.heap.size (noFrm.cells noFrmH) 28 :: [oldA u2]) := ((Sep.begin u2).box _ _).box _ _
  clear_value w4
  refine Sep.fillAt hs 1 rfl (vs := o.cells qo) rfl fun w5 _ hs => ?_
  refine Sep.fillAt hs 0 rfl (vs := d.cells) rfl fun w6 _ hs => ?_
  have e6 : Ex u2 w6 := hs.ex 2 rfl
  refine ⟨_, _, _, _, _, _, _, _, _, _, _, _, _, _, (e6.blk hM).lds, _, _, _, _, _, _, _, _, (e6.blk hF).lds, ?_⟩
  refine C23' (hq.ex (e2.trans e6)) (hf.ex (e2.trans e6)) hsm (by omega) (by omega) fun i e' u7 e7 hi => ⟨_, _, _, _, _, rfl, ?_⟩
  have hO : Blk u7 u2.heap.size (o.cells qo) 28 := e7.blk (hs.blkAt 1 rfl)
  have hD : Blk u7 w3.heap.size d.cells 68 := e7.blk (hs.blkAt 0 rfl)
  replace e6 := e6.trans e7
  replace hM := e6.blk hM
  replace hF := e6.blk hF
  replace e2 := e2.trans e6
  replace ho := ho.ex e6
  clear e6 hs e7
  intro w8 p4
  have hs : Sep w8 (bx u7.heap.size noIns.cells 52 :: [oldA u7]) := (Sep.begin u7).box _ _
  clear_value w8
  refine Sep.fillAt hs 0 rfl (vs := i.cells) rfl fun w9 _ hs => ?_
  have e9 : Ex u7 w9 := hs.ex 1 rfl
  have hI : Blk w9 u7.heap.size i.cells 52 := hs.blkAt 0 rfl
  replace hM := e9.blk hM
  replace hF := e9.blk hF
  replace hO := e9.blk hO
  replace hD := e9.blk hD
  replace e2 := e2.trans e9
  replace ho := ho.ex e9
  clear e9 hs
  refine ⟨_, _, _, _, _, _, _, _, _, _, _, _, _, _, hM.lds, _, _, _, _, _, _, _, _, hF.lds, ?_⟩
  refine C19 (hq.ex e2) (hf.ex e2) hsm (by omega) (by omega) (by decide) fun w10 e10 => ⟨_, rfl, ?_⟩
  replace hM := e10.blk hM
  replace hF := e10.blk hF
  replace hO := e10.blk hO
  replace hD := e10.blk hD
  replace hI := e10.blk hI
  replace e2 := e2.trans e10
  replace ho := ho.ex e10
  clear e10
  intro kb hkb
  have hkb : ∀ u, Ex w10 u → kb false u := by
    intro u eu
    refine hkb _ _ ?_
    rw [if_neg (by decide)]
    have hlen : ((sc.l : Int) != countF m) = !((cs.length : Int) == countF m) := by rw [hc.len]; rfl
    have hcl := hc.len
    refine or_join' (b := !mayF m f 0) (c := !((cs.length : Int) == countF m)) (fun hb kb hk => ?_) fun u1 f1 => ?_
    · have hm : mayF m f 0 = true := by simpa using hb
      obtain ⟨hok, -⟩ := may_fit hm (by omega)
      obtain ⟨n1, n2, n3⟩ := mdl_nums hok
      refine ⟨_, _, _, _, _, _, _, _, _, _, _, _, _, _, (eu.blk hM).lds, ?_⟩
      refine C14 (hq.ex (e2.trans eu)) n1 n2 n3 fun u hu => ⟨_, rfl, ?_⟩
      rw [hcl]; exact hk u hu
    refine or_join' (c := !valsB cs) (fun hb kb hk => C12 (hc.old (e2.trans (eu.trans f1))) (by omega) fun u hu => ⟨_, rfl, hk u hu⟩) fun u2 f2 => ?_
    have fu : Ex w10 u2 := eu.trans (f1.trans f2)
    have hb : ((!mayF m f 0 || !((cs.length : Int) == countF m)) || !valsB cs) = !okDo m f cs := by
      unfold okDo
      cases mayF m f 0 <;> simp [Bool.not_and]
    rw [hb]
    clear hb
    unfold triF at hod
    by_cases hdo : okDo m f cs = true
    rotate_left
    · rw [if_neg hdo] at hod
      rw [if_pos (by simpa using hdo)]
      injection hod with h1 h2
      injection h2 with h2 h3
      subst h1; subst h2; subst h3
      refine ⟨_, _, _, _, _, _, _, _, (fu.blk hO).lds, ?_⟩
      refine C24 (b := noFrm) (qb := noFrmH) (ho.ex fu) (noFrmP _) (by decide) (by decide) fun v ev => ⟨_, rfl, ?_⟩
      rw [decide_eq_true rfl]
      intro kb3 hk3
      rw [if_pos rfl]
      refine ⟨_, _, _, _, _, _, _, _, _, _, ((fu.trans ev).blk hD).lds, ?_⟩
      refine xr_did_eq (a := noDid) (b := noDid) ⟨_, rfl, ?_⟩
      rw [decide_eq_true rfl]
      refine hk3 _ _ ?_
      exact h v (e2.trans (fu.trans ev))
    · rw [if_pos hdo] at hod
      rw [if_neg (by simpa using hdo)]
      injection hod with h1 h2
      injection h2 with h2 h3
      subst h3
      have hdo' := hdo
      unfold okDo at hdo'
      have hm : mayF m f 0 = true := by
        cases hm : mayF m f 0 with
        | true => rfl
        | false => rw [hm] at hdo'; simp at hdo'
      rw [if_pos hm] at hdo'
      simp only [Bool.and_eq_true, beq_iff_eq] at hdo'
      obtain ⟨hok, hc0, hct, hp0, hpl, hS, -⟩ := may_fit hm (by omega)
      obtain ⟨n1, n2, n3⟩ := mdl_nums hok
      refine ⟨_, _, _, _, _, _, _, _, _, _, _, _, _, _, (fu.blk hM).lds, _, _, _, _, _, _, _, _, (fu.blk hF).lds, ?_⟩
      have ew := e2.trans fu
      have hpm : (codF m f).ins.length ≤ 1000 := by
        refine hsm hok _ ?_
        unfold codF
        rw [List.getD_eq_getElem?_getD, List.getElem?_eq_getElem hct]
        exact List.getElem_mem _
      refine C25 (cs := cs) ⟨hq.ex ew, hc.old ew, n1, n2, n3, hdo'.1⟩ (hf.ex ew) hc0 hct hp0 hpl hpm hS (by omega) fun q' v ev hv => ⟨_, _, _, _, _, _, _, _, _, _, _, _, _, _, _, _, _, _, rfl, ?_⟩
      intro w18 p5 w19 p6
      have hs : Sep w19 (bx w18.heap.size noDid.cells 68 :: bx v.heap.size (noFrm.cells noFrmH) 28 :: [oldA v]) := ((Sep.begin v).box _ _).box _ _
      clear_value w19
      refine Sep.fillAt hs 1 rfl (vs := Frm.cells (doF m f cs).1 q') rfl fun w20 _ hs => ?_
      refine Sep.fillAt hs 0 rfl (vs := DidV.cells (doF m f cs).2) rfl fun w21 _ hs => ?_
      have e21 : Ex v w21 := hs.ex 2 rfl
      have f21 : Ex w10 w21 := fu.trans (ev.trans e21)
      refine ⟨_, _, _, _, _, _, _, _, (f21.blk hO).lds, _, _, _, _, _, _, _, _, (hs.blkAt 1 rfl).lds, ?_⟩
      have ll : (doF m f cs).1.locals.length ≤ 1000000 ∧ (doF m f cs).1.stack.length ≤ 1000000 := do_len hS.sl (by omega)
      rw [← h1] at hv ll ⊢
      refine C24 (ho.ex f21) (hv.ex e21) ll.1 ll.2 fun x ex => ⟨_, rfl, ?_⟩
      rw [decide_eq_true rfl]
      intro kb4 hk4
      rw [if_pos rfl]
      refine ⟨_, _, _, _, _, _, _, _, _, _, ((f21.trans ex).blk hD).lds, _, _, _, _, _, _, _, _, _, _, (ex.blk (hs.blkAt 0 rfl)).lds, ?_⟩
      refine xr_did_eq ⟨_, rfl, ?_⟩
      rw [decide_eq_true h2]
      refine hk4 _ _ ?_
      exact h x (e2.trans (f21.trans ex))
  refine ⟨fun z => Ex w10 z, Ex.drew _, _, _, _, _, _, _, _, _, _, _, _, _, _, _, fun z hz => (hz.blk hM).lds, _, _, _, _, _, _, _, _, fun z hz => (hz.blk hF).lds, ?_⟩
  have ed := e2.trans (Ex.drew w10)
  refine C22 (hq.ex ed) (hf.ex ed) hsm (by omega) (by omega) fun w30 e30 => ⟨_, rfl, (Ex.drew w10).trans e30, ?_⟩
  rw [if_neg (by simp)]
  by_cases hm : mayF m f 0 = true
  · rw [if_pos hm] at hi
    injection hi with h1 h2
    subst h1; subst h2
    rw [hm, if_neg (by decide), if_pos rfl]
    obtain ⟨hok, hc0, hct, hp0, hpl, hS, -⟩ := may_fit hm (by omega)
    obtain ⟨pt, qc, hpt, hcod⟩ := codP_at (f := f) hq hct
    obtain ⟨pi, hpi, hins⟩ := insP_at (hcod w (Ex.refl w)).1 hpl
    have lt := hq.t.len
    have li := (hcod w (Ex.refl w)).1.1.len
    refine ⟨_, _, _, _, fun z hz => (hz.blk hI).lds, _, _, _, fun z hz => (hz.blk hM).ld rfl, _, fun z hz => (hz.blk hF).ld rfl, ?_⟩
    refine xptr_of hpt ⟨hc0, by omega, _, _, _, fun z hz => cellsAt_ix (hcod z (e2.trans hz)).2 (j := 2) rfl, _, fun z hz => (hz.blk hF).ld rfl, ?_⟩
    refine xptr_of hpi ⟨hp0, by omega, _, _, _, _, fun z hz => hins z (e2.trans hz), ?_⟩
    refine xr_ins_ne (a := insF m f) (b := insF m f) ⟨_, rfl, (Ex.drew w10).trans e30, ?_⟩
    rw [decide_eq_true rfl]
    exact hkb _ ((Ex.drew w10).trans e30)
  · rw [if_neg hm] at hi
    injection hi with h1 h2
    subst h1; subst h2
    rw [Bool.not_eq_true] at hm
    rw [hm, if_neg (by decide), if_neg (by decide)]
    exact hkb _ ((Ex.drew w10).trans e30)
end
end Go.Proofs.YtahcpjgaogghiaaGreat
/- The vm seat: what is more than is looked at; a module of one thread; frames at threads' begins; the known one. -/
set_option linter.unusedVariables false
set_option linter.unusedSimpArgs false
set_option maxRecDepth 10000
set_option maxHeartbeats 4000000
namespace Go.Proofs.YtahcpjgaogghiaaGreat
open Go.X Go.Heap
section
variable {w : World} {K : Value → World → Prop} {KP : List PanicEntry → World → Prop}
structure Few (m : Mdl) (f : Frm) (cs : List Int) : Prop where
  t : ∀ c ∈ m.threads, c.ins.length ≤ 200
  l : f.locals.length ≤ 40
  s : f.stack.length ≤ 40
  c : cs.length ≤ 600
theorem C8 {m : Mdl} {q : MdlH} {f : Frm} {qf : FrmH} {sc : Sl} {cs : List Int} (hq : MdlP w T0 q m) (hf : FrmP w T0 qf f) (hc : ReadsI w T0 sc cs) (hl : m.threads.length ≤ 9223372036854775807)
    (h : ∀ b u, Ex w u → (b = false → Few m f cs) → K (.bool b) u) : XCP Tryz.prog 8 [m.v q, f.v qf, sc.v] w K KP := by
  show XCP Tryz.prog 8 [.agg #[.slice q.sv.a q.sv.l q.sv.c, .slice q.sa.a q.sa.l q.sa.c, .slice q.sc.a q.sc.l q.sc.c, .int .i64 m.mutexes, .int .i64 m.conds, .slice q.st.a q.st.l q.st.c], .agg #[.int .i64 f.code, .int .i64 f.pc, .slice qf.sl.a qf.sl.l qf.sl.c, .slice qf.ss.a qf.ss.l qf.ss.c], .slice sc.a sc.l sc.c] w K KP
  refine E8 ?_
  unfold F8
  intro w0 p w1 p1
  have hs : Sep w1 (bx w0.heap.size (f.cells qf) 28 :: bx w.heap.size (m.cells q) 26 :: [oldA w]) := ((Sep.begin w).box _ _).box _ _
  clear_value w1
  have hM : Blk w1 w.heap.size (m.cells q) 26 := hs.blkAt 1 rfl
  have hF : Blk w1 w0.heap.size (f.cells qf) 28 := hs.blkAt 0 rfl
  have e1 : Ex w w1 := hs.ex 2 rfl
  clear hs
  have l1 := hf.l.len
  have l2 := hf.s.len
  have l3 := hc.len
  have l4 := hq.t.len
  refine ⟨_, _, _, hM.ld rfl, ?_⟩
  refine X.or_join (c := decide ((q.sa.l : Int) > 20)) (fun kb hk => ⟨_, _, _, hM.ld rfl, hk _ (Ex.refl _)⟩) fun u1 f1 => ?_
  refine X.or_join (c := decide ((q.sc.l : Int) > 20)) (fun kb hk => ⟨_, _, _, (f1.blk hM).ld rfl, hk _ (Ex.refl _)⟩) fun u2 f2 => ?_
  replace f2 := f1.trans f2
  refine X.or_join (c := decide ((q.st.l : Int) > 4)) (fun kb hk => ⟨_, _, _, (f2.blk hM).ld rfl, hk _ (Ex.refl _)⟩) fun u3 f3 => ?_
  replace f3 := f2.trans f3
  refine X.or_join (c := decide ((qf.sl.l : Int) > 40)) (fun kb hk => ⟨_, _, _, (f3.blk hF).ld rfl, hk _ (Ex.refl _)⟩) fun u4 f4 => ?_
  replace f4 := f3.trans f4
  refine X.or_join (c := decide ((qf.ss.l : Int) > 40)) (fun kb hk => ⟨_, _, _, (f4.blk hF).ld rfl, hk _ (Ex.refl _)⟩) fun u5 f5 => ?_
  replace f5 := f4.trans f5
  by_cases hc1 : ((((((decide ((q.sv.l : Int) > 20) || decide ((q.sa.l : Int) > 20)) || decide ((q.sc.l : Int) > 20)) || decide ((q.st.l : Int) > 4)) || decide ((qf.sl.l : Int) > 40)) || decide ((qf.ss.l : Int) > 40)) || decide ((sc.l : Int) > 600)) = true
  · rw [if_pos hc1]
    exact h true u5 (e1.trans f5) fun e => by cases e
  rw [if_neg hc1]
  simp only [Bool.or_eq_true, decide_eq_true_eq, not_or] at hc1
  refine X.each m.threads.length (fun i => ∀ c, m.threads[i]? = some c → c.ins.length ≤ 200) ?_ ?_
  · intro I μ n u he hlt hf' next
    have eu := f5.trans he
    obtain ⟨pt, row, hpt, hr, hcell⟩ := (hq.t.old (e1.trans eu)).nth (List.getElem?_eq_getElem hlt) (by decide)
    obtain ⟨qc, rfl, hcp⟩ := hr
    have hcell : cellsAt u (pt.add (n * 4)) 0 (Cod.cells m.threads[n] qc) := hcell
    refine ⟨_, _, _, (eu.blk hM).ld rfl, ?_⟩
    rw [if_pos (by simp; omega)]
    refine ⟨_, _, _, (eu.blk hM).ld rfl, xptr_of hpt ⟨by omega, by omega, _, _, _, cellsAt_ix hcell (j := 2) rfl, ?_⟩⟩
    refine X.or_join (c := decide ((qc.sl.l : Int) > 300)) (fun kb hk => ⟨_, _, _, (eu.blk hM).ld rfl, xptr_of hpt ⟨by omega, by omega, _, _, _, cellsAt_ix hcell (j := 3) rfl, hk _ (Ex.refl _)⟩⟩) fun v1 g1 => ?_
    refine X.or_join (c := decide ((m.threads[n].name.size : Int) > 100)) (fun kb hk => ⟨_, _, _, ((eu.trans g1).blk hM).ld rfl, xptr_of hpt ⟨by omega, by omega, _, cellsAt_ix (g1.cells hcell) (j := 0) rfl, hk _ (Ex.refl _)⟩⟩) fun v2 g2 => ?_
    have li := hcp.1.len
    split
    · exact h true v2 (e1.trans (eu.trans (g1.trans g2))) fun e => by cases e
    · rename_i hno
      rw [wi (by omega) (by omega)]
      refine next (fun c hc => ?_) v2 (g1.trans g2)
      rw [List.getElem?_eq_getElem hlt] at hc
      injection hc with hc
      subst hc
      simp at hno
      omega
  · intro I μ u he hall
    have eu := f5.trans he
    refine ⟨_, _, _, (eu.blk hM).ld rfl, ?_⟩
    rw [if_neg (by simp; omega)]
    refine h false u (e1.trans eu) fun _ => ⟨fun c hc => ?_, by omega, by omega, by omega⟩
    obtain ⟨i, hi, rfl⟩ := List.getElem_of_mem hc
    exact hall i hi _ (List.getElem?_eq_getElem hi)
def mainB : ByteArray := ⟨#[109, 97, 105, 110]⟩
def oneM (l : List Ins) : Mdl := ⟨[], [], [], 0, 0, [⟨mainB, 0, l, List.replicate l.length 0⟩]⟩
theorem C16 {s : Sl} {l : List Ins} {G : Nat → Prop} (hl : SlR insR w G s l) (hn : l.length ≤ 1000000) (h : ∀ q u, Ex w u → MdlP u T0 q (oneM l) → K ((oneM l).v q) u) : XCP Tryz.prog 16 [s.v] w K KP := by
  show XCP Tryz.prog 16 [.slice s.a s.l s.c] w K KP
  refine E16 ?_
  unfold F16
  intro w0 p
  have hs : Sep w0 (bx w.heap.size _ 26 :: [oldA w]) := (Sep.begin w).box _ _
  clear_value w0
  have hll := hl.len
  refine Sep.make (cs := ints (List.replicate s.l 0)) T23 rfl hs (by omega) (Int.le_refl _) (by omega) (by omega) (by simp) (fun i hi => by simp at hi; simp [ints, hi, Nat.mod_one]) fun ln w2 hln hs _ => ⟨_, _, _, rfl, ?_⟩
  refine Sep.build (cs := [.string mainB, .int .i64 0, s.v, ln.v]) T24 rfl hs rfl rfl (by decide) fun t w3 htl hs _ => ⟨_, _, _, rfl, ?_⟩
  have hs := hs.to2
  refine hs.fill (vs := [.slice none 0 0, .slice none 0 0, .slice none 0 0, .int .i64 0, .int .i64 0, t.v]) rfl fun w4 _ hs => ⟨_, _, _, _, _, _, _, _, _, _, _, _, _, _, hs.bx0.lds, ?_⟩
  have hex := hs.ex 3 rfl
  obtain ⟨G1, hr1, hc1, -⟩ := hs.to1.rowRd
  obtain ⟨G2, hr2, hc2, -⟩ := hs.to2.rowRd
  refine h ⟨⟨none, 0, 0⟩, ⟨none, 0, 0⟩, ⟨none, 0, 0⟩, t⟩ w4 hex ⟨SlR.nil _ _, SlR.nil _ _, SlR.nil _ _, htl, by omega, [[.string mainB, .int .i64 0, s.v, ln.v]], rfl, hr1.mono (fun _ _ _ => trivial), fun i row x hr hx => ?_⟩
  cases i with
  | succ i => simp at hr
  | zero =>
    simp at hr hx
    subst hr
    have hx : (⟨mainB, 0, l, List.replicate l.length 0⟩ : Cod) = x := by simpa [oneM] using hx
    subst hx
    refine ⟨⟨s, ln⟩, rfl, hl.old hex, ?_⟩
    refine (SlR.of_ints (t := 3) (G := T0) ?_)
    obtain ⟨G3, hG3⟩ := hs.at2
    have hG3 : Own w4 1 3 ln.a ln.l ln.c (ints (List.replicate s.l 0)) G3 := hG3
    rw [hll] at hG3
    exact Own.mono hG3 fun _ _ _ => trivial
def newF (m : Mdl) (c : Int) : Frm × Int := if checkF m = 0 ∧ 0 ≤ c ∧ c < m.threads.length then (⟨c, 0, List.replicate (m.threads.getD c.toNat noCod).locals.toNat 0, []⟩, 0) else (noFrm, 2)
theorem C18 {m : Mdl} {q : MdlH} {c : Int} (hq : MdlP w T0 q m) (hsm : mdlOk m = true → Small m)
    (h : ∀ (f : Frm) (qf : FrmH) (e : Int) u, Ex w u → FrmP u T0 qf f → (f, e) = newF m c → K (.tuple #[f.v qf, .int .i64 e]) u) : XCP Tryz.prog 18 [m.v q, .int .i64 c] w K KP := by
  show XCP Tryz.prog 18 [.agg #[.slice q.sv.a q.sv.l q.sv.c, .slice q.sa.a q.sa.l q.sa.c, .slice q.sc.a q.sc.l q.sc.c, .int .i64 m.mutexes, .int .i64 m.conds, .slice q.st.a q.st.l q.st.c], .int .i64 c] w K KP
  refine E18 ?_
  unfold F18
  intro w0 p w1 p1
  have hs : Sep w1 (bx w0.heap.size (noFrm.cells noFrmH) 28 :: bx w.heap.size (m.cells q) 26 :: [oldA w]) := ((Sep.begin w).box _ _).box _ _
  clear_value w1
  have e1 : Ex w w1 := hs.ex 2 rfl
  have l4 := hq.t.len
  refine ⟨_, _, _, _, _, _, _, _, _, _, _, _, _, _, (hs.blkAt 1 rfl).lds, ?_⟩
  refine C32 (hq.ex e1) hsm fun u2 e2 => ⟨_, rfl, ?_⟩
  replace hs := hs.ext e2
  refine X.or_join (c := decide (c ≥ (q.st.l : Int))) (fun kb hk => ⟨_, _, _, (hs.blkAt 1 rfl).ld rfl, hk _ (Ex.refl _)⟩) fun u3 e3 => ?_
  replace hs := hs.ext e3
  by_cases hno : ((checkF m != 0 || decide (c < 0)) || decide (c ≥ (q.st.l : Int))) = true
  · rw [if_pos hno]
    refine Sep.fillAt hs 0 rfl (vs := noFrm.cells noFrmH) rfl fun u4 _ hs => ?_
    refine ⟨_, _, _, _, _, _, _, _, (hs.blkAt 0 rfl).lds, h noFrm noFrmH 2 u4 (hs.ex 2 rfl) (noFrmP _) ?_⟩
    rw [newF, if_neg]
    simp only [Bool.or_eq_true, decide_eq_true_eq, bne_iff_ne] at hno
    omega
  · rw [if_neg hno]
    simp only [Bool.or_eq_true, decide_eq_true_eq, bne_iff_ne, not_or, Decidable.not_not] at hno
    have hct : c.toNat < m.threads.length := by omega
    have e3' : Ex w u3 := hs.ex 2 rfl
    obtain ⟨pt, row, hpt, hr, hcell⟩ := (hq.t.old e3').nth (List.getElem?_eq_getElem hct) (by decide)
    obtain ⟨qc, rfl, hcp⟩ := hr
    have hcell : cellsAt u3 (pt.add (c.toNat * 4)) 0 (Cod.cells m.threads[c.toNat] qc) := hcell
    have hok := (check_ok hno.1.1).1
    have hloc : 0 ≤ m.threads[c.toNat].locals ∧ m.threads[c.toNat].locals ≤ 32 := by
      unfold mdlOk allOk at hok
      simp only [Bool.and_eq_true, decide_eq_true_eq, List.all_eq_true] at hok
      have := hok.2.2 _ (List.getElem_mem hct)
      unfold codOk inI at this
      simp only [Bool.and_eq_true, decide_eq_true_eq] at this
      omega
    refine ⟨_, _, _, (hs.blkAt 1 rfl).ld rfl, xptr_of hpt ⟨by omega, by omega, _, cellsAt_ix hcell (j := 1) rfl, ?_⟩⟩
    refine Sep.make (cs := ints (List.replicate m.threads[c.toNat].locals.toNat 0)) T22 rfl hs (by omega) (Int.le_refl _) (by omega) (by omega) (by simp) (fun i hi => by simp at hi; simp [ints, hi, Nat.mod_one]) fun ln w2 hln hs _ => ⟨_, _, _, rfl, ?_⟩
    refine Sep.fillAt hs 1 rfl (vs := Frm.cells ⟨c, 0, List.replicate m.threads[c.toNat].locals.toNat 0, []⟩ ⟨ln, ⟨none, 0, 0⟩⟩) rfl fun u4 _ hs => ?_
    refine ⟨_, _, _, _, _, _, _, _, (hs.blkAt 1 rfl).lds, h ⟨c, 0, List.replicate m.threads[c.toNat].locals.toNat 0, []⟩ ⟨ln, ⟨none, 0, 0⟩⟩ 0 u4 (hs.ex 3 rfl) ⟨Sep.rowReads hs 0 rfl, SlR.nil _ _⟩ ?_⟩
    rw [newF, if_pos ⟨hno.1.1, by omega, by omega⟩, List.getD_eq_getElem?_getD, List.getElem?_eq_getElem hct]
    rfl
def K3 : List Ins := [⟨1, 0, 0, 6⟩, ⟨33, 0, 0, 0⟩, ⟨34, 0, 0, 0⟩]
theorem known0 : newF (oneM K3) 0 = (⟨0, 0, [], []⟩, 0) := by decide +kernel
theorem known1 : triF (oneM K3) ⟨0, 0, [], []⟩ [] = (⟨0, 1, [], [6]⟩, plain, 0) := by decide +kernel
theorem known2 : triF (oneM K3) ⟨0, 1, [], [6]⟩ [] = (⟨0, 2, [], []⟩, ⟨6, 0, false, 0, noIns, 6, 0⟩, 0) := by decide +kernel
theorem small1 {l : List Ins} (h : l.length ≤ 1000) : Small (oneM l) := by
  intro c hc
  have : c = ⟨mainB, 0, l, List.replicate l.length 0⟩ := by simpa [oneM] using hc
  subst this; exact h
theorem C9 (h : ∀ u, Ex w u → K (.bool true) u) : XCP Tryz.prog 9 [] w K KP := by
  refine E9 ?_
  unfold F9
  refine Sep.build (cs := (K3.map Ins.cells).flatten) T44 rfl (Sep.begin w) rfl rfl (by decide) fun s w0 hl hs he => ⟨_, _, _, rfl, ?_⟩
  have hsl : SlR insR w0 T0 s K3 := by
    obtain ⟨G, hr, hc, _⟩ := hs.rowRd
    exact SlR.of_ins (hr.mono fun _ _ _ => trivial) hl hc
  have hS : mdlOk (oneM K3) = true → Small (oneM K3) := fun _ => small1 (by decide)
  refine C16 hsl (by decide) fun q u1 e1 hq => ⟨_, _, _, _, _, _, _, _, _, _, _, _, _, _, rfl, ?_⟩
  replace e1 := Ex.trans he e1
  intro w2 p
  have hs : Sep w2 (bx u1.heap.size _ 26 :: [oldA u1]) := (Sep.begin u1).box _ _
  clear_value w2
  refine Sep.fillAt hs 0 rfl (vs := (oneM K3).cells q) rfl fun w3 _ hs => ?_
  have hM : Blk w3 u1.heap.size ((oneM K3).cells q) 26 := hs.blkAt 0 rfl
  replace hq := hq.ex (hs.ex 1 rfl)
  replace e1 := e1.trans (hs.ex 1 rfl)
  clear hs
  refine ⟨_, _, _, _, _, _, _, _, _, _, _, _, _, _, hM.lds, ?_⟩
  refine C18 hq hS fun f qf e u4 e4 hf hfe => ⟨_, _, _, _, _, _, _, _, _, rfl, ?_⟩
  rw [known0] at hfe
  injection hfe with h1 h2
  subst h1; subst h2
  replace hM := e4.blk hM
  replace hq := hq.ex e4
  replace e1 := e1.trans e4
  intro w5 p1
  have hs : Sep w5 (bx u4.heap.size _ 28 :: [oldA u4]) := (Sep.begin u4).box _ _
  clear_value w5
  refine Sep.fillAt hs 0 rfl (vs := Frm.cells ⟨0, 0, [], []⟩ qf) rfl fun w6 _ hs => ?_
  have e6 : Ex u4 w6 := hs.ex 1 rfl
  refine ⟨_, _, _, _, _, _, _, _, _, _, _, _, _, _, (e6.blk hM).lds, _, _, _, _, _, _, _, _, (hs.blkAt 0 rfl).lds, ?_⟩
  refine C20' (cs := []) (sc := ⟨none, 0, 0⟩) (hq.ex e6) (hf.ex e6) (SlR.nil _ _) hS (by decide) (by decide) (by decide) fun o qo d e u7 e7 ho hod => ⟨_, _, _, _, _, _, _, _, _, _, _, _, _, _, _, _, _, _, _, rfl, ?_⟩
  rw [known1] at hod
  injection hod with h1 h2
  injection h2 with h2 h3
  subst h1; subst h2; subst h3
  replace hM := (e6.trans e7).blk hM
  replace hq := hq.ex (e6.trans e7)
  replace e1 := e1.trans (e6.trans e7)
  clear e6 hs
  intro w8 p2 w9 p3
  have hs : Sep w9 (bx w8.heap.size _ 68 :: bx u7.heap.size _ 28 :: [oldA u7]) := ((Sep.begin u7).box _ _).box _ _
  clear_value w9
  refine Sep.fillAt hs 1 rfl (vs := Frm.cells ⟨0, 1, [], [6]⟩ qo) rfl fun w10 _ hs => ?_
  refine Sep.fillAt hs 0 rfl (vs := plain.cells) rfl fun w11 _ hs => ?_
  have e11 : Ex u7 w11 := hs.ex 2 rfl
  have hP2 : Blk w11 u7.heap.size (Frm.cells ⟨0, 1, [], [6]⟩ qo) 28 := hs.blkAt 1 rfl
  have hP3 : Blk w11 w8.heap.size plain.cells 68 := hs.blkAt 0 rfl
  replace hM := e11.blk hM
  replace hq := hq.ex e11
  replace ho := ho.ex e11
  replace e1 := e1.trans e11
  refine ⟨_, _, _, _, _, _, _, _, _, _, _, _, _, _, hM.lds, _, _, _, _, _, _, _, _, hP2.lds, ?_⟩
  refine C20' (cs := []) (sc := ⟨none, 0, 0⟩) hq ho (SlR.nil _ _) hS (by decide) (by decide) (by decide) fun o2 qo2 d2 e2 u12 e12 ho2 hod => ⟨_, _, _, _, _, _, _, _, _, _, _, _, _, _, _, _, _, _, _, rfl, ?_⟩
  rw [known2] at hod
  injection hod with h1 h2
  injection h2 with h2 h3
  subst h1; subst h2; subst h3
  intro w13 p4 w14 p5
  have hs : Sep w14 (bx w13.heap.size _ 68 :: bx u12.heap.size _ 28 :: [oldA u12]) := ((Sep.begin u12).box _ _).box _ _
  clear_value w14
  refine Sep.fillAt hs 1 rfl (vs := Frm.cells ⟨0, 2, [], []⟩ qo2) rfl fun w15 _ hs => ?_
  refine Sep.fillAt hs 0 rfl (vs := DidV.cells ⟨6, 0, false, 0, noIns, 6, 0⟩) rfl fun w16 _ hs => ?_
  have e16 : Ex w11 w16 := e12.trans (hs.ex 2 rfl)
  have hP5 : Blk w16 w13.heap.size (DidV.cells ⟨6, 0, false, 0, noIns, 6, 0⟩) 68 := hs.blkAt 0 rfl
  replace hP2 := e16.blk hP2
  replace hP3 := e16.blk hP3
  replace ho := ho.ex e16
  replace e1 := e1.trans e16
  have lo := ho.s.len
  have lo : qo.ss.l = 1 := lo
  refine X.and_true rfl (fun kb hk => ⟨_, hP2.ld rfl, hk _ (Ex.refl _)⟩) fun v1 g1 => ?_
  refine X.and_true rfl (fun kb hk => ⟨_, _, _, (g1.blk hP2).ld rfl, by rw [lo]; exact hk _ (Ex.refl _)⟩) fun v2 g2 => ?_
  replace g2 := g1.trans g2
  refine X.and_true rfl (fun kb hk => ?_) fun v3 g3 => ?_
  · obtain ⟨p6, hp6, hc6⟩ := (ho.s.old g2).int (i := 0) (by decide)
    exact ⟨_, _, _, (g2.blk hP2).ld rfl, xptr_of hp6 ⟨by decide, by omega, _, hc6, hk _ (Ex.refl _)⟩⟩
  replace g3 := g2.trans g3
  refine X.and_true rfl (fun kb hk => ⟨_, (g3.blk hP3).ld rfl, hk _ (Ex.refl _)⟩) fun v4 g4 => ?_
  replace g4 := g3.trans g4
  refine X.and_true rfl (fun kb hk => ⟨_, (g4.blk hP5).ld rfl, hk _ (Ex.refl _)⟩) fun v5 g5 => ?_
  replace g5 := g4.trans g5
  refine X.and_true rfl (fun kb hk => ⟨_, (g5.blk hP5).ld rfl, hk _ (Ex.refl _)⟩) fun v6 g6 => ?_
  exact h v6 (e1.trans (g5.trans g6))
end
end Go.Proofs.YtahcpjgaogghiaaGreat
/- The vm seat: VmDo, VmSums, VmJumps walked. -/
set_option linter.unusedVariables false
set_option linter.unusedSimpArgs false
set_option maxRecDepth 10000
set_option maxHeartbeats 4000000
namespace Go.Proofs.YtahcpjgaogghiaaGreat
open Go.X Go.Heap
/-- cells that are numbers -/
def Nums (cs : List Value) : Prop := ∀ v ∈ cs, ∃ n : Int, v = .int .i64 n
theorem Nums.app {a b : List Value} (ha : Nums a) (hb : Nums b) : Nums (a ++ b) := by
  intro v hv
  rcases List.mem_append.1 hv with h | h
  · exact ha v h
  · exact hb v h
theorem Nums.ins (i : Ins) : Nums i.cells := by
  intro v hv
  simp only [Ins.cells, List.mem_cons, List.not_mem_nil, _root_.or_false] at hv
  rcases hv with rfl | rfl | rfl | rfl <;> exact ⟨_, rfl⟩
theorem Nums.set {a : List Value} (ha : Nums a) (i : Nat) (n : Int) : Nums (a.set i (.int .i64 n)) := by
  intro v hv
  rcases List.mem_or_eq_of_mem_set hv with h | h
  · exact ha v h
  · exact ⟨n, h⟩
theorem Nums.rows : ∀ {n : Nat} {cs : List Value}, Nums cs → cs.length = n * 4 → ∃ l : List Ins, l.length = n ∧ (l.map Ins.cells).flatten = cs
  | 0, cs, _, h => ⟨[], rfl, by simp at h; subst h; rfl⟩
  | n + 1, cs, hn, h => by
    match cs, hn, h with
    | a :: b :: c :: d :: r, hn, h =>
      obtain ⟨a, rfl⟩ := hn a (by simp)
      obtain ⟨b, rfl⟩ := hn b (by simp)
      obtain ⟨c, rfl⟩ := hn c (by simp)
      obtain ⟨d, rfl⟩ := hn d (by simp)
      obtain ⟨l, hl, e⟩ := Nums.rows (n := n) (cs := r) (fun v hv => hn v (by simp [hv])) (by simp at h; omega)
      exact ⟨⟨a, b, c, d⟩ :: l, by simp [hl], by simp [Ins.cells, e]⟩
    | [], hn, h => simp at h
    | [_], hn, h => simp at h; omega
    | [_, _], hn, h => simp at h; omega
    | [_, _, _], hn, h => simp at h; omega
section
variable {w : World} {K : Value → World → Prop} {KP : List PanicEntry → World → Prop}
theorem L3 {m : Mdl} {q : MdlH} {f : Frm} {qf : FrmH} {sc : Sl} {cs : List Int} (hq : MdlP w T0 q m) (hl : m.threads.length ≤ 9223372036854775807) (hf : FrmP w T0 qf f) (hc : ReadsI w T0 sc cs)
    (hK : ∀ u, Ex w u → K (.bool true) u) : XCP Tryz.prog 3 [m.v q, f.v qf, sc.v] w K KP := by
  show XCP Tryz.prog 3 [.agg #[.slice q.sv.a q.sv.l q.sv.c, .slice q.sa.a q.sa.l q.sa.c, .slice q.sc.a q.sc.l q.sc.c, .int .i64 m.mutexes, .int .i64 m.conds, .slice q.st.a q.st.l q.st.c], .agg #[.int .i64 f.code, .int .i64 f.pc, .slice qf.sl.a qf.sl.l qf.sl.c, .slice qf.ss.a qf.ss.l qf.ss.c], .slice sc.a sc.l sc.c] w K KP
  refine E3 ?_
  unfold F3
  intro w0 p w1 p1
  have hs : Sep w1 (bx w0.heap.size (f.cells qf) 28 :: bx w.heap.size (m.cells q) 26 :: [oldA w]) := ((Sep.begin w).box _ _).box _ _
  clear_value w1
  have e1 : Ex w w1 := hs.ex 2 rfl
  refine ⟨_, _, _, _, _, _, _, _, _, _, _, _, _, _, (hs.blkAt 1 rfl).lds, _, _, _, _, _, _, _, _, (hs.blkAt 0 rfl).lds, ?_⟩
  refine C8 (hq.ex e1) (hf.ex e1) (hc.old e1) hl fun b u2 e2 hb => ⟨_, rfl, ?_⟩
  replace hs := hs.ext e2
  replace e1 := e1.trans e2
  cases b with
  | true =>
    rw [if_pos rfl]
    exact C9 fun u hu => ⟨_, rfl, hK u (e1.trans hu)⟩
  | false =>
    rw [if_neg (by decide)]
    have hb := hb rfl
    have b1 := hb.l
    have b2 := hb.s
    have b3 := hb.c
    refine ⟨_, _, _, _, _, _, _, _, _, _, _, _, _, _, (hs.blkAt 1 rfl).lds, _, _, _, _, _, _, _, _, (hs.blkAt 0 rfl).lds, ?_⟩
    refine C10 (hq.ex e1) (hf.ex e1) (hc.old e1) (fun _ c hc => by have := hb.t c hc; omega) (by omega) (by omega) (by omega) fun u3 e3 => ⟨_, rfl, ?_⟩
    refine X.and_true rfl (fun kb hk => C9 fun u hu => ⟨_, rfl, hk u hu⟩) fun u4 e4 => ?_
    exact hK u4 (e1.trans (e3.trans e4))
/-- an instruction put behind instructions -/
theorem pushI {s : Sl} {cs : List Value} {L : List Assn} {i : Ins} (hw : Sep w (row 4 52 s cs :: L)) (hl : s.l ≤ 1000) {Q : Option Addr → Nat → Nat → World → Prop}
    (h : ∀ s' u, s'.l = s.l + 1 → Sep u (row 4 52 s' (cs ++ i.cells) :: L) → Q s'.a s'.l s'.c u) :
    XRun Tryz.prog (Instr.buildSlice 44 1 (List.toArray [(0, i.v)])) w fun v w' => ∃ (a : Option Addr) (l c : Nat), v = .slice a l c ∧
      XRun Tryz.prog (Builtin.append_ #[44, 44] 44 (List.toArray [.slice s.a s.l s.c, .slice a l c])) w' fun v1 w1 => ∃ (a : Option Addr) (l c : Nat), v1 = .slice a l c ∧ Q a l c w1 := by
  refine Sep.build (cs := i.cells) T44 rfl hw rfl rfl (by decide) fun s1 w1 hl1 hs1 he1 => ⟨_, _, _, rfl, ?_⟩
  obtain ⟨G1, hr1, -, -⟩ := hs1.rowRd
  refine Sep.append (s := s) T44 rfl hs1.tail (x := s1) hr1 (by simp [hl1, Ins.cells]) (by intro v hv; obtain ⟨n, rfl⟩ := Nums.ins i v hv; rfl) (by omega) (by omega) fun s2 w2 hl2 hc2 hs2 => ⟨_, _, _, rfl, ?_⟩
  exact h s2 w2 (by omega) hs2
theorem rowIns {u : World} {L : List Assn} (h : Sep u L) (k : Nat) {s : Sl} {cs : List Value} (hk : L[k]? = some (row 4 52 s cs)) (hn : Nums cs) : ∃ l : List Ins, l.length = s.l ∧ SlR insR u T0 s l := by
  obtain ⟨G, hr, hc, hl⟩ := h.rowAt k hk
  obtain ⟨l, hl1, rfl⟩ := hn.rows hl
  exact ⟨l, hl1, SlR.of_ins (hr.mono fun _ _ _ => trivial) hl1.symm hc⟩
theorem T55 : SlT Tryz.prog 55 50 1 8 [.int .i64 0] := ⟨by kernel_rfl, by kernel_rfl⟩
theorem L6 {v to kind : Int} (ht : 0 ≤ to) (hk : 0 ≤ kind) (hK : ∀ u, Ex w u → K (.bool true) u) : XCP Tryz.prog 6 [.int .i64 v, .int .u8 to, .int .u8 kind] w K KP := by
  refine E6 ?_
  unfold F6
  refine Sep.build (cs := ints [v]) T22 rfl (Sep.begin w) rfl rfl (by decide) fun s w0 hl hs he => ⟨_, _, _, rfl, ?_⟩
  refine C12 (Sep.rowReads hs 0 rfl) (by simp) fun u1 e1 => ⟨_, rfl, ?_⟩
  replace e1 := Ex.trans he e1
  cases hv : valsB [v] with
  | false =>
    rw [if_pos (by rfl)]
    exact C9 fun u hu => ⟨_, rfl, hK u (e1.trans hu)⟩
  | true =>
    rw [if_neg (by decide)]
    have k1 : (Int.tmod kind 3) = kind % 3 := Int.tmod_eq_emod_of_nonneg hk
    have k2 : (Int.tmod to 4) = to % 4 := Int.tmod_eq_emod_of_nonneg ht
    rw [k1, k2]
    refine Sep.build (cs := ints [19, 20, 21]) T55 rfl (Sep.begin u1) rfl rfl (by decide) fun s3 w3 hl3 hs3 he3 => ⟨_, _, _, rfl, by decide, ?_⟩
    obtain ⟨c3, g3⟩ : ∃ c, ([19, 20, 21] : List Int)[(kind % 3).toNat]? = some c := ⟨_, List.getElem?_eq_getElem (by simp; omega)⟩
    obtain ⟨p3, hp3, hc3⟩ := hs3.rowCellAt 0 rfl (ints_get g3)
    refine xptr_of hp3 ⟨by omega, by omega, _, by simpa using hc3, ?_⟩
    refine Sep.build (cs := ints [0, 3, 5, 6]) T23 rfl (Sep.begin w3) rfl rfl (by decide) fun s4 w4 hl4 hs4 he4 => ⟨_, _, _, rfl, by decide, ?_⟩
    obtain ⟨c4, g4⟩ : ∃ c, ([0, 3, 5, 6] : List Int)[(to % 4).toNat]? = some c := ⟨_, List.getElem?_eq_getElem (by simp; omega)⟩
    obtain ⟨p4, hp4, hc4⟩ := hs4.rowCellAt 0 rfl (ints_get g4)
    refine xptr_of hp4 ⟨by omega, by omega, _, by simpa using hc4, ?_⟩
    have e4 : Ex w w4 := e1.trans (Ex.trans he3 he4)
    refine Sep.build (cs := (([⟨23, 0, 0, 0⟩, ⟨1, 0, 0, v⟩, ⟨c3, c4, 0, 0⟩, ⟨23, 1, 0, 0⟩, ⟨23, 2, 0, 0⟩, ⟨23, 3, 0, 0⟩, ⟨34, 0, 0, 0⟩] : List Ins).map Ins.cells).flatten) T44 rfl (Sep.begin w4) rfl rfl (by decide) fun s5 w5 hl5 hs5 he5 => ⟨_, _, _, rfl, ?_⟩
    have hn5 : Nums (([⟨23, 0, 0, 0⟩, ⟨1, 0, 0, v⟩, ⟨c3, c4, 0, 0⟩, ⟨23, 1, 0, 0⟩, ⟨23, 2, 0, 0⟩, ⟨23, 3, 0, 0⟩, ⟨34, 0, 0, 0⟩] : List Ins).map Ins.cells).flatten := by
      intro x hx
      rw [List.mem_flatten] at hx
      obtain ⟨r, hr, hx⟩ := hx
      obtain ⟨i, _, rfl⟩ := List.mem_map.1 hr
      exact Nums.ins i x hx
    have hlen : ((([⟨23, 0, 0, 0⟩, ⟨1, 0, 0, v⟩, ⟨c3, c4, 0, 0⟩, ⟨23, 1, 0, 0⟩, ⟨23, 2, 0, 0⟩, ⟨23, 3, 0, 0⟩, ⟨34, 0, 0, 0⟩] : List Ins).map Ins.cells).flatten).length = 28 := rfl
    generalize hcs : (([⟨23, 0, 0, 0⟩, ⟨1, 0, 0, v⟩, ⟨c3, c4, 0, 0⟩, ⟨23, 1, 0, 0⟩, ⟨23, 2, 0, 0⟩, ⟨23, 3, 0, 0⟩, ⟨34, 0, 0, 0⟩] : List Ins).map Ins.cells).flatten = cs5 at *
    intro kb hkb
    have hkb : ∀ cs u, Nums cs → Sep u [row 4 52 s5 cs, oldA w4] → kb u := by
      intro cs u hn hu
      refine hkb _ ?_
      intro w7 p2
      have hs : Sep w7 (bx u.heap.size _ 28 :: [row 4 52 s5 cs, oldA w4]) := hu.box _ _
      clear_value w7
      refine Sep.fillAt hs 0 rfl (vs := Frm.cells ⟨0, 2, [], []⟩ noFrmH) rfl fun w8 _ hs => ?_
      intro kb1 hk1
      have hk1 : ∀ (st : List Int) (ss : Sl) z, st.length ≤ 1 → ReadsI z T0 ss st → Blk z u.heap.size (Frm.cells ⟨0, 2, [], st⟩ ⟨⟨none, 0, 0⟩, ss⟩) 28 → (∃ l : List Ins, l.length = s5.l ∧ SlR insR z T0 s5 l) → Ex w4 z → kb1 z := by
        intro st ss z hst hss hF ⟨l, hll, hl⟩ hz
        refine hk1 _ ?_
        intro kb2 hk2
        refine ⟨fun x => Ex z x, Ex.drew z, _, _, _, _, _, _, _, _, fun x hx => (hx.blk hF).lds, ?_⟩
        have ed : Ex z z.drew := Ex.drew z
        refine C16 (hl.old ed) (by omega) fun q u13 e13 hq => ⟨_, _, _, _, _, _, _, _, _, _, _, _, _, _, rfl, ed.trans e13, ?_⟩
        have hS : mdlOk (oneM l) = true → Small (oneM l) := fun _ => small1 (by omega)
        replace e13 := ed.trans e13
        refine C10 (cs := []) (sc := ⟨none, 0, 0⟩) (f := ⟨0, 2, [], st⟩) (qf := ⟨⟨none, 0, 0⟩, ss⟩) hq ⟨SlR.nil _ _, hss.old e13⟩ (SlR.nil _ _) hS (Nat.zero_le _) (by show st.length ≤ _; omega) (by decide) fun u14 e14 => ⟨_, rfl, e13.trans e14, ?_⟩
        rw [if_pos rfl]
        replace e14 := e13.trans e14
        refine C16 (hl.old e14) (by omega) fun q u15 e15 hq => ⟨_, _, _, _, _, _, _, _, _, _, _, _, _, _, rfl, e14.trans e15, ?_⟩
        replace e15 := e14.trans e15
        refine C10 (cs := []) (sc := ⟨none, 0, 0⟩) (f := ⟨0, 0, [], []⟩) (qf := noFrmH) hq ⟨SlR.nil _ _, SlR.nil _ _⟩ (SlR.nil _ _) hS (by decide) (by decide) (by decide) fun u16 e16 => ⟨_, rfl, e15.trans e16, ?_⟩
        rw [if_pos rfl]
        refine C9 fun u17 e17 => ⟨_, rfl, fun _ => True, trivial, hk2 _ _ (hK u17 ?_)⟩
        exact e4.trans (hz.trans (e15.trans (e16.trans e17)))
      refine ⟨by decide, ?_⟩
      split
      · refine Sep.build (cs := ints [v]) T22 rfl hs rfl rfl (by decide) fun s6 w6 hl6 hs6 he6 => ⟨_, _, _, rfl, ?_⟩
        show storeP _ ⟨u.heap.size, 3, none⟩ _ _
        refine hs6.putAt 1 rfl (o := 3) (by simp [Frm.cells]) fun w9 _ hs9 => ?_
        exact hk1 [v] s6 w9 (by simp) (Sep.rowReads hs9 0 rfl) (hs9.blkAt 1 rfl) (rowIns hs9 2 rfl hn) (hs9.ex 3 rfl)
      · exact hk1 [] ⟨none, 0, 0⟩ w8 (by simp) (SlR.nil _ _) (hs.blkAt 0 rfl) (rowIns hs 1 rfl hn) (hs.ex 2 rfl)
    refine ⟨by decide, ?_⟩
    split
    · obtain ⟨p6, hp6, -⟩ := hs5.rowCellAt 0 rfl (j := 0) (v := cs5[0]'(by omega)) (List.getElem?_eq_getElem _)
      refine xptr_of hp6 ⟨by decide, by omega, ?_⟩
      refine Sep.rowFillAt hs5 0 rfl (i := 4) (vs := Ins.cells ⟨23, 9, 0, 0⟩) (by rw [hlen]; decide) hp6 fun w9 _ hs9 => ?_
      exact hkb _ w9 (Nums.set (Nums.set (Nums.set (Nums.set hn5 _ _) _ _) _ _) _ _) hs9
    · exact hkb _ w5 hn5 hs5
theorem L5 {a b : Int} {s : Sl} {xs : List Int} (hsx : ReadsI w T0 s xs) (hK : ∀ u, Ex w u → K (.bool true) u) : XCP Tryz.prog 5 [.int .i64 a, .int .i64 b, s.v] w K KP := by
  show XCP Tryz.prog 5 [.int .i64 a, .int .i64 b, .slice s.a s.l s.c] w K KP
  refine E5 ?_
  unfold F5
  have ls := hsx.len
  refine or_join' (c := !valsB xs) (fun hb kb hk => C12 hsx (by simp at hb; omega) fun u hu => ⟨_, rfl, hk u hu⟩) fun u1 e1 => ?_
  refine or_join' (c := !valsB [a, b]) (fun _ kb hk => Sep.build (cs := ints [a, b]) T22 rfl (Sep.begin u1) rfl rfl (by decide) fun s2 w2 hl2 hs2 he2 => ⟨_, _, _, rfl, C12 (Sep.rowReads hs2 0 rfl) (by simp) fun u hu => ⟨_, rfl, hk u (Ex.trans he2 hu)⟩⟩) fun u2 e2 => ?_
  replace e2 := e1.trans e2
  by_cases hno : ((decide ((s.l : Int) > 20) || !valsB xs) || !valsB [a, b]) = true
  · rw [if_pos hno]
    exact C9 fun u hu => ⟨_, rfl, hK u (e2.trans hu)⟩
  rw [if_neg hno]
  simp only [Bool.or_eq_true, decide_eq_true_eq, not_or] at hno
  have hlx : s.l ≤ 20 := by omega
  refine ⟨fun n u => 8 ≤ n ∧ n ≤ 23 ∧ Ex w u, fun n _ => (23 - n).toNat, ⟨by decide, by decide, e2⟩, ?_⟩
  rintro n u ⟨hn1, hn2, hu⟩
  by_cases hn : n ≤ 22
  rotate_left
  · rw [if_neg (by simpa using hn)]
    exact C9 fun v hv => ⟨_, rfl, hK v (hu.trans hv)⟩
  rw [if_pos (by simpa using hn)]
  refine ⟨fun a1 l1 c1 n3 z => ∃ cs, Nums cs ∧ 0 ≤ n3 ∧ n3 ≤ s.l ∧ (l1 : Int) = n3 ∧ Sep z [row 4 52 ⟨a1, l1, c1⟩ cs, oldA u], fun _ _ _ n3 _ => (s.l - n3).toNat, ⟨[], fun v hv => by simp at hv, by decide, by omega, rfl, (Sep.begin u).add (A := row 4 52 nilSl []) (fun D => Fr.refl D _) (Own.none _ 4 52 _)⟩, ?_⟩
  rintro a1 l1 c1 n3 z ⟨cs, hcs, h1, h2, h3, hz⟩
  by_cases hlt : n3 < s.l
  · rw [if_pos (by simpa using hlt)]
    obtain ⟨p, hp, hc⟩ := (hsx.old (hu.trans (hz.ex 1 rfl))).int (i := n3.toNat) (by omega)
    refine xptr_of hp ⟨h1, by omega, _, by simpa using hc, ?_⟩
    refine pushI (s := ⟨a1, l1, c1⟩) (i := ⟨1, 0, 0, xs[n3.toNat]⟩) hz (by show l1 ≤ _; omega) fun s' v hl' hv => ?_
    have hl' : s'.l = l1 + 1 := hl'
    rw [wi (by omega) (by omega)]
    exact ⟨⟨_, hcs.app (Nums.ins _), by omega, by omega, by omega, hv⟩, by show (s.l - (n3 + 1)).toNat < (s.l - n3).toNat; omega⟩
  rw [if_neg (by simpa using hlt)]
  refine Sep.build (cs := (([⟨1, 0, 0, a⟩, ⟨1, 0, 0, b⟩, ⟨n, 0, 0, 0⟩] : List Ins).map Ins.cells).flatten) T44 rfl hz rfl rfl (by decide) fun s4 w4 hl4 hs4 he4 => ⟨_, _, _, rfl, ?_⟩
  have hn4 : Nums (([⟨1, 0, 0, a⟩, ⟨1, 0, 0, b⟩, ⟨n, 0, 0, 0⟩] : List Ins).map Ins.cells).flatten := by
    intro x hx
    rw [List.mem_flatten] at hx
    obtain ⟨r, hr, hx⟩ := hx
    obtain ⟨i, _, rfl⟩ := List.mem_map.1 hr
    exact Nums.ins i x hx
  obtain ⟨G4, hr4, -, -⟩ := hs4.rowRd
  refine Sep.append (s := ⟨a1, l1, c1⟩) T44 rfl hs4.tail (x := s4) hr4 (by rw [hl4]; rfl) (by intro v hv; obtain ⟨n, rfl⟩ := hn4 v hv; rfl) (by show (l1 + s4.l) * 32 ≤ _; omega) (by show l1 + s4.l ≤ _; omega) fun s5 w5 hl5 hc5 hs5 => ⟨_, _, _, rfl, ?_⟩
  have hl5 : s5.l = l1 + s4.l := hl5
  have hn5 := hcs.app hn4
  intro kb2 hkb2
  have hkb2 : ∀ cs z, Nums cs → Sep z [row 4 52 s5 cs, oldA u] → kb2 z := by
    intro cs z hcs hz
    refine hkb2 _ ?_
    intro kb3 hkb3
    have hkb3 : ∀ n5 : Int, n5 ≤ 30 → kb3 n5 z := by
      intro n5 hn5
      refine hkb3 _ _ ?_
      refine ⟨fun a6 l6 c6 n6 z => ∃ cs, Nums cs ∧ 0 ≤ n6 ∧ n6 ≤ 30 ∧ (l6 : Int) = s5.l + n6 ∧ Sep z [row 4 52 ⟨a6, l6, c6⟩ cs, oldA u], fun _ _ _ n6 _ => (30 - n6).toNat, ⟨cs, hcs, by decide, by decide, by omega, hz⟩, ?_⟩
      rintro a6 l6 c6 n6 z ⟨cs, hcs, h1, h2, h3, hz⟩
      by_cases hlt : n6 < n5
      · rw [if_pos (by simpa using hlt)]
        refine pushI (s := ⟨a6, l6, c6⟩) (i := ⟨33, 0, 0, 0⟩) hz (by show l6 ≤ _; omega) fun s' v hl' hv => ?_
        have hl' : s'.l = l6 + 1 := hl'
        rw [wi (by omega) (by omega)]
        exact ⟨⟨_, hcs.app (Nums.ins _), by omega, by omega, by omega, hv⟩, by show (30 - (n6 + 1)).toNat < (30 - n6).toNat; omega⟩
      rw [if_neg (by simpa using hlt)]
      refine pushI (s := ⟨a6, l6, c6⟩) (i := ⟨34, 0, 0, 0⟩) hz (by show l6 ≤ _; omega) fun s7 v hl7 hv => ?_
      have hl7 : s7.l = l6 + 1 := hl7
      obtain ⟨l, hll, hl⟩ := rowIns hv 0 rfl (hcs.app (Nums.ins _))
      have hS : mdlOk (oneM l) = true → Small (oneM l) := fun _ => small1 (by omega)
      have ev : Ex w v := hu.trans (hv.ex 1 rfl)
      clear hv hz
      refine C16 hl (by omega) fun q u8 e8 hq => ⟨_, _, _, _, _, _, _, _, _, _, _, _, _, _, rfl, ?_⟩
      replace e8 := ev.trans e8
      intro w17 p1
      have hs : Sep w17 (bx u8.heap.size _ 26 :: [oldA u8]) := (Sep.begin u8).box _ _
      clear_value w17
      refine Sep.fillAt hs 0 rfl (vs := (oneM l).cells q) rfl fun w18 _ hs => ?_
      have e18 : Ex u8 w18 := hs.ex 1 rfl
      refine takeS (s := s) (n := s.l) hs (hsx.old (e8.trans e18)) (by omega) (by omega) fun s9 w9 hs9 => ⟨_, _, _, rfl, ?_⟩
      refine Sep.build (cs := ints [a, b]) T22 rfl hs9 rfl rfl (by decide) fun s10 w10 hl10 hs10 he10 => ⟨_, _, _, rfl, ?_⟩
      obtain ⟨G10, hr10, -, -⟩ := hs10.rowRd
      have hl9 : s9.l = s.l := by
        obtain ⟨_, _, _, hl⟩ := hs9.rowRd
        simp at hl; omega
      refine Sep.append (s := s9) T22 rfl hs10.tail (x := s10) hr10 (by rw [hl10]; rfl) (ints_one _) (by omega) (by omega) fun s11 w11 hl11 hc11 hs11 => ⟨_, _, _, rfl, ?_⟩
      rw [← ints_append] at hs11
      have hst := Sep.rowReads hs11 0 rfl
      have hM : Blk w11 u8.heap.size ((oneM l).cells q) 26 := hs11.blkAt 1 rfl
      have e11 : Ex u8 w11 := hs11.ex 2 rfl
      clear hs11 hs10 hs9 hs
      intro w22 p2
      have hs : Sep w22 (bx w11.heap.size _ 28 :: [oldA w11]) := (Sep.begin w11).box _ _
      clear_value w22
      refine Sep.fillAt hs 0 rfl (vs := Frm.cells ⟨0, IntKind.wrap .i64 ((s5.l : Int) - 1), [], xs.take s.l ++ [a, b]⟩ ⟨⟨none, 0, 0⟩, s11⟩) rfl fun w23 _ hs => ?_
      have e23 : Ex w11 w23 := hs.ex 1 rfl
      refine ⟨_, _, _, _, _, _, _, _, _, _, _, _, _, _, (e23.blk hM).lds, _, _, _, _, _, _, _, _, (hs.blkAt 0 rfl).lds, ?_⟩
      refine C10 (cs := []) (sc := ⟨none, 0, 0⟩) (f := ⟨0, IntKind.wrap .i64 ((s5.l : Int) - 1), [], xs.take s.l ++ [a, b]⟩) (qf := ⟨⟨none, 0, 0⟩, s11⟩) (hq.ex (e11.trans e23)) ⟨SlR.nil _ _, hst.old e23⟩ (SlR.nil _ _) hS (Nat.zero_le _) (by simp; omega) (by decide) fun u24 e24 => ⟨_, rfl, ?_⟩
      rw [if_neg (by decide), wi (by omega) (by omega)]
      exact ⟨⟨by omega, by omega, e8.trans (e11.trans (e23.trans e24))⟩, by show (23 - (n + 1)).toNat < (23 - n).toNat; omega⟩
    have w1 : IntKind.wrap .i64 ((s.l : Int) + 2) = s.l + 2 := wi (by omega) (by omega)
    have w2 : IntKind.wrap .i64 ((s.l : Int) + 2 - 1) = s.l + 1 := by rw [wi (by omega) (by omega)]; omega
    rw [w1, w2]
    split
    · exact hkb3 _ (by omega)
    · exact hkb3 _ (by omega)
  split
  · obtain ⟨_, _, _, hll⟩ := hs5.rowRd
    obtain ⟨p6, hp6, -⟩ := hs5.rowCellAt 0 rfl (j := (s5.l - 1) * 4 + 1) (List.getElem?_eq_getElem (by rw [hll]; omega))
    have e6 : IntKind.wrap .i64 ((s5.l : Int) - 1) = ((s5.l - 1 : Nat) : Int) := by rw [wi (by omega) (by omega)]; omega
    refine xptr_of hp6 ⟨by omega, by omega, ?_⟩
    rw [e6, Int.toNat_natCast, addr_add]
    refine hs5.rowPutAt 0 rfl (j := (s5.l - 1) * 4 + 1) (by rw [hll]; omega) hp6 fun w9 _ hs9 => ?_
    exact hkb2 _ w9 (hn5.set _ _) hs9
  · exact hkb2 _ w5 hn5 hs5
end
end Go.Proofs.YtahcpjgaogghiaaGreat
/- The vm seat: what a start hands over: modules, frames, lists. -/
namespace Go.Proofs.YtahcpjgaogghiaaGreat
open Go.X Go.ChangeShapes Go.WideShapes Go.ChangeAt Go.RowKit Go.Deep Go.Joins
set_option linter.unusedVariables false
set_option linter.unusedSimpArgs false
theorem own : ownKnob Tryz.prog.godebug = none := by kernel_rfl
theorem laidOut : laidOutB Tryz.prog = true := by kernel_rfl
theorem und26 : Tryz.prog.underlying 26 = some (.struct #[⟨ "Vars", 22, 0, false, "", "", 0⟩, ⟨ "Arrays", 23, 1, false, "", "", 24⟩, ⟨ "Chans", 23, 2, false, "", "", 48⟩, ⟨ "Mutexes", 3, 3, false, "", "", 72⟩, ⟨ "Conds", 3, 4, false, "", "", 80⟩, ⟨ "Threads", 24, 5, false, "", "", 88⟩]) := by kernel_rfl
theorem und46 : Tryz.prog.underlying 46 = some (.struct #[⟨ "Name", 9, 0, false, "", "", 0⟩, ⟨ "Locals", 3, 1, false, "", "", 16⟩, ⟨ "Ins", 44, 2, false, "", "", 24⟩, ⟨ "Lines", 23, 3, false, "", "", 48⟩]) := by kernel_rfl
theorem und22 : Tryz.prog.underlying 22 = some (.slice 2) := by kernel_rfl
theorem und23 : Tryz.prog.underlying 23 = some (.slice 3) := by kernel_rfl
theorem und24 : Tryz.prog.underlying 24 = some (.slice 46) := by kernel_rfl
theorem und44 : Tryz.prog.underlying 44 = some (.slice 52) := by kernel_rfl
theorem undB : Tryz.prog.underlying 4 = some .bool := by kernel_rfl
theorem und9 : Tryz.prog.underlying 9 = some .string := by kernel_rfl
theorem cells2 : Tryz.prog.cellsOf 2 = 1 := by kernel_rfl
theorem cells3 : Tryz.prog.cellsOf 3 = 1 := by kernel_rfl
theorem cells9 : Tryz.prog.cellsOf 9 = 1 := by kernel_rfl
theorem cells22 : Tryz.prog.cellsOf 22 = 1 := by kernel_rfl
theorem cells23 : Tryz.prog.cellsOf 23 = 1 := by kernel_rfl
theorem cells24 : Tryz.prog.cellsOf 24 = 1 := by kernel_rfl
theorem cells44 : Tryz.prog.cellsOf 44 = 1 := by kernel_rfl
theorem cells50 : Tryz.prog.cellsOf 50 = 1 := by kernel_rfl
theorem cells52 : Tryz.prog.cellsOf 52 = 4 := by kernel_rfl
theorem cells46 : Tryz.prog.cellsOf 46 = 4 := by kernel_rfl
theorem cells26 : Tryz.prog.cellsOf 26 = 6 := by kernel_rfl
section
variable {α : Type} {R : Rep α} {W : World}
theorem get_rows {p : Addr} : ∀ {n : Nat}, (∀ i, i < n → ∃ row x, R.p W T0 row x ∧ ∀ (j : Nat) (v : Value), row[j]? = some v → W.cell? (p.add (i * R.z + j)) = some v) →
    ∃ (rows : List (List Value)) (xs : List α), rows.length = n ∧ xs.length = n ∧ rows.flatten.length = n * R.z ∧ (∀ (i : Nat) row x, rows[i]? = some row → xs[i]? = some x → R.p W T0 row x) ∧ ∀ (i : Nat) (v : Value), rows.flatten[i]? = some v → W.cell? (p.add i) = some v
  | 0, _ => ⟨[], [], rfl, rfl, by simp, fun i row x h => by simp at h, fun i v h => by simp at h⟩
  | n + 1, h => by
    obtain ⟨rows, xs, h1, h2, h3, h4, h5⟩ := get_rows (n := n) (fun i hi => h i (by omega))
    obtain ⟨row, x, hr, hc⟩ := h n (by omega)
    refine ⟨rows ++ [row], xs ++ [x], by simp [h1], by simp [h2], ?_, fun i row' x' hi hx => ?_, fun i v hv => ?_⟩
    · simp only [List.flatten_append, List.flatten_cons, List.flatten_nil, List.append_nil, List.length_append, h3, R.len hr, Nat.add_mul]; omega
    · by_cases hin : i < n
      · rw [List.getElem?_append_left (by omega)] at hi hx; exact h4 i row' x' hi hx
      · rw [List.getElem?_append_right (by omega)] at hi hx
        have e : i = n := by
          have := (List.getElem?_eq_some_iff.1 hi).1
          simp at this; omega
        subst e
        simp [h1] at hi; simp [h2] at hx
        subst hi; subst hx; exact hr
    · simp only [List.flatten_append, List.flatten_cons, List.flatten_nil, List.append_nil] at hv
      by_cases hlt : i < rows.flatten.length
      · rw [List.getElem?_append_left hlt] at hv; exact h5 i v hv
      · rw [List.getElem?_append_right (by omega)] at hv
        have := hc _ v hv
        rwa [show n * R.z + (i - rows.flatten.length) = i by omega] at this
variable {H : Type} {enc : TypeId × Value → H} {base fuel : Nat} {spare : Nat → Bool} {held : Bool}
/-- what reads as a type is a datum -/
def Opens (enc : TypeId × Value → H) (W : World) (base : Nat) (spare : Nat → Bool) (held : Bool) (t : TypeId) (R : Rep α) : Prop :=
  ∀ (fuel : Nat) (cs : List Value) (x : DataW H × List MemPlace), DataW.trod enc Tryz.prog W base spare held fuel t cs = some x → ∃ a : α, R.p W T0 cs a
theorem slice_open {t e : TypeId} (ht : Tryz.prog.underlying t = some (.slice e)) (hce : Tryz.prog.cellsOf e = R.z) (hR : Opens enc W base spare held e R) {v : Value} {x : DataW H × List MemPlace} (h : DataW.trod enc Tryz.prog W base spare held fuel t [v] = some x) :
    ∃ (s : Sl) (xs : List α), v = s.v ∧ SlR R W T0 s xs ∧ xs.length ≤ maxLen := by
  rcases open_slice ht h with ⟨hc, _⟩ | ⟨p, len, cap, m, n, D, Pl, hc, _, hlc, hm, hmm, _, hx⟩
  · simp at hc; subst hc
    exact ⟨⟨none, 0, 0⟩, [], rfl, SlR.nil _ _, Nat.zero_le _⟩
  · simp at hc; subst hc
    obtain ⟨rows, xs, h1, h2, h3, h4, h5⟩ := get_rows (R := R) (W := W) (p := p) (n := len) (fun i hi => by
      obtain ⟨cs, k1, k2⟩ := hx i (by rw [hmm]; split <;> omega)
      rw [hce] at k1
      obtain ⟨_, hlen, hcell⟩ := World.cells?_some k1
      obtain ⟨a, ha⟩ := hR n cs _ k2
      refine ⟨cs, a, ha, fun j v hv => ?_⟩
      have hj : j < R.z := by have := (List.getElem?_eq_some_iff.1 hv).1; omega
      have := hcell j hj
      rw [addr_add] at this
      rw [this]; exact hv)
    refine ⟨⟨some p, len, cap⟩, xs, rfl, ⟨h2.symm, hlc, rows, by omega, ?_, h4⟩, by omega⟩
    exact .inr ⟨p, rfl, trivial, h5⟩
theorem int_opens {t : TypeId} (ht : Tryz.prog.underlying t = some (.int .i64)) : Opens enc W base spare held t (Rep.int .i64) := by
  intro fuel cs x h
  obtain ⟨n, e, _, _⟩ := DataW.trod_int ht h
  exact ⟨n, e⟩
theorem list_four {α : Type} : ∀ {l : List α}, l.length = 4 → ∃ a b c d, l = [a, b, c, d]
  | [a, b, c, d], _ => ⟨a, b, c, d, rfl⟩
theorem list_six {α : Type} : ∀ {l : List α}, l.length = 6 → ∃ a b c d e f, l = [a, b, c, d, e, f]
  | [a, b, c, d, e, f], _ => ⟨a, b, c, d, e, f, rfl⟩
theorem ins_opens : Opens enc W base spare held 52 insR := by
  intro fuel cs x h
  obtain ⟨y0, y1, y2, y3, n', _, hl, h3, h4, h5, h6⟩ := trod_struct4 und52 h
  rw [cells52] at hl
  obtain ⟨c0, c1, c2, c3, rfl⟩ := list_four hl
  simp only [cells50, cells3, cells2, List.drop_zero, List.drop_succ_cons, List.take_succ_cons, List.take_zero] at h3 h4 h5 h6
  obtain ⟨x0, e0, _, _⟩ := DataW.trod_int und50 h3
  obtain ⟨x1, e1, _, _⟩ := DataW.trod_int und3 h4
  obtain ⟨x2, e2, _, _⟩ := DataW.trod_int und3 h5
  obtain ⟨x3, e3, _, _⟩ := DataW.trod_int und2 h6
  simp at e0 e1 e2 e3
  subst e0; subst e1; subst e2; subst e3
  exact ⟨⟨x0, x1, x2, x3⟩, rfl⟩
theorem cod_opens : Opens enc W base spare held 46 codR := by
  intro fuel cs x h
  obtain ⟨y0, y1, y2, y3, n', _, hl, h3, h4, h5, h6⟩ := trod_struct4 und46 h
  rw [cells46] at hl
  obtain ⟨c0, c1, c2, c3, rfl⟩ := list_four hl
  simp only [cells9, cells3, cells44, cells23, List.drop_zero, List.drop_succ_cons, List.take_succ_cons, List.take_zero] at h3 h4 h5 h6
  obtain ⟨x0, e0, _, _⟩ := DataW.trod_string und9 h3
  obtain ⟨x1, e1, _, _⟩ := DataW.trod_int und3 h4
  obtain ⟨s2, xs2, e2, hs2, _⟩ := slice_open (R := insR) und44 cells52 ins_opens h5
  obtain ⟨s3, xs3, e3, hs3, _⟩ := slice_open (R := Rep.int .i64) und23 cells3 (int_opens und3) h6
  simp at e0 e1
  subst e0; subst e1; subst e2; subst e3
  exact ⟨⟨x0, x1, xs2, xs3⟩, ⟨s2, s3⟩, rfl, hs2, hs3⟩
theorem mdl_open {cs : List Value} {x : DataW H × List MemPlace} (h : DataW.trod enc Tryz.prog W base spare held fuel 26 cs = some x) : ∃ (m : Mdl) (q : MdlH), cs = m.cells q ∧ MdlP W T0 q m ∧ m.threads.length ≤ 9223372036854775807 := by
  obtain ⟨xs, n, _, _, hl, hlen, hf⟩ := DataW.trod_struct und26 h
  rw [cells26] at hl
  obtain ⟨c0, c1, c2, c3, c4, c5, rfl⟩ := list_six hl
  obtain ⟨y0, y1, y2, y3, y4, y5, rfl⟩ := list_six (l := xs) (by simpa using hlen)
  have h0 := hf 0 ⟨ "Vars", 22, 0, false, "", "", 0⟩ rfl
  have h1 := hf 1 ⟨ "Arrays", 23, 1, false, "", "", 24⟩ rfl
  have h2 := hf 2 ⟨ "Chans", 23, 2, false, "", "", 48⟩ rfl
  have h3 := hf 3 ⟨ "Mutexes", 3, 3, false, "", "", 72⟩ rfl
  have h4 := hf 4 ⟨ "Conds", 3, 4, false, "", "", 80⟩ rfl
  have h5 := hf 5 ⟨ "Threads", 24, 5, false, "", "", 88⟩ rfl
  simp only [cells22, cells23, cells24, cells3, List.drop_zero, List.drop_succ_cons, List.take_succ_cons, List.take_zero] at h0 h1 h2 h3 h4 h5
  obtain ⟨s0, xs0, e0, hs0, _⟩ := slice_open (R := Rep.int .i64) und22 cells2 (int_opens und2) h0
  obtain ⟨s1, xs1, e1, hs1, _⟩ := slice_open (R := Rep.int .i64) und23 cells3 (int_opens und3) h1
  obtain ⟨s2, xs2, e2, hs2, _⟩ := slice_open (R := Rep.int .i64) und23 cells3 (int_opens und3) h2
  obtain ⟨x3, e3, _, _⟩ := DataW.trod_int und3 h3
  obtain ⟨x4, e4, _, _⟩ := DataW.trod_int und3 h4
  obtain ⟨s5, xs5, e5, hs5, hl5⟩ := slice_open (R := codR) und24 cells46 cod_opens h5
  simp at e3 e4
  subst e0; subst e1; subst e2; subst e3; subst e4; subst e5
  have hmx : maxLen = 9223372036854775807 := by decide
  exact ⟨⟨xs0, xs1, xs2, x3, x4, xs5⟩, ⟨s0, s1, s2, s5⟩, rfl, ⟨hs0, hs1, hs2, hs5⟩, by rw [← hmx]; exact hl5⟩
end
theorem und28 : Tryz.prog.underlying 28 = some (.struct #[⟨ "Code", 3, 0, false, "", "", 0⟩, ⟨ "Pc", 3, 1, false, "", "", 8⟩, ⟨ "Locals", 22, 2, false, "", "", 16⟩, ⟨ "Stack", 22, 3, false, "", "", 40⟩]) := by kernel_rfl
theorem cells28 : Tryz.prog.cellsOf 28 = 4 := by kernel_rfl
theorem und5 : Tryz.prog.underlying 5 = some (.int .u8) := by kernel_rfl
theorem frm_open {H : Type} {enc : TypeId × Value → H} {base fuel : Nat} {spare : Nat → Bool} {held : Bool} {W : World} {cs : List Value} {x : DataW H × List MemPlace} (h : DataW.trod enc Tryz.prog W base spare held fuel 28 cs = some x) : ∃ (f : Frm) (q : FrmH), cs = f.cells q ∧ FrmP W T0 q f := by
  obtain ⟨y0, y1, y2, y3, n', _, hl, h3, h4, h5, h6⟩ := trod_struct4 und28 h
  rw [cells28] at hl
  obtain ⟨c0, c1, c2, c3, rfl⟩ := list_four hl
  simp only [cells3, cells22, List.drop_zero, List.drop_succ_cons, List.take_succ_cons, List.take_zero] at h3 h4 h5 h6
  obtain ⟨x0, e0, _, _⟩ := DataW.trod_int und3 h3
  obtain ⟨x1, e1, _, _⟩ := DataW.trod_int und3 h4
  obtain ⟨s2, xs2, e2, hs2, _⟩ := slice_open (R := Rep.int .i64) und22 cells2 (int_opens und2) h5
  obtain ⟨s3, xs3, e3, hs3, _⟩ := slice_open (R := Rep.int .i64) und22 cells2 (int_opens und2) h6
  simp at e0 e1
  subst e0; subst e1; subst e2; subst e3
  exact ⟨⟨x0, x1, xs2, xs3⟩, ⟨s2, s3⟩, rfl, hs2, hs3⟩
/-- a call that hands back true and changes nothing that was there -/
theorem told {f : FuncId} {args : List Value} {w : World} (h : ∀ {K : Value → World → Prop}, (∀ w', Ex w w' → K (.bool true) w') → XCP Tryz.prog f args w K NP) :
    Calls Tryz.prog f args.toArray w fun e w' => e = .returned (.bool true) ∧ Below w.heap.size w w' := by
  have hc : XC Tryz.prog f args w fun v w' => v = .bool true ∧ ∀ D, Fr D w w' := h fun w' hf => ⟨rfl, hf⟩
  refine hc.calls.mono fun e w' he => ?_
  obtain ⟨v, rfl, hk, rfl, hf⟩ := he
  exact ⟨rfl, ⟨hk.os, hk.tape, hk.output, hk.size, fun k hk => (hf (fun _ => False)).at_ k hk (fun h => h)⟩⟩
end Go.Proofs.YtahcpjgaogghiaaGreat
