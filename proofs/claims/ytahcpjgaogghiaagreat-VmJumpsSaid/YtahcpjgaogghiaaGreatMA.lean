/- The vm seat: values, lists copied, how many cells. -/
import Derived.Test.YtahcpjgaogghiaaGreatV14
import Derived.Test.YtahcpjgaogghiaaGreatX17
/- The vm seat: values, lists copied, how many cells. -/
set_option linter.unusedVariables false
set_option linter.unusedSimpArgs false
set_option maxRecDepth 10000
namespace Go.Proofs.YtahcpjgaogghiaaGreat
open Go.X
structure Frm where
  code : Int
  pc : Int
  locals : List Int
  stack : List Int
  deriving DecidableEq
structure FrmH where
  sl : Sl
  ss : Sl
def Frm.cells (f : Frm) (h : FrmH) : List Value := [.int .i64 f.code, .int .i64 f.pc, h.sl.v, h.ss.v]
def Frm.v (f : Frm) (h : FrmH) : Value := .agg #[.int .i64 f.code, .int .i64 f.pc, h.sl.v, h.ss.v]
structure FrmP (w : World) (G : Nat → Prop) (h : FrmH) (f : Frm) : Prop where
  l : ReadsI w G h.sl f.locals
  s : ReadsI w G h.ss f.stack
theorem FrmP.ex {w u : World} (h : Ex w u) {G : Nat → Prop} {q : FrmH} {f : Frm} (hr : FrmP w G q f) : FrmP u T0 q f := ⟨hr.l.old h, hr.s.old h⟩
structure DidV where
  kind : Int
  cell : Int
  write : Bool
  av : Int
  ins : Ins
  value : Int
  trap : Int
  deriving DecidableEq
def DidV.cells (d : DidV) : List Value := [.int .i64 d.kind, .int .i64 d.cell, .bool d.write, .int .i64 d.av, .int .i64 d.ins.code, .int .i64 d.ins.a, .int .i64 d.ins.b, .int .i64 d.ins.num, .int .i64 d.value, .int .i64 d.trap]
def DidV.v (d : DidV) : Value := .agg #[.int .i64 d.kind, .int .i64 d.cell, .bool d.write, .int .i64 d.av, .int .i64 d.ins.code, .int .i64 d.ins.a, .int .i64 d.ins.b, .int .i64 d.ins.num, .int .i64 d.value, .int .i64 d.trap]
def noIns : Ins := ⟨0, 0, 0, 0⟩
def noDid : DidV := ⟨0, 0, false, 0, noIns, 0, 0⟩
def noFrm : Frm := ⟨0, 0, [], []⟩
def noFrmH : FrmH := ⟨⟨none, 0, 0⟩, ⟨none, 0, 0⟩⟩
theorem noFrmP (w : World) : FrmP w T0 noFrmH noFrm := ⟨SlR.nil _ _, SlR.nil _ _⟩
def valB (n : Int) : Bool := decide (-2147483648 ≤ n) && decide (n ≤ 2147483647)
def valsB (l : List Int) : Bool := l.all valB
section
variable {w : World} {K : Value → World → Prop} {KP : List PanicEntry → World → Prop}
theorem C27 {n : Int} (h : K (.bool (valB n)) w) : XCP Tryz.prog 27 [.int .i64 n] w K KP := E27 h
theorem C40 {n : Int} (h : K (.bool (valB n)) w) : XCP Tryz.prog 40 [.int .i64 n] w K KP := E40 h
theorem C65 {b : Bool} (h : K (.int .i64 (if b = true then 1 else 0)) w) : XCP Tryz.prog 65 [.bool b] w K KP := E65 (by unfold F65; cases b <;> exact h)
theorem C45 {b : Bool} (h : K (.int .i64 (if b = true then 1 else 0)) w) : XCP Tryz.prog 45 [.bool b] w K KP := E45 (by unfold F45; cases b <;> exact h)
theorem D59 : DecI w (.func (.func 59) #[] #[]) (fun n => !valB n) := by
  intro n u K KP _ hk
  show XCP Tryz.prog 59 [.int .i64 n] u K KP
  exact E59 (C40 ⟨_, rfl, hk u (Ex.refl u)⟩)
theorem C36 {s : Sl} {xs : List Int} {G : Nat → Prop} (hs : ReadsI w G s xs) (hn : xs.length ≤ 1000000000) (h : ∀ u, Ex w u → K (.bool (valsB xs)) u) : XCP Tryz.prog 36 [s.v] w K KP := by
  show XCP Tryz.prog 36 [.slice s.a s.l s.c] w K KP
  refine E36 (C58 hs D59 hn fun u hu => ⟨_, rfl, ?_⟩)
  rw [any_not]; exact h u hu
theorem C12 {s : Sl} {xs : List Int} {G : Nat → Prop} (hs : ReadsI w G s xs) (hn : xs.length ≤ 1000000000) (h : ∀ u, Ex w u → K (.bool (valsB xs)) u) : XCP Tryz.prog 12 [s.v] w K KP := by
  show XCP Tryz.prog 12 [.slice s.a s.l s.c] w K KP
  refine E12 ?_
  unfold F12
  have hl := hs.len
  refine X.each xs.length (fun i => ∀ x, xs[i]? = some x → valB x = true) ?_ ?_
  · intro I μ n u he hlt hf next
    rw [if_pos (by simp; omega)]
    obtain ⟨p, hp, hc⟩ := hs.int hlt
    rw [hp, xptr_some]
    refine ⟨by omega, by omega, _, by simpa using he.cell hc, C27 ⟨_, rfl, ?_⟩⟩
    cases hv : valB xs[n] with
    | true =>
      rw [if_neg (by decide), wi (by omega) (by omega)]
      exact next (fun x hx => by rw [List.getElem?_eq_getElem hlt] at hx; cases hx; exact hv) u (Ex.refl u)
    | false =>
      rw [if_pos (by decide)]
      have : valsB xs = false := by
        unfold valsB
        rw [List.all_eq_false]
        exact ⟨xs[n], List.getElem_mem hlt, by rw [hv]; decide⟩
      rw [← this]; exact h u he
  · intro I μ u he hf
    rw [if_neg (by simp; omega)]
    have : valsB xs = true := by
      unfold valsB
      rw [List.all_eq_true]
      intro x hx
      obtain ⟨i, hi, rfl⟩ := List.getElem_of_mem hx
      exact hf i hi _ (List.getElem?_eq_getElem hi)
    rw [← this]; exact h u he
theorem T22 : SlT Tryz.prog 22 2 1 8 [.int .i64 0] := ⟨by kernel_rfl, by kernel_rfl⟩
/-- an owned row without its last elements -/
theorem Own.take {w : World} {z : Nat} {t : TypeId} {a : Option Addr} {l c : Nat} {cs : List Value} {G : Nat → Prop} (h : Own w z t a l c cs G) (n : Nat) (hn : n ≤ l) : Own w z t a n c (cs.take (n * z)) G := by
  obtain ⟨h1, h2, h3⟩ := h
  have hle : n * z ≤ l * z := Nat.mul_le_mul_right _ hn
  refine ⟨by rw [List.length_take]; omega, by omega, ?_⟩
  rcases h3 with h3 | ⟨b, o, B, ha, hg, hb, hl, hv⟩
  · exact .inl h3
  · refine .inr ⟨b, o, B, ha, hg, hb, hl, fun i v hi => ?_⟩
    rw [List.getElem?_take] at hi
    split at hi
    · exact hv i v hi
    · cases hi
theorem Sep.rowTake {w : World} {L : List Assn} {z : Nat} {t : TypeId} {s : Sl} {cs : List Value} (h : Sep w (row z t s cs :: L)) (n : Nat) (hn : n ≤ s.l) : Sep w (row z t ⟨s.a, n, s.c⟩ (cs.take (n * z)) :: L) :=
  h.imp fun w G hA => Own.take hA n hn
theorem Sep.rowReads {w : World} {L : List Assn} (h : Sep w L) (i : Nat) {t : TypeId} {s : Sl} {xs : List Int} (hi : L[i]? = some (row 1 t s (ints xs))) : ReadsI w T0 s xs := by
  obtain ⟨G, hG⟩ := h.at_ i hi
  have hG : Own w 1 t s.a s.l s.c (ints xs) G := hG
  exact (SlR.of_ints hG).mono fun _ _ _ => trivial
theorem oneI (xs : List Int) : ∀ u ∈ ints xs, u.oneCell' = true := ints_one xs
theorem SlR.rdI {w : World} {G : Nat → Prop} {s : Sl} {xs : List Int} (h : ReadsI w G s xs) : Rd w s.a (ints xs) G := by
  obtain ⟨h1, h2, rows, h3, h4, h5⟩ := h
  have : rows.flatten = ints xs := by
    rw [← flatten_ints]
    congr 1
    apply List.ext_getElem?
    intro i
    by_cases hi : i < xs.length
    · have := h5 i rows[i] xs[i] (List.getElem?_eq_getElem _) (List.getElem?_eq_getElem hi)
      have this : rows[i] = [.int .i64 xs[i]] := this
      rw [List.getElem?_eq_getElem (by omega), this, List.getElem?_map, List.getElem?_eq_getElem hi]; rfl
    · rw [List.getElem?_eq_none (by omega), List.getElem?_eq_none (by simp; omega)]
  rw [← this]; exact h4
theorem Sep.join {w u : World} {L : List Assn} {A : Assn} (h : Sep w L) (hA : Sep u [A, oldA w]) : Sep u (A :: L) :=
  h.add (hA.ex 1 rfl) (hA.fresh 0 1 rfl rfl (by decide))
/-- a list copied into memory of its own -/
theorem D60 {s : Sl} {xs : List Int} {G : Nat → Prop} {L : List Assn} (hw : Sep w L) (hs : ReadsI w G s xs) (hn : xs.length ≤ 1000000)
    (h : ∀ (s' : Sl) u, Ex w u → Sep u (row 1 2 s' (ints xs) :: L) → K s'.v u) : XCP Tryz.prog 60 [s.v] w K KP := by
  show XCP Tryz.prog 60 [.slice s.a s.l s.c] w K KP
  refine E60 ?_
  unfold F60
  have hl := hs.len
  cases hsa : s.a with
  | none =>
    rw [if_pos (by rfl)]
    have hx : xs = [] := by
      cases xs with
      | nil => rfl
      | cons x r =>
        obtain ⟨p, hp, -⟩ := hs.int (i := 0) (by simp)
        rw [hsa] at hp; cases hp
    subst hx
    exact h ⟨none, 0, 0⟩ w (Ex.refl w) (hw.add (fun D => Fr.refl D w) (Own.none w 1 2 _))
  | some p =>
    rw [if_neg (by simp)]
    refine Sep.build (cs := []) T22 rfl (Sep.begin w) rfl rfl (by decide) fun s1 w1 hl1 hs1 he1 => ⟨_, _, _, rfl, ?_⟩
    have hrd := SlR.rdI (hs.old he1)
    rw [← hsa]
    refine Sep.append T22 rfl hs1 (x := s) hrd (by simp; omega) (ints_one xs) (by omega) (by omega) fun s2 w2 hl2 hc2 hs2 => ⟨_, _, _, rfl, ?_⟩
    have he2 : Ex w w2 := hs2.ex 1 rfl
    rw [List.nil_append] at hs2
    exact h s2 w2 he2 (Sep.join hw hs2)
/-- how many cells -/
def countF (m : Mdl) : Int := m.vars.length + m.arrays.sum
end
end Go.Proofs.YtahcpjgaogghiaaGreat
/- The vm seat: traps; what is pushed and taken. -/
set_option linter.unusedVariables false
set_option linter.unusedSimpArgs false
set_option maxRecDepth 10000
namespace Go.Proofs.YtahcpjgaogghiaaGreat
open Go.X
/-- what is panicked with at a trap -/
def trapV (t : Int) : List PanicEntry := [{ v := .iface 95 (.agg #[.int .i64 t]), recovered := false }]
def isStructD : Option TypeDesc → Bool
  | some (.struct _) => true
  | _ => false
def isIfaceD : Option TypeDesc → Bool
  | some (.interface _) => true
  | _ => false
theorem U95 : ∃ fs, Tryz.prog.underlying 95 = some (.struct fs) := by
  have h : isStructD (Tryz.prog.underlying 95) = true := by kernel_rfl
  unfold isStructD at h
  split at h
  · rename_i fs e; exact ⟨fs, e⟩
  · cases h
theorem U20 : ∃ ms, Tryz.prog.underlying 20 = some (.interface ms) := by
  have h : isIfaceD (Tryz.prog.underlying 20) = true := by kernel_rfl
  unfold isIfaceD at h
  split at h
  · rename_i fs e; exact ⟨fs, e⟩
  · cases h
theorem zero95 (w : World) : (zeroValue 95).run Tryz.prog w = .ok (.agg #[.int .i64 0]) w := by kernel_rfl
theorem mk95 {K : Value → World → Prop} {u : World} {t : Int} (h : K (.iface 95 (.agg #[.int .i64 t])) u) : XRun Tryz.prog (Instr.makeInterface 95 (.agg #[.int .i64 t])) u K := by
  obtain ⟨fs, hu⟩ := U95
  have : (Instr.makeInterface 95 (.agg #[.int .i64 t])).run Tryz.prog u = .ok (.iface 95 (.agg #[.int .i64 t])) u := by
    simp [Instr.makeInterface, run_underlying hu, Result.andThen]
  exact xr_ok this h
theorem ta95 {K : Value → World → Prop} {u : World} {t : Int} (h : K (.tuple #[.agg #[.int .i64 t], .bool true]) u) : XRun Tryz.prog (Instr.typeAssert (.iface 95 (.agg #[.int .i64 t])) 20 95 true) u K := by
  obtain ⟨fs, hu⟩ := U95
  have : (Instr.typeAssert (.iface 95 (.agg #[.int .i64 t])) 20 95 true).run Tryz.prog u = .ok (.tuple #[.agg #[.int .i64 t], .bool true]) u := by
    simp [Instr.typeAssert, run_underlying hu, Result.andThen]
  exact xr_ok this h
theorem binEql {P : Program} {t : TypeId} {x y : Operand} {a b : Value} {r : Bool} {u : World} (hg : (eqGuard .eql t x y a b).run P u = .ok () u) (hb : binOp .eql t a b = (do pure (.bool (← Op.equal t a b)))) (he : ∀ d : Nat, (Op.equalIn (d + 1) t a b).run P u = .ok r u) {K : Value → World → Prop} (h : K (.bool r) u) :
    XRun P (do eqGuard .eql t x y a b; binOp .eql t a b) u K := by
  have e : (Op.equal t a b).run P u = .ok r u := by simp [Op.equal, Op.maxDepth, he 9999]
  refine xr_ok (v := .bool r) ?_ h
  rw [Sem.run_bind, hg]
  simp only [Result.andThen, hb]
  rw [Sem.run_bind, e]
  rfl
theorem eqNil {K : Value → World → Prop} {u : World} {n : Nat} (h : K (.bool true) u) : XRun Tryz.prog (do eqGuard .eql 20 (.tmp n) (.const .nilIface) .nilIface .nilIface; binOp .eql 20 .nilIface .nilIface) u K := by
  obtain ⟨ms, hu⟩ := U20
  exact binEql rfl rfl (fun d => by simp [Op.equalIn, run_underlying hu]) h
theorem eqSome {K : Value → World → Prop} {u : World} {x y : Operand} {t : TypeId} {v : Value} (h : K (.bool false) u) : XRun Tryz.prog (do eqGuard .eql 20 x y (.iface t v) .nilIface; binOp .eql 20 (.iface t v) .nilIface) u K := by
  obtain ⟨ms, hu⟩ := U20
  exact binEql rfl rfl (fun d => by simp [Op.equalIn, run_underlying hu]) h

/-- a step as it lies -/
structure XS where
  sS : Sl
  st : List Int
  q : MdlH
  m : Mdl
  code : Int
  pc : Int
  sL : Sl
  lo : List Int
  sF : Sl
  sC : Sl
  did : DidV
def XS.cells (x : XS) : List Value := [x.sS.v, x.q.sv.v, x.q.sa.v, x.q.sc.v, .int .i64 x.m.mutexes, .int .i64 x.m.conds, x.q.st.v, .int .i64 x.code, .int .i64 x.pc, x.sL.v, x.sF.v, x.sC.v,
  .int .i64 x.did.kind, .int .i64 x.did.cell, .bool x.did.write, .int .i64 x.did.av, .int .i64 x.did.ins.code, .int .i64 x.did.ins.a, .int .i64 x.did.ins.b, .int .i64 x.did.ins.num, .int .i64 x.did.value, .int .i64 x.did.trap]
def Xp (b : Nat) (x : XS) (u0 : World) (R : List Assn) : List Assn := bx b x.cells 101 :: row 1 2 x.sS (ints x.st) :: row 1 2 x.sL (ints x.lo) :: oldA u0 :: R
section
variable {w : World} {K : Value → World → Prop} {KP : List PanicEntry → World → Prop} {b : Nat} {x : XS} {u0 : World} {R : List Assn}
theorem C103 {c : Bool} {t : Int} (h1 : c = true → K (.tuple #[]) w) (h2 : c = false → KP (trapV t) w) : XCP Tryz.prog 103 [.bool c, .int .i64 t] w K KP := by
  refine E103 ?_
  unfold F103
  cases c with
  | true => exact h1 rfl
  | false => exact mk95 ⟨_, rfl, h2 rfl⟩
theorem C63 {n : Int} (h1 : valB n = true → K (.int .i64 n) w) (h2 : valB n = false → KP (trapV 2) w) : XCP Tryz.prog 63 [.int .i64 n] w K KP := by
  refine E63 (C40 ⟨_, rfl, C103 (fun h => ⟨rfl, h1 h⟩) h2⟩)
theorem D61 {n : Int} (hw : Sep w (Xp b x u0 R)) (hl : x.st.length ≤ 1000) (h : ∀ s' u, Sep u (Xp b { x with sS := s', st := x.st ++ [n] } u0 R) → K (.tuple #[]) u) : XCP Tryz.prog 61 [.pointer (some ⟨b, 0, none⟩), .int .i64 n] w K KP := by
  refine E61 ?_
  unfold F61
  have hw1 := hw
  unfold Xp at hw
  rw [xptr_some]
  refine ⟨_, _, _, hw.bx0.ld rfl, ?_⟩
  refine Sep.build (cs := ints [n]) T22 rfl hw rfl rfl (by decide) fun s1 w1 hl1 hs1 he1 => ⟨_, _, _, rfl, ?_⟩
  obtain ⟨G1, hr1, -, -⟩ := hs1.rowRd
  have hs2 : Sep w1 (row 1 2 x.sS (ints x.st) :: bx b x.cells 101 :: row 1 2 x.sL (ints x.lo) :: oldA u0 :: R) := hs1.tail.to1
  obtain ⟨_, _, _, hlen⟩ := hs2.rowRd
  have hlen : x.st.length = x.sS.l := by simpa using hlen
  refine Sep.append T22 rfl hs2 (x := s1) hr1 (by simp [hl1]) (ints_one _) (by omega) (by omega) fun s2 w2 hl2 hc2 hs3 => ⟨_, _, _, rfl, ?_⟩
  rw [xptr_some]
  refine hs3.to1.put (o := 0) (by simp [XS.cells]) fun w3 _ hs4 => h s2 w3 ?_
  unfold Xp
  rw [← ints_append] at hs4
  exact hs4
theorem D64 {st' : List Int} {v : Int} (hw : Sep w (Xp b x u0 R)) (hst : x.st = st' ++ [v]) (hl : x.st.length ≤ 1000) (h : ∀ u, Sep u (Xp b { x with sS := ⟨x.sS.a, st'.length, x.sS.c⟩, st := st' } u0 R) → K (.int .i64 v) u) : XCP Tryz.prog 64 [.pointer (some ⟨b, 0, none⟩)] w K KP := by
  refine E64 ?_
  unfold F64
  unfold Xp at hw
  have hw1 : Sep w (row 1 2 x.sS (ints x.st) :: bx b x.cells 101 :: row 1 2 x.sL (ints x.lo) :: oldA u0 :: R) := hw.to1
  obtain ⟨G, hr, hlc, hlen⟩ := hw1.rowRd
  have hlen : x.st.length = x.sS.l := by simpa using hlen
  have hsl : x.sS.l = st'.length + 1 := by rw [← hlen, hst]; simp
  rw [hlen] at hl
  have e1 : IntKind.wrap .i64 ((x.sS.l : Int) - 1) = (st'.length : Int) := by rw [wi (by omega) (by omega)]; omega
  have hB : ∀ v, Blk v b x.cells 101 → v.cell? (Addr.add ⟨b, 0, none⟩ 0) = some (.slice x.sS.a x.sS.l x.sS.c) := fun v h => h.ld rfl
  have hv : (ints x.st)[st'.length]? = some (.int .i64 v) := by rw [hst]; simp [ints]
  obtain ⟨p, hp, -, hc⟩ := hr.isSome hv
  refine ⟨fun z => Blk z b x.cells 101 ∧ z.cell? (p.add st'.length) = some (.int .i64 v), ⟨hw.drew.bx0, ?_⟩, ?_⟩
  · exact hc
  rw [xptr_some]
  refine ⟨_, _, _, fun z hz => hB z hz.1, ?_⟩
  rw [xptr_some]
  refine ⟨_, _, _, fun z hz => hB z hz.1, ?_⟩
  rw [hp, xptr_some, e1]
  refine ⟨by omega, by omega, v, fun z hz => by simpa using hz.2, ?_⟩
  refine ⟨fun z => Blk z b x.cells 101, hw.drew.drew.bx0, ?_⟩
  rw [xptr_some]
  refine ⟨_, _, _, fun z hz => hB z hz, ?_⟩
  rw [xptr_some]
  refine ⟨_, _, _, fun z hz => hB z hz, ?_⟩
  rw [e1, xptr_some]
  refine ⟨by omega, by omega, ?_⟩
  refine hw.drew.drew.put (o := 0) (by simp [XS.cells]) fun w3 _ hs => h w3 ?_
  have hs1 := Sep.rowTake hs.to1 st'.length (by omega)
  rw [show (ints x.st).take (st'.length * 1) = ints st' by rw [hst]; simp [ints]] at hs1
  unfold Xp
  exact hs1.to1
end
end Go.Proofs.YtahcpjgaogghiaaGreat
/- The vm seat: what goes to cells and locals. -/
set_option linter.unusedVariables false
set_option linter.unusedSimpArgs false
set_option maxRecDepth 10000
set_option maxHeartbeats 1000000
namespace Go.Proofs.YtahcpjgaogghiaaGreat
open Go.X
inductive Res
  | ok (st lo : List Int) (pc : Int) (did : DidV)
  | trap (t : Int)
def lastI (l : List Int) : Int := l.getLastD 0
theorem lastI_append (l : List Int) (v : Int) : lastI (l ++ [v]) = v := by simp [lastI]
theorem split1 {l : List Int} (h : 1 ≤ l.length) : l = l.dropLast ++ [lastI l] := by
  have hne : l ≠ [] := by intro e; subst e; simp at h
  have := List.dropLast_concat_getLast hne
  rw [lastI, List.getLastD_eq_getLast?, List.getLast?_eq_some_getLast hne]
  exact this.symm
def access (c : Int) (wr : Bool) (v : Int) : DidV := ⟨2, c, wr, v, noIns, 0, 0⟩
def cellN (m : Mdl) (a i : Int) : Int := m.vars.length + i + (m.arrays.take a.toNat).sum
def inArr (m : Mdl) (a i : Int) : Bool := decide (i ≥ 0) && decide (i < m.arrays.getD a.toNat 0)
def memF (m : Mdl) (cs : List Int) (i : Ins) (st lo : List Int) (pc : Int) (did : DidV) : Res :=
  if i.code = 2 then .ok (st ++ [cs.getD i.a.toNat 0]) lo pc (access i.a false (cs.getD i.a.toNat 0))
  else if i.code = 3 then .ok (st ++ [lo.getD i.a.toNat 0]) lo pc did
  else if i.code = 4 then (if inArr m i.a (lastI st) = true then .ok (st.dropLast ++ [cs.getD (cellN m i.a (lastI st)).toNat 0]) lo pc (access (cellN m i.a (lastI st)) false (cs.getD (cellN m i.a (lastI st)).toNat 0)) else .trap 3)
  else if i.code = 5 then .ok st.dropLast lo pc (access i.a true (lastI st))
  else if i.code = 6 then .ok st.dropLast (lo.set i.a.toNat (lastI st)) pc did
  else if i.code = 7 then (if inArr m i.a (lastI st.dropLast) = true then .ok st.dropLast.dropLast lo pc (access (cellN m i.a (lastI st.dropLast)) true (lastI st)) else .trap 3)
  else .ok st lo pc did
/-- what a module and cells are that a step reads -/
structure Fit (u0 : World) (q : MdlH) (m : Mdl) (sC : Sl) (cs : List Int) : Prop where
  mp : MdlP u0 T0 q m
  cp : ReadsI u0 T0 sC cs
  vl : m.vars.length ≤ 64
  al : m.arrays.length ≤ 64
  av : ∀ v ∈ m.arrays, 0 ≤ v ∧ v ≤ 256
  cl : (cs.length : Int) = countF m
theorem sum_bound {l : List Int} (h : ∀ v ∈ l, 0 ≤ v ∧ v ≤ 256) : 0 ≤ l.sum ∧ l.sum ≤ 256 * l.length := by
  induction l with
  | nil => simp
  | cons a r ih =>
    have h1 := ih fun v hv => h v (by simp [hv])
    have h2 := h a (by simp)
    simp only [List.sum_cons, List.length_cons]
    omega
theorem sum_take_add (l : List Int) (k : Nat) (hk : k < l.length) : (l.take (k + 1)).sum = (l.take k).sum + l[k] := by
  rw [List.take_add_one, List.getElem?_eq_getElem hk, List.sum_append]; simp
theorem sum_take_le {l : List Int} (h : ∀ v ∈ l, 0 ≤ v ∧ v ≤ 256) (k : Nat) : 0 ≤ (l.take k).sum ∧ (l.take k).sum ≤ 256 * l.length := by
  have := sum_bound (l := l.take k) fun v hv => h v (List.mem_of_mem_take hv)
  rw [List.length_take] at this
  omega
theorem sum_split {l : List Int} (h : ∀ v ∈ l, 0 ≤ v ∧ v ≤ 256) {k : Nat} (hk : k < l.length) : (l.take k).sum + l[k] ≤ l.sum := by
  rw [← sum_take_add l k hk]
  have e : l.sum = (l.take (k + 1)).sum + (l.drop (k + 1)).sum := by rw [← List.sum_append, List.take_append_drop]
  have := sum_bound (l := l.drop (k + 1)) fun v hv => h v (List.mem_of_mem_drop hv)
  omega
theorem getD_get {l : List Int} {k : Nat} (h : k < l.length) : l.getD k 0 = l[k] := by simp [List.getD_eq_getElem?_getD, List.getElem?_eq_getElem h]
theorem Sep.init {w : World} {L : List Assn} {A : Assn} (h : Sep w (L ++ [A])) : Sep w L :=
  h.sub (fun i => i) (fun i X hX => by rw [List.getElem?_append_left (List.getElem?_eq_some_iff.1 hX).1]; exact hX) (fun i j _ _ e => e)
section
variable {w : World} {K : Value → World → Prop} {KP : List PanicEntry → World → Prop} {b : Nat} {x : XS} {u0 : World} {R : List Assn} {cs : List Int}
theorem Xp.ex (hw : Sep w (Xp b x u0 R)) : Ex u0 w := hw.ex 3 rfl
theorem D101 {c : Int} {wr : Bool} {v : Int} (hw : Sep w (Xp b x u0 R)) (h : ∀ u, Sep u (Xp b { x with did := access c wr v } u0 R) → K (.tuple #[]) u) : XCP Tryz.prog 101 [.pointer (some ⟨b, 0, none⟩), .int .i64 c, .bool wr, .int .i64 v] w K KP := by
  refine E101 ?_
  unfold F101
  rw [xptr_some]
  unfold Xp at hw
  show storesAt ⟨b, 12, none⟩ 0 _ w _
  exact hw.puts (o := 12) (by simp [XS.cells]) fun w1 _ hs => h w1 hs
theorem D67 {c : Bool} {n : Int} (hw : Sep w (Xp b x u0 R)) (h : ∀ u, Sep u (Xp b { x with pc := if c = true then n else x.pc } u0 R) → K (.tuple #[]) u) : XCP Tryz.prog 67 [.pointer (some ⟨b, 0, none⟩), .bool c, .int .i64 n] w K KP := by
  refine E67 ?_
  unfold F67
  cases c with
  | true =>
    rw [if_pos rfl, xptr_some]
    unfold Xp at hw
    show storeP w ⟨b, 8, none⟩ _ _
    exact hw.put (o := 8) (by simp [XS.cells]) fun w1 _ hs => h w1 hs
  | false =>
    rw [if_neg (by decide)]
    exact h w hw
theorem D102 {a i : Int} (hw : Sep w (Xp b x u0 R)) (hF : Fit u0 x.q x.m x.sC cs) (h0 : 0 ≤ a) (ha : a < x.m.arrays.length) (hi : valB i = true)
    (h1 : inArr x.m a i = true → ∀ u, Sep u (Xp b x u0 R) → K (.int .i64 (cellN x.m a i)) u) (h2 : inArr x.m a i = false → ∀ u, Sep u (Xp b x u0 R) → KP (trapV 3) u) : XCP Tryz.prog 102 [.pointer (some ⟨b, 0, none⟩), .int .i64 a, .int .i64 i] w K KP := by
  refine E102 ?_
  unfold F102
  have hex := Xp.ex hw
  have hB : Blk w b x.cells 101 := hw.bx0
  have hla := hF.mp.a.len
  have hlv := hF.mp.v.len
  have hat : a.toNat < x.m.arrays.length := by omega
  unfold valB at hi
  simp only [Bool.and_eq_true, decide_eq_true_eq] at hi
  have key : ∀ c : Bool, c = inArr x.m a i → ∀ kb : Bool → World → Prop, (∀ (b1 : Bool) (w0 : World), (XCP Tryz.prog 103 [.bool b1, .int .i64 3] w0 (fun v w1 => v = .tuple #[] ∧ xptr (some ⟨b, 0, none⟩) fun p => ∃ (a_1 : Option Addr) (l c : Nat), World.cell? w1 (Addr.add (Addr.add p 1) 0) = some (.slice a_1 l c) ∧ xptr (some ⟨b, 0, none⟩) fun p1 => ∃ (a1 : Option Addr) (l1 c1 : Nat), World.cell? w1 (Addr.add (Addr.add p1 1) 1) = some (.slice a1 l1 c1) ∧ (0 : Int) ≤ a ∧ a ≤ (↑c1 : Int) ∧ ∃ (I : Int → Int → World → Prop) (μ : Int → Int → World → Nat), I (IntKind.wrap .i64 ((↑l : Int) + i)) 0 w1 ∧ (∀ (n2 : Int) (n3 : Int) (w2 : World), I n2 n3 w2 → if (decide (n3 < (↑(Int.toNat a) : Int))) = true then (xptr a1 fun p2 => (0 : Int) ≤ n3 ∧ n3 < (↑(Int.toNat a) : Int) ∧ ∃ (n4 : Int), World.cell? w2 (Addr.add p2 (Int.toNat n3 * 1)) = some (.int .i64 n4) ∧ I (IntKind.wrap .i64 (n2 + n4)) (IntKind.wrap .i64 (n3 + 1)) w2 ∧ μ (IntKind.wrap .i64 (n2 + n4)) (IntKind.wrap .i64 (n3 + 1)) w2 < μ n2 n3 w2) else (K (.int .i64 n2) w2))) KP) → kb b1 w0) → kb c w := by
    intro c hc kb hkb
    refine hkb _ _ (C103 (fun hcT => ⟨rfl, ?_⟩) fun hcF => h2 (by rw [← hc, hcF]) w hw)
    rw [hcT] at hc
    have hin := hc.symm
    unfold inArr at hin
    simp only [Bool.and_eq_true, decide_eq_true_eq] at hin
    rw [xptr_some]
    refine ⟨_, _, _, hB.ld' (o := 1) rfl, ?_⟩
    rw [xptr_some]
    refine ⟨_, _, _, hB.ld' (o := 2) rfl, h0, ?_, ?_⟩
    · have := hF.mp.a.2.1; omega
    have hvl := hF.vl
    refine ⟨fun n2 n3 u => ∃ k : Nat, n3 = k ∧ k ≤ a.toNat ∧ n2 = x.m.vars.length + i + (x.m.arrays.take k).sum ∧ Sep u (Xp b x u0 R), fun _ n3 _ => a.toNat - n3.toNat, ⟨0, rfl, Nat.zero_le _, ?_, hw⟩, ?_⟩
    · rw [hlv, wi (by omega) (by omega)]; simp
    · rintro n2 n3 u ⟨k, rfl, hk, rfl, hu⟩
      have hb := sum_take_le hF.av k
      have hal := hF.al
      by_cases hlt : k < a.toNat
      · rw [if_pos (by simp; omega)]
        obtain ⟨p, hp, hcell⟩ := (hF.mp.a.old (Xp.ex hu)).int (i := k) (by omega)
        rw [hp, xptr_some]
        have hav := hF.av x.m.arrays[k] (List.getElem_mem _)
        refine ⟨by omega, by omega, _, by simpa using hcell, ?_⟩
        rw [wi (by omega) (by omega), wi (by omega) (by omega)]
        refine ⟨⟨k + 1, rfl, hlt, ?_, hu⟩, ?_⟩
        · rw [sum_take_add _ k (by omega)]; omega
        · show a.toNat - ((k : Int) + 1).toNat < a.toNat - ((k : Int)).toNat
          omega
      · rw [if_neg (by simp; omega)]
        have e : k = a.toNat := by omega
        subst e
        exact h1 hc.symm u hu
  intro kb hkb
  by_cases hi0 : i ≥ 0
  · rw [if_pos (by simpa using hi0), xptr_some]
    refine ⟨_, _, _, hB.ld' (o := 2) rfl, ?_⟩
    obtain ⟨p, hp, hcell⟩ := (hF.mp.a.old hex).int hat
    rw [hp, xptr_some]
    refine ⟨h0, by omega, _, by simpa using hcell, ?_⟩
    refine key _ ?_ kb hkb
    rw [inArr, getD_get hat]; simp [hi0]
  · rw [if_neg (by simpa using hi0)]
    refine key _ ?_ kb hkb
    rw [inArr]; simp [hi0]
end
end Go.Proofs.YtahcpjgaogghiaaGreat
/- The vm seat: an instruction that goes to cells and locals. -/
set_option linter.unusedVariables false
set_option linter.unusedSimpArgs false
set_option maxRecDepth 10000
set_option maxHeartbeats 2000000
namespace Go.Proofs.YtahcpjgaogghiaaGreat
open Go.X
/-- an instruction stands rightly -/
structure StepFit (m : Mdl) (lo st : List Int) (i : Ins) : Prop where
  ok : insOk i = true
  k2 : i.code = 2 ∨ i.code = 5 → i.a < m.vars.length
  k3 : i.code = 3 ∨ i.code = 6 → i.a < lo.length
  k4 : i.code = 4 ∨ i.code = 7 → i.a < m.arrays.length
  tk : (effI i.code).1 ≤ st.length
  vs : ∀ v ∈ st, valB v = true
  sl : st.length ≤ 900
theorem SlR.atI {u0 : World} {s : Sl} {xs : List Int} (h : ReadsI u0 T0 s xs) {k : Nat} (hk : k < xs.length) : ∃ p, s.a = some p ∧ ∀ z, Ex u0 z → z.cell? (p.add k) = some (.int .i64 xs[k]) := by
  obtain ⟨p, hp, -⟩ := h.int hk
  refine ⟨p, hp, fun z hz => ?_⟩
  obtain ⟨p', hp', hc⟩ := (h.old hz).int hk
  rw [hp] at hp'; cases hp'
  exact hc
theorem lastI_mem {l : List Int} (h : 1 ≤ l.length) : lastI l ∈ l := by
  have := List.mem_append_right l.dropLast (List.mem_singleton_self (lastI l))
  rwa [← split1 h] at this
theorem cellN_lt {u0 : World} {q : MdlH} {m : Mdl} {sC : Sl} {cs : List Int} (hF : Fit u0 q m sC cs) {a i : Int} (h0 : 0 ≤ a) (ha : a < m.arrays.length) (h : inArr m a i = true) : 0 ≤ cellN m a i ∧ cellN m a i < cs.length := by
  unfold inArr at h
  have hat : a.toNat < m.arrays.length := by omega
  rw [getD_get hat] at h
  simp only [Bool.and_eq_true, decide_eq_true_eq] at h
  have h1 := sum_split hF.av hat
  have h2 := sum_take_le hF.av a.toNat
  have h3 := hF.cl
  unfold countF at h3
  unfold cellN
  omega
section
variable {w : World} {K : Value → World → Prop} {KP : List PanicEntry → World → Prop} {b : Nat} {x : XS} {u0 : World} {R : List Assn} {cs : List Int}
theorem Xp.loc (hw : Sep w (Xp b x u0 R)) {k : Nat} (hk : k < x.lo.length) : ∃ p, x.sL.a = some p ∧ ∀ z, Sep z (Xp b x u0 R) → z.cell? (p.add k) = some (.int .i64 x.lo[k]) := by
  have hv : (ints x.lo)[k]? = some (.int .i64 x.lo[k]) := ints_get (List.getElem?_eq_getElem hk)
  obtain ⟨p, hp, -⟩ := hw.rowCellAt 2 rfl hv
  refine ⟨p, hp, fun z hz => ?_⟩
  obtain ⟨p', hp', hc⟩ := hz.rowCellAt 2 rfl hv
  rw [hp] at hp'; cases hp'
  exact hc
theorem dropI {A : Assn} (h : Sep w (Xp b x u0 (A :: R))) : Sep w (Xp b x u0 R) := h.to4.tail
theorem Xp.old (h : Sep w (Xp b x u0 R)) : Sep w (oldA u0 :: R) := h.tail.tail.tail
theorem D62 {i : Ins} (hw : Sep w (Xp b x u0 R)) (hF : Fit u0 x.q x.m x.sC cs) (hS : StepFit x.m x.lo x.st i) (hc : 2 ≤ i.code ∧ i.code ≤ 7)
    (hK : ∀ s' st' lo' pc' did' u, memF x.m cs i x.st x.lo x.pc x.did = .ok st' lo' pc' did' → Sep u (Xp b { x with sS := s', st := st', lo := lo', pc := pc', did := did' } u0 R) → K (.tuple #[]) u)
    (hT : ∀ t u, memF x.m cs i x.st x.lo x.pc x.did = .trap t → Sep u (oldA u0 :: R) → KP (trapV t) u) : XCP Tryz.prog 62 [.pointer (some ⟨b, 0, none⟩), i.v] w K KP := by
  show XCP Tryz.prog 62 [.pointer (some ⟨b, 0, none⟩), .agg #[.int .i64 i.code, .int .i64 i.a, .int .i64 i.b, .int .i64 i.num]] w K KP
  refine E62 ?_
  unfold F62
  intro w0 p
  have hs0 : Sep w0 (bx w.heap.size i.cells 52 :: Xp b x u0 R) := hw.box _ _
  have hs : Sep w0 (Xp b x u0 (bx w.heap.size i.cells 52 :: R)) := hs0.back4
  clear hs0 hw
  clear_value w0
  have hA := insOk_code hS.ok
  have hsl := hS.sl
  have hcl := hF.cl
  have hsum := sum_bound hF.av
  have hI : ∀ {z : World} {y : XS}, Sep z (Xp b y u0 (bx w.heap.size i.cells 52 :: R)) → Blk z w.heap.size i.cells 52 := fun h => h.bx4
  have hB : ∀ {z : World} {y : XS}, Sep z (Xp b y u0 (bx w.heap.size i.cells 52 :: R)) → Blk z b y.cells 101 := fun h => h.bx0
  refine ⟨_, (hI hs).ld rfl, ?_⟩
  intro kb hkb
  have hKb : ∀ s' st' lo' pc' did' u, memF x.m cs i x.st x.lo x.pc x.did = .ok st' lo' pc' did' → Sep u (Xp b { x with sS := s', st := st', lo := lo', pc := pc', did := did' } u0 (bx w.heap.size i.cells 52 :: R)) → kb u :=
    fun s' st' lo' pc' did' u h1 h2 => hkb u (hK s' st' lo' pc' did' u h1 (dropI h2))
  have hTb : ∀ t u, memF x.m cs i x.st x.lo x.pc x.did = .trap t → (∃ y, Sep u (Xp b y u0 (bx w.heap.size i.cells 52 :: R))) → KP (trapV t) u := fun t u h1 ⟨y, h2⟩ => hT t u h1 (Xp.old (dropI h2))
  clear hK hT hkb
  unfold countF at hcl
  by_cases h2 : i.code = 2
  · rw [if_pos (by simp [h2])]
    have ha := hS.k2 (.inl h2)
    obtain ⟨pc, hpc, hcell⟩ := SlR.atI hF.cp (k := i.a.toNat) (by omega)
    refine ⟨fun z => Sep z (Xp b x u0 (bx w.heap.size i.cells 52 :: R)), hs.drew, ?_⟩
    refine ⟨_, fun z hz => (hI hz).ld rfl, ?_⟩
    rw [xptr_some]
    refine ⟨_, _, _, fun z hz => (hB hz).ld' (o := 11) rfl, _, fun z hz => (hI hz).ld rfl, ?_⟩
    rw [hpc, xptr_some]
    have hcl' := hF.cp.len
    refine ⟨hA.2.2.1, by omega, _, fun z hz => by simpa using hcell z (Xp.ex hz), ?_⟩
    refine D101 hs.drew fun u1 hs1 => ⟨rfl, ?_⟩
    refine ⟨fun z => Sep z (Xp b { x with did := access i.a false cs[i.a.toNat] } u0 (bx w.heap.size i.cells 52 :: R)), hs1.drew, ?_⟩
    rw [xptr_some, xptr_some]
    refine ⟨_, _, _, fun z hz => (hB hz).ld' (o := 11) rfl, _, fun z hz => (hI hz).ld rfl, ?_⟩
    show xptr x.sC.a _
    rw [hpc, xptr_some]
    refine ⟨hA.2.2.1, by show _ < (x.sC.l : Int); omega, _, fun z hz => by simpa using hcell z (Xp.ex hz), ?_⟩
    refine D61 (x := { x with did := access i.a false cs[i.a.toNat] }) hs1.drew (by show x.st.length ≤ 1000; omega) fun s' u2 hs2 => ⟨rfl, ?_⟩
    refine hKb s' _ _ _ _ u2 ?_ hs2
    rw [memF, if_pos h2, getD_get (by omega)]
  rw [if_neg (by simpa using h2)]
  by_cases h3 : i.code = 3
  · rw [if_pos (by simp [h3])]
    have ha := hS.k3 (.inl h3)
    obtain ⟨pl, hpl, hcell⟩ := Xp.loc hs (k := i.a.toNat) (by omega)
    obtain ⟨_, _, _, hll⟩ := hs.rowAt 2 rfl
    have hll : x.lo.length = x.sL.l := by simpa using hll
    refine ⟨fun z => Sep z (Xp b x u0 (bx w.heap.size i.cells 52 :: R)), hs.drew, ?_⟩
    rw [xptr_some, xptr_some]
    refine ⟨_, _, _, fun z hz => (hB hz).ld' (o := 9) rfl, _, fun z hz => (hI hz).ld rfl, ?_⟩
    rw [hpl, xptr_some]
    refine ⟨hA.2.2.1, by omega, _, fun z hz => by simpa using hcell z hz, ?_⟩
    refine D61 hs.drew (by omega) fun s' u2 hs2 => ⟨rfl, ?_⟩
    refine hKb s' _ _ _ _ u2 ?_ hs2
    rw [memF, if_neg h2, if_pos h3, getD_get (by omega)]
  rw [if_neg (by simpa using h3)]
  have htk := hS.tk
  by_cases h4 : i.code = 4
  · rw [if_pos (by simp [h4])]
    have ha := hS.k4 (.inl h4)
    rw [h4] at htk
    have htk : (1 : Int) ≤ x.st.length := htk
    have hsp := split1 (l := x.st) (by omega)
    refine ⟨fun z => ∃ y : XS, Sep z (Xp b y u0 (bx w.heap.size i.cells 52 :: R)), ⟨x, hs.drew⟩, ?_⟩
    refine ⟨_, fun z ⟨y, hz⟩ => (hI hz).ld rfl, ?_⟩
    rw [xptr_some]
    refine D64 hs.drew hsp (by omega) fun u1 hs1 => ⟨_, rfl, ⟨_, hs1⟩, ?_⟩
    refine D102 hs1 hF hA.2.2.1 ha (hS.vs _ (lastI_mem (by omega))) ?_ ?_
    · intro hin u2 hs2
      obtain ⟨hn0, hn1⟩ := cellN_lt hF hA.2.2.1 ha hin
      obtain ⟨pc, hpc, hcell⟩ := SlR.atI hF.cp (k := (cellN x.m i.a (lastI x.st)).toNat) (by omega)
      have hcl' := hF.cp.len
      refine ⟨_, rfl, fun _ => True, trivial, ?_⟩
      rw [xptr_some]
      refine ⟨_, _, _, (hB hs2).ld' (o := 11) rfl, ?_⟩
      show xptr x.sC.a _
      rw [hpc, xptr_some]
      refine ⟨hn0, by show cellN x.m i.a (lastI x.st) < (x.sC.l : Int); omega, _, by simpa using hcell u2 (Xp.ex hs2), ?_⟩
      refine D101 hs2 fun u3 hs3 => ⟨rfl, ?_⟩
      refine ⟨fun z => Sep z (Xp b _ u0 (bx w.heap.size i.cells 52 :: R)), hs3.drew, ?_⟩
      rw [xptr_some, xptr_some]
      refine ⟨_, _, _, fun z hz => (hB hz).ld' (o := 11) rfl, ?_⟩
      show xptr x.sC.a _
      rw [hpc, xptr_some]
      refine ⟨hn0, by show cellN x.m i.a (lastI x.st) < (x.sC.l : Int); omega, _, fun z hz => by simpa using hcell z (Xp.ex hz), ?_⟩
      refine D61 hs3.drew (by show x.st.dropLast.length ≤ 1000; simp; omega) fun s' u4 hs4 => ⟨rfl, ?_⟩
      refine hKb s' _ _ _ _ u4 ?_ hs4
      rw [memF, if_neg h2, if_neg h3, if_pos h4, if_pos hin, getD_get (by omega)]
    · intro hin u2 hs2
      refine hTb 3 u2 ?_ ⟨_, hs2⟩
      rw [memF, if_neg h2, if_neg h3, if_pos h4, if_neg (by rw [hin]; decide)]
  rw [if_neg (by simpa using h4)]
  by_cases h5 : i.code = 5
  · rw [if_pos (by simp [h5])]
    rw [h5] at htk
    have htk : (1 : Int) ≤ x.st.length := htk
    have hsp := split1 (l := x.st) (by omega)
    refine ⟨fun z => ∃ y : XS, Sep z (Xp b y u0 (bx w.heap.size i.cells 52 :: R)), ⟨x, hs.drew⟩, ?_⟩
    refine ⟨_, fun z ⟨y, hz⟩ => (hI hz).ld rfl, ?_⟩
    rw [xptr_some]
    refine D64 hs.drew hsp (by omega) fun u1 hs1 => ⟨_, rfl, ⟨_, hs1⟩, ?_⟩
    refine D101 hs1 fun u2 hs2 => ⟨rfl, ?_⟩
    refine hKb _ _ _ _ _ u2 ?_ hs2
    rw [memF, if_neg h2, if_neg h3, if_neg h4, if_pos h5]
  rw [if_neg (by simpa using h5)]
  by_cases h6 : i.code = 6
  · rw [if_pos (by simp [h6])]
    have ha := hS.k3 (.inr h6)
    rw [h6] at htk
    have htk : (1 : Int) ≤ x.st.length := htk
    have hsp := split1 (l := x.st) (by omega)
    obtain ⟨pl, hpl, -⟩ := Xp.loc hs (k := i.a.toNat) (by omega)
    obtain ⟨_, _, _, hll⟩ := hs.rowAt 2 rfl
    have hll : x.lo.length = x.sL.l := by simpa using hll
    refine ⟨fun z => ∃ y : XS, y.sL = x.sL ∧ Sep z (Xp b y u0 (bx w.heap.size i.cells 52 :: R)), ⟨x, rfl, hs.drew⟩, ?_⟩
    rw [xptr_some]
    refine ⟨x.sL.a, x.sL.l, x.sL.c, fun z ⟨y, hy, hz⟩ => by rw [← hy]; exact (hB hz).ld' (o := 9) rfl, _, fun z ⟨y, _, hz⟩ => (hI hz).ld rfl, ?_⟩
    rw [xptr_some]
    refine D64 hs.drew hsp (by omega) fun u1 hs1 => ⟨_, rfl, ⟨_, by rfl, hs1⟩, ?_⟩
    rw [hpl, xptr_some]
    refine ⟨hA.2.2.1, by omega, ?_⟩
    rw [Nat.mul_one]
    refine hs1.rowPutAt 2 rfl (by show _ < (ints x.lo).length; simp; omega) hpl fun u2 _ hs2 => ?_
    refine hKb ⟨x.sS.a, x.st.dropLast.length, x.sS.c⟩ x.st.dropLast (x.lo.set i.a.toNat (lastI x.st)) x.pc x.did u2 ?_ ?_
    · rw [memF, if_neg h2, if_neg h3, if_neg h4, if_neg h5, if_pos h6]
    · unfold Xp
      rw [ints_set]
      exact hs2
  rw [if_neg (by simpa using h6)]
  have h7 : i.code = 7 := by omega
  rw [if_pos (by simp [h7])]
  have ha := hS.k4 (.inr h7)
  rw [h7] at htk
  have htk : (2 : Int) ≤ x.st.length := htk
  have hsp := split1 (l := x.st) (by omega)
  have hsp2 := split1 (l := x.st.dropLast) (by simp; omega)
  rw [xptr_some]
  refine D64 hs hsp (by omega) fun u1 hs1 => ⟨_, rfl, ?_⟩
  refine ⟨fun z => ∃ y : XS, Sep z (Xp b y u0 (bx w.heap.size i.cells 52 :: R)), ⟨_, hs1.drew⟩, ?_⟩
  refine ⟨_, fun z ⟨y, hz⟩ => (hI hz).ld rfl, ?_⟩
  rw [xptr_some]
  refine D64 hs1.drew (st' := x.st.dropLast.dropLast) (v := lastI x.st.dropLast) hsp2 (by show x.st.dropLast.length ≤ 1000; simp; omega) fun u2 hs2 => ⟨_, rfl, ⟨_, hs2⟩, ?_⟩
  refine D102 hs2 hF hA.2.2.1 ha (hS.vs _ (List.dropLast_subset _ (lastI_mem (by simp; omega)))) ?_ ?_
  · intro hin u3 hs3
    refine ⟨_, rfl, fun _ => True, trivial, ?_⟩
    refine D101 hs3 fun u4 hs4 => ⟨rfl, ?_⟩
    refine hKb _ _ _ _ _ u4 ?_ hs4
    rw [memF, if_neg h2, if_neg h3, if_neg h4, if_neg h5, if_neg h6, if_pos h7, if_pos hin]
  · intro hin u3 hs3
    refine hTb 3 u3 ?_ ⟨_, hs3⟩
    rw [memF, if_neg h2, if_neg h3, if_neg h4, if_neg h5, if_neg h6, if_pos h7, if_neg (by rw [hin]; decide)]
end
end Go.Proofs.YtahcpjgaogghiaaGreat
/- The vm seat: what two values make. -/
set_option linter.unusedVariables false
set_option linter.unusedSimpArgs false
set_option maxRecDepth 10000
set_option maxHeartbeats 2000000
namespace Go.Proofs.YtahcpjgaogghiaaGreat
open Go.X
def madeE (n : Int) : Except Int Int := if valB n = true then .ok n else .error 2
def truI (b : Bool) : Int := if b = true then 1 else 0
def twoF (c a b : Int) : Except Int Int :=
  if c = 10 then .ok (truI (a == b))
  else if c = 11 then .ok (truI (a != b))
  else if c = 12 then .ok (truI (decide (a < b)))
  else if c = 13 then .ok (truI (decide (a ≤ b)))
  else if c = 14 then madeE (a + b)
  else if c = 15 then madeE (a - b)
  else if c = 16 then madeE (a * b)
  else if c = 17 then (if b = 0 then .error 1 else madeE (a.tdiv b))
  else (if b = 0 then .error 1 else .ok (a.tmod b))
theorem val_iff {n : Int} : valB n = true ↔ -2147483648 ≤ n ∧ n ≤ 2147483647 := by simp [valB]
theorem mul_bound {a b : Int} (ha : valB a = true) (hb : valB b = true) : -4611686018427387904 ≤ a * b ∧ a * b ≤ 4611686018427387904 := by
  rw [val_iff] at ha hb
  have h1 : a.natAbs ≤ 2147483648 := by omega
  have h2 : b.natAbs ≤ 2147483648 := by omega
  have h3 := Nat.mul_le_mul h1 h2
  rw [← Int.natAbs_mul] at h3
  omega
theorem div_bound {a b : Int} (ha : valB a = true) : -2147483648 ≤ a.tdiv b ∧ a.tdiv b ≤ 2147483648 := by
  rw [val_iff] at ha
  have h1 : (a.tdiv b).natAbs ≤ a.natAbs := by rw [Int.natAbs_tdiv]; exact Nat.div_le_self _ _
  omega
theorem mod_bound {a b : Int} (ha : valB a = true) : valB (a.tmod b) = true := by
  rw [val_iff] at ha ⊢
  by_cases h0 : 0 ≤ a
  · have h1 := Int.tmod_nonneg b h0
    have h2 : (a.tmod b).natAbs ≤ a.natAbs := by rw [Int.natAbs_tmod]; exact Nat.mod_le _ _
    omega
  · have h2 : (a.tmod b).natAbs ≤ a.natAbs := by rw [Int.natAbs_tmod]; exact Nat.mod_le _ _
    have h1 := Int.tmod_nonneg (a := -a) b (by omega)
    rw [Int.neg_tmod] at h1
    omega
def fnV (n : Nat) : Value := .func (.func n) #[] #[]
def twoV : List Value := [.nilFunc, .nilFunc, .nilFunc, .nilFunc, .nilFunc, .nilFunc, .nilFunc, .nilFunc, .nilFunc, .nilFunc, fnV 104, fnV 105, fnV 106, fnV 107, fnV 108, fnV 109, fnV 110, fnV 111, fnV 112]
def isFuncD : Option TypeDesc → Bool
  | some (.func _ _ _) => true
  | _ => false
theorem U130 : ∃ a b c, Tryz.prog.underlying 130 = some (.func a b c) := by
  have h : isFuncD (Tryz.prog.underlying 130) = true := by kernel_rfl
  unfold isFuncD at h
  split at h
  · rename_i a b c e; exact ⟨a, b, c, e⟩
  · cases h
theorem U131 : Tryz.prog.underlying 131 = some (.array 19 130) := by kernel_rfl
theorem Z130 (w : World) : (sizeOf 130).run Tryz.prog w = .ok 1 w := by kernel_rfl
section
variable {w : World} {K : Value → World → Prop} {KP : List PanicEntry → World → Prop}
theorem xr_index1 {P : Program} {t elem : TypeId} {d : TypeDesc} {len : Nat} {cs : Array Value} {k : IntKind} {n : Int} {v : Value} (hu : P.underlying t = some (.array len elem)) (hd : P.underlying elem = some d) (ha : descAgg d = false) (hz : ∀ w, (sizeOf elem).run P w = .ok 1 w) (h0 : 0 ≤ n) (h1 : n < len) (hv : cs.toList[n.toNat]? = some v)
    (h : K v w) : XRun P (Instr.index t (.agg cs) (.int k n)) w K := by
  refine xr_ok (v := v) ?_ h
  have hp := fun w => part_run_sc (P := P) (t := elem) hd ha hv w
  simp [Instr.index, asIntOf, run_underlying hu, hz, h0, h1, Result.andThen, hp]
theorem C104 {a b : Int} (h : K (.int .i64 (truI (a == b))) w) : XCP Tryz.prog 104 [.int .i64 a, .int .i64 b] w K KP := E104 (C65 ⟨_, rfl, h⟩)
theorem C105 {a b : Int} (h : K (.int .i64 (truI (a != b))) w) : XCP Tryz.prog 105 [.int .i64 a, .int .i64 b] w K KP := E105 (C65 ⟨_, rfl, h⟩)
theorem C106 {a b : Int} (h : K (.int .i64 (truI (decide (a < b)))) w) : XCP Tryz.prog 106 [.int .i64 a, .int .i64 b] w K KP := E106 (C65 ⟨_, rfl, h⟩)
theorem C107 {a b : Int} (h : K (.int .i64 (truI (decide (a ≤ b)))) w) : XCP Tryz.prog 107 [.int .i64 a, .int .i64 b] w K KP := E107 (C65 ⟨_, rfl, h⟩)
theorem Cmade {n : Int} (h1 : ∀ v, madeE n = .ok v → K (.int .i64 v) w) (h2 : ∀ t, madeE n = .error t → KP (trapV t) w) : XCP Tryz.prog 63 [.int .i64 n] w K KP :=
  C63 (fun h => h1 n (by rw [madeE, if_pos h])) fun h => h2 2 (by rw [madeE, if_neg (by rw [h]; decide)])
theorem Ctwo {c a b : Int} (hc : 10 ≤ c ∧ c ≤ 18) (ha : valB a = true) (hb : valB b = true) (h1 : ∀ v, twoF c a b = .ok v → K (.int .i64 v) w) (h2 : ∀ t, twoF c a b = .error t → KP (trapV t) w) :
    XCV Tryz.prog (twoV.getD c.toNat .nilFunc) [.int .i64 a, .int .i64 b] w K KP := by
  have hm := mul_bound ha hb
  have hdv := div_bound (b := b) ha
  have ha' := val_iff.1 ha
  have hb' := val_iff.1 hb
  have hcs : c = 10 ∨ c = 11 ∨ c = 12 ∨ c = 13 ∨ c = 14 ∨ c = 15 ∨ c = 16 ∨ c = 17 ∨ c = 18 := by omega
  rcases hcs with rfl | rfl | rfl | rfl | rfl | rfl | rfl | rfl | rfl
  · show XCP Tryz.prog 104 [.int .i64 a, .int .i64 b] w K KP
    exact C104 (h1 _ rfl)
  · show XCP Tryz.prog 105 [.int .i64 a, .int .i64 b] w K KP
    exact C105 (h1 _ rfl)
  · show XCP Tryz.prog 106 [.int .i64 a, .int .i64 b] w K KP
    exact C106 (h1 _ rfl)
  · show XCP Tryz.prog 107 [.int .i64 a, .int .i64 b] w K KP
    exact C107 (h1 _ rfl)
  · show XCP Tryz.prog 108 [.int .i64 a, .int .i64 b] w K KP
    refine E108 ?_
    unfold F108
    rw [wi (by omega) (by omega)]
    exact Cmade (fun v hv => ⟨_, rfl, h1 v hv⟩) h2
  · show XCP Tryz.prog 109 [.int .i64 a, .int .i64 b] w K KP
    refine E109 ?_
    unfold F109
    rw [wi (by omega) (by omega)]
    exact Cmade (fun v hv => ⟨_, rfl, h1 v hv⟩) h2
  · show XCP Tryz.prog 110 [.int .i64 a, .int .i64 b] w K KP
    refine E110 ?_
    unfold F110
    rw [wi (by omega) (by omega)]
    exact Cmade (fun v hv => ⟨_, rfl, h1 v hv⟩) h2
  · show XCP Tryz.prog 111 [.int .i64 a, .int .i64 b] w K KP
    refine E111 ?_
    unfold F111
    have e : twoF 17 a b = if b = 0 then .error 1 else madeE (a.tdiv b) := rfl
    rw [wi (by omega) (by omega)]
    by_cases hb0 : b = 0
    · rw [if_pos hb0] at e
      exact C103 (fun hh => by simp [hb0] at hh) fun _ => h2 1 e
    · rw [if_neg hb0] at e
      refine C103 (fun _ => ⟨rfl, hb0, Cmade (fun v hv => ⟨_, rfl, h1 v (e.trans hv)⟩) fun t ht => h2 t (e.trans ht)⟩) fun hh => by simp [hb0] at hh
  · show XCP Tryz.prog 112 [.int .i64 a, .int .i64 b] w K KP
    refine E112 ?_
    unfold F112
    have e : twoF 18 a b = if b = 0 then .error 1 else .ok (a.tmod b) := rfl
    by_cases hb0 : b = 0
    · rw [if_pos hb0] at e
      exact C103 (fun hh => by simp [hb0] at hh) fun _ => h2 1 e
    · rw [if_neg hb0] at e
      exact C103 (fun _ => ⟨rfl, hb0, h1 _ e⟩) fun hh => by simp [hb0] at hh
theorem C66 (h : ∀ u, Ex w u → K (.agg twoV.toArray) u) : XCP Tryz.prog 66 [] w K KP := by
  refine E66 ?_
  unfold F66
  intro w0 p
  have hs : Sep w0 (bx w.heap.size _ 131 :: [oldA w]) := (Sep.begin w).box _ _
  clear_value w0
  refine hs.fill (vs := twoV) rfl fun w1 _ hs => ?_
  exact ⟨_, _, _, _, _, _, _, _, _, _, _, _, _, _, _, _, _, _, _, hs.bx0.lds, h w1 (hs.ex 1 rfl)⟩
end
end Go.Proofs.YtahcpjgaogghiaaGreat
/- The vm seat: an instruction done. -/
set_option linter.unusedVariables false
set_option linter.unusedSimpArgs false
set_option maxRecDepth 10000
set_option maxHeartbeats 4000000
namespace Go.Proofs.YtahcpjgaogghiaaGreat
open Go.X
def resE (e : Except Int Int) (st lo : List Int) (pc : Int) (did : DidV) : Res :=
  match e with
  | .ok v => .ok (st ++ [v]) lo pc did
  | .error t => .trap t
def doesF (m : Mdl) (cs : List Int) (i : Ins) (st lo : List Int) (pc : Int) (did : DidV) : Res :=
  if i.code = 1 then .ok (st ++ [i.num]) lo pc did
  else if 2 ≤ i.code ∧ i.code ≤ 7 then memF m cs i st lo pc did
  else if i.code = 8 then resE (madeE (-lastI st)) st.dropLast lo pc did
  else if i.code = 9 then .ok (st.dropLast ++ [truI (lastI st == 0)]) lo pc did
  else if 10 ≤ i.code ∧ i.code ≤ 18 then resE (twoF i.code (lastI st.dropLast) (lastI st)) st.dropLast.dropLast lo pc did
  else if i.code = 19 then .ok st lo i.a did
  else if i.code = 20 then .ok st.dropLast lo (if (lastI st == 0) = true then i.a else pc) did
  else if i.code = 21 then .ok st.dropLast lo (if (lastI st != 0) = true then i.a else pc) did
  else if i.code = 22 then .ok (st.dropLast ++ [truI (lastI st != 0)]) lo pc did
  else if i.code = 23 then .ok st lo pc ⟨3, 0, false, 0, noIns, i.a, 0⟩
  else if i.code = 33 then .ok st.dropLast lo pc ⟨6, 0, false, 0, noIns, lastI st, 0⟩
  else if i.code = 34 then .ok st lo (pc - 1) ⟨4, 0, false, 0, noIns, 0, 0⟩
  else if i.code = 29 then .ok st.dropLast lo pc ⟨5, 0, false, 0, i, lastI st, 0⟩
  else .ok st lo pc ⟨5, 0, false, 0, i, 0, 0⟩
section
variable {w : World} {K : Value → World → Prop} {KP : List PanicEntry → World → Prop} {b : Nat} {x : XS} {u0 : World} {R : List Assn} {cs : List Int}
theorem putDid (hw : Sep w (Xp b x u0 R)) (d : DidV) {K : World → Prop} (h : ∀ u, Sep u (Xp b { x with did := d } u0 R) → K u) :
    storesAt (Addr.add ⟨b, 0, none⟩ 12) 0 [.int .i64 d.kind, .int .i64 d.cell, .bool d.write, .int .i64 d.av, .int .i64 d.ins.code, .int .i64 d.ins.a, .int .i64 d.ins.b, .int .i64 d.ins.num, .int .i64 d.value, .int .i64 d.trap] w K := by
  unfold Xp at hw
  show storesAt ⟨b, 12, none⟩ 0 _ w _
  exact hw.puts (o := 12) (by simp [XS.cells]) fun w1 _ hs => h w1 hs
theorem D39 {i : Ins} (hw : Sep w (Xp b x u0 R)) (hF : Fit u0 x.q x.m x.sC cs) (hS : StepFit x.m x.lo x.st i) (hpc : 0 ≤ x.pc ∧ x.pc ≤ 1000000)
    (hK : ∀ s' st' lo' pc' did' u, doesF x.m cs i x.st x.lo x.pc x.did = .ok st' lo' pc' did' → Sep u (Xp b { x with sS := s', st := st', lo := lo', pc := pc', did := did' } u0 R) → K (.tuple #[]) u)
    (hT : ∀ t u, doesF x.m cs i x.st x.lo x.pc x.did = .trap t → Sep u (oldA u0 :: R) → KP (trapV t) u) : XCP Tryz.prog 39 [.pointer (some ⟨b, 0, none⟩), i.v] w K KP := by
  show XCP Tryz.prog 39 [.pointer (some ⟨b, 0, none⟩), .agg #[.int .i64 i.code, .int .i64 i.a, .int .i64 i.b, .int .i64 i.num]] w K KP
  refine E39 ?_
  unfold F39
  intro w0 p
  have hs0 : Sep w0 (bx w.heap.size i.cells 52 :: Xp b x u0 R) := hw.box _ _
  have hs : Sep w0 (Xp b x u0 (bx w.heap.size i.cells 52 :: R)) := hs0.back4
  clear hs0 hw
  clear_value w0
  have hA := insOk_code hS.ok
  have hsl := hS.sl
  have htk := hS.tk
  have hI : ∀ {z : World} {y : XS}, Sep z (Xp b y u0 (bx w.heap.size i.cells 52 :: R)) → Blk z w.heap.size i.cells 52 := fun h => h.bx4
  have hB : ∀ {z : World} {y : XS}, Sep z (Xp b y u0 (bx w.heap.size i.cells 52 :: R)) → Blk z b y.cells 101 := fun h => h.bx0
  intro kb hkb
  have hKb : ∀ s' st' lo' pc' did' u, doesF x.m cs i x.st x.lo x.pc x.did = .ok st' lo' pc' did' → Sep u (Xp b { x with sS := s', st := st', lo := lo', pc := pc', did := did' } u0 (bx w.heap.size i.cells 52 :: R)) → kb u :=
    fun s' st' lo' pc' did' u h1 h2 => hkb u (hK s' st' lo' pc' did' u h1 (dropI h2))
  have hTb : ∀ t u, doesF x.m cs i x.st x.lo x.pc x.did = .trap t → Sep u (oldA u0 :: bx w.heap.size i.cells 52 :: R) → KP (trapV t) u := fun t u h1 h2 => hT t u h1 h2.to1.tail
  clear hK hT hkb
  refine ⟨_, (hI hs).ld rfl, ?_⟩
  by_cases h1 : i.code = 1
  · rw [if_pos (by simp [h1])]
    refine ⟨fun z => Sep z (Xp b x u0 (bx w.heap.size i.cells 52 :: R)), hs.drew, ?_⟩
    rw [xptr_some]
    refine ⟨_, fun z hz => (hI hz).ld rfl, ?_⟩
    refine D61 hs.drew (by omega) fun s' u1 hs1 => ⟨rfl, ?_⟩
    refine hKb s' _ _ _ _ u1 ?_ hs1
    rw [doesF, if_pos h1]
  rw [if_neg (by simpa using h1)]
  refine ⟨_, (hI hs).ld rfl, ?_⟩
  refine and_join (c := decide (i.code ≤ 7)) (fun kb hk => ⟨_, (hI hs).ld rfl, hk _ (Ex.refl _)⟩) fun w5 he5 => ?_
  replace hs : Sep w5 (Xp b x u0 (bx w.heap.size i.cells 52 :: R)) := hs.ext he5
  by_cases h27 : 2 ≤ i.code ∧ i.code ≤ 7
  · rw [if_pos (by simp; omega)]
    refine ⟨_, _, _, _, (hI hs).lds, ?_⟩
    have e : doesF x.m cs i x.st x.lo x.pc x.did = memF x.m cs i x.st x.lo x.pc x.did := by rw [doesF, if_neg h1, if_pos h27]
    exact D62 hs hF hS h27 (fun s' st' lo' pc' did' u q1 q2 => ⟨rfl, hKb s' st' lo' pc' did' u (e.trans q1) q2⟩) fun t u q1 q2 => hTb t u (e.trans q1) q2
  rw [if_neg (by simp; omega)]
  refine ⟨_, (hI hs).ld rfl, ?_⟩
  by_cases h8 : i.code = 8
  · rw [if_pos (by simp [h8])]
    rw [h8] at htk
    have htk : (1 : Int) ≤ x.st.length := htk
    have hsp := split1 (l := x.st) (by omega)
    have hv := val_iff.1 (hS.vs _ (lastI_mem (l := x.st) (by omega)))
    refine ⟨fun z => ∃ y : XS, Sep z (Xp b y u0 (bx w.heap.size i.cells 52 :: R)), ⟨x, hs.drew⟩, ?_⟩
    rw [xptr_some, xptr_some]
    have e : doesF x.m cs i x.st x.lo x.pc x.did = resE (madeE (-lastI x.st)) x.st.dropLast x.lo x.pc x.did := by rw [doesF, if_neg h1, if_neg h27, if_pos h8]
    refine D64 hs.drew hsp (by omega) fun u1 hs1 => ⟨_, rfl, ⟨_, hs1⟩, ?_⟩
    rw [wi (by omega) (by omega), Int.zero_sub]
    refine Cmade (fun v hv => ⟨_, rfl, fun _ => True, trivial, ?_⟩) fun t ht => ?_
    · refine D61 hs1 (by show x.st.dropLast.length ≤ 1000; simp; omega) fun s' u2 hs2 => ⟨rfl, ?_⟩
      exact hKb s' _ _ _ _ u2 (by rw [e, hv]; rfl) hs2
    · exact hTb t u1 (by rw [e, ht]; rfl) (Xp.old hs1)
  rw [if_neg (by simpa using h8)]
  refine ⟨_, (hI hs).ld rfl, ?_⟩
  by_cases h9 : i.code = 9
  · rw [if_pos (by simp [h9])]
    rw [h9] at htk
    have htk : (1 : Int) ≤ x.st.length := htk
    have hsp := split1 (l := x.st) (by omega)
    refine ⟨fun z => ∃ y : XS, Sep z (Xp b y u0 (bx w.heap.size i.cells 52 :: R)), ⟨x, hs.drew⟩, ?_⟩
    rw [xptr_some, xptr_some]
    refine D64 hs.drew hsp (by omega) fun u1 hs1 => ⟨_, rfl, ⟨_, hs1⟩, ?_⟩
    refine C65 ⟨_, rfl, fun _ => True, trivial, ?_⟩
    refine D61 hs1 (by show x.st.dropLast.length ≤ 1000; simp; omega) fun s' u2 hs2 => ⟨rfl, ?_⟩
    exact hKb s' _ _ _ _ u2 (by rw [doesF, if_neg h1, if_neg h27, if_neg h8, if_pos h9]; rfl) hs2
  rw [if_neg (by simpa using h9)]
  refine ⟨_, (hI hs).ld rfl, ?_⟩
  refine and_join (c := decide (i.code ≤ 18)) (fun kb hk => ⟨_, (hI hs).ld rfl, hk _ (Ex.refl _)⟩) fun w15 he15 => ?_
  replace hs : Sep w15 (Xp b x u0 (bx w.heap.size i.cells 52 :: R)) := hs.ext he15
  by_cases h10 : 10 ≤ i.code ∧ i.code ≤ 18
  · rw [if_pos (by simp; omega)]
    have htk2 : (effI i.code).1 = 2 := by
      unfold effI
      rw [if_neg (by simp; omega), if_neg (by simp; omega), if_neg (by simp; omega), if_pos (by simp; omega)]
    rw [htk2] at htk
    have hsp := split1 (l := x.st) (by omega)
    have hsp2 := split1 (l := x.st.dropLast) (by simp; omega)
    have hva := hS.vs _ (List.dropLast_subset _ (lastI_mem (l := x.st.dropLast) (by simp; omega)))
    have hvb := hS.vs _ (lastI_mem (l := x.st) (by omega))
    have e : doesF x.m cs i x.st x.lo x.pc x.did = resE (twoF i.code (lastI x.st.dropLast) (lastI x.st)) x.st.dropLast.dropLast x.lo x.pc x.did := by rw [doesF, if_neg h1, if_neg h27, if_neg h8, if_neg h9, if_pos h10]
    rw [xptr_some]
    refine D64 hs hsp (by omega) fun u1 hs1 => ⟨_, rfl, ?_⟩
    intro kb3 hk3
    refine ⟨fun z => ∃ y : XS, Sep z (Xp b y u0 (bx w.heap.size i.cells 52 :: R)), ⟨_, hs1.drew⟩, ?_⟩
    rw [xptr_some]
    refine ⟨_, fun z ⟨y, hz⟩ => (hI hz).ld rfl, ?_⟩
    rw [xptr_some]
    refine C66 fun u2 he2 => ?_
    have hs2 := hs1.drew.ext he2
    have hget : twoV[i.code.toNat]? = some (twoV.getD i.code.toNat .nilFunc) := by
      have : i.code.toNat < twoV.length := by show _ < 19; omega
      rw [List.getD_eq_getElem?_getD, List.getElem?_eq_getElem this]; rfl
    obtain ⟨fa, fb, fc, hf⟩ := U130
    refine ⟨_, _, _, _, _, _, _, _, _, _, _, _, _, _, _, _, _, _, _, rfl, ⟨_, hs2⟩, ?_, ?_⟩
    · refine xr_index1 U131 hf rfl Z130 (by omega) (by omega) hget ⟨_, rfl, ⟨_, hs2⟩, ?_⟩
      refine D64 hs2 (st' := x.st.dropLast.dropLast) (v := lastI x.st.dropLast) hsp2 (by show x.st.dropLast.length ≤ 1000; simp; omega) fun u3 hs3 => ⟨_, rfl, ⟨_, hs3⟩, ?_⟩
      refine Ctwo h10 hva hvb (fun v hv => ⟨_, rfl, fun _ => True, trivial, ?_⟩) fun t ht => ?_
      · refine D61 hs3 (by show x.st.dropLast.dropLast.length ≤ 1000; simp; omega) fun s' u4 hs4 => ⟨rfl, hk3 _ ?_⟩
        exact hKb s' _ _ _ _ u4 (by rw [e, hv]; rfl) hs4
      · exact hTb t u3 (by rw [e, ht]; rfl) (Xp.old hs3)
    · refine D64 hs2 (st' := x.st.dropLast.dropLast) (v := lastI x.st.dropLast) hsp2 (by show x.st.dropLast.length ≤ 1000; simp; omega) fun u3 hs3 => ⟨_, rfl, ⟨_, hs3⟩, ?_⟩
      refine xr_index1 U131 hf rfl Z130 (by omega) (by omega) hget ⟨_, rfl, ⟨_, hs3⟩, ?_⟩
      refine Ctwo h10 hva hvb (fun v hv => ⟨_, rfl, fun _ => True, trivial, ?_⟩) fun t ht => ?_
      · refine D61 hs3 (by show x.st.dropLast.dropLast.length ≤ 1000; simp; omega) fun s' u4 hs4 => ⟨rfl, hk3 _ ?_⟩
        exact hKb s' _ _ _ _ u4 (by rw [e, hv]; rfl) hs4
      · exact hTb t u3 (by rw [e, ht]; rfl) (Xp.old hs3)
  rw [if_neg (by simp; omega)]
  refine ⟨_, (hI hs).ld rfl, ?_⟩
  have pre : doesF x.m cs i x.st x.lo x.pc x.did = (if i.code = 19 then .ok x.st x.lo i.a x.did
    else if i.code = 20 then .ok x.st.dropLast x.lo (if (lastI x.st == 0) = true then i.a else x.pc) x.did
    else if i.code = 21 then .ok x.st.dropLast x.lo (if (lastI x.st != 0) = true then i.a else x.pc) x.did
    else if i.code = 22 then .ok (x.st.dropLast ++ [truI (lastI x.st != 0)]) x.lo x.pc x.did
    else if i.code = 23 then .ok x.st x.lo x.pc ⟨3, 0, false, 0, noIns, i.a, 0⟩
    else if i.code = 33 then .ok x.st.dropLast x.lo x.pc ⟨6, 0, false, 0, noIns, lastI x.st, 0⟩
    else if i.code = 34 then .ok x.st x.lo (x.pc - 1) ⟨4, 0, false, 0, noIns, 0, 0⟩
    else if i.code = 29 then .ok x.st.dropLast x.lo x.pc ⟨5, 0, false, 0, i, lastI x.st, 0⟩
    else .ok x.st x.lo x.pc ⟨5, 0, false, 0, i, 0, 0⟩) := by
    rw [doesF, if_neg h1, if_neg h27, if_neg h8, if_neg h9, if_neg h10]
  clear hTb
  by_cases h19 : i.code = 19
  · rw [if_pos (by simp [h19])]
    refine ⟨_, (hI hs).ld rfl, D67 hs fun u1 hs1 => ⟨rfl, ?_⟩⟩
    exact hKb x.sS _ _ _ _ u1 (by rw [pre, if_pos h19]; rfl) hs1
  rw [if_neg (by simpa using h19)]
  refine ⟨_, (hI hs).ld rfl, ?_⟩
  by_cases h20 : i.code = 20
  · rw [if_pos (by simp [h20])]
    rw [h20] at htk
    have htk : (1 : Int) ≤ x.st.length := htk
    have hsp := split1 (l := x.st) (by omega)
    refine ⟨fun z => ∃ y : XS, Sep z (Xp b y u0 (bx w.heap.size i.cells 52 :: R)), ⟨x, hs.drew⟩, ?_⟩
    rw [xptr_some]
    refine ⟨_, fun z ⟨y, hz⟩ => (hI hz).ld rfl, ?_⟩
    refine D64 hs.drew hsp (by omega) fun u1 hs1 => ⟨_, rfl, ⟨_, hs1⟩, ?_⟩
    refine D67 hs1 fun u2 hs2 => ⟨rfl, ?_⟩
    exact hKb _ _ _ _ _ u2 (by rw [pre, if_neg h19, if_pos h20]) hs2
  rw [if_neg (by simpa using h20)]
  refine ⟨_, (hI hs).ld rfl, ?_⟩
  by_cases h21 : i.code = 21
  · rw [if_pos (by simp [h21])]
    rw [h21] at htk
    have htk : (1 : Int) ≤ x.st.length := htk
    have hsp := split1 (l := x.st) (by omega)
    refine ⟨fun z => ∃ y : XS, Sep z (Xp b y u0 (bx w.heap.size i.cells 52 :: R)), ⟨x, hs.drew⟩, ?_⟩
    rw [xptr_some]
    refine ⟨_, fun z ⟨y, hz⟩ => (hI hz).ld rfl, ?_⟩
    refine D64 hs.drew hsp (by omega) fun u1 hs1 => ⟨_, rfl, ⟨_, hs1⟩, ?_⟩
    refine D67 hs1 fun u2 hs2 => ⟨rfl, ?_⟩
    exact hKb _ _ _ _ _ u2 (by rw [pre, if_neg h19, if_neg h20, if_pos h21]) hs2
  rw [if_neg (by simpa using h21)]
  refine ⟨_, (hI hs).ld rfl, ?_⟩
  by_cases h22 : i.code = 22
  · rw [if_pos (by simp [h22])]
    rw [h22] at htk
    have htk : (1 : Int) ≤ x.st.length := htk
    have hsp := split1 (l := x.st) (by omega)
    refine ⟨fun z => ∃ y : XS, Sep z (Xp b y u0 (bx w.heap.size i.cells 52 :: R)), ⟨x, hs.drew⟩, ?_⟩
    rw [xptr_some, xptr_some]
    refine D64 hs.drew hsp (by omega) fun u1 hs1 => ⟨_, rfl, ⟨_, hs1⟩, ?_⟩
    refine C65 ⟨_, rfl, fun _ => True, trivial, ?_⟩
    refine D61 hs1 (by show x.st.dropLast.length ≤ 1000; simp; omega) fun s' u2 hs2 => ⟨rfl, ?_⟩
    exact hKb s' _ _ _ _ u2 (by rw [pre, if_neg h19, if_neg h20, if_neg h21, if_pos h22]; rfl) hs2
  rw [if_neg (by simpa using h22)]
  refine ⟨_, (hI hs).ld rfl, ?_⟩
  by_cases h23 : i.code = 23
  · rw [if_pos (by simp [h23])]
    refine ⟨_, (hI hs).ld rfl, ?_⟩
    rw [xptr_some]
    refine putDid hs ⟨3, 0, false, 0, noIns, i.a, 0⟩ fun u1 hs1 => ?_
    exact hKb _ _ _ _ _ u1 (by rw [pre, if_neg h19, if_neg h20, if_neg h21, if_neg h22, if_pos h23]) hs1
  rw [if_neg (by simpa using h23)]
  refine ⟨_, (hI hs).ld rfl, ?_⟩
  by_cases h33 : i.code = 33
  · rw [if_pos (by simp [h33])]
    rw [h33] at htk
    have htk : (1 : Int) ≤ x.st.length := htk
    have hsp := split1 (l := x.st) (by omega)
    rw [xptr_some]
    refine D64 hs hsp (by omega) fun u1 hs1 => ⟨_, rfl, ?_⟩
    rw [xptr_some]
    refine putDid hs1 ⟨6, 0, false, 0, noIns, lastI x.st, 0⟩ fun u2 hs2 => ?_
    exact hKb _ _ _ _ _ u2 (by rw [pre, if_neg h19, if_neg h20, if_neg h21, if_neg h22, if_neg h23, if_pos h33]) hs2
  rw [if_neg (by simpa using h33)]
  refine ⟨_, (hI hs).ld rfl, ?_⟩
  by_cases h34 : i.code = 34
  · rw [if_pos (by simp [h34])]
    rw [xptr_some]
    refine ⟨_, (hB hs).ld' (o := 8) rfl, ?_⟩
    rw [xptr_some, wi (by omega) (by omega)]
    show storeP w15 ⟨b, 8, none⟩ _ _
    refine Sep.put hs (o := 8) (by simp [XS.cells]) fun u1 _ hs1 => ?_
    rw [xptr_some]
    have hs1 : Sep u1 (Xp b { x with pc := x.pc - 1 } u0 (bx w.heap.size i.cells 52 :: R)) := hs1
    refine putDid hs1 ⟨4, 0, false, 0, noIns, 0, 0⟩ fun u2 hs2 => ?_
    exact hKb _ _ _ _ _ u2 (by rw [pre, if_neg h19, if_neg h20, if_neg h21, if_neg h22, if_neg h23, if_neg h33, if_pos h34]) hs2
  rw [if_neg (by simpa using h34)]
  refine ⟨_, _, _, _, (hI hs).lds, ?_⟩
  rw [xptr_some]
  refine putDid hs ⟨5, 0, false, 0, i, 0, 0⟩ fun u1 hs1 => ?_
  refine ⟨_, (hI hs1).ld rfl, ?_⟩
  by_cases h29 : i.code = 29
  · rw [if_pos (by simp [h29])]
    rw [h29] at htk
    have htk : (1 : Int) ≤ x.st.length := htk
    have hsp := split1 (l := x.st) (by omega)
    rw [xptr_some]
    refine D64 hs1 hsp (by show x.st.length ≤ 1000; omega) fun u2 hs2 => ⟨_, rfl, ?_⟩
    rw [xptr_some]
    show storeP u2 ⟨b, 20, none⟩ _ _
    refine Sep.put hs2 (o := 20) (by simp [XS.cells]) fun u3 _ hs3 => ?_
    exact hKb _ _ _ _ ⟨5, 0, false, 0, i, lastI x.st, 0⟩ u3 (by rw [pre, if_neg h19, if_neg h20, if_neg h21, if_neg h22, if_neg h23, if_neg h33, if_neg h34, if_pos h29]) hs3
  rw [if_neg (by simpa using h29)]
  exact hKb _ _ _ _ _ u1 (by rw [pre, if_neg h19, if_neg h20, if_neg h21, if_neg h22, if_neg h23, if_neg h33, if_neg h34, if_neg h29]) hs1
end
end Go.Proofs.YtahcpjgaogghiaaGreat
