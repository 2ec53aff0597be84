/- One operation: the weakest precondition is sound. -/
import Derived.Test.YtfeaahclpnbklaaDoorX4
namespace Go.X
variable {P : Program} {T : Tab}

theorem bif_imp {b : Bool} {p : Prop} (h : bif b then p else False) : b = true ∧ p := by
  cases b with
  | false => exact h.elim
  | true => exact ⟨rfl, h⟩
theorem sliceBound_run {k : IntKind} {i : Int} {y : Nat} {code : BoundsCode} (h0 : 0 ≤ i) (h1 : i ≤ y) (w : World) : (Instr.sliceBound (.int k i) y code).run P w = .ok i.toNat w := by
  simp [Instr.sliceBound, asIntOf, h0, h1]
def IntOr (v : Option Value) (n : Option Int) : Prop :=
  match v, n with
  | none, none => True
  | some (.int _ i), some j => i = j
  | _, _ => False
theorem evO_eval {ρ : Env} {a : Act} (hA : Agree ρ a) {x : Option Operand} {n : Option Value} (h : evO ρ x = some n) : x.map a.eval = n := by
  cases x with
  | none => simp only [evO, Option.some.injEq] at h; subst h; rfl
  | some x =>
    simp only [evO] at h
    split at h
    · rename_i v hx
      simp only [Option.some.injEq] at h
      subst h
      simp [hA.eval hx]
    · cases h
theorem intO_or {v : Option Value} {n : Option Int} (h : intO v = some n) : IntOr v n := by
  unfold intO at h
  split at h
  · simp only [Option.some.injEq] at h; subst h; trivial
  · simp only [Option.some.injEq] at h; subst h; rfl
  · cases h
theorem intOr_cases {v : Option Value} {n : Option Int} (h : IntOr v n) : (v = none ∧ n = none) ∨ ∃ k i, v = some (.int k i) ∧ n = some i := by
  unfold IntOr at h
  split at h
  · exact .inl ⟨rfl, rfl⟩
  · exact .inr ⟨_, _, rfl, by rw [h]⟩
  · exact h.elim
theorem add_zero_map (a : Option Addr) (sz : Nat) : a.map (·.add (0 * sz)) = a := by
  cases a <;> simp [Addr.add]
theorem sliceK_runs (hT : TabOk P T) {t e sz : Nat} (ht : T.ty t = .slc e sz) {a : Option Addr} {l c : Nat} {lo hi mx : Option Value} {lo' hi' mx' : Option Int}
    (h1 : IntOr lo lo') (h2 : IntOr hi hi') (h3 : IntOr mx mx') {k : Option Addr → Nat → Nat → Prop} (h : sliceK sz a l c lo' hi' mx' k) :
    ∃ a' l' c', (∀ w, (Instr.sliceAt t (.slice a l c) lo hi mx).run P w = .ok (.slice a' l' c') w) ∧ k a' l' c' := by
  obtain ⟨hu, i, hi', hs⟩ := ty_slc hT ht
  have base : ∀ {L H M : Nat}, (∀ w, (Instr.sliceBounds true l c lo hi mx).run P w = .ok (L, H, M) w) →
      ∀ w, (Instr.sliceAt t (.slice a l c) lo hi mx).run P w = .ok (.slice (if M = L then a else a.map (·.add (L * sz))) (H - L) (M - L)) w := by
    intro L H M hb w
    unfold Instr.sliceAt
    rw [Sem.run_bind, run_underlying hu]
    simp only [Result.andThen_ok]
    unfold Instr.slice
    rw [Sem.run_bind, run_underlying hu]
    simp only [Result.andThen_ok]
    rw [Sem.run_bind, hb w]
    simp only [Result.andThen_ok]
    rw [Sem.run_bind, sizeOf_run (P := P) hi' w]
    simp only [Result.andThen_ok, hs, Sem.run_pure]
  unfold sliceK at h
  rcases intOr_cases h3 with ⟨rfl, rfl⟩ | ⟨k3, m, rfl, rfl⟩
  · rcases intOr_cases h2 with ⟨rfl, rfl⟩ | ⟨k2, hh, rfl, rfl⟩
    · rcases intOr_cases h1 with ⟨rfl, rfl⟩ | ⟨k1, ll, rfl, rfl⟩
      · refine ⟨_, _, _, base (L := 0) (H := l) (M := c) (by intro w; simp [Instr.sliceBounds]), ?_⟩
        rw [add_zero_map]; simpa using h
      · obtain ⟨p1, p2, h⟩ := h
        exact ⟨_, _, _, base (L := ll.toNat) (H := l) (M := c) (by intro w; simp [Instr.sliceBounds, sliceBound_run p1 p2]), h⟩
    · rcases intOr_cases h1 with ⟨rfl, rfl⟩ | ⟨k1, ll, rfl, rfl⟩
      · obtain ⟨p1, p2, h⟩ := h
        refine ⟨_, _, _, base (L := 0) (H := hh.toNat) (M := c) (by intro w; simp [Instr.sliceBounds, sliceBound_run p1 p2]), ?_⟩
        rw [add_zero_map]; simpa using h
      · obtain ⟨p1, p2, p3, h⟩ := h
        exact ⟨_, _, _, base (L := ll.toNat) (H := hh.toNat) (M := c) (by
          intro w; simp [Instr.sliceBounds, sliceBound_run (show 0 ≤ hh by omega) p3, sliceBound_run (y := hh.toNat) p1 (by omega)]), h⟩
  · rcases intOr_cases h2 with ⟨rfl, rfl⟩ | ⟨k2, hh, rfl, rfl⟩
    · exact h.elim
    · rcases intOr_cases h1 with ⟨rfl, rfl⟩ | ⟨k1, ll, rfl, rfl⟩
      · obtain ⟨p1, p2, p3, h⟩ := h
        refine ⟨_, _, _, base (L := 0) (H := hh.toNat) (M := m.toNat) (by
          intro w; simp [Instr.sliceBounds, sliceBound_run (show 0 ≤ m by omega) p3, sliceBound_run (y := m.toNat) p1 (by omega)]), ?_⟩
        rw [add_zero_map]; simpa using h
      · obtain ⟨p1, p2, p3, p4, h⟩ := h
        exact ⟨_, _, _, base (L := ll.toNat) (H := hh.toNat) (M := m.toNat) (by
          intro w; simp [Instr.sliceBounds, sliceBound_run (show 0 ≤ m by omega) p4, sliceBound_run (y := m.toNat) (show 0 ≤ hh by omega) (by omega), sliceBound_run (y := hh.toNat) p1 (by omega)]), h⟩
theorem sliceK_run (hT : TabOk P T) {t e sz : Nat} (ht : T.ty t = .slc e sz) {a : Option Addr} {l c : Nat} {lo hi mx : Option Value} {lo' hi' mx' : Option Int}
    (h1 : IntOr lo lo') (h2 : IntOr hi hi') (h3 : IntOr mx mx') {k : Option Addr → Nat → Nat → Prop} (h : sliceK sz a l c lo' hi' mx' k) (w : World) :
    ∃ a' l' c', (Instr.sliceAt t (.slice a l c) lo hi mx).run P w = .ok (.slice a' l' c') w ∧ k a' l' c' := by
  obtain ⟨a', l', c', h1, h2⟩ := sliceK_runs (P := P) hT ht h1 h2 h3 h
  exact ⟨a', l', c', h1 w, h2⟩
theorem alloc_run (hT : TabOk P T) {t : Nat} {k : Kd} (h : T.kd t = some k) (w : World) :
    (Instr.alloc t true (.tuple #[])).run P w = .ok (.pointer (some ⟨w.heap.size, 0, none⟩)) (w.alloc (.cells (k.scs.map Sc.zero).toArray t)) := by
  obtain ⟨z, hz1, hz2⟩ := zeroValue_run hT h w
  unfold Instr.alloc
  rw [Sem.run_bind, hz1]
  simp only [Result.andThen_ok]
  simp [newVar, newRow, hz2]
theorem box_run (t : Nat) (v : Value) (w : World) : (Instr.box t v).run P w = .ok (.pointer (some ⟨w.heap.size, 0, none⟩)) (w.alloc (.cells v.cells t)) := by
  simp [Instr.box, newVar, newRow]
theorem field_run (hT : TabOk P T) {t f : Nat} {fs : List FI} {ks : List Sc} (ht : T.ty t = .struct fs ks) {i : FI} (hi : nth fs f = some i) (p : Addr) (w : World) :
    (Instr.fieldAt t (.pointer (some p)) f).run P w = .ok (.pointer (some (p.add i.off))) w := by
  obtain ⟨fields, j, hu, hj, hs, hf, hz⟩ := ty_struct hT ht
  obtain ⟨fd, j', d, h1, h2, h3, h4, h5, h6, h7⟩ := fieldsOk_at hf hi
  have h1' : fields[f]? = some fd := by simpa using h1
  unfold Instr.fieldAt
  rw [Sem.run_bind, run_underlying hu]
  simp only [Result.andThen_ok, h1', Sem.run_bind, Instr.sureAddr, Sem.run_pure, fieldPlace, sizeOf_run h3, h6, if_false, h2]
theorem index_run_slc (hT : TabOk P T) {t e sz : Nat} (ht : T.ty t = .slc e sz) {p : Addr} {l c : Nat} {k : IntKind} {n : Int} (h0 : 0 ≤ n) (h1 : n < l) (w : World) :
    (Instr.indexAt t (.slice (some p) l c) (.int k n)).run P w = .ok (.pointer (some (p.add (n.toNat * sz)))) w := by
  obtain ⟨hu, i, hi, hs⟩ := ty_slc hT ht
  unfold Instr.indexAt
  rw [Sem.run_bind]
  simp only [asIntOf, Sem.run_pure, Result.andThen_ok]
  rw [Sem.run_bind, run_underlying hu]
  simp [h0, h1, sizeOf_run hi, hs, run_underlying hu]
theorem index_run_arr (hT : TabOk P T) {t l e sz : Nat} {ks : List Sc} (ht : T.ty t = .arr l e sz ks) {p : Addr} {k : IntKind} {n : Int} (h0 : 0 ≤ n) (h1 : n < l) (w : World) :
    (Instr.indexAt t (.pointer (some p)) (.int k n)).run P w = .ok (.pointer (some (p.add (n.toNat * sz)))) w := by
  obtain ⟨i, j, hu, hi, hs, hj, hjs, hz⟩ := ty_arr hT ht
  unfold Instr.indexAt
  rw [Sem.run_bind]
  simp only [asIntOf, Sem.run_pure, Result.andThen_ok]
  rw [Sem.run_bind, run_underlying hu]
  simp [h0, h1, sizeOf_run hj, hjs, run_underlying hu, Instr.sureAddr]
theorem binop_quo {k : IntKind} {a b : Int} (hb : b ≠ 0) (t : Nat) (ox oy : Operand) (w : World) : (do eqGuard .quo t ox oy (.int k a) (.int k b); binOp .quo t (.int k a) (.int k b) : Sem Value).run P w = .ok (.int k (k.wrap (a.tdiv b))) w := by
  rw [Sem.run_bind, eqGuard_plain (by intro c; simp) (by simp)]
  simp [binOp, Op.intDiv, hb]
theorem binop_rem {k : IntKind} {a b : Int} (hb : b ≠ 0) (t : Nat) (ox oy : Operand) (w : World) : (do eqGuard .rem t ox oy (.int k a) (.int k b); binOp .rem t (.int k a) (.int k b) : Sem Value).run P w = .ok (.int k (a.tmod b)) w := by
  rw [Sem.run_bind, eqGuard_plain (by intro c; simp) (by simp)]
  simp [binOp, Op.intDiv, hb]
theorem binop_shl {k k' : IntKind} {a b : Int} (hb : 0 ≤ b) (t : Nat) (ox oy : Operand) (w : World) : (do eqGuard .shl t ox oy (.int k a) (.int k' b); binOp .shl t (.int k a) (.int k' b) : Sem Value).run P w = .ok (.int k (shiftI .shl k a b)) w := by
  rw [Sem.run_bind, eqGuard_plain (by intro c; simp) (by simp)]
  simp [binOp, Op.shift, shiftI, show ¬ b < 0 by omega]
theorem binop_shr {k k' : IntKind} {a b : Int} (hb : 0 ≤ b) (t : Nat) (ox oy : Operand) (w : World) : (do eqGuard .shr t ox oy (.int k a) (.int k' b); binOp .shr t (.int k a) (.int k' b) : Sem Value).run P w = .ok (.int k (shiftI .shr k a b)) w := by
  rw [Sem.run_bind, eqGuard_plain (by intro c; simp) (by simp)]
  simp [binOp, Op.shift, shiftI, show ¬ b < 0 by omega]

theorem xcp_wp {f : FuncId} {args : List Value} {w : World} {K : Value → World → Prop} {KP : List PanicEntry → World → Prop} (h : XCP P f args w K KP)
    {o : Oper} {a : Act} {next : Act → World → Prop} {Q : Exit → Act → World → Prop}
    (he : ∀ w, (execOp a.eval o).run P w = (callFunc f args.toArray).run P w)
    (hK : ∀ v w', KeepsD w w' → K v w' → next (a.put o.dst v) w') (hP : ∀ ch w', KeepsD w w' → KP ch w' → Q (.panic ch) a w') : OW P o a w next Q := by
  unfold OW
  rw [he, callFunc_run h.1, Oper.uponIn_enter]
  refine ⟨(fun h => by cases h), ?_⟩
  refine callsIn_wide.2 (h.2.mono fun e w' hh => ?_)
  cases e with
  | returned v => exact hK _ _ hh.1 hh.2
  | panicked ch => exact hP _ _ hh.1 hh.2
  | outgrown => exact hh.2.elim
theorem xyield_wp {l : Nat} {args : List Value} {w : World} {K : Value → World → Prop} {KP : List PanicEntry → World → Prop} (h : XYield P l args w K KP)
    {o : Oper} {a : Act} {next : Act → World → Prop} {Q : Exit → Act → World → Prop}
    (he : (execOp a.eval o).run P w = (Instr.yield l args.toArray).run P w)
    (hK : ∀ v w', KeepsD w w' → K v w' → next (a.put o.dst v) w') (hP : ∀ ch w', KeepsD w w' → KP ch w' → Q (.panic ch) a w') : OW P o a w next Q := by
  obtain ⟨fn, tmps, assign, body, hy, h⟩ := h
  unfold OW
  rw [he, hy, Oper.uponIn_round]
  refine ⟨(fun h => by cases h), h.mono fun e w' hh => ?_⟩
  cases e with
  | returned v => exact hK _ _ hh.1 hh.2
  | panicked ch => exact hP _ _ hh.1 hh.2
  | outgrown => exact hh.2.elim
theorem xcp_wp1 {f : FuncId} {args : List Value} {w : World} {K : Value → World → Prop} {KP : List PanicEntry → World → Prop} (h : XCP P f args w K KP)
    {o : Oper} {a : Act} {next : Act → World → Prop} {Q : Exit → Act → World → Prop}
    (he : (execOp a.eval o).run P w = (callFunc f args.toArray).run P w)
    (hK : ∀ v w', KeepsD w w' → K v w' → next (a.put o.dst v) w') (hP : ∀ ch w', KeepsD w w' → KP ch w' → Q (.panic ch) a w') : OW P o a w next Q := by
  unfold OW
  rw [he, callFunc_run h.1, Oper.uponIn_enter]
  refine ⟨(fun h => by cases h), ?_⟩
  refine callsIn_wide.2 (h.2.mono fun e w' hh => ?_)
  cases e with
  | returned v => exact hK _ _ hh.1 hh.2
  | panicked ch => exact hP _ _ hh.1 hh.2
  | outgrown => exact hh.2.elim
theorem exec_invoke {a : Act} {o : Oper} {x : Operand} {name : String} {args : Array Operand} {ts : Array TypeId} (ho : o.op = .call { callee := .invoke x name, args, argTypes := ts }) {t : TypeId} {u recv : Value} {g : FuncId} {vs : List Value}
    (hx : a.eval x = .iface t u) (hv : args.map a.eval = vs.toArray) {w : World} (hm : (method (P.types.size + Made.depth) t u name).run P w = .ok (g, recv) w) :
    (execOp a.eval o).run P w = (callFunc g (recv :: vs).toArray).run P w := by
  simp only [execOp, ho, resolve, hx, hv, Sem.run_bind, Sem.run_pure, Result.andThen_ok, invoke]
  have e0 : (#[Value.iface t u] ++ vs.toArray)[0]? = some (Value.iface t u) := by simp
  have e1 : (#[Value.iface t u] ++ vs.toArray).extract 1 (#[Value.iface t u] ++ vs.toArray).size = vs.toArray := by
    apply Array.ext'; simp
  simp only [e0, e1, callMethod, Sem.run_bind, show ∀ w, (program : Sem Program).run P w = .ok P w from fun _ => rfl, Result.andThen_ok, hm]
  congr 2
  apply Array.ext'
  simp
theorem exec_call {a : Act} {o : Oper} {f : Operand} {args : Array Operand} {ts : Array TypeId} (ho : o.op = .call { callee := .value f, args, argTypes := ts }) {g : FuncId} {first cap : Array Value} {vs : List Value}
    (hf : a.eval f = .func (.func g) first cap) (hv : args.map a.eval = vs.toArray) (w : World) :
    (execOp a.eval o).run P w = (callFunc g (first.toList ++ (vs ++ cap.toList)).toArray).run P w := by
  simp only [execOp, ho, resolve, hf, hv, Deferred.ofValue, Sem.run_bind, Sem.run_pure, Result.andThen_ok, invoke]
  congr 2
  apply Array.ext'
  simp
theorem exec_yield {a : Act} {o : Oper} {f : Operand} {args : Array Operand} {ts : Array TypeId} (ho : o.op = .call { callee := .value f, args, argTypes := ts }) {l : Nat} {first cap : Array Value} {vs : List Value}
    (hf : a.eval f = .func (.yield l) first cap) (hv : args.map a.eval = vs.toArray) (w : World) :
    (execOp a.eval o).run P w = (Instr.yield l (first.toList ++ vs).toArray).run P w := by
  simp only [execOp, ho, resolve, hf, hv, Deferred.ofValue, Sem.run_bind, Sem.run_pure, Result.andThen_ok, invoke]
  congr 2
  apply Array.ext'
  simp
theorem xv {o : Oper} {a : Act} {w : World} {s : Sem Value} {ti : TI} {K : Value → World → Prop} {next : Act → World → Prop} {Q : Exit → Act → World → Prop}
    (h : XRun P s w fun v w => exT ti fun u => v = u ∧ K u w) (he : execOp a.eval o = (do pure (Next.value (← s)))) (hK : ∀ v w', KeepsD w w' → K v w' → next (a.put o.dst v) w') : OW P o a w next Q := by
  obtain ⟨v, w', hr, hd, h⟩ := xrun_imp h
  exact wp_value (by rw [he]; exact run_v hr) (hK _ _ hd (exT_eq h))
theorem xv' {o : Oper} {a : Act} {w : World} {s : Sem Value} {K : Value → World → Prop} {next : Act → World → Prop} {Q : Exit → Act → World → Prop}
    (h : XRun P s w K) (he : execOp a.eval o = (do pure (Next.value (← s)))) (hK : ∀ v w', KeepsD w w' → K v w' → next (a.put o.dst v) w') : OW P o a w next Q := by
  obtain ⟨v, w', hr, hd, h⟩ := xrun_imp h
  exact wp_value (by rw [he]; exact run_v hr) (hK _ _ hd h)
theorem xu {o : Oper} {a : Act} {w : World} {s : Sem Unit} {K : Value → World → Prop} {next : Act → World → Prop} {Q : Exit → Act → World → Prop}
    (h : XRunU P s w (K undef)) (he : execOp a.eval o = (do s; pure Next.skip)) (hK : ∀ v w', KeepsD w w' → K v w' → next (a.put o.dst v) w') : OW P o a w next Q := by
  obtain ⟨v, w', hr, hd, h⟩ := xrunU_imp h
  exact wp_skip (by rw [he]; exact run_u hr) (hK _ _ hd h)

theorem assertT_eq {t : Nat} {b : Bool} {ot : Nat} {v : Value} {k : Value → Prop} (h : assertT T t b ot fun u => v = u ∧ k u) : k v := by
  unfold assertT at h
  split at h
  · obtain ⟨kd, _, h⟩ := need_imp h
    exact exT_eq h
  · exact exT_eq h
theorem xEff_sound (hT : TabOk P T) {o : Oper} {ρ : Env} {a : Act} {w : World} {K : Value → World → Prop} {KP : List PanicEntry → World → Prop} {next : Act → World → Prop} {Q : Exit → Act → World → Prop}
    (hA : Agree ρ a) (h : xEff P T o ρ w K KP) (hK : ∀ v w', KeepsD w w' → K v w' → next (a.put o.dst v) w') (hP : ∀ ch w', KeepsD w w' → KP ch w' → Q (.panic ch) a w') : OW P o a w next Q := by
  unfold xEff at h
  split at h
  · -- nilCheck
    rename_i x ho
    obtain ⟨v, hx, h⟩ := need_imp h
    have hx' := hA.eval hx
    split at h
    · obtain ⟨p, rfl, h⟩ := xptr_imp h
      exact wp_value (by simp [execOp, ho, hx']) (hK _ _ (.refl _) h)
    · unfold nilK at h
      split at h
      · exact wp_value (by simp [execOp, ho, hx']) (hK _ _ (.refl _) h)
      · exact wp_value (by simp [execOp, ho, hx']) (hK _ _ (.refl _) h)
      · exact h.elim
  · -- alloc
    rename_i t ho
    obtain ⟨k, hk, h⟩ := need_imp h
    exact wp_value (by simp only [execOp, ho]; exact run_v (alloc_run hT hk w)) (hK _ _ (.alloc _ _) h)
  · -- box
    rename_i t x ho
    obtain ⟨v, hx, h⟩ := need_imp h
    have h' : K (.pointer (some ⟨w.heap.size, 0, none⟩)) (w.alloc (.cells v.cells t)) := by
      unfold boxK at h
      split at h <;> first | exact h | exact h.elim
    exact wp_value (by simp only [execOp, ho, hA.eval hx]; exact run_v (box_run t v w)) (hK _ _ (.alloc _ _) h')
  · -- build
    rename_i t parts ho
    obtain ⟨ps, hps, h⟩ := need_imp h
    obtain ⟨v, hv, h⟩ := need_imp h
    exact wp_value (by simp only [execOp, ho, evP_arr hA hps]; exact run_v (buildV_run hT hv w)) (hK _ _ (.refl _) h)
  · -- buildSlice
    rename_i t n parts ho
    obtain ⟨ps, hps, h⟩ := need_imp h
    exact xv h (by simp only [execOp, ho, evP_arr hA hps]) hK
  · -- load
    rename_i t x ho
    obtain ⟨v, hx, h⟩ := need_imp h
    split at h
    · obtain ⟨p, rfl, h⟩ := xptr_imp h
      have he : execOp a.eval o = (do pure (Next.value (← Instr.loadAt t (.pointer (some p))))) := by simp only [execOp, ho, hA.eval hx]
      split at h
      · rename_i s hk
        obtain ⟨u, hu, h⟩ := Sc.ex_imp h
        exact wp_value (by rw [he]; exact run_v (by simp only [Instr.loadAt, Sem.run_bind, Instr.sureAddr, Sem.run_pure, Result.andThen_ok]; exact loadVar_sc hT hk hu)) (hK _ _ (.refl _) h)
      · rename_i ks hk
        obtain ⟨vs, hl, hc, h⟩ := Scs.ex_len h
        exact wp_value (by rw [he]; exact run_v (by simp only [Instr.loadAt, Sem.run_bind, Instr.sureAddr, Sem.run_pure, Result.andThen_ok]; exact loadVar_agg hT hk hl hc)) (hK _ _ (.refl _) h)
      · exact h.elim
    · exact h.elim
  · -- store
    rename_i t x y ho
    obtain ⟨v, hx, h⟩ := need_imp h
    obtain ⟨u, hy, h⟩ := need_imp h
    split at h
    · obtain ⟨p, rfl, h⟩ := xptr_imp h
      have he : execOp a.eval o = (do Instr.storeAt t (.pointer (some p)) u; pure Next.skip) := by simp only [execOp, ho, hA.eval hx, hA.eval hy]
      split at h
      · rename_i s hk
        obtain ⟨h1, h⟩ := bif_imp h
        obtain ⟨i, hi, hs, _⟩ := kd_info hT hk
        obtain ⟨hr, hk'⟩ := storeP_run (P := P) h h1
        refine wp_skip (w' := w.setCell p u) ?_ (hK _ _ (.setCell _ _ _) hk')
        rw [he]
        refine run_u ?_
        simp only [Instr.storeAt, Instr.sureAddr, Sem.run_bind, Sem.run_pure, Result.andThen_ok, storeVar, sizeOf_run hi, hs, Kd.size, Value.cells_one h1]
        simp only [List.size_toArray, List.length_cons, List.length_nil, Nat.zero_add, ne_eq, not_true_eq_false, if_false]
        simp only [storeCells, Sem.run_bind, Sem.run_pure]
        have ha : p.add 0 = p := by simp [Addr.add]
        rw [ha, hr]
        rfl
      · rename_i ks hk
        split at h
        · obtain ⟨h1, h⟩ := bif_imp h
          simp only [Bool.and_eq_true, Nat.beq_eq, Array.length_toList] at h1
          obtain ⟨i, hi, hs, _⟩ := kd_info hT hk
          obtain ⟨w', hr, hd, hk'⟩ := storesAt_run (P := P) h h1.1
          refine wp_skip (w' := w') ?_ (hK _ _ hd hk')
          rw [he]
          refine run_u ?_
          have hl := h1.2
          simp only [Instr.storeAt, Instr.sureAddr, Sem.run_bind, Sem.run_pure, Result.andThen_ok, storeVar, sizeOf_run hi, hs, Kd.size, Value.cells, hl, ne_eq, not_true_eq_false, if_false]
          exact hr
        · exact h.elim
      · exact h.elim
    · exact h.elim
  · -- fieldAddr
    rename_i t x f ho
    obtain ⟨v, hx, h⟩ := need_imp h
    split at h
    · rename_i fs _ ht
      obtain ⟨p, rfl, h⟩ := xptr_imp h
      obtain ⟨i, hi, h⟩ := need_imp h
      exact wp_value (by simp only [execOp, ho, hA.eval hx]; exact run_v (field_run hT ht hi p w)) (hK _ _ (.refl _) h)
    · exact h.elim
  · -- indexAddr
    rename_i t x y ho
    obtain ⟨v, hx, h⟩ := need_imp h
    obtain ⟨u, hy, h⟩ := need_imp h
    split at h
    · obtain ⟨p, rfl, h0, h1, h⟩ := xptr_imp h
      exact wp_value (by simp only [execOp, ho, hA.eval hx, hA.eval hy]; exact run_v (index_run_slc hT (by assumption) h0 h1 w)) (hK _ _ (.refl _) h)
    · obtain ⟨p, rfl, h0, h1, h⟩ := xptr_imp h
      exact wp_value (by simp only [execOp, ho, hA.eval hx, hA.eval hy]; exact run_v (index_run_arr hT (by assumption) h0 h1 w)) (hK _ _ (.refl _) h)
    · exact h.elim
  · -- slice
    rename_i t x lo hi mx ho
    obtain ⟨v, hx, h⟩ := need_imp h
    obtain ⟨lo', hlo, h⟩ := need_imp h
    obtain ⟨hi', hhi, h⟩ := need_imp h
    obtain ⟨mx', hmx, h⟩ := need_imp h
    have i1 := evO_eval hA hlo
    have i2 := evO_eval hA hhi
    have i3 := evO_eval hA hmx
    have he : execOp a.eval o = (do pure (Next.value (← Instr.sliceAt t v lo' hi' mx'))) := by simp only [execOp, ho, hA.eval hx, i1, i2, i3]
    split at h
    · obtain ⟨l1, hl1, h⟩ := need_imp h
      obtain ⟨l2, hl2, h⟩ := need_imp h
      obtain ⟨l3, hl3, h⟩ := need_imp h
      obtain ⟨a', l', c', hr, h⟩ := sliceK_run hT (by assumption) (intO_or hl1) (intO_or hl2) (intO_or hl3) h w
      exact wp_value (by rw [he]; exact run_v hr) (hK _ _ (.refl _) h)
    · exact xv h he hK
  · -- binOp
    rename_i op t x y yt ho
    obtain ⟨v, hx, h⟩ := need_imp h
    obtain ⟨u, hy, h⟩ := need_imp h
    have he : execOp a.eval o = (do pure (Next.value (← (do eqGuard op t x y v u; binOp op t v u : Sem Value)))) := by simp only [execOp, ho, hA.eval hx, hA.eval hy]
    cases hif : isIf (T.ty t) with
    | true => rw [hif, cond_true] at h; exact xv h he hK
    | false =>
    rw [hif, cond_false] at h
    split at h
    · split at h
      · obtain ⟨hk, hb, hh⟩ := bif_imp h
        have hk := of_decide_eq_true hk
        subst hk
        exact wp_value (by rw [he]; exact run_v (binop_quo hb t x y w)) (hK _ _ (.refl _) hh)
      · obtain ⟨hk, hb, hh⟩ := bif_imp h
        have hk := of_decide_eq_true hk
        subst hk
        exact wp_value (by rw [he]; exact run_v (binop_rem hb t x y w)) (hK _ _ (.refl _) hh)
      · obtain ⟨hb, h⟩ := h
        exact wp_value (by rw [he]; exact run_v (binop_shl hb t x y w)) (hK _ _ (.refl _) h)
      · obtain ⟨hb, h⟩ := h
        exact wp_value (by rw [he]; exact run_v (binop_shr hb t x y w)) (hK _ _ (.refl _) h)
      · exact h.elim
    · exact xv h he hK
  · rename_i s d x ho
    obtain ⟨v, hx, h⟩ := need_imp h
    exact xv h (by simp only [execOp, ho, hA.eval hx]) hK
  · rename_i t x ho
    obtain ⟨v, hx, h⟩ := need_imp h
    exact xv h (by simp only [execOp, ho, hA.eval hx]) hK
  · rename_i t l c ho
    obtain ⟨v, hx, h⟩ := need_imp h
    obtain ⟨u, hy, h⟩ := need_imp h
    exact xv h (by simp only [execOp, ho, hA.eval hx, hA.eval hy]) hK
  · rename_i t x y ho
    obtain ⟨v, hx, h⟩ := need_imp h
    obtain ⟨u, hy, h⟩ := need_imp h
    exact xv h (by simp only [execOp, ho, hA.eval hx, hA.eval hy]) hK
  · rename_i t x y ok ho
    obtain ⟨v, hx, h⟩ := need_imp h
    obtain ⟨u, hy, h⟩ := need_imp h
    exact xv h (by simp only [execOp, ho, hA.eval hx, hA.eval hy]) hK
  · rename_i t m x y ho
    obtain ⟨m', hm, h⟩ := need_imp h
    obtain ⟨v, hx, h⟩ := need_imp h
    obtain ⟨u, hy, h⟩ := need_imp h
    exact xu h (by simp only [execOp, ho, hA.eval hm, hA.eval hx, hA.eval hy]) hK
  · rename_i t m x y ho
    obtain ⟨m', hm, h⟩ := need_imp h
    obtain ⟨v, hx, h⟩ := need_imp h
    obtain ⟨u, hy, h⟩ := need_imp h
    exact xu h (by simp only [execOp, ho, hA.eval hm, hA.eval hx, hA.eval hy]) hK
  · rename_i t m x ho
    obtain ⟨m', hm, h⟩ := need_imp h
    obtain ⟨v, hx, h⟩ := need_imp h
    exact xv h (by simp only [execOp, ho, hA.eval hm, hA.eval hx]) hK
  · rename_i t m x y ho
    obtain ⟨m', hm, h⟩ := need_imp h
    obtain ⟨v, hx, h⟩ := need_imp h
    obtain ⟨u, hy, h⟩ := need_imp h
    exact xu h (by simp only [execOp, ho, hA.eval hm, hA.eval hx, hA.eval hy]) hK
  · rename_i t ho
    exact xv h (by simp only [execOp, ho, Option.map_none]) hK
  · rename_i t x ho
    obtain ⟨v, hx, h⟩ := need_imp h
    exact xv h (by simp only [execOp, ho, Option.map_some, hA.eval hx]) hK
  · rename_i t x ho
    obtain ⟨v, hx, h⟩ := need_imp h
    exact xv' h (by simp only [execOp, ho, hA.eval hx]) hK
  · rename_i x b ho
    obtain ⟨v, hx, h⟩ := need_imp h
    exact xv h (by simp only [execOp, ho, hA.eval hx]) hK
  · rename_i x ho
    obtain ⟨v, hx, h⟩ := need_imp h
    exact xv' h (by simp only [execOp, ho, hA.eval hx]) hK
  · rename_i x t t' b ho
    obtain ⟨v, hx, h⟩ := need_imp h
    obtain ⟨z, w', hr, hd, h⟩ := xrun_imp h
    exact wp_value (by rw [show execOp a.eval o = (do pure (Next.value (← Instr.typeAssert v t t' b))) by simp only [execOp, ho, hA.eval hx]]; exact run_v hr) (hK _ _ hd (assertT_eq h))
  · rename_i x ho
    obtain ⟨v, hx, h⟩ := need_imp h
    unfold xpanic at h
    split at h
    · rename_i t' u'
      unfold OW
      have : (execOp a.eval o).run P w = .halt (.panic (.iface t' u')) w := by
        simp only [execOp, ho, hA.eval hx]
        rw [Sem.run_bind]
        rfl
      rw [this, Oper.uponIn_panic]
      exact hP _ _ (.refl _) h
    · exact h.elim
  · -- a call of a function value
    rename_i f args ts ho
    obtain ⟨fv, hf, h⟩ := need_imp h
    obtain ⟨vs, hv, h⟩ := need_imp h
    have hv' := evs_arr (fun x v hx => hA.eval hx) hv
    have hf' := hA.eval hf
    have main : ∀ g first cap, fv = .func (.func g) first cap → XCP P g (first.toList ++ (vs ++ cap.toList)) w (fun v w => exT (T.ty o.type) fun u => v = u ∧ K u w) KP → OW P o a w next Q := by
      intro g first cap e h
      subst e
      exact xcp_wp h (fun w => exec_call ho hf' hv' w) (fun v w' hd h => hK _ _ hd (exT_eq h)) hP
    unfold XCV at h
    split at h
    · exact main _ _ _ rfl h
    · exact xyield_wp h (exec_yield ho hf' hv' w) (fun v w' hd h => hK _ _ hd (exT_eq h)) hP
    · exact h.elim
  · -- a method of an interface value
    rename_i x name args ts ho
    obtain ⟨v, hx, h⟩ := need_imp h
    obtain ⟨vs, hv, h⟩ := need_imp h
    have hv' := evs_arr (fun x v hx => hA.eval hx) hv
    have hx' := hA.eval hx
    unfold XInv at h
    split at h
    · obtain ⟨g, recv, hm, h⟩ := h
      exact xcp_wp1 h (exec_invoke ho hx' hv' hm) (fun v w' hd h => hK _ _ hd (exT_eq h)) hP
    · exact h.elim
  · -- a builtin
    rename_i b args ts ho
    obtain ⟨vs, hv, h⟩ := need_imp h
    have hv' := evs_arr (fun x v hx => hA.eval hx) hv
    have he : ∀ {s : Sem Value}, (∀ cs, builtin b ts o.type cs vs.toArray = (do pure (Next.value (← s)))) → (execOp a.eval o) = (do pure (Next.value (← s))) := by
      intro s hs
      simp only [execOp, ho, resolve, hv']
      show builtin b ts o.type _ vs.toArray = _
      exact hs _
    split at h
    · exact xv h (he fun _ => rfl) hK
    · exact xv h (he fun _ => rfl) hK
    · exact xv h (he fun _ => rfl) hK
    · exact xv h (he fun _ => rfl) hK
    · exact xv' h (he fun _ => rfl) hK
    · exact xv h (he fun _ => rfl) hK
    · exact h.elim
  · exact h.elim
theorem xOp_sound (hT : TabOk P T) {o : Oper} {ρ : Env} {a : Act} {w : World} {K : Value → World → Prop} {KP : List PanicEntry → World → Prop} {next : Act → World → Prop} {Q : Exit → Act → World → Prop}
    (hA : Agree ρ a) (h : xOp P T o ρ w K KP) (hK : ∀ v w', KeepsD w w' → K v w' → next (a.put o.dst v) w') (hP : ∀ ch w', KeepsD w w' → KP ch w' → Q (.panic ch) a w') : OW P o a w next Q := by
  unfold xOp at h
  split at h
  · rename_i v hv
    exact wp_value (pureOp_run hT (fun x v hx => hA.eval hx) hv w) (hK _ _ (.refl _) h)
  · exact xEff_sound hT hA h hK hP

theorem pureOp_nd {o : Op} {ρ : Env} {v : Value} (h : pureOp T o ρ = some v) : ∀ c, o ≠ .defer c := by
  intro c e
  subst e
  cases h
theorem xOp_nd {o : Oper} {ρ : Env} {w : World} {K : Value → World → Prop} {KP : List PanicEntry → World → Prop} (h : xOp P T o ρ w K KP) : ∀ c, o.op ≠ .defer c := by
  intro c e
  unfold xOp at h
  rw [e] at h
  unfold xEff at h
  rw [e] at h
  exact h
end Go.X
