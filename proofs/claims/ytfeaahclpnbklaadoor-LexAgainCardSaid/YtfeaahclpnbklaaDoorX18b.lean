/- A closure that is called as its function leaves, and may recover. -/
import Derived.Test.YtfeaahclpnbklaaDoorX18
namespace Go.X
variable {P : Program} {T : Tab}

def recK (u : FrameMode) (k : Value → FrameMode → Prop) : Prop :=
  match u with
  | .panicking ({ v, recovered := false, goexit := false } :: older) => k v (.panicking ({ v, recovered := true } :: older))
  | u => k .nilIface u
inductive AR
  | done
  | pl (x : An) (r : AR)
  | plJ (outs : Outs) (x : An) (r : AR)
  | rcv (r : AR)
def xOpR (P : Program) (T : Tab) (o : Oper) (ρ : Env) (w : World) (K : Value → World → Prop) : Prop :=
  match pureOp T o.op ρ with
  | some v => K v w
  | none => match o.op with
    | .binOp op t x y _ => need (ev ρ x) fun v => need (ev ρ y) fun u => XRun P (do eqGuard op t x y v u; binOp op t v u) w fun v w => exT (T.ty o.type) fun u => v = u ∧ K u w
    | .typeAssert x t t' b => need (ev ρ x) fun v => XRun P (Instr.typeAssert v t t' b) w fun v w => assertT T t' b o.type fun u => v = u ∧ K u w
    | _ => False
def isRec (o : Op) : Bool :=
  match o with
  | .call { callee := .builtin .recover, .. } => true
  | _ => false
def xOpsR (P : Program) (T : Tab) (ops : List Oper) : List Oper → FrameMode → Env → World → (FrameMode → Env → World → Prop) → Prop
  | [], u, ρ, w, K => K u ρ w
  | o :: l, u, ρ, w, K => bif gOk ops ρ o.guard then
      (bif isRec o.op then recK u fun v u' => xOpsR P T ops l u' (ρ.put o.dst v) w K else xOpR P T o ρ w fun v w => xOpsR P T ops l u (ρ.put o.dst v) w K) else False
def xwR (P : Program) (T : Tab) (fin : FrameMode → World → Prop) (KP : List PanicEntry → FrameMode → World → Prop) : AR → List Code → FrameMode → Env → World → Prop
  | .done, [], u, _, w => fin u w
  | .pl x r, c :: cs, u, ρ, w => xw P T x c ρ w { normal := fun ρ w => xwR P T fin KP r cs u ρ w, ret := fun _ w => fin u w, exit := fun _ _ _ => False, panic := fun ch w => KP ch u w }
  | .plJ outs x r, c :: cs, u, ρ, w => jn outs (wr c) ρ (fun ρ w => xwR P T fin KP r cs u ρ w) fun kb => xw P T x c ρ w { normal := kb, ret := fun _ w => fin u w, exit := fun _ _ _ => False, panic := fun ch w => KP ch u w }
  | .rcv r, .region _ ops false :: cs, u, ρ, w => xOpsR P T ops.toList ops.toList u ρ w fun u ρ w => xwR P T fin KP r cs u ρ w
  | _, _, _, _, _ => False
def xfnR (P : Program) (T : Tab) (ar : AR) (fn : Func) (args : List Value) (u : FrameMode) (w : World) (K : FrameMode → World → Prop) (KP : List PanicEntry → FrameMode → World → Prop) : Prop :=
  match fn.body with
  | none => False
  | some c => xwR P T K KP ar (flatS c) u (env0 args) w

/-! ### sound -/
abbrev md (c0 : Frame) (u : FrameMode) : Frame := { c0 with mode := u }
theorem recK_imp {u : FrameMode} {k : Value → FrameMode → Prop} (h : recK u k) (c0 : Frame) (fs : List Frame) :
    (∃ v u', recoverD (md c0 u :: fs) = some (v, md c0 u' :: fs) ∧ k v u') ∨ (recoverD (md c0 u :: fs) = none ∧ k .nilIface u) := by
  unfold recK at h
  split at h
  · exact .inl ⟨_, _, rfl, h⟩
  · rename_i hn
    refine .inr ⟨?_, h⟩
    simp only [recoverD]
theorem xOpR_run (hT : TabOk P T) {o : Oper} {ρ : Env} {a : Act} {w : World} {K : Value → World → Prop} (hA : Agree ρ a) (h : xOpR P T o ρ w K) :
    ∃ v w', (execOp a.eval o).run P w = .ok (.value v) w' ∧ KeepsD w w' ∧ K v w' := by
  unfold xOpR at h
  split at h
  · rename_i v hv
    exact ⟨v, w, pureOp_run hT (fun x v hx => hA.eval hx) hv w, .refl _, h⟩
  · split at h
    · rename_i op t x y yt ho
      obtain ⟨v, hx, h⟩ := need_imp h
      obtain ⟨u, hy, h⟩ := need_imp h
      obtain ⟨z, w', hr, hk, h⟩ := xrun_imp h
      refine ⟨z, w', ?_, hk, exT_eq h⟩
      have he : execOp a.eval o = (do pure (Next.value (← (do eqGuard op t x y v u; binOp op t v u : Sem Value)))) := by simp only [execOp, ho, hA.eval hx, hA.eval hy]
      rw [he]; exact run_v hr
    · rename_i x t t' b ho
      obtain ⟨v, hx, h⟩ := need_imp h
      obtain ⟨z, w', hr, hk, h⟩ := xrun_imp h
      refine ⟨z, w', ?_, hk, assertT_eq h⟩
      have he : execOp a.eval o = (do pure (Next.value (← Instr.typeAssert v t t' b))) := by simp only [execOp, ho, hA.eval hx]
      rw [he]; exact run_v hr
    · exact h.elim
theorem isRec_run {a : Act} {o : Oper} (h : isRec o.op = true) (w : World) : (execOp a.eval o).run P w = .ok .recover w := by
  unfold isRec at h
  split at h
  · rename_i args ts ho
    simp only [execOp, ho, resolve, Sem.run_bind, Sem.run_pure, Result.andThen_ok, invoke, builtin]
  · cases h
theorem xOpsR_sound (hT : TabOk P T) {ops : Array Oper} {Q : Exit → Act → List Frame → World → Prop} {c0 : Frame} {fs : List Frame} {K : FrameMode → Env → World → Prop} :
    ∀ (l : List Oper) (k : Nat) (u : FrameMode) (ρ : Env) (a : Act) (w : World), (∀ j, l[j]? = ops[k + j]?) → xOpsR P T ops.toList l u ρ w K → Agree ρ a → lts a.tmps.size (dsts l) = true →
      (∀ u' ρ' a' w', K u' ρ' w' → Agree ρ' a' → a'.tmps.size = a.tmps.size → a'.defers = a.defers → KeepsD w w' → Q .normal a' (md c0 u' :: fs) w') →
      wpOpsSIn Fence.wide 0 P ops Q (List.range' k l.length) a (md c0 u :: fs) w
  | [], k, u, ρ, a, w, _, h, hA, _, hK => hK u ρ a w h hA rfl rfl (.refl _)
  | o :: l, k, u, ρ, a, w, hl, h, hA, hlt, hK => by
    have h0 : ops[k]? = some o := by simpa using (hl 0).symm
    have hl' : ∀ j, l[j]? = ops[k + 1 + j]? := fun j => by have := hl (j + 1); simpa [Nat.add_assoc, Nat.add_comm 1 j] using this
    simp only [xOpsR] at h
    obtain ⟨hg, h⟩ := bif_imp h
    have hd : ∀ x, o.dst = some x → x < a.tmps.size := fun x hx => lts_mem hlt x (by simp [dsts, hx])
    have hlt' : lts a.tmps.size (dsts l) = true := by
      unfold dsts at hlt
      split at hlt
      · simp only [lts, Bool.and_eq_true] at hlt; exact hlt.2
      · exact hlt
    have hw : Region.wanted o (yielded ops a.tmps) = true := by
      have := gOk_wanted hA hg
      simpa using this
    have hput : ∀ v : Value, (a.put o.dst v).defers = a.defers := fun v => by cases o.dst <;> rfl
    have next : ∀ (v : Value) (u' : FrameMode) (w' : World), KeepsD w w' → xOpsR P T ops.toList l u' (ρ.put o.dst v) w' K → wpOpsSIn Fence.wide 0 P ops Q (List.range' (k + 1) l.length) (a.put o.dst v) (md c0 u' :: fs) w' := by
      intro v u' w' hk hx
      refine xOpsR_sound hT l (k + 1) u' _ _ w' hl' hx (hA.put hd v) (by rw [put_size]; exact hlt') fun u2 ρ2 a2 w2 h1 h2 h3 h4 h5 => ?_
      exact hK u2 ρ2 a2 w2 h1 h2 (h3.trans (put_size ..)) (h4.trans (hput v)) (hk.trans h5)
    rw [List.length_cons, List.range'_succ]
    simp only [wpOpsSIn, h0]
    refine ⟨fun _ _ => trivial, ?_⟩
    rw [if_pos hw]
    cases hr : isRec o.op with
    | true =>
      rw [hr, cond_true] at h
      rw [isRec_run hr]
      rcases recK_imp h c0 fs with ⟨v, u', e, hx⟩ | ⟨e, hx⟩
      · simp only [e]
        exact next v u' w (.refl _) hx
      · simp only [e]
        exact next _ u w (.refl _) hx
    | false =>
      rw [hr, cond_false] at h
      obtain ⟨v, w', hrun, hk, hx⟩ := xOpR_run hT hA h
      rw [hrun]
      exact next v u w' hk hx

def wpSC (F : Fence) (P : Program) (Q : Exit → Act → List Frame → World → Prop) : List Code → Act → List Frame → World → Prop
  | [], a, fs, w => Q .normal a fs w
  | c :: cs, a, fs, w => c.wpSIn F 0 P (Exit.thenS (wpSC F P Q cs) Q) a fs w
theorem thenS_thenS {k k' : Act → List Frame → World → Prop} {Q : Exit → Act → List Frame → World → Prop} : Exit.thenS k (Exit.thenS k' Q) = Exit.thenS k Q := by
  funext e a fs w
  cases e <;> rfl
theorem wpSIn_mono {F : Fence} {c : Code} {Q Q' : Exit → Act → List Frame → World → Prop} (hq : ∀ e a fs w, Q e a fs w → Q' e a fs w) {a : Act} {fs : List Frame} {w : World} (h : c.wpSIn F 0 P Q a fs w) : c.wpSIn F 0 P Q' a fs w :=
  fun b k hb hr hF hroom => let ⟨e, a', cs', w', hl, q, r⟩ := h b k hb hr hF hroom; ⟨e, a', cs', w', hl, hq _ _ _ _ q, r⟩
theorem wpSC_append {F : Fence} {Q : Exit → Act → List Frame → World → Prop} : ∀ (l1 l2 : List Code), wpSC F P Q (l1 ++ l2) = wpSC F P (Exit.thenS (wpSC F P Q l2) Q) l1
  | [], l2 => rfl
  | c :: l1, l2 => by
    funext a fs w
    simp only [List.cons_append, wpSC, wpSC_append l1 l2, thenS_thenS]
theorem wpSC_mono {F : Fence} : ∀ (l : List Code) (Q1 Q2 : Exit → Act → List Frame → World → Prop) (a : Act) (fs : List Frame) (w : World), (∀ e a fs w, Q1 e a fs w → Q2 e a fs w) → wpSC F P Q1 l a fs w → wpSC F P Q2 l a fs w
  | [], Q1, Q2, a, fs, w, h, h1 => h _ _ _ _ h1
  | c :: l, Q1, Q2, a, fs, w, h, h1 => by
    refine wpSIn_mono (fun e a fs w h2 => ?_) h1
    cases e with
    | normal => exact wpSC_mono l _ _ _ _ _ h h2
    | exit i => exact h _ _ _ _ h2
    | goto i => exact h _ _ _ _ h2
    | ret => exact h _ _ _ _ h2
    | panic i => exact h _ _ _ _ h2
    | outgrown => exact h _ _ _ _ h2
theorem wpSC_flat {F : Fence} : ∀ (c : Code) (Q : Exit → Act → List Frame → World → Prop) (a : Act) (fs : List Frame) (w : World), wpSC F P Q (flatS c) a fs w → c.wpSIn F 0 P Q a fs w := by
  have one : ∀ (c : Code) (Q : Exit → Act → List Frame → World → Prop) (a : Act) (fs : List Frame) (w : World), wpSC F P Q [c] a fs w → c.wpSIn F 0 P Q a fs w := by
    intro c Q a fs w h
    refine wpSIn_mono (fun e a fs w h => ?_) h
    cases e <;> exact h
  intro c
  induction c with
  | seq x y ih1 ih2 =>
    intro Q a fs w h
    simp only [flatS] at h
    rw [wpSC_append] at h
    refine wpSIn_seq (ih1 _ _ _ _ ?_)
    refine wpSC_mono _ _ _ _ _ _ (fun e a fs w h2 => ?_) h
    cases e with
    | normal => exact ih2 _ _ _ _ h2
    | exit i => exact h2
    | goto i => exact h2
    | ret => exact h2
    | panic i => exact h2
    | outgrown => exact h2
  | _ => exact one _
def postR (w0 : World) (N : Nat) (c0 : Frame) (fs : List Frame) (fin : FrameMode → World → Prop) (KP : List PanicEntry → FrameMode → World → Prop) : Exit → Act → List Frame → World → Prop := fun e a cs w =>
  a.defers = [] ∧ KeepsD w0 w ∧ ∃ u, cs = md c0 u :: fs ∧ match e with
    | .normal => fin u w
    | .ret => fin u w
    | .panic ch => KP ch u w
    | _ => False
theorem xwR_sound (hT : TabOk P T) (hm : P.follows .mixedOrders = true) {fin : FrameMode → World → Prop} {KP : List PanicEntry → FrameMode → World → Prop} {w0 : World} {N : Nat} {c0 : Frame} {fs : List Frame} :
    ∀ (ar : AR) (cs : List Code) (u : FrameMode) (ρ : Env) (a : Act) (w : World), xwR P T fin KP ar cs u ρ w → flatL cs = true → rngsL cs = false → lts N (wrL cs) = true →
      a.tmps.size = N → KeepsD w0 w → a.defers = [] → Agree ρ a → wpSC Fence.wide P (postR w0 N c0 fs fin KP) cs a (md c0 u :: fs) w := by
  intro ar
  induction ar with
  | done =>
    intro cs u ρ a w h _ _ _ hN hk hd hA
    cases cs with
    | nil => exact ⟨hd, hk, u, rfl, h⟩
    | cons c cs => exact h.elim
  | pl x r ih =>
    intro cs u ρ a w h hf hg hl hN hk hd hA
    cases cs with
    | nil => exact h.elim
    | cons c cs =>
      simp only [flatL, Bool.and_eq_true] at hf
      simp only [wrL, lts_append] at hl
      have hg' := or_false_of hg
      have hlt : lts a.tmps.size (wr c) = true := by rw [hN]; exact hl.1
      refine wpSIn_of_wpIn rfl (Code.wpIn_mono (fun e a' w' hp => ?_) (xw_sound hT hm x c ρ w _ a none h hf.1 hA hlt))
      have hdf : ∀ {a' : Act} {w' : World}, Good (rngs c) (wr c) a w a' w' → a'.defers = [] := by
        intro a' w' ho
        obtain ⟨ms, e, _, _, z⟩ := ho.marks
        rw [e, z hg'.1, hd]; rfl
      cases e with
      | normal =>
        obtain ⟨ho, ρ', hA', hx⟩ := hp
        exact ih cs u ρ' a' w' hx hf.2 hg'.2 hl.2 (ho.size.trans hN) (hk.trans ho.keeps) (hdf ho) hA'
      | ret =>
        obtain ⟨ho, ρ', hA', hx⟩ := hp
        exact ⟨hdf ho, hk.trans ho.keeps, u, rfl, hx⟩
      | panic ch =>
        obtain ⟨ho, hx⟩ := hp
        exact ⟨hdf ho, hk.trans ho.keeps, u, rfl, hx⟩
      | exit i => obtain ⟨_, _, _, hx⟩ := hp; exact hx.elim
      | goto l => exact hp.elim
      | outgrown => exact hp.elim
  | plJ outs x r ih =>
    intro cs u ρ a w h hf hg hl hN hk hd hA
    cases cs with
    | nil => exact h.elim
    | cons c cs =>
      simp only [flatL, Bool.and_eq_true] at hf
      simp only [wrL, lts_append] at hl
      have hg' := or_false_of hg
      have hlt : lts a.tmps.size (wr c) = true := by rw [hN]; exact hl.1
      refine wpSIn_of_wpIn rfl (Code.wpIn_mono (fun e a' w' hp => ?_) (xw_sound hT hm x c ρ w _ a none (jn_use h) hf.1 hA hlt))
      have hdf : ∀ {a' : Act} {w' : World}, Good (rngs c) (wr c) a w a' w' → a'.defers = [] := by
        intro a' w' ho
        obtain ⟨ms, e, _, _, z⟩ := ho.marks
        rw [e, z hg'.1, hd]; rfl
      cases e with
      | normal =>
        obtain ⟨ho, ρ1, hA1, hx⟩ := hp
        obtain ⟨ρ', hA', hx⟩ := kb_mk (outs := outs) (W := wr c) (ρ := ρ) (K := fun ρ w => xwR P T fin KP r cs u ρ w) hx hA1 (ho.agree hA)
        exact ih cs u ρ' a' w' hx hf.2 hg'.2 hl.2 (ho.size.trans hN) (hk.trans ho.keeps) (hdf ho) hA'
      | ret =>
        obtain ⟨ho, ρ', hA', hx⟩ := hp
        exact ⟨hdf ho, hk.trans ho.keeps, u, rfl, hx⟩
      | panic ch =>
        obtain ⟨ho, hx⟩ := hp
        exact ⟨hdf ho, hk.trans ho.keeps, u, rfl, hx⟩
      | exit i => obtain ⟨_, _, _, hx⟩ := hp; exact hx.elim
      | goto l => exact hp.elim
      | outgrown => exact hp.elim
  | rcv r ih =>
    intro cs u ρ a w h hf hg hl hN hk hd hA
    cases cs with
    | nil => exact h.elim
    | cons c cs =>
      cases c with
      | region id ops dr =>
        cases dr with
        | true => exact h.elim
        | false =>
          simp only [flatL, Bool.and_eq_true] at hf
          simp only [wrL, lts_append] at hl
          have hg' := or_false_of hg
          have hlt : lts a.tmps.size (dsts ops.toList) = true := by rw [hN]; exact hl.1
          refine wpSIn_region ?_
          have := xOpsR_sound hT (P := P) (ops := ops) (Q := Exit.thenS (wpSC Fence.wide P (postR w0 N c0 fs fin KP) cs) (postR w0 N c0 fs fin KP)) (c0 := c0) (fs := fs) ops.toList 0 u ρ a w (by simp) h hA hlt
            fun u' ρ' a' w' h1 h2 h3 h4 h5 => ih cs u' ρ' a' w' h1 hf.2 hg'.2 hl.2 (h3.trans hN) (hk.trans h5) (h4.trans hd) h2
          rw [List.range_eq_range']
          simpa using this
      | _ => exact h.elim
def fitsR (fn : Func) (n : Nat) : Bool :=
  match fn.body with
  | none => false
  | some c => lts fn.ntmps (wrL (flatS c)) && flatL (flatS c) && !rngsL (flatS c) && Nat.ble n fn.ntmps && fn.results.toList.isEmpty && !(fn.name == "runtime.NumGoroutine")
/-- THE LAW: a closure that is called as its function leaves. -/
theorem xfuncR (hT : TabOk P T) (hm : P.follows .mixedOrders = true) {f : FuncId} {fn : Func} (hf : P.funcs[f]? = some fn) (ar : AR) {args : List Value} {u : FrameMode} {w : World} {K : FrameMode → World → Prop} {KP : List PanicEntry → FrameMode → World → Prop}
    (hfit : fitsR fn args.length = true) (h : xfnR P T ar fn args u w K KP) : XPD P f args u w K KP := by
  unfold fitsR at hfit
  unfold xfnR at h
  split at hfit
  · cases hfit
  · rename_i c hc
    rw [hc] at h
    simp only [Bool.and_eq_true, Bool.not_eq_true', Nat.ble_eq] at hfit
    obtain ⟨⟨⟨⟨⟨h1, h1'⟩, h4⟩, h2⟩, h6⟩, h3⟩ := hfit
    refine ⟨⟨fn, hf, by rw [hc]; rfl, h3⟩, ?_⟩
    refine callsDIn_of_wpSIn hf hc trivial fun c0 fs hc0 => ?_
    have e0 : c0 = md c0 u := by rw [← hc0]
    rw [e0]
    have hres : ∀ tmps w, (results fn tmps).run P w = .ok (.tuple #[]) w := by
      intro tmps w
      have : fn.results = #[] := by
        apply Array.ext'
        simpa using h6
      rw [results_eq, this, Sem.run_bind, Array.mapM_eq_mapM_toList, Sem.run_map]
      rfl
    refine wpSIn_mono (fun e a' cs' w' hp => ?_) (wpSC_flat c _ _ _ _ (xwR_sound hT hm (w0 := w) (N := fn.ntmps) (c0 := c0) (fs := fs) ar (flatS c) u _ { tmps := args.toArray ++ Array.replicate (fn.ntmps - args.toArray.size) undef, defers := [] } w h h1' h4 h1 (by simp; omega) (.refl _) rfl (agree0 args (fn.ntmps - args.toArray.size))))
    obtain ⟨hd, hk, u', hcs, hp⟩ := hp
    cases e with
    | normal => exact ⟨hd, u', hcs, _, hres _ _, hk, hp⟩
    | ret => exact ⟨hd, u', hcs, _, hres _ _, hk, hp⟩
    | panic ch => exact ⟨hd, u', hcs, hk, hp⟩
    | exit i => exact hp.elim
    | goto l => exact hp.elim
    | outgrown => exact hp.elim
end Go.X
