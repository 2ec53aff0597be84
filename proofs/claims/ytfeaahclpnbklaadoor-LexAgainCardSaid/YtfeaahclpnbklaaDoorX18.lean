/- Deferred calls and recover: a function that defers calls; a closure that is called as it leaves. -/
import Derived.Test.YtfeaahclpnbklaaDoorX7
import Derived.RecoverIn
namespace Go.X
variable {P : Program} {T : Tab}

/-- a deferred call of a function -/
structure Pend where
  g : FuncId
  as : List Value
  cap : List Value
def Pend.d (p : Pend) : Deferred := { target := .fn (.func p.g) p.cap.toArray, args := p.as.toArray }
def Pend.args (p : Pend) : List Value := p.as ++ p.cap
/-- a call of a deferred function, the frame below in mode u -/
def XPD (P : Program) (g : FuncId) (args : List Value) (u : FrameMode) (w : World) (K : FrameMode → World → Prop) (KP : List PanicEntry → FrameMode → World → Prop) : Prop :=
  Callable P g ∧ CallsDIn Fence.wide 0 P g args.toArray u w fun e u' w' => KeepsD w w' ∧ match e with
    | .returned _ => K u' w'
    | .panicked ch => KP ch u' w'
    | .outgrown => False
theorem XPD.mono {g : FuncId} {args : List Value} {u : FrameMode} {w : World} {K K' : FrameMode → World → Prop} {KP KP' : List PanicEntry → FrameMode → World → Prop} (h : XPD P g args u w K KP)
    (hk : ∀ u' w', KeepsD w w' → K u' w' → K' u' w') (hp : ∀ ch u' w', KeepsD w w' → KP ch u' w' → KP' ch u' w') : XPD P g args u w K' KP' :=
  ⟨h.1, h.2.mono fun e u' w' hh => by cases e with | returned v => exact ⟨hh.1, hk _ _ hh.1 hh.2⟩ | panicked ch => exact ⟨hh.1, hp _ _ _ hh.1 hh.2⟩ | outgrown => exact hh⟩
def outR (rg : Bool) (n : Nat) (K : World → Prop) (w : World) : Prop := bif rg then ∀ w2, ShutD n w w2 → K w2 else K w
/-- the deferred calls are made, the last laid first -/
def leaveX (P : Program) (rg : Bool) (n : Nat) (K : World → Prop) (KP : List PanicEntry → World → Prop) : List Pend → FrameMode → World → Prop
  | [], .returning, w => outR rg n K w
  | [], .panicking ch, w => outR rg n (KP ch) w
  | [], .run, _ => False
  | _ :: _, .run, _ => False
  | p :: ds, .returning, w => outR rg n (fun w => XPD P p.g p.args .returning w (fun u' w' => leaveX P rg n K KP ds (settle u') w') fun ch u' w' => leaveX P rg n K KP ds (raised u' ch) w') w
  | p :: ds, .panicking c, w => outR rg n (fun w => XPD P p.g p.args (.panicking c) w (fun u' w' => leaveX P rg n K KP ds (settle u') w') fun ch u' w' => leaveX P rg n K KP ds (raised u' ch) w') w
def pendK (v : Value) (args : List Value) (k : Pend → Prop) : Prop :=
  match v with
  | .func (.func g) first cap => k ⟨g, first.toList ++ args, cap.toList⟩
  | _ => False
inductive AD
  | done
  | pl (x : An) (r : AD)
  | plJ (outs : Outs) (x : An) (r : AD)
  | dfr (n : Nat) (r : AD)
def flatS : Code → List Code
  | .seq a b => flatS a ++ flatS b
  | c => [c]
def wrL : List Code → List Nat
  | [] => []
  | c :: cs => wr c ++ wrL cs
def xwD (P : Program) (T : Tab) (fin : List Pend → Env → World → Prop) (pf : List Pend → Env → List PanicEntry → World → Prop) : AD → List Code → List Pend → Env → World → (List PanicEntry → World → Prop) → Prop
  | .done, [], ds, ρ, w, _ => fin ds ρ w
  | .pl x r, c :: cs, ds, ρ, w, kp => xw P T x c ρ w { normal := fun ρ w => xwD P T fin pf r cs ds ρ w kp, ret := fin ds, exit := fun _ _ _ => False, panic := kp }
  | .plJ outs x r, c :: cs, ds, ρ, w, kp => jn outs (wr c) ρ (fun ρ w => xwD P T fin pf r cs ds ρ w kp) fun kb => xw P T x c ρ w { normal := kb, ret := fin ds, exit := fun _ _ _ => False, panic := kp }
  | .dfr n r, .region _ ops false :: cs, ds, ρ, w, kp => xOpsN P T ops.toList kp n ops.toList ρ w fun l ρ w => match l with
    | [o] => match o.op with
      | .defer { callee := .value f, args, .. } => bif gOk ops.toList ρ o.guard then need (ev ρ f) fun fv => need (evs ρ args.toList) fun vs => pendK fv vs fun p =>
          ∀ KD : List PanicEntry → World → Prop, (∀ ch w, pf (p :: ds) ((ρ.put o.dst undef).del (wrL cs)) ch w → KD ch w) → xwD P T fin pf r cs (p :: ds) (ρ.put o.dst undef) w KD
        else False
      | _ => False
    | _ => False
  | _, _, _, _, _, _ => False
def xfnD (P : Program) (T : Tab) (ad : AD) (fn : Func) (args : List Value) (w : World) (K : Value → World → Prop) (KP : List PanicEntry → World → Prop) : Prop :=
  match fn.body with
  | none => False
  | some c => xwD P T (fun ds ρ w' => leaveX P (rngs c) w.heap.size (fun w2 => xres T fn.results.toList ρ w2 [] K) KP ds .returning w')
    (fun ds ρ ch w' => leaveX P (rngs c) w.heap.size (fun w2 => xres T fn.results.toList ρ w2 [] K) KP ds (.panicking ch) w') ad (flatS c) [] (env0 args) w (fun ch w' => outR (rngs c) w.heap.size (KP ch) w')

/-! ### sound -/
theorem ShutD.trans {n : Nat} {a b c : World} (h : ShutD n a b) (h' : ShutD n b c) : ShutD n a c := by
  refine ⟨h'.os.trans h.os, h'.tape.trans h.tape, h'.output.trans h.output, h'.size.trans h.size, fun k => ?_⟩
  rcases h'.at_ k with e | ⟨e1, e2, e3⟩
  · rcases h.at_ k with f | ⟨f1, f2, f3⟩
    · exact .inl (e.trans f)
    · exact .inr ⟨f1, f2, e.trans f3⟩
  · rcases h.at_ k with f | ⟨f1, f2, f3⟩
    · exact .inr ⟨e1, f ▸ e2, e3⟩
    · rw [f3] at e2; cases e2
theorem outR_now {rg : Bool} {n : Nat} {K : World → Prop} {w : World} (h : outR rg n K w) : K w := by
  cases rg with
  | true => exact h w (.refl _ _)
  | false => exact h
theorem outR_shut {n : Nat} {K : World → Prop} {w w1 : World} (h : outR true n K w) (hs : ShutD n w w1) : outR true n K w1 := fun w2 h2 => h w2 (hs.trans h2)
theorem leaveX_shut {n : Nat} {K : World → Prop} {KP : List PanicEntry → World → Prop} {ds : List Pend} {u : FrameMode} {w w1 : World} (h : leaveX P true n K KP ds u w) (hs : ShutD n w w1) : leaveX P true n K KP ds u w1 := by
  cases ds <;> cases u <;> first | exact h.elim | exact outR_shut h hs
/-- marks and deferred calls as they lie -/
inductive Mixed (n : Nat) (w : World) : List Nat → List Pend → List Deferred → Prop
  | nil : Mixed n w [] [] []
  | mark {r : Nat} {ms : List Nat} {ds : List Pend} {l : List Deferred} : n ≤ r → w.heap[r]? = some (.deferred (some [])) → r ∉ ms → Mixed n w ms ds l → Mixed n w (r :: ms) ds (markD r :: l)
  | pend {p : Pend} {ms : List Nat} {ds : List Pend} {l : List Deferred} : Mixed n w ms ds l → Mixed n w ms (p :: ds) (p.d :: l)
theorem Mixed.at_ {n : Nat} {w : World} {ms : List Nat} {ds : List Pend} {l : List Deferred} (h : Mixed n w ms ds l) : ∀ r ∈ ms, w.heap[r]? = some (.deferred (some [])) := by
  induction h with
  | nil => intro r hr; cases hr
  | mark _ h1 _ _ ih =>
    intro r hr
    cases hr with
    | head => exact h1
    | tail _ hr => exact ih r hr
  | pend _ ih => exact ih
theorem Mixed.keeps {n : Nat} {w w' : World} {ms : List Nat} {ds : List Pend} {l : List Deferred} (h : Mixed n w ms ds l) (hk : ∀ r ∈ ms, w'.heap[r]? = w.heap[r]?) : Mixed n w' ms ds l := by
  induction h with
  | nil => exact .nil
  | mark h1 h2 h3 _ ih => exact .mark h1 ((hk _ List.mem_cons_self).trans h2) h3 (ih fun r hr => hk r (List.mem_cons_of_mem _ hr))
  | pend _ ih => exact .pend (ih hk)
theorem Mixed.keepsD {n : Nat} {w w' : World} {ms : List Nat} {ds : List Pend} {l : List Deferred} (h : Mixed n w ms ds l) (hk : KeepsD w w') : Mixed n w' ms ds l :=
  h.keeps fun r hr => (hk.def_ r (h.at_ r hr)).trans (h.at_ r hr).symm
theorem Mixed.add {n : Nat} {w : World} {ms : List Nat} {ds : List Pend} {l : List Deferred} (h : Mixed n w ms ds l) : ∀ (ms' : List Nat), ms'.Nodup → (∀ r ∈ ms', n ≤ r ∧ w.heap[r]? = some (.deferred (some []))) → (∀ r ∈ ms', r ∉ ms) → Mixed n w (ms' ++ ms) ds (ms'.map markD ++ l)
  | [], _, _, _ => h
  | r :: ms', nd, ok, dj => by
    rw [List.nodup_cons] at nd
    refine .mark (ok r List.mem_cons_self).1 (ok r List.mem_cons_self).2 ?_ (h.add ms' nd.2 (fun k hk => ok k (List.mem_cons_of_mem _ hk)) fun k hk => dj k (List.mem_cons_of_mem _ hk))
    intro hr
    rcases List.mem_append.1 hr with hr | hr
    · exact nd.1 hr
    · exact dj r List.mem_cons_self hr
/-- a piece of code has run: its marks lie on top -/
theorem Mixed.good {rg : Bool} {W : List Nat} {n : Nat} {a a' : Act} {w w' : World} {ms : List Nat} {ds : List Pend} (h : Mixed n w ms ds a.defers) (hg : Good rg W a w a' w') (hn : n ≤ w.heap.size) :
    ∃ ms', Mixed n w' ms' ds a'.defers ∧ (rg = false → ms' = ms) := by
  obtain ⟨ns, e, nd, ok, z⟩ := hg.marks
  refine ⟨ns ++ ms, ?_, fun hr => by rw [z hr]; rfl⟩
  rw [e]
  refine (h.keepsD hg.keeps).add ns nd (fun r hr => ⟨Nat.le_trans hn (ok r hr).1, (ok r hr).2⟩) fun r hr hm => ?_
  have := (Array.getElem?_eq_some_iff.1 (h.at_ r hm)).1
  have := (ok r hr).1
  omega
theorem pend_run {p : Pend} (h : Callable P p.g) (w : World) : (invoke p.d.target p.d.args).run P w = .ok (.enter p.g p.args.toArray) w := by
  have e : p.d.args ++ p.cap.toArray = p.args.toArray := by simp [Pend.d, Pend.args]
  show (callFunc p.g (p.d.args ++ p.cap.toArray)).run P w = _
  rw [e]
  exact callFunc_run h _ _
theorem leaves_of {fn : Func} {tmps : Array Value} {R : Ending → World → Prop} {rg : Bool} {w0 : World} {K : World → Prop} {KP : List PanicEntry → World → Prop}
    (hK : ∀ w', KeepsD w0 w' → K w' → ∃ v, (results fn tmps).run P w' = .ok v w' ∧ R (.returned v) w') (hP : ∀ ch w', KeepsD w0 w' → KP ch w' → R (.panicked ch) w') :
    ∀ (l : List Deferred) (ms : List Nat) (ds : List Pend) (u : FrameMode) (w : World), Mixed w0.heap.size w ms ds l → (rg = false → ms = []) → leaveX P rg w0.heap.size K KP ds u w → KeepsD w0 w →
      LeavesInM Fence.wide 0 P fn tmps R l u w
  | [], ms, ds, u, w, hm, hr, h, hk => by
    cases hm
    cases u with
    | run => exact h.elim
    | returning => exact hK w hk (outR_now h)
    | panicking ch => exact hP ch w hk (outR_now h)
  | d :: l, ms, ds, u, w, hm, hr, h, hk => by
    have hu : u ≠ .run := by
      intro e; subst e
      cases ds <;> exact h.elim
    cases hm with
    | @mark r ms' _ _ h1 h2 h3 h4 =>
      cases hrg : rg with
      | false => cases hr hrg
      | true =>
        subst hrg
        have at_ : ∀ k, ({ w with heap := w.heap.setIfInBounds r (.deferred none) } : World).heap[k]? = if r = k then some (.deferred none) else w.heap[k]? := by
          intro k
          simp only [Array.getElem?_setIfInBounds]
          split
          · rename_i e; subst e; simp [(Array.getElem?_eq_some_iff.1 h2).1]
          · rfl
        have hs : ShutD w0.heap.size w { w with heap := w.heap.setIfInBounds r (.deferred none) } := by
          refine ⟨rfl, rfl, rfl, by simp, fun k => ?_⟩
          rw [at_]
          split
          · rename_i e; subst e; exact .inr ⟨h1, h2, rfl⟩
          · exact .inl rfl
        refine ⟨hu, .inl ⟨r, _, rfl, take_run h2, ?_⟩⟩
        refine leaves_of hK hP l ms' ds u _ (h4.keeps fun k hk' => ?_) (fun h => by cases h) (leaveX_shut h hs) (hk.shut hs)
        rw [at_, if_neg (fun e : r = k => h3 (e ▸ hk'))]
    | @pend p _ ds' _ h4 =>
      have key : XPD P p.g p.args u w (fun u' w' => leaveX P rg w0.heap.size K KP ds' (settle u') w') fun ch u' w' => leaveX P rg w0.heap.size K KP ds' (raised u' ch) w' := by
        cases u with
        | run => exact absurd rfl hu
        | returning => exact outR_now h
        | panicking c => exact outR_now h
      refine ⟨hu, .inr ⟨(fun h => by cases h), .func p.g, p.cap.toArray, p.g, p.args.toArray, rfl, pend_run key.1 w, fun _ _ => trivial, ?_⟩⟩
      refine key.2.mono fun e u' w' hh => ?_
      cases e with
      | returned v => exact leaves_of hK hP l ms ds' _ w' (h4.keepsD hh.1) hr hh.2 (hk.trans hh.1)
      | panicked ch => exact leaves_of hK hP l ms ds' _ w' (h4.keepsD hh.1) hr hh.2 (hk.trans hh.1)
      | outgrown => exact hh.2.elim

/-- what code does, one piece behind the other -/
def wpC (F : Fence) (P : Program) (Q : Exit → Act → World → Prop) : List Code → Act → World → Prop
  | [], a, w => Q .normal a w
  | c :: cs, a, w => c.wpIn F 0 P (Exit.then (wpC F P Q cs) Q) a w
theorem then_then {k k' : Act → World → Prop} {Q : Exit → Act → World → Prop} : Exit.then k (Exit.then k' Q) = Exit.then k Q := by
  funext e a w
  cases e <;> rfl
theorem wpC_append {F : Fence} {Q : Exit → Act → World → Prop} : ∀ (l1 l2 : List Code), wpC F P Q (l1 ++ l2) = wpC F P (Exit.then (wpC F P Q l2) Q) l1
  | [], l2 => rfl
  | c :: l1, l2 => by
    funext a w
    simp only [List.cons_append, wpC, wpC_append l1 l2, then_then]
theorem wpC_flat {F : Fence} : ∀ (c : Code) (Q : Exit → Act → World → Prop) (a : Act) (w : World), wpC F P Q (flatS c) a w → c.wpIn F 0 P Q a w := by
  have one : ∀ (c : Code) (Q : Exit → Act → World → Prop) (a : Act) (w : World), wpC F P Q [c] a w → c.wpIn F 0 P Q a w := by
    intro c Q a w h
    refine Code.wpIn_mono (fun e a w h => ?_) h
    cases e <;> exact h
  intro c
  induction c with
  | seq x y ih1 ih2 =>
    intro Q a w h
    simp only [flatS] at h
    rw [wpC_append] at h
    refine wpIn_seq (ih1 _ _ _ ?_)
    have e : (Exit.then (y.wpIn F 0 P Q) Q) = Exit.then (y.wpIn F 0 P Q) (Exit.then (wpC F P Q (flatS y)) Q) := then_then.symm
    revert h
    have mono : ∀ (l : List Code) (Q1 Q2 : Exit → Act → World → Prop) (a : Act) (w : World), (∀ e a w, Q1 e a w → Q2 e a w) → wpC F P Q1 l a w → wpC F P Q2 l a w := by
      intro l
      induction l with
      | nil => intro Q1 Q2 a w h h1; exact h _ _ _ h1
      | cons c l ih =>
        intro Q1 Q2 a w h h1
        refine Code.wpIn_mono (fun e a w h2 => ?_) h1
        cases e with
        | normal => exact ih _ _ _ _ h h2
        | exit i => exact h _ _ _ h2
        | goto i => exact h _ _ _ h2
        | ret => exact h _ _ _ h2
        | panic i => exact h _ _ _ h2
        | outgrown => exact h _ _ _ h2
    intro h
    refine mono _ _ _ _ _ (fun e a w h2 => ?_) h
    cases e with
    | normal => exact ih2 _ _ _ h2
    | exit i => exact h2
    | goto i => exact h2
    | ret => exact h2
    | panic i => exact h2
    | outgrown => exact h2
  | _ => exact one _

def Fin (w0 : World) (N : Nat) (rg : Bool) (a : Act) (w : World) (ds : List Pend) (K : Env → World → Prop) : Prop :=
  ∃ ms ρ, a.tmps.size = N ∧ KeepsD w0 w ∧ Mixed w0.heap.size w ms ds a.defers ∧ (rg = false → ms = []) ∧ Agree ρ a ∧ K ρ w
def postD (w0 : World) (N : Nat) (rg : Bool) (fin : List Pend → Env → World → Prop) (pk : List PanicEntry → Act → World → Prop) : Exit → Act → World → Prop := fun e a w =>
  match e with
  | .normal => ∃ ds, Fin w0 N rg a w ds (fin ds)
  | .ret => ∃ ds, Fin w0 N rg a w ds (fin ds)
  | .panic ch => pk ch a w
  | _ => False
def PkD (w0 : World) (N : Nat) (rg : Bool) (KP : List PanicEntry → World → Prop) (pf : List Pend → Env → List PanicEntry → World → Prop) (ch : List PanicEntry) (a : Act) (w : World) : Prop :=
  (Fin w0 N rg a w [] fun _ w => KP ch w) ∨ ∃ ds, Fin w0 N rg a w ds fun ρ w => pf ds ρ ch w
def rngsL : List Code → Bool
  | [] => false
  | c :: cs => rngs c || rngsL cs
def flatL : List Code → Bool
  | [] => true
  | c :: cs => flat true c && flatL cs
theorem del_off {ρ : Env} {a a' : Act} {W : List Nat} (h : Agree ρ a) (ho : ∀ t, t ∉ W → a'.tmps[t]? = a.tmps[t]?) : Agree (ρ.del W) a' := by
  intro t v hv
  obtain ⟨h1, h2⟩ := del_eq hv
  rw [ho t h1]
  exact h t v h2
theorem mem_l {A B : List Nat} {t : Nat} (h : t ∉ A ++ B) : t ∉ A ∧ t ∉ B := ⟨fun hh => h (List.mem_append_left _ hh), fun hh => h (List.mem_append_right _ hh)⟩
theorem xwD_sound (hT : TabOk P T) (hm : P.follows .mixedOrders = true) {fin : List Pend → Env → World → Prop} {pf : List Pend → Env → List PanicEntry → World → Prop} {w0 : World} {N : Nat} {rg : Bool} {KP : List PanicEntry → World → Prop} :
    ∀ (ad : AD) (cs : List Code) (ds : List Pend) (ms : List Nat) (ρ : Env) (a : Act) (w : World) (kp : List PanicEntry → World → Prop), xwD P T fin pf ad cs ds ρ w kp → flatL cs = true → (rg = false → rngsL cs = false) → lts N (wrL cs) = true →
      a.tmps.size = N → KeepsD w0 w → Mixed w0.heap.size w ms ds a.defers → (rg = false → ms = []) → Agree ρ a →
      (∀ ch a' w' ms', a'.tmps.size = N → (∀ t, t ∉ wrL cs → a'.tmps[t]? = a.tmps[t]?) → KeepsD w0 w' → Mixed w0.heap.size w' ms' ds a'.defers → (rg = false → ms' = []) → kp ch w' → PkD w0 N rg KP pf ch a' w') →
      wpC Fence.wide P (postD w0 N rg fin (PkD w0 N rg KP pf)) cs a w := by
  intro ad
  induction ad with
  | done =>
    intro cs ds ms ρ a w kp h _ _ _ hN hk hM hr hA _
    cases cs with
    | nil => exact ⟨ds, ms, ρ, hN, hk, hM, hr, hA, h⟩
    | cons c cs => exact h.elim
  | pl x r ih =>
    intro cs ds ms ρ a w kp h hf hg hl hN hk hM hr hA hP
    cases cs with
    | nil => exact h.elim
    | cons c cs =>
      simp only [flatL, Bool.and_eq_true] at hf
      simp only [wrL, lts_append] at hl
      have hg' : rg = false → rngs c = false ∧ rngsL cs = false := fun e => or_false_of (hg e)
      have hlt : lts a.tmps.size (wr c) = true := by rw [hN]; exact hl.1
      refine Code.wpIn_mono (fun e a' w' hp => ?_) (xw_sound hT hm x c ρ w _ a none h hf.1 hA hlt)
      cases e with
      | normal =>
        obtain ⟨ho, ρ', hA', hx⟩ := hp
        obtain ⟨ms', hM', hz⟩ := hM.good ho hk.size
        refine ih cs ds ms' ρ' a' w' kp hx hf.2 (fun e => (hg' e).2) hl.2 (ho.size.trans hN) (hk.trans ho.keeps) hM' (fun e => (hz (hg' e).1).trans (hr e)) hA' ?_
        intro ch a2 w2 ms2 h1 h2 h3 h4 h5 h6
        exact hP ch a2 w2 ms2 h1 (fun t ht => (h2 t (mem_l ht).2).trans (ho.same t (mem_l ht).1)) h3 h4 h5 h6
      | ret =>
        obtain ⟨ho, ρ', hA', hx⟩ := hp
        obtain ⟨ms', hM', hz⟩ := hM.good ho hk.size
        exact ⟨ds, ms', ρ', ho.size.trans hN, hk.trans ho.keeps, hM', fun e => (hz (hg' e).1).trans (hr e), hA', hx⟩
      | panic ch =>
        obtain ⟨ho, hx⟩ := hp
        obtain ⟨ms', hM', hz⟩ := hM.good ho hk.size
        exact hP ch a' w' ms' (ho.size.trans hN) (fun t ht => ho.same t (mem_l ht).1) (hk.trans ho.keeps) hM' (fun e => (hz (hg' e).1).trans (hr e)) hx
      | exit i => obtain ⟨_, _, _, hx⟩ := hp; exact hx.elim
      | goto l => exact hp.elim
      | outgrown => exact hp.elim
  | plJ outs x r ih =>
    intro cs ds ms ρ a w kp h hf hg hl hN hk hM hr hA hP
    cases cs with
    | nil => exact h.elim
    | cons c cs =>
      simp only [flatL, Bool.and_eq_true] at hf
      simp only [wrL, lts_append] at hl
      have hg' : rg = false → rngs c = false ∧ rngsL cs = false := fun e => or_false_of (hg e)
      have hlt : lts a.tmps.size (wr c) = true := by rw [hN]; exact hl.1
      refine Code.wpIn_mono (fun e a' w' hp => ?_) (xw_sound hT hm x c ρ w _ a none (jn_use h) hf.1 hA hlt)
      cases e with
      | normal =>
        obtain ⟨ho, ρ1, hA1, hx⟩ := hp
        obtain ⟨ρ', hA', hx⟩ := kb_mk (outs := outs) (W := wr c) (ρ := ρ) (K := fun ρ w => xwD P T fin pf r cs ds ρ w kp) hx hA1 (ho.agree hA)
        obtain ⟨ms', hM', hz⟩ := hM.good ho hk.size
        refine ih cs ds ms' ρ' a' w' kp hx hf.2 (fun e => (hg' e).2) hl.2 (ho.size.trans hN) (hk.trans ho.keeps) hM' (fun e => (hz (hg' e).1).trans (hr e)) hA' ?_
        intro ch a2 w2 ms2 h1 h2 h3 h4 h5 h6
        exact hP ch a2 w2 ms2 h1 (fun t ht => (h2 t (mem_l ht).2).trans (ho.same t (mem_l ht).1)) h3 h4 h5 h6
      | ret =>
        obtain ⟨ho, ρ', hA', hx⟩ := hp
        obtain ⟨ms', hM', hz⟩ := hM.good ho hk.size
        exact ⟨ds, ms', ρ', ho.size.trans hN, hk.trans ho.keeps, hM', fun e => (hz (hg' e).1).trans (hr e), hA', hx⟩
      | panic ch =>
        obtain ⟨ho, hx⟩ := hp
        obtain ⟨ms', hM', hz⟩ := hM.good ho hk.size
        exact hP ch a' w' ms' (ho.size.trans hN) (fun t ht => ho.same t (mem_l ht).1) (hk.trans ho.keeps) hM' (fun e => (hz (hg' e).1).trans (hr e)) hx
      | exit i => obtain ⟨_, _, _, hx⟩ := hp; exact hx.elim
      | goto l => exact hp.elim
      | outgrown => exact hp.elim
  | dfr n r ih =>
    intro cs ds ms ρ a w kp h hf hg hl hN hk hM hr hA hP
    cases cs with
    | nil => exact h.elim
    | cons c cs =>
      cases c with
      | region id ops d =>
        cases d with
        | true => exact h.elim
        | false =>
          simp only [flatL, Bool.and_eq_true] at hf
          simp only [wrL, lts_append] at hl
          have hg' : rg = false → rngs (.region id ops false) = false ∧ rngsL cs = false := fun e => or_false_of (hg e)
          have hlt : lts a.tmps.size (dsts ops.toList) = true := by rw [hN]; exact hl.1
          refine wpIn_region_list ?_
          have := xOpsN_sound hT (ro := none) (ops := ops.toList) (KP := kp) (Q := Exit.then (wpC Fence.wide P (postD w0 N rg fin (PkD w0 N rg KP pf)) cs) (postD w0 N rg fin (PkD w0 N rg KP pf))) (r := []) n ops.toList ρ a w _ h hA hlt
            (fun ch a' w' ho hk' hx => hP ch a' w' ms (ho.size.trans hN) (fun t ht => ho.same t (mem_l ht).1) (hk.trans hk') (by rw [ho.defers]; exact hM.keepsD hk') hr hx) ?_
          · show wpL none P ops _ ops.toList a w
            simpa using this
          rintro l' ρ' a' w' hk' hx hA' ⟨l0, hl0, ho⟩
          split at hx
          · rename_i o
            split at hx
            · rename_i f args ts hop
              obtain ⟨hgd, hx⟩ := bif_imp hx
              obtain ⟨fv, hfv, hx⟩ := need_imp hx
              obtain ⟨vs, hvs, hx⟩ := need_imp hx
              unfold pendK at hx
              split at hx
              · rename_i g first cap _
                have hfv' := hA'.eval hfv
                have hvs' := evs_arr (fun x v hx => hA'.eval hx) hvs
                show wpListIn (Fw none) 0 P _ _ [o] a' w'
                unfold wpListIn
                rw [if_pos (gOk_wanted hA' hgd)]
                refine ⟨fun _ _ => trivial, ?_⟩
                have hrun : (Oper.semAt (Fw none).round a'.eval o).run P w' = .ok (.defer (Pend.d ⟨g, first.toList ++ vs, cap.toList⟩)) w' := by
                  rw [show (Fw none).round = none from rfl, Oper.semAt_none]
                  simp only [execOp, hop, resolve, hfv', hvs', Deferred.ofValue, Sem.run_bind, Sem.run_pure, Result.andThen_ok, Pend.d]
                  congr 3
                  apply Array.ext'
                  simp
                rw [hrun, Oper.uponIn_defer]
                refine wpListIn_nil ?_
                have hmem : ∀ t, o.dst = some t → t ∈ dsts ops.toList := by
                  intro t ht
                  rw [hl0, dsts_append]
                  exact List.mem_append_right _ (by simp [dsts, ht])
                have hd : ∀ t, o.dst = some t → t < a'.tmps.size := by
                  intro t ht
                  rw [ho.size]
                  exact lts_mem hlt t (hmem t ht)
                have hsame : ∀ t, t ∉ dsts ops.toList → (({ a' with defers := Pend.d ⟨g, first.toList ++ vs, cap.toList⟩ :: a'.defers } : Act).put o.dst undef).tmps[t]? = a.tmps[t]? := by
                  intro t ht
                  have o1 := Off.put (W := dsts ops.toList) (a := { a' with defers := Pend.d ⟨g, first.toList ++ vs, cap.toList⟩ :: a'.defers }) (d := o.dst) hmem undef
                  refine (o1.same t ht).trans (ho.same t fun hh => ht ?_)
                  rw [hl0, dsts_append]
                  exact List.mem_append_left _ hh
                have hsz : (({ a' with defers := Pend.d ⟨g, first.toList ++ vs, cap.toList⟩ :: a'.defers } : Act).put o.dst undef).tmps.size = N := by
                  rw [put_size]; exact ho.size.trans hN
                have hdf : (({ a' with defers := Pend.d ⟨g, first.toList ++ vs, cap.toList⟩ :: a'.defers } : Act).put o.dst undef).defers = Pend.d ⟨g, first.toList ++ vs, cap.toList⟩ :: a'.defers := by
                  cases o.dst <;> rfl
                have hA2 : Agree (ρ'.put o.dst undef) (({ a' with defers := Pend.d ⟨g, first.toList ++ vs, cap.toList⟩ :: a'.defers } : Act).put o.dst undef) :=
                  Agree.put (a := { a' with defers := Pend.d ⟨g, first.toList ++ vs, cap.toList⟩ :: a'.defers }) hA' hd undef
                have hM2 : Mixed w0.heap.size w' ms (⟨g, first.toList ++ vs, cap.toList⟩ :: ds) (({ a' with defers := Pend.d ⟨g, first.toList ++ vs, cap.toList⟩ :: a'.defers } : Act).put o.dst undef).defers := by
                  rw [hdf, ho.defers]
                  exact .pend (hM.keepsD hk')
                refine ih cs (⟨g, first.toList ++ vs, cap.toList⟩ :: ds) ms (ρ'.put o.dst undef) _ w' _ (hx (fun ch w => pf (⟨g, first.toList ++ vs, cap.toList⟩ :: ds) ((ρ'.put o.dst undef).del (wrL cs)) ch w) fun _ _ h => h)
                  hf.2 (fun e => (hg' e).2) hl.2 hsz (hk.trans hk') hM2 hr hA2 ?_
                intro ch a2 w2 ms2 h1 h2 h3 h4 h5 h6
                exact .inr ⟨_, ms2, _, h1, h3, h4, h5, del_off hA2 h2, h6⟩
              · exact hx.elim
            · exact hx.elim
          · exact hx.elim
      | _ => exact h.elim
def fitsD (fn : Func) (n : Nat) : Bool :=
  match fn.body with
  | none => false
  | some c => lts fn.ntmps (wrL (flatS c)) && flatL (flatS c) && !(rngsL (flatS c) && !(rngs c)) && Nat.ble n fn.ntmps && !(fn.name == "runtime.NumGoroutine")
/-- THE LAW: a function that defers calls. -/
theorem xfuncD (hT : TabOk P T) (hm : P.follows .mixedOrders = true) {f : FuncId} {fn : Func} (hf : P.funcs[f]? = some fn) (ad : AD) {args : List Value} {w : World} {K : Value → World → Prop} {KP : List PanicEntry → World → Prop}
    (hfit : fitsD fn args.length = true) (h : xfnD P T ad fn args w K KP) : XCP P f args w K KP := by
  unfold fitsD at hfit
  unfold xfnD at h
  split at hfit
  · cases hfit
  · rename_i c hc
    rw [hc] at h
    simp only [Bool.and_eq_true, Bool.not_eq_true', Nat.ble_eq] at hfit
    obtain ⟨⟨⟨⟨h1, h1'⟩, h4⟩, h2⟩, h3⟩ := hfit
    refine ⟨⟨fn, hf, by rw [hc]; rfl, h3⟩, ?_⟩
    have main : CallsIn Fence.wide 0 P f args.toArray w fun e w' => KeepsD w w' ∧ match e with
        | .returned v => K v w'
        | .panicked ch => KP ch w'
        | .outgrown => False := by
      refine callsIn_of_wp_marks hf hc trivial (Code.wpIn_mono ?_ (wpC_flat c _ _ _ (xwD_sound hT hm (w0 := w) (N := fn.ntmps) (rg := rngs c) (KP := fun ch w' => outR (rngs c) w.heap.size (KP ch) w') ad (flatS c) [] [] _ _ w _ h h1' ?_ h1 ?_ (.refl _) .nil (fun _ => rfl) (agree0 args (fn.ntmps - args.toArray.size)) ?_)))
      · intro e a' w' hp
        have go : ∀ {ds : List Pend} {u : FrameMode}, Fin w fn.ntmps (rngs c) a' w' ds (fun ρ w' => leaveX P (rngs c) w.heap.size (fun w2 => xres T fn.results.toList ρ w2 [] K) KP ds u w') →
            LeavesInM Fence.wide 0 P fn a'.tmps (fun e w' => KeepsD w w' ∧ match e with
              | .returned v => K v w'
              | .panicked ch => KP ch w'
              | .outgrown => False) a'.defers u w' := by
          rintro ds u ⟨ms, ρ, hN, hk, hM, hr, hA, hx⟩
          exact leaves_of (w0 := w) (rg := rngs c) (fun w2 hk2 hx2 => by obtain ⟨v, hv, hx2⟩ := results_run hT hx2 hA; exact ⟨v, hv, hk2, hx2⟩) (fun ch w2 hk2 hx2 => ⟨hk2, hx2⟩) a'.defers ms ds u w' hM hr hx hk
        cases e with
        | normal => obtain ⟨ds, hp⟩ := hp; exact go hp
        | ret => obtain ⟨ds, hp⟩ := hp; exact go hp
        | panic ch =>
          rcases hp with ⟨ms, ρ, hN, hk, hM, hr, hA, hx⟩ | ⟨ds, hp⟩
          · exact leaves_of (w0 := w) (rg := rngs c) (K := fun _ => False) (KP := KP) (fun _ _ h => h.elim) (fun ch w2 hk2 hx2 => ⟨hk2, hx2⟩) a'.defers ms [] (.panicking ch) w' hM hr hx hk
          · exact go hp
        | exit i => exact hp.elim
        | goto l => exact hp.elim
        | outgrown => exact hp.elim
      · intro e
        cases hz : rngsL (flatS c) with
        | false => rfl
        | true => rw [hz, e] at h4; cases h4
      · simp; omega
      · intro ch a' w' ms' e1 _ e2 e3 e4 e5
        exact .inl ⟨ms', fun _ => none, e1, e2, e3, e4, (fun t v h => by cases h), e5⟩
    exact callsIn_wide.1 main
end Go.X
