/- Code, loops, ranges over functions, whole functions: sound. -/
import Derived.Test.YtfeaahclpnbklaaDoorX6c
namespace Go.X
variable {P : Program} {T : Tab} {ro : Option Nat}

def markD (r : Nat) : Deferred := { target := .collected r, args := #[] }
/-- what a piece of code may have turned of its activation: slots of W; marks of loops over functions, whose blocks are new and lie as they were laid -/
structure Good (rg : Bool) (W : List Nat) (a : Act) (w : World) (a' : Act) (w' : World) : Prop where
  size : a'.tmps.size = a.tmps.size
  same : ∀ t, t ∉ W → a'.tmps[t]? = a.tmps[t]?
  keeps : KeepsD w w'
  marks : ∃ ms : List Nat, a'.defers = ms.map markD ++ a.defers ∧ ms.Nodup ∧ (∀ r ∈ ms, w.heap.size ≤ r ∧ w'.heap[r]? = some (.deferred (some []))) ∧ (rg = false → ms = [])
theorem Good.refl (rg : Bool) (W : List Nat) (a : Act) (w : World) : Good rg W a w a w := ⟨rfl, fun _ _ => rfl, .refl w, [], rfl, .nil, (fun r hr => by cases hr), fun _ => rfl⟩
theorem Good.of_off {rg : Bool} {W : List Nat} {a a' : Act} {w w' : World} (h : Off W a a') (hk : KeepsD w w') : Good rg W a w a' w' :=
  ⟨h.size, h.same, hk, [], h.defers, .nil, (fun r hr => by cases hr), fun _ => rfl⟩
theorem Good.trans {g1 g2 rg : Bool} {W1 W2 W : List Nat} {a b c : Act} {u v w : World} (h : Good g1 W1 a u b v) (h' : Good g2 W2 b v c w) (h1 : ∀ t, t ∈ W1 → t ∈ W) (h2 : ∀ t, t ∈ W2 → t ∈ W)
    (hg : rg = false → g1 = false ∧ g2 = false) : Good rg W a u c w := by
  obtain ⟨ms, e, nd, ok, z⟩ := h.marks
  obtain ⟨ms', e', nd', ok', z'⟩ := h'.marks
  refine ⟨h'.size.trans h.size, fun t ht => (h'.same t fun hh => ht (h2 t hh)).trans (h.same t fun hh => ht (h1 t hh)), h.keeps.trans h'.keeps, ms' ++ ms, by rw [e', e]; simp, ?_, ?_, ?_⟩
  · rw [List.nodup_append]
    refine ⟨nd', nd, fun r hr s hs e => ?_⟩
    subst e
    have := (ok' r hr).1
    have := (Array.getElem?_eq_some_iff.1 (ok r hs).2).1
    omega
  · intro r hr
    rcases List.mem_append.1 hr with hr | hr
    · exact ⟨Nat.le_trans h.keeps.size (ok' r hr).1, (ok' r hr).2⟩
    · exact ⟨(ok r hr).1, h'.keeps.def_ r (ok r hr).2⟩
  · intro hz
    rw [z (hg hz).1, z' (hg hz).2]; rfl
theorem Good.agree {rg : Bool} {W : List Nat} {a a' : Act} {w w' : World} (ho : Good rg W a w a' w') {ρ : Env} (h : Agree ρ a) : Agree (ρ.del W) a' := by
  intro t v hv
  obtain ⟨h1, h2⟩ := del_eq hv
  rw [ho.same t h1]
  exact h t v h2
def post (Q : XQ) (rg : Bool) (W : List Nat) (a : Act) (w : World) : Exit → Act → World → Prop := fun e a' w' =>
  match e with
  | .normal => Good rg W a w a' w' ∧ ∃ ρ', Agree ρ' a' ∧ Q.normal ρ' w'
  | .exit i => Good rg W a w a' w' ∧ ∃ ρ', Agree ρ' a' ∧ Q.exit i ρ' w'
  | .ret => Good rg W a w a' w' ∧ ∃ ρ', Agree ρ' a' ∧ Q.ret ρ' w'
  | .panic ch => Good rg W a w a' w' ∧ Q.panic ch w'
  | _ => False
theorem post_trans {Q : XQ} {g1 g2 rg : Bool} {W1 W2 W : List Nat} {a b : Act} {u v : World} (h : Good g1 W1 a u b v) (h1 : ∀ t, t ∈ W1 → t ∈ W) (h2 : ∀ t, t ∈ W2 → t ∈ W) (hg : rg = false → g1 = false ∧ g2 = false)
    {e : Exit} {a' : Act} {w' : World} (hp : post Q g2 W2 b v e a' w') : post Q rg W a u e a' w' := by
  cases e with
  | normal => exact ⟨h.trans hp.1 h1 h2 hg, hp.2⟩
  | exit i => exact ⟨h.trans hp.1 h1 h2 hg, hp.2⟩
  | ret => exact ⟨h.trans hp.1 h1 h2 hg, hp.2⟩
  | panic ch => exact ⟨h.trans hp.1 h1 h2 hg, hp.2⟩
  | goto l => exact hp.elim
  | outgrown => exact hp.elim
theorem Outs.vals_put {outs : Outs} {ρ ρ' : Env} {a' : Act} {vs : List Value} (h : outs.vals ρ' = some vs) (hA : Agree ρ' a') (hA0 : Agree ρ a') : Agree (outs.put ρ vs) a' := by
  induction outs generalizing vs with
  | nil => cases vs <;> exact hA0
  | cons x r ih =>
    simp only [Outs.vals] at h
    split at h
    · rename_i v vs' h1 h2
      simp only [Option.some.injEq] at h
      subst h
      exact (ih h2).set (hA _ _ h1)
    · cases h
/-- what is handed to a join is what stands behind it -/
theorem kb_mk {outs : Outs} {W : List Nat} {ρ : Env} {K : Env → World → Prop} {ρ' : Env} {w' : World} {a' : Act}
    (h : kbAt outs (KFun.mk outs.ks fun vs w => K (outs.put (ρ.del W) vs) w) ρ' w') (hA' : Agree ρ' a') (hA : Agree (ρ.del W) a') : ∃ ρ2, Agree ρ2 a' ∧ K ρ2 w' := by
  unfold kbAt at h
  obtain ⟨vs, hvs, h⟩ := need_imp h
  obtain ⟨p, hp, h⟩ := need_imp h
  refine ⟨outs.put (ρ.del W) vs, Outs.vals_put hvs hA' hA, ?_⟩
  rw [KFun.ap_mk hp] at hp
  simp only [Option.some.injEq] at hp
  rw [← hp] at h
  exact h
theorem kall_self {ks : List Sc} (g : List Value → World → Prop) : ∀ (vs : List Value), (∃ x, KFun.ap ks (KFun.mk ks g) vs = some x) → KFun.ap ks (KFun.mk ks g) vs = some (g vs) :=
  fun _ ⟨_, h⟩ => KFun.ap_mk h g
theorem Sc.all_imp {s : Sc} {p : Value → Prop} (h : ∀ v, (∃ x, s.ap (s.mk fun v => v) v = some x) → p v) : s.all p := by
  cases s <;> simp only [Sc.all] <;> intros <;> apply h <;> simp [Sc.ap, Sc.mk]
theorem Kall_typed : ∀ {ks : List Sc} {p : List Value → Prop} (g : List Value → World → Prop), (∀ vs, KFun.ap ks (KFun.mk ks g) vs = some (g vs) → p vs) → Kall ks p
  | [], p, g, h => h [] rfl
  | s :: r, p, g, h => by
    refine Sc.all_imp fun v hv => Kall_typed (fun vs => g (v :: vs)) fun vs hvs => h (v :: vs) ?_
    simp only [KFun.ap]
    obtain ⟨x, hx⟩ := hv
    have : s.ap (s.mk fun v => KFun.mk r fun vs => g (v :: vs)) v = some (KFun.mk r fun vs => g (v :: vs)) := Sc.ap_mk hx _
    rw [show KFun.mk (s :: r) g = s.mk fun v => KFun.mk r fun vs => g (v :: vs) from rfl, this]
    exact hvs
theorem jn_use {outs : Outs} {W : List Nat} {ρ : Env} {K : Env → World → Prop} {B : (Env → World → Prop) → Prop} (h : jn outs W ρ K B) :
    B (kbAt outs (KFun.mk outs.ks fun vs w => K (outs.put (ρ.del W) vs) w)) := by
  refine h _ (Kall_typed (fun vs w => K (outs.put (ρ.del W) vs) w) fun vs hvs w hk => ?_)
  rw [hvs]
  exact hk
theorem vals_act {outs : Outs} {ρ : Env} {a : Act} {us : List Value} (hA : Agree ρ a) (h : outs.vals ρ = some us) : Outs.vals (fun t => a.tmps[t]?) outs = some us := by
  induction outs generalizing us with
  | nil => exact h
  | cons x r ih =>
    simp only [Outs.vals] at h ⊢
    split at h
    · rename_i v vs' h1 h2
      rw [hA _ _ h1, ih h2]
      exact h
    · cases h
theorem post_free {Q : XQ} {rg : Bool} {W : List Nat} {a : Act} {w : World} : PanicFree W (post Q rg W a w) := by
  intro c a' w' d v hd h
  obtain ⟨g, q⟩ := h
  refine ⟨⟨(put_size a' d v).symm.trans g.size, fun t ht => ?_, g.keeps, ?_⟩, q⟩
  · have o := Off.put (W := W) (a := a') (d := d) hd v
    exact (o.same t ht).symm.trans (g.same t ht)
  · have e : (a'.put d v).defers = a'.defers := by cases d <;> rfl
    rw [← e]; exact g.marks
theorem or_false_of {a b : Bool} (h : (a || b) = false) : a = false ∧ b = false := by cases a <;> cases b <;> simp_all
theorem yield_run {l : Nat} {r : Loop} {w : World} (h : LoopIs w l r) {args : List Value} (hs : r.params.size = args.length) :
    (Instr.yield l args.toArray).run P w = .ok (.round l r.fn ((r.params.zip args.toArray).foldl (fun tmps (x : Tmp × Value) => tmps.setIfInBounds x.1 x.2) r.tmps) r.assign r.body) w := by
  unfold Instr.yield Instr.getLoop getObj
  unfold LoopIs at h
  simp [Sem.run_bind, Sem.run, h, hs, Result.andThen]
theorem putAll_agree : ∀ {ps : List Nat} {args : List Value} {ρ ρ' : Env} {a : Act}, putAll ρ ps args = some ρ' → Agree ρ a → lts a.tmps.size ps = true →
    ps.length = args.length ∧ Agree ρ' { tmps := (ps.zip args).foldl (fun tmps (x : Tmp × Value) => tmps.setIfInBounds x.1 x.2) a.tmps, defers := [] } ∧
      ((ps.zip args).foldl (fun tmps (x : Tmp × Value) => tmps.setIfInBounds x.1 x.2) a.tmps).size = a.tmps.size
  | [], [], ρ, ρ', a, h, hA, _ => by simp only [putAll, Option.some.injEq] at h; subst h; exact ⟨rfl, hA, rfl⟩
  | [], _ :: _, ρ, ρ', a, h, _, _ => by cases h
  | _ :: _, [], ρ, ρ', a, h, _, _ => by cases h
  | t :: r, v :: vs, ρ, ρ', a, h, hA, hl => by
    simp only [putAll] at h
    simp only [lts, Bool.and_eq_true, Nat.blt_eq] at hl
    have hA' : Agree (ρ.set t v) (a.put (some t) v) := hA.put (d := some t) (fun x hx => by cases hx; exact hl.1) v
    obtain ⟨h1, h2, h3⟩ := putAll_agree h hA' (by rw [put_size]; exact hl.2)
    refine ⟨by simp [h1], h2, ?_⟩
    rw [show (List.zip (t :: r) (v :: vs)).foldl (fun tmps (x : Tmp × Value) => tmps.setIfInBounds x.1 x.2) a.tmps = (List.zip r vs).foldl (fun tmps (x : Tmp × Value) => tmps.setIfInBounds x.1 x.2) (a.put (some t) v).tmps from rfl, h3, put_size]
theorem begin_run {l : Nat} {r : Loop} {w : World} (h : LoopIs w l r) (hr : r.state = .ready) : (Instr.beginRound l).run P w = .ok () (setLoop w l { r with state := .busy }) := by
  unfold Instr.beginRound Instr.getLoop getObj setObj
  unfold LoopIs at h
  simp [Sem.run_bind, Sem.run, h, hr, Result.andThen, setLoop]
theorem end_run {l : Nat} {r : Loop} {w : World} (h : LoopIs w l r) (j : Option Code) : (Instr.endRound l j).run P w = .ok (.bool j.isNone) (setLoop w l { r with state := if j.isNone then .ready else .done, pending := j }) := by
  unfold Instr.endRound Instr.getLoop getObj setObj
  unfold LoopIs at h
  simp [Sem.run_bind, Sem.run, h, Result.andThen, setLoop]
theorem endLoop_run {l : Nat} {r : Loop} {w : World} (h : LoopIs w l r) (hr : r.state ≠ .busy) : (Instr.endLoop l).run P w = .ok r.pending (setLoop w l { r with state := .exhausted }) := by
  unfold Instr.endLoop Instr.getLoop getObj setObj
  unfold LoopIs at h
  simp [Sem.run_bind, Sem.run, h, hr, Result.andThen, setLoop]
theorem KeepsD.setLoop {w w' : World} (h : KeepsD w w') {l : Nat} {r : Loop} (hl : LoopIs w' l r) (r' : Loop) : KeepsD w (setLoop w' l r') := by
  refine ⟨h.os, h.tape, h.output, by simpa [X.setLoop] using h.size, fun k hk => ?_⟩
  have h1 := h.def_ k hk
  unfold LoopIs at hl
  have hne : ¬ l = k := fun e => by subst e; rw [hl] at h1; cases h1
  simp only [X.setLoop, Array.getElem?_setIfInBounds, hne, if_false]
  exact h1
theorem enter_run {fn : FuncId} {tmps : Array Value} {ps : Array Tmp} {c d : Code} {w : World} :
    (Instr.enterLoop fn tmps ps c d none).run P w = .ok (w.heap.size + 1, [markD w.heap.size]) ((w.alloc (.deferred (some []))).alloc (.loop { state := .ready, pending := none, fn, tmps, params := ps, assign := c, body := d, defers := w.heap.size })) := by
  unfold Instr.enterLoop
  simp [Sem.run_bind, Result.andThen, markD]
theorem xcf_calls {gv : Value} {args : List Value} {w : World} {K : Value → World → Prop} {KP : List PanicEntry → World → Prop} (h : XCF P gv args w K KP) :
    ∃ f first cap, gv = .func (.func f) first cap ∧ XCP P f (first.toList ++ (args ++ cap.toList)) w K KP := by
  unfold XCF at h
  split at h
  · exact ⟨_, _, _, rfl, h⟩
  · exact h.elim
theorem range_resolve {a : Act} {g : Operand} {f : FuncId} {first cap : Array Value} (hg : a.eval g = .func (.func f) first cap) (l : Nat) (w : World) :
    (resolve a.eval (rangeCall g l) 0).run P w = .ok { target := .fn (.func f) cap, args := first ++ #[.func (.yield l) #[] #[]] } w := by
  have : Array.map a.eval #[Operand.const (Value.func (Fn.yield l) #[] #[])] = #[Value.func (Fn.yield l) #[] #[]] := by simp [Act.eval]
  simp only [resolve, hg, Deferred.ofValue, this, Sem.run_pure]
theorem orE_imp : ∀ {es : List Nat} {p : Nat → Prop}, orE es p → ∃ i, p i
  | [], _, h => h.elim
  | i :: r, p, h => by
    rcases h with h | h
    · exact ⟨i, h⟩
    · exact orE_imp h
theorem Sc.all_all {s : Sc} {p : Value → Prop} (h : ∀ v, p v) : s.all p := by
  cases s <;> simp only [Sc.all] <;> intros <;> exact h _
theorem Kds_all : ∀ {ks : List Kd} {p : List Value → Prop}, (∀ vs, p vs) → Kds.all ks p
  | [], p, h => h []
  | s :: r, p, h => by
    have : ∀ v, Kds.all r fun vs => p (v :: vs) := fun v => Kds_all fun vs => h _
    cases s with
    | sc s => exact Sc.all_all this
    | agg ks => exact Kall_mk fun vs => this _
theorem loop_eta {r : Loop} (h1 : r.state = .ready) (h2 : r.pending = none) : { r with state := .ready, pending := none } = r := by
  cases r
  simp_all
theorem heap_size_alloc (w : World) (o : Obj) : (w.alloc o).heap.size = w.heap.size + 1 := by simp
theorem stepR_scope {b : Frame} {a : Act} {k : List Item} {cs : List Frame} {w : World} {c : Code} : step P (lone (b.atR a (.code (.scope c) :: k)) cs w) = .next (lone (b.atR a (.code c :: .inScope c :: k)) cs w) :=
  step_lone_go (by simp [stepG, stepG.exec, Frame.atR])
theorem stepR_inScope {b : Frame} {a : Act} {k : List Item} {cs : List Frame} {w : World} {c : Code} : step P (lone (b.atR a (.inScope c :: k)) cs w) = .next (lone (b.atR a k) cs w) :=
  step_lone_go (by simp [stepG, stepG.exec, Frame.atR])
theorem wpIn_scope {F : Fence} {n : Nat} {Q : Exit → Act → World → Prop} {a : Act} {w : World} {c : Code} (h : c.wpIn F n P Q a w) (hg : ∀ l a w, ¬ Q (.goto l) a w) : (Code.scope c).wpIn F n P Q a w := by
  intro b k cs hro hb hr
  have h0 : (lone (b.atR a (.code (.scope c) :: k)) cs w).fenced P F := fenced_calm hb hr rfl
  obtain ⟨e, a₁, w₁, hq, harr⟩ := h b (.inScope c :: k) cs hro hb hr
  cases e with
  | normal => exact ⟨.normal, a₁, w₁, hq, .head h0 stepR_scope (StepsIn.trans harr (.one (fenced_calm hb hr rfl) stepR_inScope))⟩
  | exit id =>
    have hx : exitTo id (.inScope c :: k) = exitTo id k := by simp [exitTo]
    exact ⟨.exit id, a₁, w₁, hq, fun k' hk => .head h0 stepR_scope (harr.1 k' (by rw [hx]; exact hk)),
      fun hr' hk => let ⟨k₁, h1, h2⟩ := harr.2 hr' (by rw [hx]; exact hk); ⟨k₁, h1, .head h0 stepR_scope h2⟩⟩
  | goto l => exact absurd hq (hg _ _ _)
  | ret => exact ⟨_, a₁, w₁, hq, .of_steps (.one h0 stepR_scope) harr⟩
  | panic ch => exact ⟨_, a₁, w₁, hq, .of_steps (.one h0 stepR_scope) harr⟩
  | outgrown => exact ⟨_, a₁, w₁, hq, .of_steps (.one h0 stepR_scope) harr⟩
theorem xw_sound (hT : TabOk P T) (hm : P.follows .mixedOrders = true) : ∀ (an : An) (c : Code) (ρ : Env) (w : World) (Q : XQ) (a : Act) (ro : Option Nat), xw P T an c ρ w Q → flat ro.isNone c = true → Agree ρ a → lts a.tmps.size (wr c) = true →
    c.wpIn (Fw ro) 0 P (post Q (rngs c) (wr c) a w) a w := by
  intro an
  induction an with
  | leaf =>
    intro c ρ w Q a ro h hfl hA hlt
    cases c with
    | skip => exact wpIn_skip ⟨.refl _ _ _ _, ρ, hA, h⟩
    | label l => exact wpIn_label ⟨.refl _ _ _ _, ρ, hA, h⟩
    | exit i => exact wpIn_exit ⟨.refl _ _ _ _, ρ, hA, h⟩
    | ret => exact wpIn_ret ⟨.refl _ _ _ _, ρ, hA, h⟩
    | _ => exact h.elim
  | rg s =>
    intro c ρ w Q a ro h hfl hA hlt
    cases c with
    | region id ops d =>
      cases d with
      | true => exact h.elim
      | false =>
        refine wpIn_region_list ?_
        have := xSegs_sound hT (ro := ro) (Q := post Q (rngs (.region id ops false)) (wr (.region id ops false)) a w) s ops.toList [] ρ a w Q.normal h hA hlt
          (fun ch a' w' ho hk hp => ⟨.of_off ho hk, hp⟩)
          (fun ρ' a' w' hd hk hA' ho => wpListIn_nil ⟨.of_off ho hd, ρ', hA', hk⟩)
        simpa using this
    | _ => exact h.elim
  | rgD od =>
    intro c ρ w Q a ro h hfl hA hlt
    cases c with
    | region id ops d =>
      cases d with
      | false => exact h.elim
      | true => exact xDraw_sound hT hm h post_free hA hlt (fun ch a' w' ho hk hp => ⟨.of_off ho hk, hp⟩) (fun ρ' a' w' hd hk hA' ho => ⟨.of_off ho hd, ρ', hA', hk⟩) id
    | _ => exact h.elim
  | rgDJ outs od =>
    intro c ρ w Q a ro h hfl hA hlt
    cases c with
    | region id ops d =>
      cases d with
      | false => exact h.elim
      | true =>
        have h := jn_use h
        refine xDraw_sound hT hm h post_free hA hlt (fun ch a' w' ho hk hp => ⟨.of_off ho hk, hp⟩) (fun ρ' a' w' hd hk hA' ho => ?_) id
        obtain ⟨ρ2, hA2, hk⟩ := kb_mk (outs := outs) (W := dsts ops.toList) (ρ := ρ) (K := Q.normal) hk hA' (hA.off ho)
        exact ⟨.of_off ho hd, ρ2, hA2, hk⟩
    | _ => exact h.elim
  | rgI R =>
    intro c ρ w Q a ro h hfl hA hlt
    cases c with
    | region id ops d =>
      cases d with
      | false => exact h.elim
      | true => exact xInvR_sound hT hm h post_free hA hlt (fun ch a' w' ho hk hp => ⟨.of_off ho hk, hp⟩) (fun ρ' a' w' hd hk hA' ho => ⟨.of_off ho hd, ρ', hA', hk⟩) id
    | _ => exact h.elim
  | rgIJ outs R =>
    intro c ρ w Q a ro h hfl hA hlt
    cases c with
    | region id ops d =>
      cases d with
      | false => exact h.elim
      | true =>
        have h := jn_use h
        refine xInvR_sound hT hm h post_free hA hlt (fun ch a' w' ho hk hp => ⟨.of_off ho hk, hp⟩) (fun ρ' a' w' hd hk hA' ho => ?_) id
        obtain ⟨ρ2, hA2, hk⟩ := kb_mk (outs := outs) (W := dsts ops.toList) (ρ := ρ) (K := Q.normal) hk hA' (hA.off ho)
        exact ⟨.of_off ho hd, ρ2, hA2, hk⟩
    | _ => exact h.elim
  | scp x ih =>
    intro c ρ w Q a ro h hfl hA hlt
    cases c with
    | scope c => exact wpIn_scope (ih c ρ w Q a ro h hfl hA hlt) (fun l a w h => h)
    | _ => exact h.elim
  | seq x y ih1 ih2 =>
    intro c ρ w Q a ro h hfl hA hlt
    cases c with
    | seq c d =>
      simp only [wr, lts_append] at hlt
      simp only [flat, Bool.and_eq_true] at hfl
      refine wpIn_seq (Code.wpIn_mono ?_ (ih1 c ρ w _ a ro h hfl.1 hA hlt.1))
      intro e a1 w1 hp
      cases e with
      | normal =>
        obtain ⟨ho, ρ1, hA1, hk⟩ := hp
        exact Code.wpIn_mono (fun e2 a2 w2 h2 => post_trans ho (fun t ht => List.mem_append_left _ ht) (fun t ht => List.mem_append_right _ ht) or_false_of h2) (ih2 d ρ1 w1 Q a1 ro hk hfl.2 hA1 (by rw [ho.size]; exact hlt.2))
      | exit i => exact post_trans (e := .exit i) (.refl _ _ a w) (fun t ht => ht) (fun t ht => List.mem_append_left _ ht) (fun h => ⟨h, (or_false_of h).1⟩) hp
      | ret => exact post_trans (e := .ret) (.refl _ _ a w) (fun t ht => ht) (fun t ht => List.mem_append_left _ ht) (fun h => ⟨h, (or_false_of h).1⟩) hp
      | panic ch => exact post_trans (Q := Q) (e := .panic ch) (.refl _ _ a w) (fun t ht => ht) (fun t ht => List.mem_append_left _ ht) (fun h => ⟨h, (or_false_of h).1⟩) hp
      | goto l => exact hp.elim
      | outgrown => exact hp.elim
    | _ => exact h.elim
  | seqJ outs x y ih1 ih2 =>
    intro c ρ w Q a ro h hfl hA hlt
    cases c with
    | seq c d =>
      simp only [wr, lts_append] at hlt
      simp only [flat, Bool.and_eq_true] at hfl
      have h := jn_use h
      refine wpIn_seq (Code.wpIn_mono ?_ (ih1 c ρ w _ a ro h hfl.1 hA hlt.1))
      intro e a1 w1 hp
      cases e with
      | normal =>
        obtain ⟨ho, ρ1, hA1, hk⟩ := hp
        obtain ⟨ρ2, hA2, hk⟩ := kb_mk (outs := outs) (W := wr c) (ρ := ρ) (K := fun ρ w => xw P T y d ρ w Q) hk hA1 (ho.agree hA)
        exact Code.wpIn_mono (fun e2 a2 w2 h2 => post_trans ho (fun t ht => List.mem_append_left _ ht) (fun t ht => List.mem_append_right _ ht) or_false_of h2) (ih2 d ρ2 w1 Q a1 ro hk hfl.2 hA2 (by rw [ho.size]; exact hlt.2))
      | exit i => exact post_trans (e := .exit i) (.refl _ _ a w) (fun t ht => ht) (fun t ht => List.mem_append_left _ ht) (fun h => ⟨h, (or_false_of h).1⟩) hp
      | ret => exact post_trans (e := .ret) (.refl _ _ a w) (fun t ht => ht) (fun t ht => List.mem_append_left _ ht) (fun h => ⟨h, (or_false_of h).1⟩) hp
      | panic ch => exact post_trans (Q := Q) (e := .panic ch) (.refl _ _ a w) (fun t ht => ht) (fun t ht => List.mem_append_left _ ht) (fun h => ⟨h, (or_false_of h).1⟩) hp
      | goto l => exact hp.elim
      | outgrown => exact hp.elim
    | _ => exact h.elim
  | cond x y ih1 ih2 =>
    intro c ρ w Q a ro h hfl hA hlt
    cases c with
    | cond c d e =>
      simp only [wr, lts_append] at hlt
      simp only [flat, Bool.and_eq_true] at hfl
      obtain ⟨b, hb, h⟩ := need_imp h
      refine wpIn_cond_split (hA.eval (boolOf_eq hb)) ?_ ?_
      · intro hb
        rw [if_pos hb] at h
        exact Code.wpIn_mono (fun e a1 w1 h => post_trans (.refl _ _ a w) (fun t ht => ht) (fun t ht => List.mem_append_left _ ht) (fun h => ⟨h, (or_false_of h).1⟩) h) (ih1 d ρ w Q a ro h hfl.1 hA hlt.1)
      · intro hb
        rw [if_neg (by simp [hb])] at h
        exact Code.wpIn_mono (fun e a1 w1 h => post_trans (.refl _ _ a w) (fun t ht => ht) (fun t ht => List.mem_append_right _ ht) (fun h => ⟨h, (or_false_of h).2⟩) h) (ih2 e ρ w Q a ro h hfl.2 hA hlt.2)
    | _ => exact h.elim
  | blk x ih =>
    intro c ρ w Q a ro h hfl hA hlt
    cases c with
    | block id c =>
      refine wpIn_block (Code.wpIn_mono ?_ (ih c ρ w _ a ro h hfl hA hlt))
      intro e a1 w1 hp
      cases e with
      | normal => exact hp
      | exit i =>
        obtain ⟨ho, ρ1, hA1, hk⟩ := hp
        simp only at hk
        simp only [Exit.inBlock]
        by_cases hi : i = id
        · subst hi
          rw [if_pos rfl]
          simp only [Nat.beq_refl, cond_true] at hk
          exact ⟨ho, ρ1, hA1, hk⟩
        · rw [if_neg hi]
          have : Nat.beq i id = false := by
            cases hb : Nat.beq i id with
            | false => rfl
            | true => exact absurd (Nat.eq_of_beq_eq_true hb) hi
          rw [this, cond_false] at hk
          exact ⟨ho, ρ1, hA1, hk⟩
      | ret => exact hp
      | panic ch => exact hp
      | goto l => exact hp.elim
      | outgrown => exact hp.elim
    | _ => exact h.elim
  | blkJ outs x ih =>
    intro c ρ w Q a ro h hfl hA hlt
    cases c with
    | block id c =>
      have h := jn_use h
      refine wpIn_block (Code.wpIn_mono ?_ (ih c ρ w _ a ro h hfl hA hlt))
      intro e a1 w1 hp
      cases e with
      | normal =>
        obtain ⟨ho, ρ1, hA1, hk⟩ := hp
        obtain ⟨ρ2, hA2, hk⟩ := kb_mk (outs := outs) (W := wr c) (ρ := ρ) (K := Q.normal) hk hA1 (ho.agree hA)
        exact ⟨ho, ρ2, hA2, hk⟩
      | exit i =>
        obtain ⟨ho, ρ1, hA1, hk⟩ := hp
        simp only at hk
        simp only [Exit.inBlock]
        by_cases hi : i = id
        · subst hi
          rw [if_pos rfl]
          simp only [Nat.beq_refl, cond_true] at hk
          obtain ⟨ρ2, hA2, hk⟩ := kb_mk (outs := outs) (W := wr c) (ρ := ρ) (K := Q.normal) hk hA1 (ho.agree hA)
          exact ⟨ho, ρ2, hA2, hk⟩
        · rw [if_neg hi]
          have : Nat.beq i id = false := by
            cases hb : Nat.beq i id with
            | false => rfl
            | true => exact absurd (Nat.eq_of_beq_eq_true hb) hi
          rw [this, cond_false] at hk
          exact ⟨ho, ρ1, hA1, hk⟩
      | ret => exact hp
      | panic ch => exact hp
      | goto l => exact hp.elim
      | outgrown => exact hp.elim
    | _ => exact h.elim
  | loop outs x ih =>
    intro c ρ w Q a ro h hfl hA hlt
    cases c with
    | loop c =>
      obtain ⟨I, μ, h0, hr⟩ := h
      unfold kbAt at h0
      obtain ⟨vs0, hv0, h0⟩ := need_imp h0
      obtain ⟨p0, hp0, h0⟩ := need_imp h0
      refine wpIn_loop (I := fun a1 w1 => Good (rngs c) (wr c) a w a1 w1 ∧ ∃ vs ρ1, outs.vals ρ1 = some vs ∧ Agree ρ1 a1 ∧ ∃ p, KFun.ap outs.ks I vs = some p ∧ p w1)
        (μ := fun a1 w1 => match Outs.vals (fun t => a1.tmps[t]?) outs with | some vs => (match KNat.ap outs.ks μ vs with | some m => m w1 | none => 0) | none => 0)
        ⟨.refl _ _ _ _, vs0, ρ, hv0, hA, p0, hp0, h0⟩ ?_
      rintro a1 w1 ⟨ho1, vs, ρ1, hvs, hA1, p, hp, hpw⟩
      have hx := Kall_ap hp hr w1 (by rw [hp]; exact hpw)
      have hA2 : Agree (outs.put (ρ.del (wr c)) vs) a1 := Outs.vals_put hvs hA1 (ho1.agree hA)
      refine Code.wpIn_mono ?_ (ih c _ w1 _ a1 ro hx hfl hA2 (by rw [ho1.size]; exact hlt))
      intro e a2 w2 hq
      cases e with
      | normal =>
        obtain ⟨ho2, ρ2, hA3, hk⟩ := hq
        obtain ⟨us, hus, hk⟩ := need_imp hk
        obtain ⟨hk1, hk2⟩ := hk
        obtain ⟨q, hq, hqw⟩ := need_imp hk1
        obtain ⟨m', hm', hk2⟩ := need_imp hk2
        obtain ⟨m, hm, hlt2⟩ := need_imp hk2
        refine ⟨⟨ho1.trans ho2 (fun t h => h) (fun t h => h) (fun h => ⟨h, h⟩), us, ρ2, hus, hA3, q, hq, hqw⟩, ?_⟩
        simp only [vals_act hA3 hus, vals_act hA1 hvs, hm, hm']
        exact hlt2
      | exit i => exact post_trans (e := .exit i) ho1 (fun t h => h) (fun t h => h) (fun h => ⟨h, h⟩) hq
      | ret => exact post_trans (e := .ret) ho1 (fun t h => h) (fun t h => h) (fun h => ⟨h, h⟩) hq
      | panic ch => exact post_trans (Q := Q) (e := .panic ch) ho1 (fun t h => h) (fun t h => h) (fun h => ⟨h, h⟩) hq
      | goto l => exact hq.elim
      | outgrown => exact hq.elim
    | _ => exact h.elim
  | range ks es hr x y ih1 ih2 =>
    intro c ρ w Q a ro h hfl hA hlt
    cases c with
    | rangeFunc g ps c d =>
      simp only [flat, Bool.and_eq_true] at hfl
      simp only [wr, lts_append] at hlt
      cases ro with
      | some l0 => cases hfl.1.1
      | none =>
        obtain ⟨gv, hg, h⟩ := need_imp h
        have hge := hA.eval hg
        refine wpIn_rangeFunc fun fn _ => ?_
        let r : Loop := { state := .ready, pending := none, fn := fn, tmps := a.tmps, params := ps, assign := c, body := d, defers := w.heap.size }
        have hc := h (w.heap.size + 1) r rfl rfl rfl ?_
        · -- the call
          obtain ⟨f, first, cap, rfl, hcall⟩ := xcf_calls hc
          have hres := range_resolve (P := P) hge (w.heap.size + 1) ((w.alloc (.deferred (some []))).alloc (.loop r))
          refine ⟨w.heap.size + 1, [markD w.heap.size], _, _, _, f, (first.toList ++ ([Value.func (.yield (w.heap.size + 1)) #[] #[]] ++ cap.toList)).toArray, (w.alloc (.deferred (some []))).alloc (.loop r), enter_run, hres, fun _ _ => trivial, ?_, (fun h => by cases h), ?_⟩
          · rw [show (first.toList ++ ([Value.func (.yield (w.heap.size + 1)) #[] #[]] ++ cap.toList)).toArray = (first ++ #[Value.func (.yield (w.heap.size + 1)) #[] #[]]) ++ cap from by apply Array.ext'; simp]
            exact callFunc_run hcall.1 _ _
          · refine callsIn_wide.2 (hcall.2.mono fun e w3 hh => ?_)
            obtain ⟨hkd, hh⟩ := hh
            have hk1 : KeepsD w w3 := ((KeepsD.alloc w _).trans (.alloc _ _)).trans hkd
            have hD1 : ((w.alloc (.deferred (some []))).alloc (.loop r)).heap[w.heap.size]? = some (.deferred (some [])) :=
              (heap_alloc_old _ _ (by simp)).trans (heap_alloc_new w _)
            have hD := hkd.def_ _ hD1
            have hA' : Agree ρ { a with defers := [markD w.heap.size] ++ a.defers } := hA
            have good : ∀ w4, KeepsD w w4 → w4.heap[w.heap.size]? = some (.deferred (some [])) → Good true (wr (.rangeFunc g ps c d)) a w { a with defers := [markD w.heap.size] ++ a.defers } w4 := by
              intro w4 h1 h2
              refine ⟨rfl, fun _ _ => rfl, h1, [w.heap.size], rfl, by simp, fun k hk => ?_, fun h => by cases h⟩
              simp only [List.mem_singleton] at hk
              subst hk
              exact ⟨Nat.le_refl _, h2⟩
            cases e with
            | returned v =>
              have out : ∀ {st : LoopState} {p : Option Code}, LoopIs w3 (w.heap.size + 1) { r with state := st, pending := p } →
                  KeepsD w (setLoop w3 (w.heap.size + 1) { r with state := .exhausted, pending := p }) ∧ (setLoop w3 (w.heap.size + 1) { r with state := .exhausted, pending := p }).heap[w.heap.size]? = some (.deferred (some [])) := by
                intro st p hL
                refine ⟨hk1.setLoop hL _, ?_⟩
                simp only [setLoop, Array.getElem?_setIfInBounds]
                rw [if_neg (by omega)]
                exact hD
              rcases hh with ⟨st, hL, hst, hj⟩ | hh | hh
              · exact ⟨none, _, endLoop_run hL hst, good _ (out hL).1 (out hL).2, ρ, hA', hj⟩
              · cases hr with
                | false => exact hh.elim
                | true =>
                  obtain ⟨st, hL, hst, hj⟩ := hh
                  exact ⟨some .ret, _, endLoop_run hL hst, wpIn_ret ⟨good _ (out hL).1 (out hL).2, ρ, hA', hj⟩⟩
              · obtain ⟨i, st, hL, hst, hj⟩ := orE_imp hh
                exact ⟨some (.exit i), _, endLoop_run hL hst, wpIn_exit ⟨good _ (out hL).1 (out hL).2, ρ, hA', hj⟩⟩
            | panicked ch => exact ⟨good _ hk1 hD, hh⟩
            | outgrown => exact hh.elim
        · -- a round
          refine Kds_all fun args W K hL hx => ?_
          obtain ⟨ρ', hp, hx⟩ := need_imp hx
          obtain ⟨hlen, hA', hsz⟩ := putAll_agree hp hA hlt.1
          have hlen' : ps.size = args.length := by simpa using hlen
          have hy := yield_run (P := P) hL (args := args) hlen'
          have ht : (ps.zip args.toArray).foldl (fun tmps (x : Tmp × Value) => tmps.setIfInBounds x.1 x.2) a.tmps = (ps.toList.zip args).foldl (fun tmps (x : Tmp × Value) => tmps.setIfInBounds x.1 x.2) a.tmps := by
            rw [← Array.foldl_toList]
            simp
          refine ⟨_, _, _, _, hy, ?_⟩
          rw [show (r.params.zip args.toArray).foldl (fun tmps (x : Tmp × Value) => tmps.setIfInBounds x.1 x.2) r.tmps = (ps.toList.zip args).foldl (fun tmps (x : Tmp × Value) => tmps.setIfInBounds x.1 x.2) a.tmps from ht]
          refine roundIn_of_wpIn trivial (Code.wpIn_mono ?_ (ih1 c ρ' W _ _ (some (w.heap.size + 1)) hx hfl.1.2 hA' (by rw [show (Act.tmps { tmps := (ps.toList.zip args).foldl (fun tmps (x : Tmp × Value) => tmps.setIfInBounds x.1 x.2) a.tmps, defers := [] }).size = a.tmps.size from hsz]; exact hlt.2.1)))
          intro e a1 W1 hq
          cases e with
          | normal =>
            obtain ⟨ho1, ρ1, hA1, hL1, hx2⟩ := hq
            refine ⟨_, begin_run hL1 rfl, ?_⟩
            have hk1 := ho1.keeps.setLoop hL1 { r with state := .busy }
            refine Code.wpIn_mono ?_ (ih2 d ρ1 _ _ a1 (some (w.heap.size + 1)) hx2 hfl.2 hA1 (by rw [ho1.size, show (Act.tmps { tmps := (ps.toList.zip args).foldl (fun tmps (x : Tmp × Value) => tmps.setIfInBounds x.1 x.2) a.tmps, defers := [] }).size = a.tmps.size from hsz]; exact hlt.2.2))
            intro e a2 W2 hq
            cases e with
            | normal =>
              obtain ⟨ho2, ρ2, hA2, hL2, hk⟩ := hq
              exact ⟨_, _, end_run hL2 none, (hk1.trans ho2.keeps).setLoop hL2 _, hk⟩
            | exit i =>
              obtain ⟨ho2, ρ2, hA2, hL2, hk⟩ := hq
              exact ⟨_, _, end_run hL2 (some (.exit i)), (hk1.trans ho2.keeps).setLoop hL2 _, hk⟩
            | ret =>
              obtain ⟨ho2, ρ2, hA2, hL2, hk⟩ := hq
              exact ⟨_, _, end_run hL2 (some .ret), (hk1.trans ho2.keeps).setLoop hL2 _, hk⟩
            | panic ch => exact hq.2.elim
            | goto l => exact hq.elim
            | outgrown => exact hq.elim
          | exit i => obtain ⟨_, _, _, hh⟩ := hq; exact hh.elim
          | ret => obtain ⟨_, _, _, hh⟩ := hq; exact hh.elim
          | panic ch => exact hq.2.elim
          | goto l => exact hq.elim
          | outgrown => exact hq.elim
    | _ => exact h.elim
def resOne (tmps : Array Value) : ResultVar → Sem Value
  | .tmp t => pure (tmps.getD t undef)
  | .cell c t => do loadVar t (← asAddr (tmps.getD c undef))
theorem results_eq (fn : Func) (tmps : Array Value) : results fn tmps = (do
    let vs ← fn.results.mapM (resOne tmps)
    pure (if h : vs.size = 1 then vs[0] else .tuple vs)) := rfl
theorem xres_sound (hT : TabOk P T) {fn : Func} {a : Act} {w : World} {K : Value → World → Prop} : ∀ (l : List ResultVar) (ρ : Env) (vs : List Value), xres T l ρ w vs K → Agree ρ a →
    ∃ us, (l.mapM (m := Sem) (resOne a.tmps)).run P w = .ok us w ∧
      K (if h : (vs ++ us).toArray.size = 1 then (vs ++ us).toArray[0] else .tuple (vs ++ us).toArray) w
  | [], ρ, vs, h, hA => by
    refine ⟨[], rfl, ?_⟩
    match vs, h with
    | [], h => exact h
    | [v], h => exact h
    | v :: u :: r, h => simpa [xres] using h
  | .tmp t :: r, ρ, vs, h, hA => by
    simp only [xres] at h
    obtain ⟨v, hv, h⟩ := need_imp h
    obtain ⟨us, hr, hk⟩ := xres_sound hT (fn := fn) r ρ (vs ++ [v]) h hA
    refine ⟨v :: us, ?_, ?_⟩
    · rw [List.mapM_cons, Sem.run_bind]
      simp only [resOne, getD_of (hA _ _ hv), Sem.run_pure, Result.andThen_ok]
      rw [Sem.run_bind, hr]
      rfl
    · simpa only [List.append_assoc, List.singleton_append] using hk
  | .cell c t :: r, ρ, vs, h, hA => by
    simp only [xres] at h
    obtain ⟨v, hv, h⟩ := need_imp h
    split at h
    · obtain ⟨p, rfl, h⟩ := xptr_imp h
      have main : ∀ u, (loadVar t p).run P w = .ok u w → xres T r ρ w (vs ++ [u]) K → ∃ us, ((ResultVar.cell c t :: r).mapM (m := Sem) (resOne a.tmps)).run P w = .ok us w ∧
          K (if h : (vs ++ us).toArray.size = 1 then (vs ++ us).toArray[0] else .tuple (vs ++ us).toArray) w := by
        intro u hu h
        obtain ⟨us, hr, hk⟩ := xres_sound hT (fn := fn) r ρ (vs ++ [u]) h hA
        refine ⟨u :: us, ?_, ?_⟩
        · rw [List.mapM_cons, Sem.run_bind]
          have ha : asAddr (.pointer (some p)) = pure p := rfl
          simp only [resOne, getD_of (hA _ _ hv), ha, Sem.run_bind, Sem.run_pure, Result.andThen_ok, hu]
          rw [hr]
          rfl
        · simpa only [List.append_assoc, List.singleton_append] using hk
      split at h
      · rename_i s hk
        obtain ⟨u, hu, h⟩ := Sc.ex_imp h
        exact main u (loadVar_sc hT hk hu) h
      · rename_i ks hk
        obtain ⟨us, hl, hc, h⟩ := Scs.ex_len h
        exact main _ (loadVar_agg hT hk hl hc) h
      · exact h.elim
    · exact h.elim
theorem results_run (hT : TabOk P T) {fn : Func} {a : Act} {w : World} {K : Value → World → Prop} {ρ : Env} (h : xres T fn.results.toList ρ w [] K) (hA : Agree ρ a) : ∃ v, (results fn a.tmps).run P w = .ok v w ∧ K v w := by
  obtain ⟨us, hr, hk⟩ := xres_sound hT (fn := fn) _ ρ [] h hA
  refine ⟨_, ?_, hk⟩
  rw [results_eq, Sem.run_bind, Array.mapM_eq_mapM_toList, Sem.run_map, hr]
  rfl
theorem agree0 (args : List Value) (n : Nat) : Agree (env0 args) { tmps := args.toArray ++ Array.replicate n undef, defers := [] } := by
  intro t v h
  simp only [env0] at h
  have : t < args.length := (List.getElem?_eq_some_iff.1 h).1
  rw [Array.getElem?_append_left (by simpa using this)]
  simpa using h
theorem ShutD.refl (n : Nat) (w : World) : ShutD n w w := ⟨rfl, rfl, rfl, rfl, fun _ => .inl rfl⟩
theorem take_run {r : Nat} {w : World} (h : w.heap[r]? = some (.deferred (some []))) : (Instr.takeDeferred r).run P w = .ok [] { w with heap := w.heap.setIfInBounds r (.deferred none) } := by
  unfold Instr.takeDeferred getObj setObj
  simp [Sem.run_bind, Sem.run, h, Result.andThen]
theorem leaves_marks {F : Fence} {n n0 : Nat} {fn : Func} {tmps : Array Value} {R : Ending → World → Prop} {u : FrameMode} (hu : u ≠ .run) : ∀ (ms : List Nat) (w : World), ms.Nodup → (∀ r ∈ ms, n0 ≤ r ∧ w.heap[r]? = some (.deferred (some []))) →
    (∀ w2, ShutD n0 w w2 → LeavesIn F n P fn tmps R [] u w2) → LeavesInM F n P fn tmps R (ms.map markD) u w
  | [], w, _, _, h => h w (.refl _ _)
  | r :: ms, w, nd, ok, h => by
    obtain ⟨hr0, hr⟩ := ok r List.mem_cons_self
    rw [List.nodup_cons] at nd
    refine ⟨hu, .inl ⟨r, _, rfl, take_run hr, ?_⟩⟩
    have at_ : ∀ k, ({ w with heap := w.heap.setIfInBounds r (.deferred none) } : World).heap[k]? = if r = k then some (.deferred none) else w.heap[k]? := by
      intro k
      simp only [Array.getElem?_setIfInBounds]
      split
      · rename_i e; subst e; simp [(Array.getElem?_eq_some_iff.1 hr).1]
      · rfl
    refine leaves_marks hu ms _ nd.2 (fun k hk => ⟨(ok k (List.mem_cons_of_mem _ hk)).1, ?_⟩) fun w2 hw2 => h w2 ?_
    · rw [at_, if_neg (fun e : r = k => nd.1 (e ▸ hk))]
      exact (ok k (List.mem_cons_of_mem _ hk)).2
    · refine ⟨hw2.os, hw2.tape, hw2.output, by simpa using hw2.size, fun k => ?_⟩
      rcases hw2.at_ k with e | ⟨e1, e2, e3⟩
      · rw [e, at_]
        split
        · rename_i e; subst e; exact .inr ⟨hr0, hr, rfl⟩
        · exact .inl rfl
      · rw [at_] at e2
        split at e2
        · cases e2
        · exact .inr ⟨e1, e2, e3⟩
theorem KeepsD.shut {w w' w2 : World} (h : KeepsD w w') (hs : ShutD w.heap.size w' w2) : KeepsD w w2 := by
  refine ⟨hs.os.trans h.os, hs.tape.trans h.tape, hs.output.trans h.output, by rw [hs.size]; exact h.size, fun r hr => ?_⟩
  rcases hs.at_ r with e | ⟨e1, _⟩
  · rw [e]; exact h.def_ r hr
  · have := (Array.getElem?_eq_some_iff.1 hr).1
    omega
theorem outK_use {c : Code} {w w' w2 : World} {K : World → Prop} (h : outK c w K w') (hs : ShutD w.heap.size w' w2) (hz : rngs c = false → w2 = w') : K w2 := by
  unfold outK at h
  cases hr : rngs c with
  | true => rw [hr] at h; exact h w2 hs
  | false => rw [hr] at h; rw [hz hr]; exact h
/-- THE LAW: a function's formula gives its contract. -/
theorem xfunc (hT : TabOk P T) (hm : P.follows .mixedOrders = true) {f : FuncId} {fn : Func} (hf : P.funcs[f]? = some fn) (an : An) {args : List Value} {w : World} {K : Value → World → Prop} {KP : List PanicEntry → World → Prop}
    (hfit : fits fn args.length = true) (h : xfn P T an fn args w K KP) : XCP P f args w K KP := by
  unfold fits at hfit
  unfold xfn at h
  split at hfit
  · cases hfit
  · rename_i c hc
    rw [hc] at h
    simp only [Bool.and_eq_true, Bool.not_eq_true', Nat.ble_eq] at hfit
    obtain ⟨⟨⟨h1, h1'⟩, h2⟩, h3⟩ := hfit
    refine ⟨⟨fn, hf, by rw [hc]; rfl, h3⟩, ?_⟩
    have main : CallsIn Fence.wide 0 P f args.toArray w fun e w' => KeepsD w w' ∧ match e with
        | .returned v => K v w'
        | .panicked ch => KP ch w'
        | .outgrown => False := by
      refine callsIn_of_wp_marks hf hc trivial (Code.wpIn_mono ?_ (xw_sound hT hm an c _ w _ _ none h h1' (agree0 args (fn.ntmps - args.toArray.size)) ?_))
      · intro e a' w' hp
        have fin : ∀ {ρ : Env}, Good (rngs c) (wr c) { tmps := args.toArray ++ Array.replicate (fn.ntmps - args.toArray.size) undef, defers := [] } w a' w' → Agree ρ a' → outK c w (fun w2 => xres T fn.results.toList ρ w2 [] K) w' →
            LeavesInM Fence.wide 0 P fn a'.tmps (fun e w' => KeepsD w w' ∧ match e with
              | .returned v => K v w'
              | .panicked ch => KP ch w'
              | .outgrown => False) a'.defers .returning w' := by
          intro ρ ho hA hk
          obtain ⟨ms, e, nd, ok, z⟩ := ho.marks
          rw [e, List.append_nil]
          cases hz : rngs c with
          | false =>
            rw [z hz]
            have hk := outK_use hk (.refl _ _) fun _ => rfl
            obtain ⟨v, hv, hk⟩ := results_run hT hk hA
            exact ⟨v, hv, ho.keeps, hk⟩
          | true =>
            refine leaves_marks (n0 := w.heap.size) (by simp) ms w' nd ok fun w2 hw2 => ?_
            have hk := outK_use hk hw2 (fun h => by rw [hz] at h; cases h)
            obtain ⟨v, hv, hk⟩ := results_run hT hk hA
            exact ⟨v, hv, ho.keeps.shut hw2, hk⟩
        cases e with
        | normal => obtain ⟨ho, ρ, hA, hk⟩ := hp; exact fin ho hA hk
        | ret => obtain ⟨ho, ρ, hA, hk⟩ := hp; exact fin ho hA hk
        | panic ch =>
          obtain ⟨ho, hk⟩ := hp
          obtain ⟨ms, e, nd, ok, z⟩ := ho.marks
          show LeavesInM _ _ _ _ _ _ a'.defers _ _
          rw [e, List.append_nil]
          cases hz : rngs c with
          | false =>
            rw [z hz]
            have hk := outK_use hk (.refl _ _) fun _ => rfl
            exact ⟨ho.keeps, hk⟩
          | true =>
            refine leaves_marks (n0 := w.heap.size) (by simp) ms w' nd ok fun w2 hw2 => ?_
            have hk := outK_use hk hw2 (fun h => by rw [hz] at h; cases h)
            exact ⟨ho.keeps.shut hw2, hk⟩
        | exit i => obtain ⟨ho, ρ, hA, hk⟩ := hp; exact hk.elim
        | goto l => exact hp.elim
        | outgrown => exact hp.elim
      · rw [show ({ tmps := args.toArray ++ Array.replicate (fn.ntmps - args.toArray.size) undef, defers := [] } : Act).tmps.size = fn.ntmps by simp; omega]
        exact h1
    exact callsIn_wide.1 main
theorem XCP.mono {f : FuncId} {args : List Value} {w : World} {K K' : Value → World → Prop} {KP KP' : List PanicEntry → World → Prop} (h : XCP P f args w K KP)
    (hk : ∀ v w', KeepsD w w' → K v w' → K' v w') (hp : ∀ ch w', KeepsD w w' → KP ch w' → KP' ch w') : XCP P f args w K' KP' :=
  ⟨h.1, h.2.mono fun e w' hh => by cases e with | returned v => exact ⟨hh.1, hk _ _ hh.1 hh.2⟩ | panicked ch => exact ⟨hh.1, hp _ _ hh.1 hh.2⟩ | outgrown => exact hh⟩
/-- a call that returns -/
abbrev XC (P : Program) (f : FuncId) (args : List Value) (w : World) (K : Value → World → Prop) : Prop := XCP P f args w K NP
theorem XC.mono {f : FuncId} {args : List Value} {w : World} {K K' : Value → World → Prop} {KP : List PanicEntry → World → Prop} (h : XC P f args w K) (hk : ∀ v w', K v w' → K' v w') : XCP P f args w K' KP :=
  XCP.mono h (fun v w' _ => hk v w') fun _ _ _ hh => hh.elim
theorem XC.mono' {f : FuncId} {args : List Value} {w : World} {K K' : Value → World → Prop} {KP : List PanicEntry → World → Prop} (h : XC P f args w K) (hk : ∀ v w', KeepsD w w' → K v w' → K' v w') : XCP P f args w K' KP :=
  XCP.mono h hk fun _ _ _ hh => hh.elim
theorem XC.calls {f : FuncId} {args : List Value} {w : World} {K : Value → World → Prop} (h : XC P f args w K) : Calls P f args.toArray w fun e w' => ∃ v, e = .returned v ∧ KeepsD w w' ∧ K v w' :=
  h.2.mono fun e w' hh => by cases e with | returned v => exact ⟨v, rfl, hh.1, hh.2⟩ | panicked ch => exact hh.2.elim | outgrown => exact hh.2.elim
end Go.X
