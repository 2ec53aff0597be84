/- Pure operations: what is computed is what the model runs. -/
import Derived.Test.YtfeaahclpnbklaaDoorX
namespace Go.X
variable {P : Program} {T : Tab}

def descAgg : TypeDesc → Bool
  | .struct _ => true
  | .array _ _ => true
  | _ => false
theorem ty_bool (hT : TabOk P T) {t : Nat} (h : T.ty t = .bool) : P.underlying t = some .bool := by
  have := (Bool.and_eq_true_iff.1 (hT t)).1; rw [h] at this; simp only [TI.chk] at this; split at this <;> simp_all
theorem ty_int (hT : TabOk P T) {t : Nat} {k : IntKind} (h : T.ty t = .int k) : P.underlying t = some (.int k) := by
  have := (Bool.and_eq_true_iff.1 (hT t)).1; rw [h] at this; simp only [TI.chk] at this; split at this <;> simp_all
theorem ty_str (hT : TabOk P T) {t : Nat} (h : T.ty t = .str) : P.underlying t = some .string := by
  have := (Bool.and_eq_true_iff.1 (hT t)).1; rw [h] at this; simp only [TI.chk] at this; split at this <;> simp_all
theorem ty_ptr (hT : TabOk P T) {t : Nat} (h : T.ty t = .ptr) : ∃ e, P.underlying t = some (.pointer e) := by
  have := (Bool.and_eq_true_iff.1 (hT t)).1; rw [h] at this; simp only [TI.chk] at this; split at this <;> simp_all
theorem ty_func (hT : TabOk P T) {t : Nat} (h : T.ty t = .func) : ∃ a b c, P.underlying t = some (.func a b c) := by
  have := (Bool.and_eq_true_iff.1 (hT t)).1; rw [h] at this; simp only [TI.chk] at this; split at this <;> simp_all
theorem ty_map (hT : TabOk P T) {t : Nat} (h : T.ty t = .map) : ∃ a b, P.underlying t = some (.map a b) := by
  have := (Bool.and_eq_true_iff.1 (hT t)).1; rw [h] at this; simp only [TI.chk] at this; split at this <;> simp_all
theorem ty_iface (hT : TabOk P T) {t : Nat} (h : T.ty t = .iface) : ∃ a, P.underlying t = some (.interface a) := by
  have := (Bool.and_eq_true_iff.1 (hT t)).1; rw [h] at this; simp only [TI.chk] at this; split at this <;> simp_all
theorem ty_slc (hT : TabOk P T) {t e sz : Nat} (h : T.ty t = .slc e sz) : P.underlying t = some (.slice e) ∧ ∃ i, P.info? e = some i ∧ i.size = sz := by
  have := (Bool.and_eq_true_iff.1 (hT t)).1; rw [h] at this; simp only [TI.chk] at this
  split at this
  · rename_i e' i he hi
    simp only [Bool.and_eq_true, Nat.beq_eq] at this
    obtain ⟨h1, h2⟩ := this
    subst h1
    exact ⟨he, i, hi, h2⟩
  · cases this
theorem ty_struct (hT : TabOk P T) {t : Nat} {fs : List FI} {ks : List Sc} (h : T.ty t = .struct fs ks) :
    ∃ fields i, P.underlying t = some (.struct fields) ∧ P.info? t = some i ∧ i.size = ks.length ∧ fieldsOk P fields.toList fs = true ∧ zeroOk i ks = true := by
  have := (Bool.and_eq_true_iff.1 (hT t)).1; rw [h] at this; simp only [TI.chk] at this
  split at this
  · rename_i fields i he hi
    simp only [Bool.and_eq_true, Nat.beq_eq] at this
    obtain ⟨⟨h1, h2⟩, h3⟩ := this
    exact ⟨_, _, he, hi, h1, h2, h3⟩
  · cases this
theorem ty_arr (hT : TabOk P T) {t n e sz : Nat} {ks : List Sc} (h : T.ty t = .arr n e sz ks) :
    ∃ i j, P.underlying t = some (.array n e) ∧ P.info? t = some i ∧ i.size = ks.length ∧ P.info? e = some j ∧ j.size = sz ∧ zeroOk i ks = true := by
  have := (Bool.and_eq_true_iff.1 (hT t)).1; rw [h] at this; simp only [TI.chk] at this
  split at this
  · rename_i n' e' i j he hi hj
    simp only [Bool.and_eq_true, Nat.beq_eq] at this
    obtain ⟨⟨⟨⟨h1, h2⟩, h3⟩, h4⟩, h5⟩ := this
    subst h1; subst h2
    exact ⟨_, _, he, hi, h3, hj, h4, h5⟩
  · cases this
theorem fieldsOk_at : ∀ {fields : List Field} {fs : List FI}, fieldsOk P fields fs = true → ∀ {f : Nat} {i : FI}, nth fs f = some i →
    ∃ fd j d, fields[f]? = some fd ∧ fd.offset = i.off ∧ P.info? fd.type = some j ∧ P.underlying fd.type = some d ∧ j.size = i.kd.size ∧ j.size ≠ 0 ∧
      descAgg d = i.kd.isAgg
  | [], [], h, f, i, hi => by cases f <;> cases hi
  | [], _ :: _, h, f, i, hi => by cases h
  | _ :: _, [], h, f, i, hi => by cases h
  | fd :: fields, i0 :: fs, h, 0, i, hi => by
    simp only [nth, Option.some.injEq] at hi
    subst hi
    simp only [fieldsOk, Bool.and_eq_true, Nat.beq_eq] at h
    obtain ⟨⟨h1, h2⟩, h3⟩ := h
    split at h2
    · rename_i j d hj hd
      simp only [Bool.and_eq_true, Nat.beq_eq, Bool.not_eq_true'] at h2
      obtain ⟨⟨h4, h5⟩, h6⟩ := h2
      refine ⟨fd, j, d, rfl, h1, hj, hd, h4, ?_, ?_⟩
      · intro h0; rw [h0] at h5; cases h5
      · cases d <;> simp_all [descAgg]
    · cases h2
  | fd :: fields, i0 :: fs, h, f + 1, i, hi => by
    simp only [fieldsOk, Bool.and_eq_true] at h
    simp only [nth] at hi
    exact fieldsOk_at h.2 hi

theorem binI_run {op : BinOp} {k : IntKind} {a b : Int} {v : Value} (h : binI op k a b = some v) (t : Nat) (w : World) :
    (binOp op t (.int k a) (.int k b)).run P w = .ok v w := by
  cases op <;> simp only [binI, Option.some.injEq] at h <;> first
    | (subst h; simp [binOp, Op.intArith, Op.intBits, Op.intCmp, bitsI])
    | cases h
theorem kd_info (hT : TabOk P T) {t : Nat} {k : Kd} (h : T.kd t = some k) : ∃ i, P.info? t = some i ∧ i.size = k.size ∧ ∃ z, i.zero = some z ∧ z.cells.toList = k.scs.map Sc.zero := by
  have := (Bool.and_eq_true_iff.1 (hT t)).2
  unfold TI.sized at this
  rw [show (T.ty t).kd = some k from h] at this
  simp only at this
  split at this
  · rename_i i hi
    simp only [Bool.and_eq_true, Nat.beq_eq] at this
    refine ⟨i, hi, this.1, ?_⟩
    have hz := this.2
    unfold zeroOk at hz
    split at hz
    · rename_i z hz0
      exact ⟨z, hz0, zerosAre_eq hz⟩
    · cases hz
  · cases this
theorem kd_desc (hT : TabOk P T) {t : Nat} {k : Kd} (h : T.kd t = some k) : ∃ d, P.underlying t = some d ∧ descAgg d = k.isAgg := by
  unfold Tab.kd at h
  cases ht : T.ty t with
  | bool => rw [ht] at h; cases h; exact ⟨_, ty_bool hT ht, rfl⟩
  | int k => rw [ht] at h; cases h; exact ⟨_, ty_int hT ht, rfl⟩
  | str => rw [ht] at h; cases h; exact ⟨_, ty_str hT ht, rfl⟩
  | ptr => rw [ht] at h; cases h; obtain ⟨e, he⟩ := ty_ptr hT ht; exact ⟨_, he, rfl⟩
  | func => rw [ht] at h; cases h; obtain ⟨a, b, c, he⟩ := ty_func hT ht; exact ⟨_, he, rfl⟩
  | map => rw [ht] at h; cases h; obtain ⟨a, b, he⟩ := ty_map hT ht; exact ⟨_, he, rfl⟩
  | iface => rw [ht] at h; cases h; obtain ⟨a, he⟩ := ty_iface hT ht; exact ⟨_, he, rfl⟩
  | slc e sz => rw [ht] at h; cases h; exact ⟨_, (ty_slc hT ht).1, rfl⟩
  | struct fs ks => rw [ht] at h; cases h; obtain ⟨a, b, he, _⟩ := ty_struct hT ht; exact ⟨_, he, rfl⟩
  | arr n e sz ks => rw [ht] at h; cases h; obtain ⟨a, b, he, _⟩ := ty_arr hT ht; exact ⟨_, he, rfl⟩
  | tup ts => rw [ht] at h; cases h
  | none => rw [ht] at h; cases h
theorem eqGuard_plain {op : BinOp} {t : Nat} {x y : Operand} {a b : Value} (h1 : ∀ c, a ≠ .agg c) (h2 : a ≠ .nilIface) (w : World) :
    (eqGuard op t x y a b).run P w = .ok () w := by
  unfold eqGuard
  cases a <;> first
    | exact absurd rfl h2
    | exact absurd rfl (h1 _)
    | (cases op <;> rfl)
theorem eqIn_bool {t : Nat} (h : P.underlying t = some .bool) (d : Nat) (a b : Bool) (w : World) : (Op.equalIn (d + 1) t (.bool a) (.bool b)).run P w = .ok (a == b) w := by
  simp [Op.equalIn, run_underlying h]
theorem eqIn_ptr {t e : Nat} (h : P.underlying t = some (.pointer e)) (d : Nat) (a : Option Addr) (w : World) : (Op.equalIn (d + 1) t (.pointer a) (.pointer none)).run P w = .ok a.isNone w := by
  cases a <;> simp [Op.equalIn, run_underlying h]
theorem eqIn_slc {t e : Nat} (h : P.underlying t = some (.slice e)) (d : Nat) (a : Option Addr) (l c l' c' : Nat) (w : World) : (Op.equalIn (d + 1) t (.slice a l c) (.slice none l' c')).run P w = .ok a.isNone w := by
  cases a <;> simp [Op.equalIn, run_underlying h]
theorem eqIn_map {t k e : Nat} (h : P.underlying t = some (.map k e)) (d : Nat) (a : Option Nat) (w : World) : (Op.equalIn (d + 1) t (.map a) (.map none)).run P w = .ok a.isNone w := by
  cases a <;> simp [Op.equalIn, run_underlying h]
theorem eqV_run {op : BinOp} {b : Bool} {v : Value} (h : eqV op b = some v) {t : Nat} {x y : Value} (w : World) (he : (Op.equal t x y).run P w = .ok b w)
    (h1 : binOp .eql t x y = do pure (.bool (← Op.equal t x y))) (h2 : binOp .neq t x y = do pure (.bool (!(← Op.equal t x y)))) : (binOp op t x y).run P w = .ok v w := by
  cases op <;> simp only [eqV, Option.some.injEq] at h <;> first
    | (subst h; first | rw [h1] | rw [h2]); (rw [Sem.run_bind, he]; rfl)
    | cases h
theorem binV_run (hT : TabOk P T) {op : BinOp} {t : Nat} {x y : Value} {v : Value} (h : binV T op t x y = some v) (ox oy : Operand) (w : World) :
    (do eqGuard op t ox oy x y; binOp op t x y : Sem Value).run P w = .ok v w := by
  have key : ∀ (_ : ∀ c, x ≠ .agg c) (_ : x ≠ .nilIface), (binOp op t x y).run P w = .ok v w → (do eqGuard op t ox oy x y; binOp op t x y : Sem Value).run P w = .ok v w := by
    intro h1 h2 h3
    rw [Sem.run_bind, eqGuard_plain h1 h2]
    exact h3
  unfold binV at h
  split at h
  · split at h
    · rename_i e; subst e
      exact key (by intro c; simp) (by simp) (binI_run h t w)
    · cases h
  · refine key (by intro c; simp) (by simp) ?_
    split at h
    · rename_i ht
      exact eqV_run h w (eqIn_bool (ty_bool hT ht) 9999 _ _ w) rfl rfl
    · cases h
  · refine key (by intro c; simp) (by simp) ?_
    split at h
    · rename_i a _ ht
      obtain ⟨e, hu⟩ := ty_ptr hT ht
      exact eqV_run h w (eqIn_ptr hu 9999 _ w) rfl rfl
    · cases h
  · refine key (by intro c; simp) (by simp) ?_
    split at h
    · rename_i ht
      exact eqV_run h w (eqIn_slc (ty_slc hT ht).1 9999 _ _ _ _ _ w) rfl rfl
    · cases h
  · refine key (by intro c; simp) (by simp) ?_
    split at h
    · rename_i a _ ht
      obtain ⟨e, e', hu⟩ := ty_map hT ht
      exact eqV_run h w (eqIn_map hu 9999 _ w) rfl rfl
    · cases h
  · refine key (by intro c; simp) (by simp) ?_
    cases op <;> simp only [eqV, Option.some.injEq] at h <;> first
      | (subst h; simp [binOp, Op.stringOp]; done)
      | cases h
  · cases h
theorem unV_run {op : UnOp} {x v : Value} (h : unV op x = some v) (w : World) : (Op.unary op x).run P w = .ok v w := by
  cases op <;> cases x <;> simp only [unV, Option.some.injEq] at h <;> first
    | (subst h; simp [Op.unary, Op.intArith, Op.intBits, bitsI])
    | cases h
theorem part_run_sc {t : Nat} {d : TypeDesc} (hd : P.underlying t = some d) (h : descAgg d = false) {cs : Array Value} {off : Nat} {v : Value} (hv : cs.toList[off]? = some v) (w : World) :
    (part t cs off).run P w = .ok v w := by
  have hv' : cs[off]? = some v := by simpa using hv
  unfold part isAgg
  simp only [bind_assoc, Sem.run_bind, run_underlying hd, Result.andThen]
  cases d <;> simp_all [descAgg]
theorem part_run_agg {t : Nat} {d : TypeDesc} {i : TypeInfo} (hd : P.underlying t = some d) (hi : P.info? t = some i) (h : descAgg d = true) (cs : Array Value) (off : Nat) (w : World) :
    (part t cs off).run P w = .ok (.agg ((cs.toList.drop off).take i.size).toArray) w := by
  unfold part isAgg
  simp only [bind_assoc, Sem.run_bind, run_underlying hd, Result.andThen]
  have e : cs.extract off (off + i.size) = ((cs.toList.drop off).take i.size).toArray := by
    apply Array.ext'
    simp [Array.toList_extract, List.extract_eq_take_drop]
  cases d <;> simp_all [sizeOf, typeInfo, descAgg]
theorem fieldV_run (hT : TabOk P T) {t f : Nat} {x v : Value} (h : fieldV T t f x = some v) (w : World) : (Instr.field t x f).run P w = .ok v w := by
  unfold fieldV at h
  split at h
  · rename_i fs ks cs ht
    obtain ⟨fields, i, hu, hi, hs, hf, hz⟩ := ty_struct hT ht
    split at h
    · rename_i fi hfi
      obtain ⟨fd, j, d, h1, h2, h3, h4, h5, h6, h7⟩ := fieldsOk_at hf hfi
      have h1' : fields[f]? = some fd := by simpa using h1
      simp only [Instr.field, Sem.run_bind, run_underlying hu, Result.andThen, h1', asAgg, Sem.run_pure]
      rw [h2]
      split at h
      · rename_i s hk
        exact part_run_sc h4 (by rw [h7, hk]; rfl) h w
      · rename_i ks' hk
        rw [part_run_agg h4 h3 (by rw [h7, hk]; rfl)]
        rw [h5, hk, Kd.size]
        simpa using h
    · cases h
  · cases h
theorem convV_run (hT : TabOk P T) {s d : Nat} {x v : Value} (h : convV T s d x = some v) (w : World) : (convert s d x).run P w = .ok v w := by
  unfold convV at h
  split at h
  · rename_i k k' _ n hs hd
    have h1 := ty_int hT hs
    have h2 := ty_int hT hd
    simp only [Option.some.injEq] at h
    subst h
    simp [convert, run_underlying h1, run_underlying h2, Conv.intToInt]
  · cases h
theorem builtinV_run (hT : TabOk P T) {b : Builtin} {ts : Array Nat} {vs : List Value} {v : Value} (h : builtinV T b ts.toList vs = some v) (t : Nat) (cs : Array Bool) (w : World) :
    (builtin b ts t cs vs.toArray).run P w = .ok (.value v) w := by
  unfold builtinV at h
  split at h
  · rename_i t0 v0 hts
    have hts' : ts = #[t0] := by apply Array.ext'; simpa using hts
    subst hts'
    simp only [lenV] at h
    split at h <;> first
      | (cases h; done)
      | (rename_i ht; simp only [Option.some.injEq] at h; subst h; simp [builtin, Builtin.len_, run_underlying (ty_str hT ht), goInt]; done)
      | (rename_i ht; simp only [Option.some.injEq] at h; subst h; simp [builtin, Builtin.len_, run_underlying (ty_slc hT ht).1, goInt]; done)
      | (rename_i ht; simp only [Option.some.injEq] at h; subst h; obtain ⟨i, j, hu, _⟩ := ty_arr hT ht; simp [builtin, Builtin.len_, run_underlying hu, goInt]; done)
      | contradiction
  · rename_i t0 v0 hts
    have hts' : ts = #[t0] := by apply Array.ext'; simpa using hts
    subst hts'
    simp only [lenV] at h
    split at h <;> first
      | (cases h; done)
      | (rename_i ht; simp only [Option.some.injEq] at h; subst h; simp [builtin, Builtin.cap_, run_underlying (ty_slc hT ht).1, goInt]; done)
      | contradiction
  · cases h
theorem evs_eval {ρ : Env} {a : Act} (hA : ∀ x v, ev ρ x = some v → a.eval x = v) : ∀ {l : List Operand} {vs : List Value}, evs ρ l = some vs → l.map a.eval = vs
  | [], vs, h => by simp only [evs, Option.some.injEq] at h; subst h; rfl
  | x :: r, vs, h => by
    simp only [evs] at h
    split at h
    · rename_i v vs' h1 h2
      simp only [Option.some.injEq] at h
      subst h
      simp [hA x v h1, evs_eval hA h2]
    · cases h
theorem evs_arr {ρ : Env} {a : Act} (hA : ∀ x v, ev ρ x = some v → a.eval x = v) {l : Array Operand} {vs : List Value} (h : evs ρ l.toList = some vs) : l.map a.eval = vs.toArray := by
  apply Array.ext'
  simp [evs_eval hA h]
theorem pickB_eq {f : Bool} {a b v : Value} (h : pickB f a b = some v) : v = if f = true then a else b := by
  cases f <;> simp only [pickB, Option.some.injEq] at h <;> subst h <;> rfl
theorem pickV_run {c a b v : Value} (h : pickV c a b = some v) (w : World) : (do pure (Next.value (if ← asBool c then a else b)) : Sem Next).run P w = .ok (.value v) w := by
  unfold pickV at h
  cases c with
  | bool f =>
    have e : v = if f = true then a else b := by
      simp only at h
      split at h
      · simp only [Option.some.injEq] at h
        subst h
        cases f <;> rfl
      · exact pickB_eq h
    subst e
    simp [asBool]
  | _ => cases h
theorem pureOp_run (hT : TabOk P T) {ρ : Env} {a : Act} (hA : ∀ x v, ev ρ x = some v → a.eval x = v) {o : Oper} {v : Value} (h : pureOp T o.op ρ = some v) (w : World) :
    (execOp a.eval o).run P w = .ok (.value v) w := by
  unfold pureOp at h
  split at h
  · rename_i x hop; simp [execOp, hop, hA _ _ h]
  · rename_i x hop; simp [execOp, hop, hA _ _ h]
  · rename_i c x y hop
    split at h
    · rename_i vc vx vy h1 h2 h3
      simp only [execOp, hop, hA _ _ h1, hA _ _ h2, hA _ _ h3]
      exact pickV_run h w
    · cases h
  · rename_i op t x y yt hop
    cases hpt : ptrTmp (T.ty t) y with
    | true => rw [hpt] at h; cases h
    | false =>
    rw [hpt] at h
    simp only [cond_false] at h
    split at h
    · rename_i vx vy h1 h2
      simp only [execOp, hop, hA _ _ h1, hA _ _ h2]
      rw [Sem.run_bind, binV_run hT h]
      rfl
    · cases h
  · rename_i op t x hop
    split at h
    · rename_i vx h1
      simp only [execOp, hop, hA _ _ h1]
      rw [Sem.run_bind, unV_run h]
      rfl
    · cases h
  · rename_i t ix hop
    split at h
    · rename_i vs h1
      have h' : vs[ix]? = some v := by simpa using h
      simp [execOp, hop, hA _ _ h1, Instr.extract, h']
    · cases h
  · rename_i s d x hop
    split at h
    · rename_i vx h1
      simp only [execOp, hop, hA _ _ h1]
      rw [Sem.run_bind, convV_run hT h]
      rfl
    · cases h
  · rename_i fn first cap hop
    split at h
    · rename_i l1 l2 h1 h2
      simp only [Option.some.injEq] at h
      subst h
      simp [execOp, hop, evs_arr hA h1, evs_arr hA h2, Instr.makeFunc]
    · cases h
  · rename_i t x f hop
    split at h
    · rename_i vx h1
      simp only [execOp, hop, hA _ _ h1]
      rw [Sem.run_bind, fieldV_run hT h]
      rfl
    · cases h
  · rename_i b args ts hop
    split at h
    · rename_i vs h1
      simp only [execOp, hop, resolve, evs_arr hA h1, Sem.run_bind, Sem.run_pure, Result.andThen, invoke]
      exact builtinV_run hT h _ _ w
    · cases h
  · cases h
end Go.X
