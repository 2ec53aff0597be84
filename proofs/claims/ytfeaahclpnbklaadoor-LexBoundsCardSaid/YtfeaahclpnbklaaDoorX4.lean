/- Runs of single operations. -/
import Derived.Test.YtfeaahclpnbklaaDoorX3
namespace Go.X
variable {P : Program} {T : Tab}

def Agree (ρ : Env) (a : Act) : Prop := ∀ t v, ρ t = some v → a.tmps[t]? = some v
theorem need_imp {α : Type} {x : Option α} {k : α → Prop} (h : need x k) : ∃ a, x = some a ∧ k a := by
  cases x with
  | none => exact h.elim
  | some a => exact ⟨a, rfl, h⟩
theorem xptr_imp {x : Option Addr} {k : Addr → Prop} (h : xptr x k) : ∃ a, x = some a ∧ k a := by
  cases x with
  | none => exact h.elim
  | some a => exact ⟨a, rfl, h⟩
theorem Agree.eval {ρ : Env} {a : Act} (h : Agree ρ a) {x : Operand} {v : Value} (hx : ev ρ x = some v) : a.eval x = v := by
  cases x with
  | tmp t =>
    have := h t v hx
    simp [Act.eval, Array.getD_eq_getD_getElem?, this]
  | const u => simp only [ev, Option.some.injEq] at hx; subst hx; rfl
  | global g => simp only [ev, Option.some.injEq] at hx; subst hx; rfl
  | func f => simp only [ev, Option.some.injEq] at hx; subst hx; rfl
theorem set_eq {ρ : Env} {d t : Nat} {v : Value} : (ρ.set d v) t = if t = d then some v else ρ t := by
  unfold Env.set
  by_cases h : t = d
  · subst h; simp
  · have : Nat.beq t d = false := by
      cases hb : Nat.beq t d with
      | false => rfl
      | true => exact absurd (Nat.eq_of_beq_eq_true hb) h
    simp [this, h]
theorem Agree.put {ρ : Env} {a : Act} (h : Agree ρ a) {d : Option Nat} (hd : ∀ x, d = some x → x < a.tmps.size) (v : Value) : Agree (ρ.put d v) (a.put d v) := by
  cases d with
  | none => exact h
  | some d =>
    intro t u hu
    simp only [Env.put, set_eq] at hu
    simp only [Act.put]
    rw [Array.getElem?_setIfInBounds]
    split at hu
    · rename_i e; subst e
      cases hu
      simp [hd t rfl]
    · rename_i e
      have : ¬ d = t := fun h => e h.symm
      simp [this, h t u hu]
theorem Agree.set {ρ : Env} {a : Act} (h : Agree ρ a) {d : Nat} {v : Value} (hd : a.tmps[d]? = some v) : Agree (ρ.set d v) a := by
  intro t u hu
  rw [set_eq] at hu
  split at hu
  · rename_i e; subst e; cases hu; exact hd
  · exact h t u hu
theorem memb_mem {t : Nat} : ∀ {W : List Nat}, memb t W = true ↔ t ∈ W
  | [] => by simp [memb]
  | x :: r => by
    simp only [memb]
    cases hb : Nat.beq t x with
    | true => have := Nat.eq_of_beq_eq_true hb; simp [this]
    | false =>
      have : t ≠ x := fun h => by subst h; simp at hb
      simp [this, memb_mem (W := r)]
theorem del_eq {ρ : Env} {W : List Nat} {t : Nat} {v : Value} (h : (ρ.del W) t = some v) : t ∉ W ∧ ρ t = some v := by
  unfold Env.del at h
  cases hm : memb t W with
  | true => simp [hm] at h
  | false =>
    simp only [hm, cond_false] at h
    refine ⟨fun hh => ?_, h⟩
    rw [memb_mem.2 hh] at hm
    cases hm
/-- only slots of W have turned -/
structure Off (W : List Nat) (a a' : Act) : Prop where
  size : a'.tmps.size = a.tmps.size
  defers : a'.defers = a.defers
  same : ∀ t, t ∉ W → a'.tmps[t]? = a.tmps[t]?
theorem Off.refl (W : List Nat) (a : Act) : Off W a a := ⟨rfl, rfl, fun _ _ => rfl⟩
theorem Off.trans {W : List Nat} {a b c : Act} (h : Off W a b) (h' : Off W b c) : Off W a c :=
  ⟨h'.size.trans h.size, h'.defers.trans h.defers, fun t ht => (h'.same t ht).trans (h.same t ht)⟩
theorem Off.mono {W W' : List Nat} {a b : Act} (h : Off W a b) (hs : ∀ t, t ∈ W → t ∈ W') : Off W' a b :=
  ⟨h.size, h.defers, fun t ht => h.same t fun hw => ht (hs t hw)⟩
theorem Off.put {W : List Nat} {a : Act} {d : Option Nat} (hd : ∀ x, d = some x → x ∈ W) (v : Value) : Off W a (a.put d v) := by
  cases d with
  | none => exact .refl _ _
  | some d =>
    refine ⟨by simp [Act.put], rfl, fun t ht => ?_⟩
    have : ¬ d = t := fun h => ht (h ▸ hd d rfl)
    simp [Act.put, this]
theorem Agree.off {ρ : Env} {a a' : Act} {W : List Nat} (h : Agree ρ a) (ho : Off W a a') : Agree (ρ.del W) a' := by
  intro t v hv
  obtain ⟨h1, h2⟩ := del_eq hv
  rw [ho.same t h1]
  exact h t v h2
theorem getD_of {a : Act} {t : Nat} {v : Value} (h : a.tmps[t]? = some v) : a.tmps.getD t undef = v := by
  simp [Array.getD_eq_getD_getElem?, h]

/-! ### what each step keeps -/
theorem KeepsD.refl (w : World) : KeepsD w w := ⟨rfl, rfl, rfl, Nat.le_refl _, fun _ h => h⟩
theorem KeepsD.trans {a b c : World} (h : KeepsD a b) (h' : KeepsD b c) : KeepsD a c :=
  ⟨h'.os.trans h.os, h'.tape.trans h.tape, h'.output.trans h.output, Nat.le_trans h.size h'.size, fun r hr => h'.def_ r (h.def_ r hr)⟩
theorem KeepsD.setCell (w : World) (p : Addr) (v : Value) : KeepsD w (w.setCell p v) := by
  refine ⟨rfl, rfl, rfl, by simp, fun r hr => ?_⟩
  simp only [World.setCell, Array.getElem?_modify]
  split
  · rename_i e; subst e; rw [hr]; rfl
  · exact hr
theorem KeepsD.alloc (w : World) (o : Obj) : KeepsD w (w.alloc o) := by
  refine ⟨rfl, rfl, rfl, by simp, fun r hr => ?_⟩
  have : r < w.heap.size := (Array.getElem?_eq_some_iff.1 hr).1
  simp only [World.alloc]
  rw [Array.getElem?_push_lt this]
  rw [Array.getElem?_eq_getElem this] at hr
  exact hr
theorem KeepsD.drew (w : World) : KeepsD w w.drew := ⟨rfl, rfl, rfl, Nat.le_refl _, fun _ h => h⟩
/-- an operation's weakest precondition, as it is in a round and out of one -/
def OW (P : Program) (o : Oper) (a : Act) (w : World) (next : Act → World → Prop) (Q : Exit → Act → World → Prop) : Prop :=
  o.uponIn Fence.wide 0 P a next Q ((execOp a.eval o).run P w)
/-- the widest fence, in a round or out of one -/
def Fw (ro : Option Nat) : Fence := { fn := fun _ => True, depth := none, alive := false, round := ro }
theorem OW.wpIn {o : Oper} {a : Act} {w : World} {next : Act → World → Prop} {Q : Exit → Act → World → Prop} (h : OW P o a w next Q) (ro : Option Nat) (hd : ∀ c, o.op ≠ .defer c) : o.wpIn (Fw ro) 0 P a w next Q := by
  refine ⟨fun _ _ => trivial, ?_⟩
  rw [show (Fw ro).round = ro from rfl, Oper.semAt_eq ro a.eval o hd]
  exact h

/-! ### operations -/
theorem exT_imp {ti : TI} {k : Value → Prop} (h : exT ti k) : ∃ v, k v := by
  cases ti <;> simp only [exT] at h <;> first
    | (obtain ⟨x, h⟩ := h; exact ⟨_, h⟩)
    | (obtain ⟨x, y, z, h⟩ := h; exact ⟨_, h⟩)
    | (obtain ⟨vs, h⟩ := Scs.ex_imp h; exact ⟨_, h⟩)
    | skip
  rename_i ks
  have key : ∀ (ks : List Kd) (p : List Value → Prop), Kds.ex ks p → ∃ vs, p vs := by
    intro ks
    induction ks with
    | nil => intro p h; exact ⟨_, h⟩
    | cons s r ih => intro p h; obtain ⟨v, h⟩ := Kd.ex_imp h; obtain ⟨vs, h⟩ := ih _ h; exact ⟨_, h⟩
  obtain ⟨vs, h⟩ := key _ _ h
  exact ⟨_, h⟩
theorem exT_eq {ti : TI} {v : Value} {k : Value → Prop} (h : exT ti fun u => v = u ∧ k u) : k v := by
  obtain ⟨u, rfl, h⟩ := exT_imp h
  exact h
theorem xrun_imp {s : Sem Value} {w : World} {K : Value → World → Prop} (h : XRun P s w K) : ∃ v w', s.run P w = .ok v w' ∧ KeepsD w w' ∧ K v w' := by
  unfold XRun at h
  split at h
  · exact ⟨_, _, by assumption, h⟩
  · exact h.elim
theorem xrunU_imp {s : Sem Unit} {w : World} {K : World → Prop} (h : XRunU P s w K) : ∃ v w', s.run P w = .ok v w' ∧ KeepsD w w' ∧ K w' := by
  unfold XRunU at h
  split at h
  · exact ⟨_, _, by assumption, h⟩
  · exact h.elim
theorem cellsAt_get {w : World} {p : Addr} : ∀ {vs : List Value} {i : Nat}, cellsAt w p i vs → ∀ j v, vs[j]? = some v → w.cell? (p.add (i + j)) = some v
  | [], i, h, j, v, hv => by simp at hv
  | u :: r, i, h, 0, v, hv => by simp at hv; subst hv; exact h.1
  | u :: r, i, h, j + 1, v, hv => by
    have := cellsAt_get h.2 j v (by simpa using hv)
    rwa [show i + 1 + j = i + (j + 1) by omega] at this
theorem isAgg_run {t : Nat} {d : TypeDesc} (hd : P.underlying t = some d) (w : World) : (isAgg t).run P w = .ok (descAgg d) w := by
  unfold isAgg
  rw [Sem.run_bind, run_underlying hd]
  cases d <;> rfl
theorem loadVar_sc (hT : TabOk P T) {t : Nat} {s : Sc} (h : T.kd t = some (.sc s)) {p : Addr} {w : World} {v : Value} (hv : w.cell? p = some v) : (loadVar t p).run P w = .ok v w := by
  obtain ⟨d, hd, ha⟩ := kd_desc hT h
  unfold loadVar
  rw [Sem.run_bind, isAgg_run hd, ha]
  simp [Kd.isAgg, hv]
theorem loadVar_agg (hT : TabOk P T) {t : Nat} {ks : List Sc} (h : T.kd t = some (.agg ks)) {p : Addr} {w : World} {vs : List Value} (hl : vs.length = ks.length) (hv : cellsAt w p 0 vs) : (loadVar t p).run P w = .ok (.agg vs.toArray) w := by
  obtain ⟨d, hd, ha⟩ := kd_desc hT h
  obtain ⟨i, hi, hs, _⟩ := kd_info hT h
  unfold loadVar
  rw [Sem.run_bind, isAgg_run hd, ha]
  have := run_loadCells_list (P := P) w p vs (fun j v hj => by have := cellsAt_get hv j v hj; rwa [Nat.zero_add] at this)
  rw [hl] at this
  simp [Kd.isAgg, sizeOf, typeInfo, hi, hs, Kd.size, this]
theorem Scs.ex_len : ∀ {ks : List Sc} {p : List Value → Prop}, Scs.ex ks p → ∃ vs, vs.length = ks.length ∧ p vs
  | [], p, h => ⟨[], rfl, h⟩
  | s :: r, p, h => by
    obtain ⟨v, h⟩ := Sc.ex_imp h
    obtain ⟨vs, hl, h⟩ := Scs.ex_len h
    exact ⟨_, by simp [hl], h⟩
theorem storeP_run {w : World} {p : Addr} {v : Value} {k : World → Prop} (h : storeP w p v k) (h1 : v.oneCell' = true) : (store p v).run P w = .ok () (w.setCell p v) ∧ k (w.setCell p v) := by
  obtain ⟨⟨u, hu⟩, hf, hk⟩ := h
  exact ⟨by rw [run_store P w p v .plain h1]; simp [hu, hf], hk⟩
theorem storesAt_run {p : Addr} : ∀ {vs : List Value} {i : Nat} {w : World} {k : World → Prop}, storesAt p i vs w k → oneCells vs = true → ∃ w', (storeCells p vs i).run P w = .ok () w' ∧ KeepsD w w' ∧ k w'
  | [], i, w, k, h, _ => ⟨w, rfl, .refl w, h⟩
  | v :: r, i, w, k, h, h1 => by
    simp only [oneCells, Bool.and_eq_true] at h1
    obtain ⟨hr, hk⟩ := storeP_run (P := P) h h1.1
    obtain ⟨w', hr', hd', hk'⟩ := storesAt_run hk h1.2
    refine ⟨w', ?_, (KeepsD.setCell _ _ _).trans hd', hk'⟩
    simp only [storeCells, Sem.run_bind, hr, Result.andThen, hr']
theorem Value.cells_one {v : Value} (h : v.oneCell' = true) : v.cells = #[v] := by
  cases v <;> first | rfl | (simp [Value.oneCell'] at h)
theorem wp_value {o : Oper} {a : Act} {w w' : World} {v : Value} {next : Act → World → Prop} {Q : Exit → Act → World → Prop}
    (h : (execOp a.eval o).run P w = .ok (.value v) w') (hn : next (a.put o.dst v) w') : OW P o a w next Q := by
  unfold OW; rw [h]; exact hn
theorem wp_skip {o : Oper} {a : Act} {w w' : World} {next : Act → World → Prop} {Q : Exit → Act → World → Prop}
    (h : (execOp a.eval o).run P w = .ok .skip w') (hn : next (a.put o.dst undef) w') : OW P o a w next Q := by
  unfold OW; rw [h]; exact hn
theorem run_v {s : Sem Value} {w w' : World} {v : Value} (h : s.run P w = .ok v w') : (do pure (Next.value (← s)) : Sem Next).run P w = .ok (.value v) w' := by
  rw [Sem.run_bind, h]; rfl
theorem run_u {s : Sem Unit} {w w' : World} (h : s.run P w = .ok () w') : (do s; pure Next.skip : Sem Next).run P w = .ok .skip w' := by
  rw [Sem.run_bind, h]; rfl
theorem callFunc_run {f : FuncId} (h : Callable P f) (args : Array Value) (w : World) : (callFunc f args).run P w = .ok (.enter f args) w := by
  obtain ⟨fn, hf, hb, hn⟩ := h
  have hb' : fn.body.isNone = false := by cases hc : fn.body <;> simp_all
  unfold callFunc
  rw [Sem.run_bind, run_program]
  simp only [Result.andThen_ok, hf, hn, hb', Bool.false_eq_true, if_false, Sem.run_pure]
theorem evP_run {ρ : Env} {a : Act} (hA : Agree ρ a) : ∀ {l : List (Nat × Operand)} {vs : List (Nat × Value)}, evP ρ l = some vs → l.map (fun x => (x.1, a.eval x.2)) = vs
  | [], vs, h => by simp only [evP, Option.some.injEq] at h; subst h; rfl
  | (i, x) :: r, vs, h => by
    simp only [evP] at h
    split at h
    · rename_i v vs' h1 h2
      simp only [Option.some.injEq] at h
      subst h
      simp [hA.eval h1, evP_run hA h2]
    · cases h
theorem evP_arr {ρ : Env} {a : Act} (hA : Agree ρ a) {l : Array (Nat × Operand)} {vs : List (Nat × Value)} (h : evP ρ l.toList = some vs) : l.map (fun x => (x.1, a.eval x.2)) = vs.toArray := by
  apply Array.ext'
  simpa using evP_run hA h
theorem set_take {A B : List Value} {v : Value} {n : Nat} (h : A.length = n) : (A ++ v :: B).take (n + 1) = A ++ [v] := by
  subst h
  rw [List.take_append, List.take_of_length_le (by omega)]
  simp
theorem set_drop {A B : List Value} {v : Value} {n k : Nat} (h : A.length = n) : (A ++ v :: B).drop (n + 1 + k) = B.drop k := by
  subst h
  rw [List.drop_append, List.drop_eq_nil_of_le (by omega), show A.length + 1 + k - A.length = k + 1 by omega]
  simp
theorem foldl_cells (off : Nat) : ∀ (vs : List Value) (i : Nat) (cells : Array Value), off + i + vs.length ≤ cells.size →
    ((vs.zipIdx i).foldl (fun cs (x : Value × Nat) => cs.setIfInBounds (off + x.2) x.1) cells).toList = cells.toList.take (off + i) ++ (vs ++ cells.toList.drop (off + i + vs.length))
  | [], i, cells, h => by simp
  | v :: vs, i, cells, h => by
    simp only [List.zipIdx_cons, List.foldl_cons, List.length_cons] at h ⊢
    rw [foldl_cells off vs (i + 1) _ (by simp; omega), ← Nat.add_assoc off i 1]
    simp only [Array.toList_setIfInBounds]
    have hlt : off + i < cells.toList.length := by simp; omega
    have hs : cells.toList.set (off + i) v = cells.toList.take (off + i) ++ v :: cells.toList.drop (off + i + 1) := by
      rw [List.set_eq_take_append_cons_drop, if_pos hlt]
    have hA : (cells.toList.take (off + i)).length = off + i := by rw [List.length_take]; omega
    rw [hs, set_take hA, set_drop hA]
    simp [Nat.add_assoc, Nat.add_comm 1]

theorem fillL_run {place : Nat → Option (Nat × Nat)} : ∀ {parts : List (Nat × Value)} {cells : Array Value} {cs : List Value}, fillL place cells.toList parts = some cs → Instr.fill place cells parts = some cs.toArray
  | [], cells, cs, h => by simp only [fillL, Option.some.injEq] at h; subst h; simp [Instr.fill]
  | (i, v) :: r, cells, cs, h => by
    simp only [fillL] at h
    unfold Instr.fill
    split at h
    · cases h
    · rename_i off size hp
      cases hb : (Nat.beq v.cells.toList.length size && Nat.ble (off + v.cells.toList.length) cells.toList.length) with
      | false => rw [hb] at h; cases h
      | true =>
        rw [hb, cond_true] at h
        simp only [Bool.and_eq_true, Nat.beq_eq, Nat.ble_eq, Array.length_toList] at hb
        obtain ⟨h1, h2⟩ := hb
        simp only [hp]
        rw [if_neg (by simp [h1]; omega)]
        apply fillL_run
        have hf := foldl_cells off v.cells.toList 0 cells (by simpa using h2)
        rw [← h]
        congr 1
        simp only [Nat.add_zero] at hf
        rw [← hf]
        rw [← Array.foldl_toList]
        simp [Array.toList_zipIdx]
theorem fieldsOk_len : ∀ {fields : List Field} {fs : List FI}, fieldsOk P fields fs = true → fields.length = fs.length
  | [], [], _ => rfl
  | [], _ :: _, h => by cases h
  | _ :: _, [], h => by cases h
  | _ :: _, _ :: _, h => by
    simp only [fieldsOk, Bool.and_eq_true] at h
    simp [fieldsOk_len h.2]
theorem nth_get {α : Type} : ∀ {l : List α} {n : Nat}, nth l n = l[n]?
  | [], n => by simp [nth]
  | x :: r, 0 => rfl
  | x :: r, n + 1 => by simp [nth, nth_get (l := r)]
theorem sizeOf_run {t : Nat} {i : TypeInfo} (h : P.info? t = some i) (w : World) : (sizeOf t).run P w = .ok i.size w := by
  simp [sizeOf, typeInfo, h]
theorem mapM_places {fs : List FI} : ∀ {fields : List Field}, fieldsOk P fields fs = true → ∀ w,
    (fields.mapM fun f => do pure (f.offset, ← sizeOf f.type) : Sem (List (Nat × Nat))).run P w = .ok (fs.map fun f => (f.off, f.kd.size)) w := by
  induction fs with
  | nil =>
    intro fields h w
    cases fields with
    | nil => rfl
    | cons f r => cases h
  | cons i is ih =>
    intro fields h w
    cases fields with
    | nil => cases h
    | cons f r =>
      obtain ⟨fd, j, d, h1, h2, h3, h4, h5, h6, h7⟩ := fieldsOk_at h (f := 0) rfl
      simp only [List.getElem?_cons_zero, Option.some.injEq] at h1
      subst h1
      simp only [fieldsOk, Bool.and_eq_true] at h
      rw [List.mapM_cons, Sem.run_bind, Sem.run_bind, sizeOf_run h3]
      simp only [Result.andThen_ok, Sem.run_pure, Sem.run_bind, ih h.2]
      rw [h2, h5]; rfl
theorem zeroValue_run (hT : TabOk P T) {t : Nat} {k : Kd} (h : T.kd t = some k) (w : World) : ∃ z, (zeroValue t).run P w = .ok z w ∧ z.cells = (k.scs.map Sc.zero).toArray := by
  obtain ⟨i, hi, hs, z, hz, hc⟩ := kd_info hT h
  refine ⟨z, by simp [zeroValue, typeInfo, hi, hz], ?_⟩
  apply Array.ext'
  rw [hc]
theorem buildV_run (hT : TabOk P T) {t : Nat} {ps : List (Nat × Value)} {v : Value} (h : buildV (T.ty t) ps = some v) (w : World) : (Instr.build t ps.toArray).run P w = .ok v w := by
  unfold buildV at h
  split at h
  · rename_i fs ks ht
    obtain ⟨fields, i, hu, hi, hs, hf, hz⟩ := ty_struct hT ht
    obtain ⟨z, hz1, hz2⟩ := zeroValue_run hT (t := t) (k := .agg ks) (by unfold Tab.kd; rw [ht]; rfl) w
    split at h
    · rename_i cs hcs
      simp only [Option.some.injEq] at h
      subst h
      unfold Instr.build
      rw [Sem.run_bind, hz1]
      simp only [Result.andThen_ok]
      rw [Sem.run_bind, run_underlying hu]
      simp only [Result.andThen_ok]
      rw [Sem.run_bind]
      have hm : (fields.mapM fun f => do pure (f.offset, ← sizeOf f.type) : Sem (Array (Nat × Nat))).run P w = .ok (fs.map fun f => (f.off, f.kd.size)).toArray w := by
        rw [Array.mapM_eq_mapM_toList, Sem.run_map, mapM_places hf]
        rfl
      rw [hm]
      simp only [Result.andThen_ok, hz2]
      have hfill : Instr.fill (fun x => ((fs.map fun f => (f.off, f.kd.size)).toArray)[x]?) (((Kd.agg ks).scs.map Sc.zero).toArray) ps.toArray.toList = some cs.toArray := by
        apply fillL_run
        rw [← hcs]
        congr 1
        funext x
        simp only [ht, placeOf, nth_get, List.getElem?_toArray, List.getElem?_map]
        cases fs[x]? <;> rfl
      simp only [hfill, Sem.run_pure]
    · cases h
  · rename_i n e sz ks ht
    obtain ⟨i, j, hu, hi, hs, hj, hjs, hz⟩ := ty_arr hT ht
    obtain ⟨z, hz1, hz2⟩ := zeroValue_run hT (t := t) (k := .agg ks) (by unfold Tab.kd; rw [ht]; rfl) w
    split at h
    · rename_i cs hcs
      simp only [Option.some.injEq] at h
      subst h
      unfold Instr.build
      rw [Sem.run_bind, hz1]
      simp only [Result.andThen_ok]
      rw [Sem.run_bind, run_underlying hu]
      simp only [Result.andThen_ok]
      rw [Sem.run_bind, sizeOf_run hj]
      simp only [Result.andThen_ok, hz2]
      have hfill : Instr.fill (fun i => some (i * j.size, j.size)) (((Kd.agg ks).scs.map Sc.zero).toArray) ps.toArray.toList = some cs.toArray := by
        apply fillL_run
        rw [← hcs, hjs, ht]
        rfl
      simp only [hfill, Sem.run_pure]
    · cases h
  · cases h
end Go.X
