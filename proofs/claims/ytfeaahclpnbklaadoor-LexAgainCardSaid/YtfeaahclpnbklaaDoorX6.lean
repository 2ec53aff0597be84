/- Regions in the order of the text: sound. -/
import Derived.Test.YtfeaahclpnbklaaDoorX5
namespace Go.X
variable {P : Program} {T : Tab} {ro : Option Nat}

theorem dsts_mem {l : List Oper} {o : Oper} {d : Nat} (ho : o ∈ l) (hd : o.dst = some d) : d ∈ dsts l := by
  induction l with
  | nil => cases ho
  | cons x r ih =>
    cases ho with
    | head => simp [dsts, hd]
    | tail _ h =>
      have := ih h
      unfold dsts
      split
      · exact List.mem_cons_of_mem _ this
      · exact this
theorem dsts_append (l r : List Oper) : dsts (l ++ r) = dsts l ++ dsts r := by
  induction l with
  | nil => rfl
  | cons x l ih =>
    simp only [List.cons_append, dsts]
    split
    · simp [ih]
    · exact ih
theorem flagIs_eq {v : Option Value} {b : Bool} (h : flagIs v b = true) : v = some (.bool b) := by
  unfold flagIs at h
  split at h
  · rename_i x; cases x <;> cases b <;> simp_all
  · cases h
theorem yielded_of {ops : List Oper} {a : Act} {j d : Nat} (hd : dstAt ops j = some d) : yielded ops.toArray a.tmps j = match a.tmps[d]? with | some (.bool b) => some b | _ => none := by
  unfold dstAt at hd
  rw [nth_get] at hd
  unfold yielded
  cases ho : ops[j]? with
  | none => rw [ho] at hd; cases hd
  | some o =>
    rw [ho] at hd
    simp only [List.getElem?_toArray, ho, Option.bind_some]
    rw [show o.dst = some d from hd]
    rfl
theorem gOk_wanted {ops : List Oper} {ρ : Env} {a : Act} (hA : Agree ρ a) {o : Oper} (h : gOk ops ρ o.guard = true) : Region.wanted o (yielded ops.toArray a.tmps) = true := by
  unfold gOk at h
  unfold Region.wanted
  split at h
  · rename_i hg; rw [hg]
  · rename_i j want hg
    rw [hg]
    split at h
    · rename_i d hd
      have := hA d _ (flagIs_eq h)
      simp only [yielded_of hd, this]
      simp
    · cases h
abbrev wpL (ro : Option Nat) (P : Program) := wpListIn (Fw ro) 0 P
theorem wpList_go {ro : Option Nat} {ops : Array Oper} {Q : Exit → Act → World → Prop} {o : Oper} {r : List Oper} {a : Act} {w : World}
    (hw : Region.wanted o (yielded ops a.tmps) = true) (hd : ∀ c, o.op ≠ .defer c) (h : OW P o a w (wpL ro P ops Q r) Q) : wpL ro P ops Q (o :: r) a w := by
  show wpListIn (Fw ro) 0 P ops Q (o :: r) a w
  unfold wpListIn
  rw [if_pos hw]
  exact h.wpIn ro hd
theorem wpList_skip {ro : Option Nat} {ops : Array Oper} {Q : Exit → Act → World → Prop} {o : Oper} {r : List Oper} {a : Act} {w : World}
    (hw : Region.wanted o (yielded ops a.tmps) = false) (h : wpL ro P ops Q r (a.put o.dst undef) w) : wpL ro P ops Q (o :: r) a w := by
  show wpListIn (Fw ro) 0 P ops Q (o :: r) a w
  unfold wpListIn
  rw [hw]
  exact ⟨fun _ _ => trivial, h⟩
theorem off_cons {o : Oper} {l : List Oper} {a a' : Act} {v : Value} (h : Off (dsts l) (a.put o.dst v) a') : Off (dsts (o :: l)) a a' := by
  refine Off.trans (b := a.put o.dst v) (Off.put (fun x hx => by simp [dsts, hx]) v) (h.mono fun t ht => ?_)
  unfold dsts
  split
  · exact List.mem_cons_of_mem _ ht
  · exact ht
theorem put_size (a : Act) (d : Option Nat) (v : Value) : (a.put d v).tmps.size = a.tmps.size := by
  cases d <;> simp [Act.put]
theorem lts_mem {n : Nat} : ∀ {W : List Nat}, lts n W = true → ∀ d ∈ W, d < n
  | [], _, d, hd => by cases hd
  | x :: r, h, d, hd => by
    simp only [lts, Bool.and_eq_true] at h
    cases hd with
    | head => simpa [Nat.blt_eq] using h.1
    | tail _ h' => exact lts_mem h.2 d h'
theorem lts_append {n : Nat} : ∀ {A B : List Nat}, lts n (A ++ B) = true ↔ lts n A = true ∧ lts n B = true
  | [], B => by simp [lts]
  | x :: r, B => by simp [lts, lts_append (A := r), and_assoc]
/-- l is l0 and more: the operations that xOpsN takes off -/
theorem xOpsN_sound (hT : TabOk P T) {ops : List Oper} {KP : List PanicEntry → World → Prop} {Q : Exit → Act → World → Prop} {r : List Oper} :
    ∀ (n : Nat) (l : List Oper) (ρ : Env) (a : Act) (w : World) (K : List Oper → Env → World → Prop),
      xOpsN P T ops KP n l ρ w K → Agree ρ a → lts a.tmps.size (dsts l) = true → (∀ ch a' w', Off (dsts l) a a' → KeepsD w w' → KP ch w' → Q (.panic ch) a' w') →
      (∀ l' ρ' a' w', KeepsD w w' → K l' ρ' w' → Agree ρ' a' → (∃ l0, l = l0 ++ l' ∧ Off (dsts l0) a a') → wpL ro P ops.toArray Q (l' ++ r) a' w') →
      wpL ro P ops.toArray Q (l ++ r) a w
  | 0, l, ρ, a, w, K, h, hA, _, _, hK => hK l ρ a w (.refl _) h hA ⟨[], rfl, .refl _ _⟩
  | n + 1, [], ρ, a, w, K, h, _, _, _, _ => h.elim
  | n + 1, o :: l, ρ, a, w, K, h, hA, hlt, hP, hK => by
    simp only [xOpsN] at h
    obtain ⟨hg, h⟩ := bif_imp h
    have hd : ∀ x, o.dst = some x → x < a.tmps.size := fun x hx => lts_mem hlt x (by simp [dsts, hx])
    have hlt' : lts a.tmps.size (dsts l) = true := by
      unfold dsts at hlt
      split at hlt
      · simp only [lts, Bool.and_eq_true] at hlt; exact hlt.2
      · exact hlt
    refine wpList_go (gOk_wanted hA hg) (xOp_nd h) (xOp_sound hT hA h (fun v w' hkd hk => ?_) fun ch w' hkd hk => hP ch a w' (.refl _ _) hkd hk)
    refine xOpsN_sound hT n l _ (a.put o.dst v) w' K hk (hA.put hd v) (by rw [put_size]; exact hlt') (fun ch a' w2 ho' hkd' => hP ch a' w2 (off_cons ho') (hkd.trans hkd')) ?_
    rintro l' ρ' a' w'' hkd' hk' hA' ⟨l0, rfl, ho⟩
    exact hK l' ρ' a' w'' (hkd.trans hkd') hk' hA' ⟨o :: l0, rfl, off_cons ho⟩
theorem xPureN_sound (hT : TabOk P T) {ops : List Oper} {Q : Exit → Act → World → Prop} {r : List Oper} :
    ∀ (n : Nat) (l l' : List Oper) (ρ ρ' : Env) (a : Act) (w : World), xPureN T ops n l ρ = some (l', ρ') → Agree ρ a → lts a.tmps.size (dsts l) = true →
      (∀ a', Agree ρ' a' → (∃ l0, l = l0 ++ l' ∧ Off (dsts l0) a a') → wpL ro P ops.toArray Q (l' ++ r) a' w) → wpL ro P ops.toArray Q (l ++ r) a w
  | 0, l, l', ρ, ρ', a, w, h, hA, _, hK => by
    simp only [xPureN, Option.some.injEq, Prod.mk.injEq] at h
    obtain ⟨rfl, rfl⟩ := h
    exact hK a hA ⟨[], rfl, .refl _ _⟩
  | n + 1, [], l', ρ, ρ', a, w, h, _, _, _ => by cases h
  | n + 1, o :: l, l', ρ, ρ', a, w, h, hA, hlt, hK => by
    simp only [xPureN] at h
    cases hg : gOk ops ρ o.guard with
    | false => rw [hg] at h; cases h
    | true =>
      rw [hg, cond_true] at h
      have hd : ∀ x, o.dst = some x → x < a.tmps.size := fun x hx => lts_mem hlt x (by simp [dsts, hx])
      have hlt' : lts a.tmps.size (dsts l) = true := by
        unfold dsts at hlt
        split at hlt
        · simp only [lts, Bool.and_eq_true] at hlt; exact hlt.2
        · exact hlt
      split at h
      · rename_i v hv
        refine wpList_go (gOk_wanted hA hg) (pureOp_nd hv) (wp_value (pureOp_run hT (fun x v hx => hA.eval hx) hv w) ?_)
        refine xPureN_sound hT n l l' _ ρ' (a.put o.dst v) w h (hA.put hd v) (by rw [put_size]; exact hlt') ?_
        rintro a' hA' ⟨l0, rfl, ho⟩
        exact hK a' hA' ⟨o :: l0, rfl, off_cons ho⟩
      · cases h
def pickOp : Bool → Nat → Nat → Op
  | false, d, y => .pick (.tmp d) (.const (.bool true)) (.tmp y)
  | true, d, y => .pick (.tmp d) (.tmp y) (.const (.bool false))
theorem bool_ne : ∀ {f want : Bool}, ¬ f = want → f = !want := by decide
theorem bool_ne' : ∀ {f want : Bool}, (f = !want) → ¬ f = want := by decide
theorem boolOf_eq {v : Option Value} {b : Bool} (h : boolOf v = some b) : v = some (.bool b) := by
  unfold boolOf at h
  split at h
  · simp only [Option.some.injEq] at h; rw [h]
  · cases h
theorem grpHead_spec {ops g : List Oper} {pk : Oper} {d y : Nat} {want : Bool} (h : grpHead ops g pk = some (d, want, y)) :
    ∃ j, dstAt ops j = some d ∧ d ∉ dsts g ∧ skipsAll ops j want [] g = true ∧
      pk.op = pickOp want d y := by
  unfold grpHead at h
  cases g with
  | nil => cases h
  | cons o1 g1 =>
    simp only at h
    split at h
    · cases h
    · rename_i j want' hg
      split at h
      · cases h
      · rename_i d' hd
        cases hb : (!(memb d' (dsts (o1 :: g1))) && skipsAll ops j want' [] (o1 :: g1)) with
        | false => rw [hb] at h; cases h
        | true =>
          rw [hb, cond_true] at h
          simp only [Bool.and_eq_true, Bool.not_eq_true'] at hb
          have hm : d' ∉ dsts (o1 :: g1) := fun hh => by rw [memb_mem.2 hh] at hb; cases hb.1
          split at h
          · rename_i c y' hpk
            cases hcd : Nat.beq c d' with
            | false => rw [hcd] at h; cases h
            | true =>
              rw [hcd, cond_true] at h
              simp only [Option.some.injEq, Prod.mk.injEq] at h
              obtain ⟨rfl, rfl, rfl⟩ := h
              have := Nat.eq_of_beq_eq_true hcd
              subst this
              exact ⟨j, hd, hm, hb.2, hpk⟩
          · rename_i c y' hpk
            cases hcd : Nat.beq c d' with
            | false => rw [hcd] at h; cases h
            | true =>
              rw [hcd, cond_true] at h
              simp only [Option.some.injEq, Prod.mk.injEq] at h
              obtain ⟨rfl, rfl, rfl⟩ := h
              have := Nat.eq_of_beq_eq_true hcd
              subst this
              exact ⟨j, hd, hm, hb.2, hpk⟩
          · cases h
theorem skips_sound {ops : List Oper} {Q : Exit → Act → World → Prop} {j d : Nat} {want : Bool} (hd : dstAt ops j = some d) {r : List Oper} {w : World} :
    ∀ (g : List Oper) (seen : List Nat) (a : Act), skipsAll ops j want seen g = true → d ∉ dsts g → a.tmps[d]? = some (.bool (!want)) → (∀ t ∈ seen, a.tmps[t]? = some undef) → lts a.tmps.size (dsts g) = true →
      (∀ a', Off (dsts g) a a' → wpL ro P ops.toArray Q r a' w) → wpL ro P ops.toArray Q (g ++ r) a w
  | [], seen, a, _, _, _, _, _, hK => hK a (.refl _ _)
  | o :: g, seen, a, h, hdn, ha, hs, hlt, hK => by
    simp only [skipsAll, Bool.and_eq_true] at h
    have hnot : Region.wanted o (yielded ops.toArray a.tmps) = false := by
      unfold Region.wanted
      have h1 := h.1
      split at h1
      · cases h1
      · rename_i i b hg
        rw [hg]
        simp only [Bool.or_eq_true, Bool.and_eq_true, Nat.beq_eq, beq_iff_eq] at h1
        rcases h1 with ⟨rfl, rfl⟩ | h1
        · simp only [yielded_of hd, ha]
          cases b <;> rfl
        · split at h1
          · rename_i d' hd'
            simp only [yielded_of hd', hs d' (memb_mem.1 h1), undef]
            rfl
          · cases h1
    have hdl : ∀ x, o.dst = some x → x < a.tmps.size := fun x hx => lts_mem hlt x (by simp [dsts, hx])
    have hne : ∀ x, o.dst = some x → x ≠ d := fun x hx e => hdn (by subst e; simp [dsts, hx])
    have hlt' : lts a.tmps.size (dsts g) = true := by
      unfold dsts at hlt
      split at hlt
      · simp only [lts, Bool.and_eq_true] at hlt; exact hlt.2
      · exact hlt
    have hdn' : d ∉ dsts g := fun hm => hdn (by
      unfold dsts
      split
      · exact List.mem_cons_of_mem _ hm
      · exact hm)
    refine wpList_skip hnot ?_
    have h2 := h.2
    split at h2
    · rename_i x hx
      refine skips_sound hd g (x :: seen) _ h2 hdn' ?_ ?_ (by rw [put_size]; exact hlt') fun a' ho => hK a' (off_cons ho)
      · have := hne x hx
        simp [hx, Act.put, this, ha]
      · intro t ht
        rw [hx]
        simp only [Act.put]
        rw [Array.getElem?_setIfInBounds]
        split
        · rename_i e; subst e; simp [hdl x hx]
        · rename_i e
          cases ht with
          | head => exact absurd rfl e
          | tail _ ht => exact hs t ht
    · rename_i hx
      refine skips_sound hd g seen _ h2 hdn' ?_ ?_ (by rw [put_size]; exact hlt') fun a' ho => hK a' (off_cons ho)
      · rw [hx]; exact ha
      · rw [hx]; exact hs

theorem pick_wp {o : Oper} {a : Act} {w : World} {d y : Nat} {want f b : Bool} (ho : o.op = pickOp want d y)
    (hd : a.tmps[d]? = some (.bool f)) (hy : f = want → a.tmps[y]? = some (.bool b)) {next : Act → World → Prop} {Q : Exit → Act → World → Prop}
    (hn : next (a.put o.dst (.bool (if f = want then b else !want))) w) : OW P o a w next Q := by
  refine wp_value (v := .bool (if f = want then b else !want)) ?_ hn
  have e1 : a.eval (.tmp d) = .bool f := getD_of hd
  have e0 : ∀ v, a.eval (.const v) = v := fun _ => rfl
  cases want
  · cases f
    · have e2 : a.eval (.tmp y) = .bool b := getD_of (hy rfl)
      simp only [execOp, ho, pickOp, e1, e0, e2, asBool]; rfl
    · simp only [execOp, ho, pickOp, e1, e0, asBool]; rfl
  · cases f
    · simp only [execOp, ho, pickOp, e1, e0, asBool]; rfl
    · have e2 : a.eval (.tmp y) = .bool b := getD_of (hy rfl)
      simp only [execOp, ho, pickOp, e1, e0, e2, asBool]; rfl
theorem pick_nd {o : Oper} {d y : Nat} {want : Bool} (ho : o.op = pickOp want d y) : ∀ c, o.op ≠ .defer c := by
  intro c e
  rw [ho] at e
  cases want <;> cases e
theorem take_drop_cons {l : List Oper} {n : Nat} {pk : Oper} {l' : List Oper} (h : l.drop n = pk :: l') : l = l.take n ++ pk :: l' := by
  rw [← h, List.take_append_drop]
theorem lts_take {n : Nat} {l : List Oper} {k : Nat} {pk : Oper} {l' : List Oper} (h : l.drop k = pk :: l') (hl : lts n (dsts l) = true) :
    lts n (dsts (l.take k)) = true ∧ lts n (dsts [pk]) = true ∧ lts n (dsts l') = true := by
  rw [take_drop_cons h, show l.take k ++ pk :: l' = l.take k ++ ([pk] ++ l') from rfl, dsts_append, dsts_append, lts_append, lts_append] at hl
  exact hl
/-- the three stretches of a group: what is guarded, the pick, the rest -/
theorem grp_off {l : List Oper} {n : Nat} {pk : Oper} {l' : List Oper} (h : l.drop n = pk :: l') {a a1 a2 : Act} {v : Value}
    (h1 : Off (dsts (l.take n)) a a1) (h2 : Off (dsts l') (a1.put pk.dst v) a2) : Off (dsts l) a a2 := by
  rw [take_drop_cons h, show l.take n ++ pk :: l' = l.take n ++ ([pk] ++ l') from rfl, dsts_append, dsts_append]
  refine (h1.mono fun t ht => List.mem_append_left _ ht).trans ?_
  refine Off.trans (b := a1.put pk.dst v) (Off.put (fun x hx => ?_) v) (h2.mono fun t ht => List.mem_append_right _ (List.mem_append_right _ ht))
  exact List.mem_append_right _ (List.mem_append_left _ (by simp [dsts, hx]))
theorem xPure_sound (hT : TabOk P T) {ops : List Oper} {Q : Exit → Act → World → Prop} :
    ∀ (s : Sg) (l r : List Oper) (ρ ρ' : Env) (a : Act) (w : World), xPure T ops s l ρ = some ρ' → Agree ρ a → lts a.tmps.size (dsts l) = true →
      (∀ a', Agree ρ' a' → Off (dsts l) a a' → wpL ro P ops.toArray Q r a' w) → wpL ro P ops.toArray Q (l ++ r) a w := by
  intro s
  induction s with
  | done =>
    intro l r ρ ρ' a w h hA hlt hK
    cases l with
    | nil => simp only [xPure, Option.some.injEq] at h; subst h; exact hK a hA (.refl _ _)
    | cons o l => cases h
  | ops n s ih =>
    intro l r ρ ρ' a w h hA hlt hK
    simp only [xPure] at h
    split at h
    · rename_i l' ρ1 h1
      refine xPureN_sound hT n l l' ρ ρ1 a w h1 hA hlt ?_
      rintro a' hA' ⟨l0, rfl, ho⟩
      rw [dsts_append, lts_append] at hlt
      refine ih l' r ρ1 ρ' a' w h hA' (by rw [ho.size]; exact hlt.2) fun a2 hA2 ho2 => hK a2 hA2 ?_
      rw [dsts_append]
      exact (ho.mono fun t ht => List.mem_append_left _ ht).trans (ho2.mono fun t ht => List.mem_append_right _ ht)
    · cases h
  | grp n inner s ih1 ih2 => intro l r ρ ρ' a w h; cases h
  | grpP n inner s ih1 ih2 =>
    intro l r ρ ρ' a w h hA hlt hK
    simp only [xPure] at h
    split at h
    · cases h
    · rename_i pk l' hdrop
      split at h
      · cases h
      · rename_i d want y hh
        split at h
        · cases h
        · rename_i f hf
          split at h
          · cases h
          · rename_i ρ1 h1
            split at h
            · cases h
            · rename_i b hb
              cases hg : gOk ops (ρ.del (dsts (l.take n))) pk.guard with
              | false => rw [hg] at h; cases h
              | true =>
                rw [hg, cond_true] at h
                obtain ⟨j, hj, hdn, hsk, hpk⟩ := grpHead_spec hh
                have hfd := hA d _ (boolOf_eq hf)
                obtain ⟨lt1, lt2, lt3⟩ := lts_take hdrop hlt
                have tail : ∀ a1 : Act, Off (dsts (l.take n)) a a1 → (f = want → a1.tmps[y]? = some (.bool b)) → wpL ro P ops.toArray Q (pk :: (l' ++ r)) a1 w := by
                  intro a1 ho hy
                  have hA1 := hA.off ho
                  refine wpList_go (gOk_wanted hA1 hg) (pick_nd hpk) (pick_wp hpk (by rw [ho.same d hdn]; exact hfd) hy ?_)
                  have e : (if f = want then b else !want) = mix want f b := by cases want <;> cases f <;> rfl
                  rw [e]
                  refine ih2 l' r _ ρ' _ w h (hA1.put (fun x hx => ?_) _) ?_ fun a2 hA2 ho2 => hK a2 hA2 (grp_off hdrop ho ho2)
                  · rw [ho.size]; exact lts_mem lt2 x (by simp [dsts, hx])
                  · rw [put_size, ho.size]; exact lt3
                rw [take_drop_cons hdrop, List.append_assoc, List.cons_append]
                by_cases hfw : f = want
                · subst hfw
                  refine ih1 (l.take n) _ _ ρ1 a w h1 (hA.set hfd) lt1 fun a1 hA1 ho1 => tail a1 ho1 fun _ => hA1 y _ (boolOf_eq hb)
                · have hfn : f = !want := bool_ne hfw
                  refine skips_sound hj (l.take n) [] a hsk hdn (by rw [hfd, hfn]) (fun t ht => by cases ht) lt1 fun a1 ho1 => tail a1 ho1 fun e => absurd e hfw
theorem xSegs_sound (hT : TabOk P T) {ops : List Oper} {KP : List PanicEntry → World → Prop} {Q : Exit → Act → World → Prop} :
    ∀ (s : Sg) (l r : List Oper) (ρ : Env) (a : Act) (w : World) (K : Env → World → Prop), xSegs P T ops KP s l ρ w K → Agree ρ a → lts a.tmps.size (dsts l) = true →
      (∀ ch a' w', Off (dsts l) a a' → KeepsD w w' → KP ch w' → Q (.panic ch) a' w') →
      (∀ ρ' a' w', KeepsD w w' → K ρ' w' → Agree ρ' a' → Off (dsts l) a a' → wpL ro P ops.toArray Q r a' w') → wpL ro P ops.toArray Q (l ++ r) a w := by
  intro s
  induction s with
  | done =>
    intro l r ρ a w K h hA hlt hP hK
    cases l with
    | nil => exact hK ρ a w (.refl _) h hA (.refl _ _)
    | cons o l => exact h.elim
  | ops n s ih =>
    intro l r ρ a w K h hA hlt hP hK
    refine xOpsN_sound hT n l ρ a w _ h hA hlt hP ?_
    rintro l' ρ' a' w' hkd hk hA' ⟨l0, rfl, ho⟩
    rw [dsts_append, lts_append] at hlt
    refine ih l' r ρ' a' w' K hk hA' (by rw [ho.size]; exact hlt.2) (fun ch a2 w2 ho2 hkd2 => hP ch a2 w2 (by rw [dsts_append]; exact (ho.mono fun t ht => List.mem_append_left _ ht).trans (ho2.mono fun t ht => List.mem_append_right _ ht)) (hkd.trans hkd2)) fun ρ2 a2 w2 hkd2 hk2 hA2 ho2 => hK ρ2 a2 w2 (hkd.trans hkd2) hk2 hA2 ?_
    rw [dsts_append]
    exact (ho.mono fun t ht => List.mem_append_left _ ht).trans (ho2.mono fun t ht => List.mem_append_right _ ht)
  | grp n inner s ih1 ih2 =>
    intro l r ρ a w K h hA hlt hP hK
    simp only [xSegs] at h
    split at h
    · exact h.elim
    · rename_i pk l' hdrop
      obtain ⟨⟨d, want, y⟩, hh, h⟩ := need_imp h
      obtain ⟨f, hf, h⟩ := need_imp h
      obtain ⟨hg, h⟩ := bif_imp h
      obtain ⟨j, hj, hdn, hsk, hpk⟩ := grpHead_spec hh
      have hfd := hA d _ (boolOf_eq hf)
      obtain ⟨lt1, lt2, lt3⟩ := lts_take hdrop hlt
      have h := h _ (fun b w h => h)
      have tail : ∀ (a1 : Act) (w1 : World) (b : Bool), KeepsD w w1 → Off (dsts (l.take n)) a a1 → (f = want → a1.tmps[y]? = some (.bool b)) →
          xSegs P T ops KP s l' ((ρ.del (dsts (l.take n))).put pk.dst (.bool (if f = want then b else !want))) w1 K → wpL ro P ops.toArray Q (pk :: (l' ++ r)) a1 w1 := by
        intro a1 w1 b hkd ho hy hk
        have hA1 := hA.off ho
        refine wpList_go (gOk_wanted hA1 hg) (pick_nd hpk) (pick_wp hpk (by rw [ho.same d hdn]; exact hfd) hy ?_)
        refine ih2 l' r _ _ w1 K hk (hA1.put (fun x hx => ?_) _) ?_ (fun ch a2 w2 ho2 hkd2 => hP ch a2 w2 (grp_off hdrop ho ho2) (hkd.trans hkd2)) fun ρ2 a2 w2 hkd2 hk2 hA2 ho2 => hK ρ2 a2 w2 (hkd.trans hkd2) hk2 hA2 (grp_off hdrop ho ho2)
        · rw [ho.size]; exact lts_mem lt2 x (by simp [dsts, hx])
        · rw [put_size, ho.size]; exact lt3
      rw [take_drop_cons hdrop, List.append_assoc, List.cons_append]
      have run : ∀ (_ : f = want), xSegs P T ops KP inner (l.take n) (ρ.set d (.bool want)) w (fun ρ' w => need (boolOf (ρ' y)) fun b => xSegs P T ops KP s l' ((ρ.del (dsts (l.take n))).put pk.dst (.bool b)) w K) →
          wpL ro P ops.toArray Q (l.take n ++ pk :: (l' ++ r)) a w := by
        intro hfw hx
        refine ih1 (l.take n) _ _ a w _ hx (hA.set (by rw [hfd, hfw])) lt1 (fun ch a2 w2 ho2 hkd2 => hP ch a2 w2 (ho2.mono fun t ht => by have e := take_drop_cons hdrop; rw [e, dsts_append]; exact List.mem_append_left _ ht) hkd2) fun ρ1 a1 w1 hkd1 hk1 hA1 ho1 => ?_
        obtain ⟨b, hb, hk1⟩ := need_imp hk1
        exact tail a1 w1 b hkd1 ho1 (fun _ => hA1 y _ (boolOf_eq hb)) (by rw [if_pos hfw]; exact hk1)
      have skip : ∀ (_ : f = !want), xSegs P T ops KP s l' ((ρ.del (dsts (l.take n))).put pk.dst (.bool (!want))) w K → wpL ro P ops.toArray Q (l.take n ++ pk :: (l' ++ r)) a w := by
        intro hfn hx
        have hfw : ¬ f = want := bool_ne' hfn
        exact skips_sound hj (l.take n) [] a hsk hdn (by rw [hfd, hfn]) (fun t ht => by cases ht) lt1 fun a1 ho1 => tail a1 w true (.refl _) ho1 (fun e => absurd e hfw) (by rw [if_neg hfw]; exact hx)
      cases want with
      | true =>
        simp only at h
        split at h
        · rename_i e; exact run e h
        · rename_i e; exact skip (by simpa using e) h
      | false =>
        simp only at h
        split at h
        · rename_i e; exact skip (by simpa using e) h
        · rename_i e; exact run (by simpa using e) h
  | grpP n inner s ih1 ih2 =>
    intro l r ρ a w K h hA hlt hP hK
    simp only [xSegs] at h
    split at h
    · exact h.elim
    · rename_i pk l' hdrop
      obtain ⟨⟨d, want, y⟩, hh, h⟩ := need_imp h
      obtain ⟨f, hf, h⟩ := need_imp h
      obtain ⟨ρ1, h1, h⟩ := need_imp h
      obtain ⟨b, hb, h⟩ := need_imp h
      obtain ⟨hg, h⟩ := bif_imp h
      obtain ⟨j, hj, hdn, hsk, hpk⟩ := grpHead_spec hh
      have hfd := hA d _ (boolOf_eq hf)
      obtain ⟨lt1, lt2, lt3⟩ := lts_take hdrop hlt
      have tail : ∀ a1 : Act, Off (dsts (l.take n)) a a1 → (f = want → a1.tmps[y]? = some (.bool b)) → wpL ro P ops.toArray Q (pk :: (l' ++ r)) a1 w := by
        intro a1 ho hy
        have hA1 := hA.off ho
        refine wpList_go (gOk_wanted hA1 hg) (pick_nd hpk) (pick_wp hpk (by rw [ho.same d hdn]; exact hfd) hy ?_)
        have e : (if f = want then b else !want) = mix want f b := by cases want <;> cases f <;> rfl
        rw [e]
        refine ih2 l' r _ _ w K h (hA1.put (fun x hx => ?_) _) ?_ (fun ch a2 w2 ho2 hkd2 => hP ch a2 w2 (grp_off hdrop ho ho2) hkd2) fun ρ2 a2 w2 hkd2 hk2 hA2 ho2 => hK ρ2 a2 w2 hkd2 hk2 hA2 (grp_off hdrop ho ho2)
        · rw [ho.size]; exact lts_mem lt2 x (by simp [dsts, hx])
        · rw [put_size, ho.size]; exact lt3
      rw [take_drop_cons hdrop, List.append_assoc, List.cons_append]
      by_cases hfw : f = want
      · subst hfw
        exact xPure_sound hT inner (l.take n) _ _ ρ1 a w h1 (hA.set hfd) lt1 fun a1 hA1 ho1 => tail a1 ho1 fun _ => hA1 y _ (boolOf_eq hb)
      · have hfn : f = !want := bool_ne hfw
        exact skips_sound hj (l.take n) [] a hsk hdn (by rw [hfd, hfn]) (fun t ht => by cases ht) lt1 fun a1 ho1 => tail a1 ho1 fun e => absurd e hfw
end Go.X
