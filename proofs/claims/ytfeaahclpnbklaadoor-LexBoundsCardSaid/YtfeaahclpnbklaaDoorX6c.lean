/- Regions whose operations act in any order that the edges allow, by an invariant: sound. -/
import Derived.Test.YtfeaahclpnbklaaDoorX6b
set_option linter.unusedSimpArgs false
set_option linter.unusedVariables false
namespace Go.X
variable {P : Program} {T : Tab} {ro : Option Nat}

section any
variable {ops : Array Oper} {Q : Exit → Act → World → Prop}
def unl (l : Array Bool) (n : Nat) : Nat := ((List.range n).filter fun i => !l.getD i true).length
theorem filter_le {p q : Nat → Bool} (h : ∀ j, p j = true → q j = true) : ∀ L : List Nat, (L.filter p).length ≤ (L.filter q).length
  | [] => by simp
  | x :: r => by
    have := filter_le h r
    cases hp : p x with
    | true => simp only [List.filter_cons, hp, h x hp, if_true, List.length_cons]; omega
    | false => cases hq : q x <;> simp [List.filter_cons, hp, hq] <;> omega
theorem filter_lt {p q : Nat → Bool} (h : ∀ j, p j = true → q j = true) {i : Nat} (hp : p i = false) (hq : q i = true) : ∀ L : List Nat, i ∈ L → (L.filter p).length < (L.filter q).length
  | [], hL => by cases hL
  | x :: r, hL => by
    have le := filter_le h r
    by_cases hx : x = i
    · subst hx; simp [List.filter_cons, hp, hq]; omega
    · have := filter_lt h hp hq r (by
        rcases List.mem_cons.1 hL with h1 | h1
        · exact absurd h1.symm hx
        · exact h1)
      cases hp' : p x with
      | true => simp only [List.filter_cons, hp', h x hp', if_true, List.length_cons]; omega
      | false => cases hq' : q x <;> simp [List.filter_cons, hp', hq'] <;> omega
theorem unl_lt {l : Array Bool} {n i : Nat} (hi : i < n) (h : l.getD i true = false) : unl (l.setIfInBounds i true) n < unl l n := by
  have hs : i < l.size := by
    rcases Nat.lt_or_ge i l.size with h1 | h1
    · exact h1
    · rw [Array.getD_eq_getD_getElem?, Array.getElem?_eq_none h1] at h; cases h
  refine filter_lt (fun j hj => ?_) ?_ ?_ _ (by simpa using hi)
  · by_cases hx : j = i
    · subst hx; rw [h]; rfl
    · have : (l.setIfInBounds i true).getD j true = l.getD j true := by
        rw [Array.getD_eq_getD_getElem?, Array.getD_eq_getD_getElem?, Array.getElem?_setIfInBounds_ne (Ne.symm hx)]
      rw [this] at hj; exact hj
  · simp [hs]
  · rw [h]; rfl
theorem unl_zero {l : Array Bool} {n : Nat} (h : unl l n = 0) : ∀ i, i < n → l.getD i true = true := by
  intro i hi
  unfold unl at h
  have h0 := List.length_eq_zero_iff.1 h
  rw [List.filter_eq_nil_iff] at h0
  have := h0 i (by simpa using hi)
  simpa using this
theorem any_inv (hn : noDefer ops.toList = true) {Inv : Array Bool → Act → World → Prop}
    (hstep : ∀ l a w i, Inv l a w → i ∈ Region.ready .any ops l → opW P ops Q i (fun a' w' => Inv (l.setIfInBounds i true) a' w') a w)
    (hdone : ∀ l a w, Inv l a w → Region.ready .any ops l = [] → Q .normal a w) :
    ∀ (fuel : Nat) (l : Array Bool) (a : Act) (w : World), unl l ops.size ≤ fuel → Inv l a w → wpAnyIn (Fw ro) 0 P .any ops Q fuel l a w
  | 0, l, a, w, hf, hi => by
    have h0 := unl_zero (l := l) (n := ops.size) (by omega)
    have hr : Region.ready .any ops l = [] := by
      rw [List.eq_nil_iff_forall_not_mem]
      intro i hi'
      obtain ⟨hu, o, ho, _⟩ := mem_ready.1 hi'
      have hlt : i < ops.size := (Array.getElem?_eq_some_iff.1 ho).1
      rw [h0 i hlt] at hu; cases hu
    exact ⟨hr, hdone l a w hi hr⟩
  | fuel + 1, l, a, w, hf, hi => ⟨hdone l a w hi, fun i hr => opW_in hn (opW_mono (fun a' w' h' => any_inv hn hstep hdone fuel _ a' w' (by
      obtain ⟨hu, o, ho, _⟩ := mem_ready.1 hr
      have := unl_lt (l := l) (n := ops.size) (Array.getElem?_eq_some_iff.1 ho).1 hu
      omega) h') (hstep l a w i hi hr))⟩
end any

/-! ### what a quiet operation yields is one value -/
theorem Sc.ex_pick {s : Sc} {p : Value → Prop} (h : s.ex p) : ∃ v, p v ∧ ∀ q : Value → Prop, q v → s.ex q := by
  cases s <;> simp only [Sc.ex] at h ⊢ <;> first
    | (obtain ⟨x, h⟩ := h; exact ⟨_, h, fun q hq => ⟨x, hq⟩⟩)
    | (obtain ⟨x, y, z, h⟩ := h; exact ⟨_, h, fun q hq => ⟨x, y, z, hq⟩⟩)
theorem Scs.ex_pick {ks : List Sc} : ∀ {p : List Value → Prop}, Scs.ex ks p → ∃ vs, p vs ∧ ∀ q : List Value → Prop, q vs → Scs.ex ks q := by
  induction ks with
  | nil => intro p h; exact ⟨[], h, fun q hq => hq⟩
  | cons s r ih =>
    intro p h
    obtain ⟨v, h, hv⟩ := Sc.ex_pick h
    obtain ⟨vs, h, hvs⟩ := ih h
    exact ⟨v :: vs, h, fun q hq => hv _ (hvs (fun vs => q (v :: vs)) hq)⟩
theorem sliceK_pick {sz : Nat} {a : Option Addr} {l c : Nat} {lo hi mx : Option Int} {k : Option Addr → Nat → Nat → Prop} (h : sliceK sz a l c lo hi mx k) :
    ∃ a' l' c', k a' l' c' ∧ ∀ q : Option Addr → Nat → Nat → Prop, q a' l' c' → sliceK sz a l c lo hi mx q := by
  unfold sliceK at h ⊢
  cases mx <;> cases hi <;> cases lo <;> simp only at h ⊢ <;> first
    | exact ⟨_, _, _, h, fun q hq => hq⟩
    | exact ⟨_, _, _, h.2.2, fun q hq => ⟨h.1, h.2.1, hq⟩⟩
    | exact ⟨_, _, _, h.2.2.2, fun q hq => ⟨h.1, h.2.1, h.2.2.1, hq⟩⟩
    | exact ⟨_, _, _, h.2.2.2.2, fun q hq => ⟨h.1, h.2.1, h.2.2.1, h.2.2.2.1, hq⟩⟩
    | exact h.elim
theorem need_pick {α : Type} {x : Option α} {a : α} {p : α → Prop} (h : x = some a) (hp : p a) : need x p := by subst h; exact hp
theorem xptr_pick {x : Option Addr} {a : Addr} {p : Addr → Prop} (h : x = some a) (hp : p a) : xptr x p := by subst h; exact hp
theorem bif_pick {b : Bool} {p : Prop} (h : b = true) (hp : p) : bif b then p else False := by subst h; exact hp
theorem xQ_pick {S : World → Prop} {o : Oper} {ρ : Env} {K : Value → Prop} (h : xQ T S o ρ K) : ∃ v, K v ∧ xQ T S o ρ (fun u => u = v) := by
  unfold xQ at h ⊢
  cases hp : pureOp T o.op ρ with
  | some v => rw [hp] at h; exact ⟨v, h, rfl⟩
  | none =>
    rw [hp] at h
    simp only at h ⊢
    split at h
    · -- nilCheck
      rename_i x ho
      obtain ⟨v, hx, h⟩ := need_imp h
      split at h
      · obtain ⟨p, rfl, h⟩ := xptr_imp h
        exact ⟨_, h, need_pick hx rfl⟩
      · exact h.elim
    · -- load
      rename_i t x ho
      obtain ⟨v, hx, h⟩ := need_imp h
      split at h
      · obtain ⟨p, rfl, h⟩ := xptr_imp h
        split at h
        · rename_i s hs
          obtain ⟨u, h, hu⟩ := Sc.ex_pick h
          exact ⟨_, h.2, need_pick hx (by simp only [xptr, hs]; exact hu _ ⟨h.1, rfl⟩)⟩
        · rename_i ks hs
          obtain ⟨u, h, hu⟩ := Scs.ex_pick h
          exact ⟨_, h.2, need_pick hx (by simp only [xptr, hs]; exact hu _ ⟨h.1, rfl⟩)⟩
        · exact h.elim
      · exact h.elim
    · -- fieldAddr
      rename_i t x f ho
      obtain ⟨v, hx, h⟩ := need_imp h
      split at h
      · have ht := ‹T.ty _ = _›
        obtain ⟨p, rfl, h⟩ := xptr_imp h
        obtain ⟨i, hi, h⟩ := need_imp h
        exact ⟨_, h, need_pick hx (by simp only [ht, xptr]; exact need_pick hi rfl)⟩
      · exact h.elim
    · -- indexAddr
      rename_i t x y ho
      obtain ⟨v, hx, h⟩ := need_imp h
      obtain ⟨u, hy, h⟩ := need_imp h
      split at h
      · have ht := ‹T.ty _ = _›
        obtain ⟨p, rfl, h⟩ := xptr_imp h
        exact ⟨_, h.2.2, need_pick hx (need_pick hy (by simp only [ht, xptr]; exact ⟨h.1, h.2.1, trivial⟩))⟩
      · have ht := ‹T.ty _ = _›
        obtain ⟨p, rfl, h⟩ := xptr_imp h
        exact ⟨_, h.2.2, need_pick hx (need_pick hy (by simp only [ht, xptr]; exact ⟨h.1, h.2.1, trivial⟩))⟩
      · exact h.elim
    · -- slice
      rename_i t x lo hi mx ho
      obtain ⟨v, hx, h⟩ := need_imp h
      obtain ⟨lo', h1, h⟩ := need_imp h
      obtain ⟨hi', h2, h⟩ := need_imp h
      obtain ⟨mx', h3, h⟩ := need_imp h
      split at h
      · have ht := ‹T.ty _ = _›
        obtain ⟨lo2, h4, h⟩ := need_imp h
        obtain ⟨hi2, h5, h⟩ := need_imp h
        obtain ⟨mx2, h6, h⟩ := need_imp h
        obtain ⟨a', l', c', h, hq⟩ := sliceK_pick h
        exact ⟨_, h, need_pick hx (need_pick h1 (need_pick h2 (need_pick h3 (by simp only [ht]; exact need_pick h4 (need_pick h5 (need_pick h6 (hq _ rfl)))))))⟩
      · exact h.elim
    · -- build
      rename_i t parts ho
      obtain ⟨ps, h1, h⟩ := need_imp h
      obtain ⟨v, h2, h⟩ := need_imp h
      exact ⟨_, h, need_pick h1 (need_pick h2 rfl)⟩
    · -- binOp
      rename_i op _ x y _ ho
      obtain ⟨v, hx, h⟩ := need_imp h
      obtain ⟨u, hy, h⟩ := need_imp h
      split at h
      · split at h
        · obtain ⟨hk, h⟩ := bif_imp h
          exact ⟨_, h.2, need_pick hx (need_pick hy (bif_pick hk ⟨h.1, rfl⟩))⟩
        · obtain ⟨hk, h⟩ := bif_imp h
          exact ⟨_, h.2, need_pick hx (need_pick hy (bif_pick hk ⟨h.1, rfl⟩))⟩
        · exact ⟨_, h.2, need_pick hx (need_pick hy ⟨h.1, rfl⟩)⟩
        · exact ⟨_, h.2, need_pick hx (need_pick hy ⟨h.1, rfl⟩)⟩
        · exact h.elim
      · exact h.elim
    · -- max, min
      rename_i b args _ ho
      obtain ⟨vs, hv, h⟩ := need_imp h
      split at h
      · obtain ⟨v, h1, h⟩ := need_imp h
        exact ⟨_, h, need_pick hv (need_pick h1 rfl)⟩
      · obtain ⟨v, h1, h⟩ := need_imp h
        exact ⟨_, h, need_pick hv (need_pick h1 rfl)⟩
      · exact h.elim
    · -- index
      rename_i t x y ho
      obtain ⟨v, hx, h⟩ := need_imp h
      obtain ⟨u, hy, h⟩ := need_imp h
      split at h
      · have ht := ‹T.ty _ = _›
        obtain ⟨h0, b, h1, h⟩ := h
        exact ⟨_, h, need_pick hx (need_pick hy (by simp only [ht]; exact ⟨h0, b, h1, rfl⟩))⟩
      · exact h.elim
    · exact h.elim

/-! ### tables -/
theorem anyL_imp {p : Nat → Bool} : ∀ {l : List Nat}, anyL p l = true → ∃ x ∈ l, p x = true
  | x :: r, h => by
    simp only [anyL, Bool.or_eq_true] at h
    rcases h with h | h
    · exact ⟨x, by simp, h⟩
    · obtain ⟨y, hy, hp⟩ := anyL_imp h
      exact ⟨y, by simp [hy], hp⟩
theorem allL_imp {p : Nat → Bool} : ∀ {l : List Nat}, allL p l = true → ∀ x ∈ l, p x = true
  | y :: r, h, x, hx => by
    simp only [allL, Bool.and_eq_true] at h
    rcases List.mem_cons.1 hx with e | e
    · subst e; exact h.1
    · exact allL_imp h.2 x e
theorem mem_memN : ∀ {x : Nat} {l : List Nat}, x ∈ l → memN x l = true
  | x, y :: r, h => by
    rcases List.mem_cons.1 h with h | h
    · subst h; simp [memN]
    · simp [memN, mem_memN h]
theorem depsL_of {l : List Edge} {e : Edge} (he : e ∈ l) (hb : Region.binds .any e = true) : e.on ∈ depsL l := by
  induction l with
  | nil => cases he
  | cons x r ih =>
    simp only [depsL]
    rcases List.mem_cons.1 he with h | h
    · subst h; rw [hb]; simp
    · cases Region.binds .any x with
      | true => simp [ih h]
      | false => simpa using ih h
theorem ancOk_at {ops : List Oper} {as : List (List Nat)} (h : ancOk ops as = true) {j : Nat} {o : Oper} (hj : nth ops j = some o) :
    (∀ m ∈ depsL o.after.toList, m < j) ∧ ∀ k ∈ lookL as j, k < j ∧ (k ∈ depsL o.after.toList ∨ ∃ m ∈ depsL o.after.toList, m < j ∧ k ∈ lookL as m) := by
  have hl : j < ops.length := by rw [nth_get] at hj; exact (List.getElem?_eq_some_iff.1 hj).1
  have := allN_at h j hl
  simp only [hj, Bool.and_eq_true] at this
  refine ⟨fun m hm => by have := allL_imp this.1 m hm; simpa using this, fun k hk => ?_⟩
  have h2 := allL_imp this.2 k hk
  simp only [Bool.and_eq_true, Bool.or_eq_true] at h2
  refine ⟨by simpa using h2.1, ?_⟩
  rcases h2.2 with h3 | h3
  · exact .inl (memN_mem h3)
  · obtain ⟨m, hm, h4⟩ := anyL_imp h3
    simp only [Bool.and_eq_true] at h4
    exact .inr ⟨m, hm, by simpa using h4.1, memN_mem h4.2⟩
/-- who is listed has all listed that are bound ahead of him -/
theorem listed_anc {ops : Array Oper} {as : List (List Nat)} (h : ancOk ops.toList as = true) {l : Array Bool} (hc : Closed ops l) :
    ∀ (n j : Nat), j ≤ n → ∀ {o : Oper}, nth ops.toList j = some o → (∀ m ∈ depsL o.after.toList, l.getD m false = true) → ∀ k ∈ lookL as j, l.getD k false = true
  | 0, j, hn, o, hj, hd, k, hk => by
    have := (ancOk_at h hj).2 k hk
    omega
  | n + 1, j, hn, o, hj, hd, k, hk => by
    obtain ⟨hlt, h1 | ⟨m, hm, hmj, h1⟩⟩ := (ancOk_at h hj).2 k hk
    · exact hd k h1
    · cases hom : nth ops.toList m with
      | none =>
        exfalso
        rw [nth_get] at hom
        have h2 := hd m hm
        have hjl : j < ops.toList.length := by rw [nth_get] at hj; exact (List.getElem?_eq_some_iff.1 hj).1
        rw [List.getElem?_eq_none_iff] at hom
        omega
      | some om =>
        refine listed_anc h hc n m (by omega) hom (fun m' hm' => ?_) k h1
        obtain ⟨e, he, hb, rfl⟩ := depsL_mem hm'
        exact hc m om (nth_arr hom) (hd m hm) e (by simpa using he) hb
theorem listed_anc' {ops : Array Oper} {as : List (List Nat)} (h : ancOk ops.toList as = true) {l : Array Bool} (hc : Closed ops l) {j : Nat} {o : Oper} (hj : nth ops.toList j = some o) (hl : l.getD j false = true) : ∀ k ∈ lookL as j, l.getD k false = true :=
  listed_anc h hc j j (Nat.le_refl _) hj fun m hm => by
    obtain ⟨e, he, hb, rfl⟩ := depsL_mem hm
    exact hc j o (nth_arr hj) hl e (by simpa using he) hb
theorem ready_deps {ops : Array Oper} {l : Array Bool} {j : Nat} (hj : j ∈ Region.ready .any ops l) {o : Oper} (ho : nth ops.toList j = some o) : ∀ m ∈ depsL o.after.toList, l.getD m false = true := by
  obtain ⟨_, o', ho', ha⟩ := mem_ready.1 hj
  rw [arr_nth ho'] at ho; cases ho
  intro m hm
  obtain ⟨e, he, hb, rfl⟩ := depsL_mem hm
  exact ha e (by simpa using he) hb
/-- at the end all are listed -/
theorem all_listed {ops : Array Oper} {as : List (List Nat)} (h : ancOk ops.toList as = true) {l : Array Bool} (hs : l.size = ops.size) (hr : Region.ready .any ops l = []) : ∀ (n j : Nat), j ≤ n → j < ops.size → l.getD j false = true
  | n, j, hn, hj => by
    have hoj : ops[j]? = some ops[j] := Array.getElem?_eq_getElem hj
    cases hl : l.getD j false with
    | true => rfl
    | false =>
      exfalso
      have : j ∈ Region.ready .any ops l := by
        refine mem_ready.2 ⟨?_, _, hoj, fun e he hb => ?_⟩
        · rw [Array.getD_eq_getD_getElem?, Array.getElem?_eq_getElem (by omega)] at hl ⊢; exact hl
        · have hlt := (ancOk_at h (arr_nth hoj)).1 e.on (depsL_of (by simpa using he) hb)
          cases n with
          | zero => omega
          | succ n => exact all_listed h hs hr n e.on (by omega) (by omega)
      rw [hr] at this; cases this
theorem posOf_get : ∀ {n m0 m : Nat} {l : List Nat}, posOf n m0 l = some m → m0 ≤ m ∧ l[m - m0]? = some n
  | n, m0, m, x :: r, h => by
    simp only [posOf] at h
    cases hb : Nat.beq n x with
    | true => rw [hb] at h; simp only [cond_true, Option.some.injEq] at h; subst h; simp [Nat.eq_of_beq_eq_true hb]
    | false =>
      rw [hb] at h; simp only [cond_false] at h
      obtain ⟨h1, h2⟩ := posOf_get h
      refine ⟨by omega, ?_⟩
      rw [show m - m0 = (m - (m0 + 1)) + 1 by omega, List.getElem?_cons_succ]; exact h2
theorem posOf_none : ∀ {n m0 : Nat} {l : List Nat}, posOf n m0 l = none → n ∉ l
  | n, m0, [], h => by simp
  | n, m0, x :: r, h => by
    simp only [posOf] at h
    cases hb : Nat.beq n x with
    | true => rw [hb] at h; cases h
    | false =>
      rw [hb] at h; simp only [cond_false] at h
      intro hm
      rcases List.mem_cons.1 hm with e | e
      · subst e; simp at hb
      · exact posOf_none h e
theorem nodupN_get : ∀ {l : List Nat}, nodupN l = true → ∀ {i j x : Nat}, l[i]? = some x → l[j]? = some x → i = j
  | y :: r, h, i, j, x, hi, hj => by
    simp only [nodupN, Bool.and_eq_true, Bool.not_eq_true'] at h
    have hno : y ∉ r := fun e => by rw [mem_memN e] at h; cases h.1
    cases i with
    | zero =>
      simp at hi; subst hi
      cases j with
      | zero => rfl
      | succ j => simp only [List.getElem?_cons_succ] at hj; exact absurd (List.mem_of_getElem? hj) hno
    | succ i =>
      simp only [List.getElem?_cons_succ] at hi
      cases j with
      | zero => simp at hj; subst hj; exact absurd (List.mem_of_getElem? hi) hno
      | succ j => simp only [List.getElem?_cons_succ] at hj; rw [nodupN_get h.2 hi hj]
/-- no slot is written by two -/
theorem dsts_inj : ∀ {ops : List Oper}, nodupN (dsts ops) = true → ∀ {i j d : Nat} {o o' : Oper}, nth ops i = some o → nth ops j = some o' → o.dst = some d → o'.dst = some d → i = j
  | [], _, i, _, _, _, _, hi, _, _, _ => by cases i <;> cases hi
  | x :: r, h, i, j, d, o, o', hi, hj, hd, hd' => by
    have hr : nodupN (dsts r) = true := by
      simp only [dsts] at h
      cases hx : x.dst with
      | none => rw [hx] at h; exact h
      | some e => rw [hx] at h; simp only [nodupN, Bool.and_eq_true] at h; exact h.2
    have hin : ∀ {k : Nat} {q : Oper}, nth r k = some q → q.dst = some d → d ∈ dsts r := fun {k q} hk hq => by
      rw [nth_get] at hk
      exact dsts_mem (List.mem_of_getElem? hk) hq
    have hno : ∀ {k : Nat} {q : Oper}, x.dst = some d → nth r k = some q → q.dst = some d → False := fun {k q} hx hk hq => by
      simp only [dsts, hx, nodupN, Bool.and_eq_true, Bool.not_eq_true'] at h
      rw [mem_memN (hin hk hq)] at h; cases h.1
    cases i with
    | zero =>
      simp only [nth, Option.some.injEq] at hi; subst hi
      cases j with
      | zero => rfl
      | succ j => exact (hno hd hj hd').elim
    | succ i =>
      cases j with
      | zero => simp only [nth, Option.some.injEq] at hj; subst hj; exact (hno hd' hi hd).elim
      | succ j => rw [dsts_inj hr hi hj hd hd']
theorem useOk_at {ops : List Oper} {R : RI} (h : useOk ops R = true) {j : Nat} {o : Oper} (hj : nth ops j = some o) {t : Nat} (ht : memb t (lookL R.use j) = true) : ∃ k o', k ∈ lookL R.as j ∧ nth ops k = some o' ∧ o'.dst = some t := by
  have hl : j < ops.length := by rw [nth_get] at hj; exact (List.getElem?_eq_some_iff.1 hj).1
  have := allL_imp (allN_at h j hl) t (memb_mem.1 ht)
  obtain ⟨k, hk, hw⟩ := anyL_imp this
  unfold writes at hw
  split at hw
  · rename_i o' ho'
    split at hw
    · rename_i d hd
      exact ⟨k, o', hk, ho', by rw [hd, Nat.eq_of_beq_eq_true hw]⟩
    · cases hw
  · cases hw
theorem keepE_at {ρ0 ρ : Env} {us : List Nat} {t : Nat} : (keepE ρ0 us ρ) t = if memb t us = true then ρ t else ρ0 t := by
  unfold keepE
  cases memb t us <;> rfl
theorem setN_get {v : Option Value} : ∀ {x : List (Option Value)} {m k : Nat}, m < x.length → (setN v x m)[k]? = if k = m then some v else x[k]?
  | y :: r, 0, 0, _ => by simp [setN]
  | y :: r, 0, k + 1, _ => by simp [setN]
  | y :: r, m + 1, 0, _ => by simp [setN]
  | y :: r, m + 1, k + 1, h => by
    simp only [setN, List.getElem?_cons_succ]
    rw [setN_get (by simpa using h)]
    simp
theorem setN_length {v : Option Value} : ∀ {x : List (Option Value)} {m : Nat}, (setN v x m).length = x.length
  | [], _ => rfl
  | y :: r, 0 => rfl
  | y :: r, m + 1 => by simp [setN, setN_length]
theorem setO_eq {ρ : Env} {d : Option Nat} {v : Option Value} {t : Nat} : (ρ.setO d v) t = if d = some t then v else ρ t := by
  cases d with
  | none => simp [Env.setO]
  | some d =>
    simp only [Env.setO, Option.some.injEq]
    by_cases h : t = d
    · subst h; simp
    · have : Nat.beq t d = false := by
        cases hb : Nat.beq t d with
        | true => exact absurd (Nat.eq_of_beq_eq_true hb) h
        | false => rfl
      rw [this, if_neg (Ne.symm h)]; rfl

section env
variable {ops : List Oper} {R : RI} {ρ0 ρ1 : Env} {x : List (Option Value)}
theorem envI_out {t : Nat} : ∀ {n : Nat}, (∀ k o, k < n → nth ops k = some o → o.dst ≠ some t) → envI T ops R ρ0 ρ1 x n t = ρ0 t
  | 0, _ => rfl
  | n + 1, h => by
    have ih := envI_out (n := n) (fun k o hk => h k o (by omega))
    simp only [envI]
    cases ho : nth ops n with
    | none => exact ih
    | some o =>
      simp only [setO_eq, if_neg (h n o (by omega) ho)]; exact ih
theorem envI_at (hd : nodupN (dsts ops) = true) {j d : Nat} {o : Oper} (hj : nth ops j = some o) (hdd : o.dst = some d) : ∀ {n : Nat}, j < n → envI T ops R ρ0 ρ1 x n d = valI T R ρ0 ρ1 x j o (envI T ops R ρ0 ρ1 x j)
  | n + 1, h => by
    simp only [envI]
    by_cases he : n = j
    · subst he
      simp only [hj, setO_eq, hdd, if_pos]
    · have ih := envI_at hd hj hdd (n := n) (by omega)
      cases ho : nth ops n with
      | none => exact ih
      | some o' =>
        have : o'.dst ≠ some d := fun e => he (dsts_inj hd ho hj e hdd)
        simp only [setO_eq, if_neg this]; exact ih
theorem del_at {ρ : Env} {W : List Nat} {t : Nat} : (ρ.del W) t = if t ∈ W then none else ρ t := by
  unfold Env.del
  cases h : memb t W with
  | true => rw [if_pos (memb_mem.1 h)]; rfl
  | false => rw [if_neg (fun e => by rw [memb_mem.2 e] at h; cases h)]; rfl
/-- seen from an operation, what comes behind it is not there -/
theorem envI_del (ha : ancOk ops R.as = true) (hu : useOk ops R = true) (hd : nodupN (dsts ops) = true) {j : Nat} {o : Oper} (hj : nth ops j = some o) {n : Nat} (hn : j ≤ n) :
    keepE ρ0 (lookL R.use j) (envI T ops R ρ0 ρ1 x j) = keepE ρ0 (lookL R.use j) (envI T ops R ρ0 ρ1 x n) := by
  funext t
  rw [keepE_at, keepE_at]
  split
  · rename_i ht
    obtain ⟨k, o', hmem, ho', hdt⟩ := useOk_at hu hj ht
    have hlt := ((ancOk_at ha hj).2 k hmem).1
    rw [envI_at hd ho' hdt hlt, envI_at hd ho' hdt (by omega)]
  · rfl
theorem sortedN_lt : ∀ {x : Nat} {r : List Nat}, sortedN (x :: r) = true → ∀ y ∈ r, x < y
  | x, y :: r, h, z, hz => by
    simp only [sortedN, Bool.and_eq_true] at h
    have hxy : x < y := by simpa using h.1
    rcases List.mem_cons.1 hz with e | e
    · subst e; exact hxy
    · exact Nat.lt_trans hxy (sortedN_lt h.2 z e)
theorem sortedN_tail : ∀ {x : Nat} {r : List Nat}, sortedN (x :: r) = true → sortedN r = true
  | _, [], _ => rfl
  | _, _ :: _, h => by simp only [sortedN, Bool.and_eq_true] at h; exact h.2
theorem posOf_app {n : Nat} : ∀ {E1 E2 : List Nat} {m : Nat}, n ∉ E1 → posOf n m (E1 ++ E2) = posOf n (m + E1.length) E2
  | [], _, _, _ => by simp
  | y :: r, E2, m, h => by
    simp only [List.cons_append, posOf]
    have hb : Nat.beq n y = false := by
      cases hb : Nat.beq n y with
      | false => rfl
      | true => exact absurd (by rw [Nat.eq_of_beq_eq_true hb]; simp) h
    rw [hb, cond_false, posOf_app (fun e => h (by simp [e]))]
    simp [Nat.add_assoc, Nat.add_comm 1]
theorem posOf_notin {n : Nat} : ∀ {E : List Nat} {m : Nat}, n ∉ E → posOf n m E = none
  | [], _, _ => rfl
  | y :: r, m, h => by
    simp only [posOf]
    have hb : Nat.beq n y = false := by
      cases hb : Nat.beq n y with
      | false => rfl
      | true => exact absurd (by rw [Nat.eq_of_beq_eq_true hb]; simp) h
    rw [hb, cond_false]; exact posOf_notin (fun e => h (by simp [e]))
theorem memN_notin {n : Nat} {l : List Nat} (h : n ∉ l) : memN n l = false := by
  cases hb : memN n l with
  | false => rfl
  | true => exact absurd (memN_mem hb) h
def GoAt (T : Tab) (ops : List Oper) (R : RI) (ρ0 ρ1 : Env) (x : List (Option Value)) (r : List Oper) : Prop :=
  ∀ (j : Nat) (E1 E2 p1 p2 : List Nat) (x1 x2 : List (Option Value)), ops.drop j = r → j ≤ ops.length → R.E = E1 ++ E2 → R.pre = p1 ++ p2 → x = x1 ++ x2 → x1.length = E1.length → x2.length = E2.length →
    (∀ e ∈ E1, e < j) → (∀ e ∈ E2, j ≤ e) → (∀ e ∈ p1, e < j) → (∀ e ∈ p2, j ≤ e) → sortedN E2 = true → sortedN p2 = true → allL (fun i => !memN i R.E) R.pre = true →
    envL T R.use ρ0 ρ1 r j E2 x2 p2 (envI T ops R ρ0 ρ1 x j) = envI T ops R ρ0 ρ1 x ops.length
theorem envL_rest : ∀ (o : Oper) (r : List Oper), GoAt T ops R ρ0 ρ1 x r → ∀ (j : Nat) (E1 E2 p1 p2 : List Nat) (x1 x2 : List (Option Value)), ops.drop (j + 1) = r → j < ops.length → R.E = E1 ++ E2 → R.pre = p1 ++ p2 → x = x1 ++ x2 → x1.length = E1.length → x2.length = E2.length →
    (∀ e ∈ E1, e < j) → (∀ e ∈ E2, j + 1 ≤ e) → (∀ e ∈ p1, e < j) → (∀ e ∈ p2, j ≤ e) → sortedN E2 = true → sortedN p2 = true → allL (fun i => !memN i R.E) R.pre = true → nth ops j = some o →
    envI T ops R ρ0 ρ1 x (j + 1) = (envI T ops R ρ0 ρ1 x j).setO o.dst (valI T R ρ0 ρ1 x j o (envI T ops R ρ0 ρ1 x j)) → j ∉ R.E →
    (bif (match p2 with | e :: _ => Nat.beq e j | [] => false) then envL T R.use ρ0 ρ1 r (j + 1) E2 x2 p2.tail ((envI T ops R ρ0 ρ1 x j).setO o.dst (match o.dst with | some d => ρ1 d | none => none))
      else envL T R.use ρ0 ρ1 r (j + 1) E2 x2 p2 ((envI T ops R ρ0 ρ1 x j).setO o.dst (pureOp2 T o.op (keepE ρ0 (lookL R.use j) (envI T ops R ρ0 ρ1 x j))))) = envI T ops R ρ0 ρ1 x ops.length := by
    intro o r ih j E1 E2 p1 p2 x1 x2 hr' hjl hE hp hx hl1 hl2 he1 he2 hp1 hp2 hs hsp hdis hoj hstep hjE
    have he1' : ∀ y ∈ E1, y < j + 1 := fun y hy => Nat.lt_succ_of_lt (he1 y hy)
    have hj1 : j ∉ p1 := fun h => by have := hp1 j h; omega
    have nopre : j ∉ R.pre → valI T R ρ0 ρ1 x j o (envI T ops R ρ0 ρ1 x j) = pureOp2 T o.op (keepE ρ0 (lookL R.use j) (envI T ops R ρ0 ρ1 x j)) := fun h => by
      unfold valI
      rw [posOf_notin hjE, memN_notin h]; rfl
    cases p2 with
    | cons e p2 =>
      by_cases hej : e = j
      · subst hej
        simp only [Nat.beq_refl, cond_true, List.tail_cons]
        have hv : valI T R ρ0 ρ1 x e o (envI T ops R ρ0 ρ1 x e) = (match o.dst with | some d => ρ1 d | none => none) := by
          unfold valI
          rw [posOf_notin hjE, mem_memN (by rw [hp]; simp)]; rfl
        rw [← hv, ← hstep]
        exact ih (e + 1) E1 E2 (p1 ++ [e]) p2 x1 x2 hr' (by omega) hE (by rw [hp]; simp) hx hl1 hl2 he1' he2 (fun y hy => by
          rcases List.mem_append.1 hy with h | h
          · exact Nat.lt_succ_of_lt (hp1 y h)
          · simp at h; omega) (fun y hy => sortedN_lt hsp y hy) hs (sortedN_tail hsp) hdis
      · have hb : Nat.beq e j = false := by
          cases hb : Nat.beq e j with
          | false => rfl
          | true => exact absurd (Nat.eq_of_beq_eq_true hb) hej
        simp only [hb, cond_false]
        have hnp : j ∉ R.pre := by
          rw [hp]; intro h
          rcases List.mem_append.1 h with h | h
          · exact hj1 h
          · rcases List.mem_cons.1 h with h | h
            · exact hej h.symm
            · have := sortedN_lt hsp j h; have := hp2 e (by simp); omega
        rw [← nopre hnp, ← hstep]
        exact ih (j + 1) E1 E2 p1 (e :: p2) x1 x2 hr' (by omega) hE hp hx hl1 hl2 he1' he2 (fun y hy => Nat.lt_succ_of_lt (hp1 y hy)) (fun y hy => by
          rcases List.mem_cons.1 hy with h | h
          · subst h; have := hp2 y (by simp); omega
          · have := sortedN_lt hsp y h; have := hp2 e (by simp); omega) hs hsp hdis
    | nil =>
      simp only [cond_false]
      have hnp : j ∉ R.pre := by rw [hp]; simpa using hj1
      rw [← nopre hnp, ← hstep]
      exact ih (j + 1) E1 E2 p1 [] x1 x2 hr' (by omega) hE hp hx hl1 hl2 he1' he2 (fun y hy => Nat.lt_succ_of_lt (hp1 y hy)) (fun y hy => by cases hy) hs hsp hdis
theorem envL_go : ∀ (r : List Oper), GoAt T ops R ρ0 ρ1 x r
  | [], j, E1, E2, p1, p2, x1, x2, hr, hj, _, _, _, _, _, _, _, _, _, _, _, _ => by
    have : ops.length ≤ j := by
      rw [List.drop_eq_nil_iff] at hr; exact hr
    have : j = ops.length := by omega
    subst this; rfl
  | o :: r, j, E1, E2, p1, p2, x1, x2, hr, hj, hE, hp, hx, hl1, hl2, he1, he2, hp1, hp2, hs, hsp, hdis => by
    have hjl : j < ops.length := by
      rcases Nat.lt_or_ge j ops.length with h | h
      · exact h
      · rw [List.drop_eq_nil_of_le h] at hr; cases hr
    have hoj : nth ops j = some o := by
      rw [nth_get]
      have := congrArg (fun l => l[0]?) hr
      simpa using this
    have hr' : ops.drop (j + 1) = r := by
      have := congrArg List.tail hr
      simpa using this
    have hstep : envI T ops R ρ0 ρ1 x (j + 1) = (envI T ops R ρ0 ρ1 x j).setO o.dst (valI T R ρ0 ρ1 x j o (envI T ops R ρ0 ρ1 x j)) := by
      simp only [envI, hoj]
    have hj1 : j ∉ E1 := fun h => by have := he1 j h; omega
    simp only [envL]
    cases E2 with
    | cons e E2 =>
      by_cases hej : e = j
      · subst hej
        simp only [Nat.beq_refl, cond_true, List.tail_cons]
        obtain ⟨v, x2, rfl⟩ : ∃ v x2', x2 = v :: x2' := by
          cases x2 with
          | nil => simp at hl2
          | cons v x2 => exact ⟨v, x2, rfl⟩
        simp only [List.tail_cons]
        have hv : valI T R ρ0 ρ1 x e o (envI T ops R ρ0 ρ1 x e) = v := by
          unfold valI
          rw [hE, posOf_app hj1]
          simp only [posOf, Nat.beq_refl, cond_true, Nat.zero_add]
          unfold nthO
          rw [nth_get, hx, ← hl1]; simp
        have hnp : e ∉ p2 := fun h => by
          have := allL_imp hdis e (by rw [hp]; simp [h])
          rw [hE, mem_memN (by simp)] at this; cases this
        rw [← hv, ← hstep]
        refine envL_go r (e + 1) (E1 ++ [e]) E2 p1 p2 (x1 ++ [v]) x2 hr' (by omega) (by rw [hE]; simp) hp (by rw [hx]; simp) (by simp [hl1]) (by simpa using hl2) (fun y hy => ?_) (fun y hy => sortedN_lt hs y hy) (fun y hy => Nat.lt_succ_of_lt (hp1 y hy)) (fun y hy => ?_) (sortedN_tail hs) hsp hdis
        · rcases List.mem_append.1 hy with h | h
          · exact Nat.lt_succ_of_lt (he1 y h)
          · simp at h; omega
        · have := hp2 y hy
          have : y ≠ e := fun h => hnp (h ▸ hy)
          omega
      · have hb : Nat.beq e j = false := by
          cases hb : Nat.beq e j with
          | false => rfl
          | true => exact absurd (Nat.eq_of_beq_eq_true hb) hej
        simp only [hb, cond_false]
        have hjE : j ∉ R.E := by
          rw [hE]; intro h
          rcases List.mem_append.1 h with h | h
          · exact hj1 h
          · rcases List.mem_cons.1 h with h | h
            · exact hej h.symm
            · have := sortedN_lt hs j h; have := he2 e (by simp); omega
        have he2' : ∀ y ∈ e :: E2, j + 1 ≤ y := fun y hy => by
          rcases List.mem_cons.1 hy with h | h
          · subst h; have := he2 y (by simp); omega
          · have := sortedN_lt hs y h; have := he2 e (by simp); omega
        exact envL_rest o r (envL_go r) j E1 (e :: E2) p1 p2 x1 x2 hr' hjl hE hp hx hl1 hl2 he1 he2' hp1 hp2 hs hsp hdis hoj hstep hjE
    | nil =>
      simp only [cond_false]
      have hjE : j ∉ R.E := by rw [hE]; simpa using hj1
      exact envL_rest o r (envL_go r) j E1 [] p1 p2 x1 x2 hr' hjl hE hp hx hl1 hl2 he1 (fun y hy => by cases hy) hp1 hp2 hs hsp hdis hoj hstep hjE
theorem envL_eq (hl : x.length = R.E.length) (hs : sortedN R.E = true) (hsp : sortedN R.pre = true) (hdis : allL (fun i => !memN i R.E) R.pre = true) :
    envL T R.use ρ0 ρ1 ops 0 R.E x R.pre ρ0 = envI T ops R ρ0 ρ1 x ops.length :=
  envL_go ops 0 [] R.E [] R.pre [] x rfl (Nat.zero_le _) rfl rfl rfl rfl hl (fun _ h => by cases h) (fun _ _ => Nat.zero_le _) (fun _ h => by cases h) (fun _ _ => Nat.zero_le _) hs hsp hdis
end env

theorem Sc.isB_ap {s : Sc} {v : Value} (h : s.isB v = true) {p : Value → Prop} (hp : s.all p) : p v := by
  cases s <;> cases v <;> simp only [Sc.isB] at h <;> first
    | exact hp _
    | exact hp _ _ _
    | (cases h; done)
    | (have := of_decide_eq_true h; subst this; exact hp _)
theorem Scs.isB_ap : ∀ {ks : List Sc} {vs : List Value}, Scs.isB ks vs = true → ∀ {p : List Value → Prop}, Kall ks p → p vs
  | [], [], _, p, hp => hp
  | s :: r, v :: vs, h, p, hp => by
    simp only [Scs.isB, Bool.and_eq_true] at h
    exact Scs.isB_ap h.2 (Sc.isB_ap h.1 hp)
theorem Kd.isB_ap {k : Kd} {v : Value} (h : k.isB v = true) {p : Value → Prop} (hp : k.allV p) : p v := by
  cases k with
  | sc s => exact Sc.isB_ap h hp
  | agg ks =>
    cases v <;> simp only [Kd.isB] at h <;> first
      | (cases h; done)
      | (have := Scs.isB_ap h hp; simpa using this)
theorem Kds.isB_ap : ∀ {ks : List Kd} {vs : List Value}, Kds.isB ks vs = true → ∀ {p : List Value → Prop}, Kds.allV ks p → p vs
  | [], [], _, p, hp => hp
  | s :: r, v :: vs, h, p, hp => by
    simp only [Kds.isB, Bool.and_eq_true] at h
    exact Kds.isB_ap h.2 (Kd.isB_ap h.1 hp)
theorem isTB_ap {ti : TI} {v : Value} (h : isTB ti v = true) {p : Value → Prop} (hp : allT ti p) : p v := by
  unfold isTB at h
  unfold allT at hp
  split at h
  · split at h
    · have := Kds.isB_ap h hp; simpa using this
    · cases h
  · rename_i hnt
    cases ti with
    | tup ks => exact absurd rfl (hnt ks)
    | _ => simp only [TI.kd] at h hp <;> first | exact hp v | exact Kd.isB_ap h hp
theorem opAll_ap {ops : List Oper} {e : Nat} {o : Oper} (ho : nth ops e = some o) {v : Value} (h : isTO T o v = true) {p : Value → Prop} (hp : opAll T ops e p) : p v := by
  unfold opAll at hp
  rw [ho] at hp
  simp only at hp
  unfold isTO at h
  split at hp
  · exact hp v
  · rename_i d hd; rw [hd] at h; exact isTB_ap h hp

/-- what is asked of one who acts, met at what has been yielded -/
theorem oblI_ap {ops : List Oper} {R : RI} {i : Nat} : ∀ {E : List Nat} {x : List (Option Value)} {p : List (Option Value) → Prop}, oblI T ops R i E p → x.length = E.length →
    (∀ m e : Nat, E[m]? = some e → e ∈ lookL R.as i → ∃ o v, nth ops e = some o ∧ x[m]? = some (some v) ∧ isTO T o v = true) → (∀ m e : Nat, E[m]? = some e → (e = i ∨ i ∈ lookL R.as e) → x[m]? = some none) → p x
  | [], [], p, h, _, _, _ => h
  | e :: r, y :: x, p, h, hl, h1, h2 => by
    simp only [oblI] at h
    cases hm : memN e (lookL R.as i) with
    | true =>
      rw [hm] at h; simp only [cond_true] at h
      obtain ⟨o, v, ho, hy, ht⟩ := h1 0 e rfl (memN_mem hm)
      simp at hy; subst hy
      exact oblI_ap (x := x) (p := fun x => p (some v :: x)) (opAll_ap ho ht h) (by simpa using hl) (fun m e he => h1 (m + 1) e (by simpa using he)) (fun m e he => h2 (m + 1) e (by simpa using he))
    | false =>
      rw [hm] at h; simp only [cond_false] at h
      cases hb : (Nat.beq e i || memN i (lookL R.as e)) with
      | true =>
        rw [hb] at h; simp only [cond_true] at h
        have : y = none := by
          have := h2 0 e rfl (by
            simp only [Bool.or_eq_true] at hb
            rcases hb with hb | hb
            · exact .inl (Nat.eq_of_beq_eq_true hb)
            · exact .inr (memN_mem hb))
          simpa using this
        subst this
        exact oblI_ap (x := x) (p := fun x => p (none :: x)) h (by simpa using hl) (fun m e he => h1 (m + 1) e (by simpa using he)) (fun m e he => h2 (m + 1) e (by simpa using he))
      | false =>
        rw [hb] at h; simp only [cond_false] at h
        exact oblI_ap (x := x) (p := fun x => p (y :: x)) (h y) (by simpa using hl) (fun m e he => h1 (m + 1) e (by simpa using he)) (fun m e he => h2 (m + 1) e (by simpa using he))
theorem finI_ap {ops : List Oper} : ∀ {E : List Nat} {x : List (Option Value)} {p : List (Option Value) → Prop}, finI T ops E p → x.length = E.length →
    (∀ m e : Nat, E[m]? = some e → ∃ o v, nth ops e = some o ∧ x[m]? = some (some v) ∧ isTO T o v = true) → p x
  | [], [], p, h, _, _ => h
  | e :: r, y :: x, p, h, hl, h1 => by
    simp only [finI] at h
    obtain ⟨o, v, ho, hy, ht⟩ := h1 0 e rfl
    simp at hy; subst hy
    exact finI_ap (x := x) (p := fun x => p (some v :: x)) (opAll_ap ho ht h) (by simpa using hl) (fun m e he => h1 (m + 1) e (by simpa using he))
theorem xPreI_ap (hT : TabOk P T) {ops : Array Oper} {S : World → Prop} {R : RI} {ρ0 : Env} (hnd : nodupN (dsts ops.toList) = true) : ∀ {l : List Nat} {ρ : Env} {K : Env → Prop}, xPreI T ops.toList S R ρ0 l ρ K → nodupN l = true →
    (∀ i ∈ l, ∀ o d, nth ops.toList i = some o → o.dst = some d → ρ d = none) →
    ∃ ρ1, K ρ1 ∧ (∀ t v, ρ t = some v → ρ1 t = some v) ∧ (∀ t v, ρ1 t = some v → ρ t = some v ∨ ∃ i ∈ l, ∃ o, nth ops.toList i = some o ∧ o.dst = some t) ∧ ∀ i ∈ l, ∃ o v, nth ops.toList i = some o ∧ (∀ d, o.dst = some d → ρ1 d = some v) ∧
      ∀ a, Agree (keepE ρ0 (lookL R.use i) ρ1) a → Region.wanted o (yielded ops a.tmps) = true → YieldsIf P ops S o v a
  | [], ρ, K, h, _, _ => ⟨ρ, h, fun _ _ h => h, fun _ _ h => .inl h, fun i hi => by cases hi⟩
  | i :: r, ρ, K, h, hl, hn => by
    simp only [xPreI] at h
    obtain ⟨o, ho, h⟩ := need_imp h
    obtain ⟨v, h, hx⟩ := xQ_pick h
    simp only [nodupN, Bool.and_eq_true, Bool.not_eq_true'] at hl
    have hput : ∀ t u, ρ t = some u → (ρ.put o.dst v) t = some u := by
      intro t u hu
      cases hd : o.dst with
      | none => exact hu
      | some d =>
        simp only [Env.put, set_eq]
        rw [if_neg]
        · exact hu
        · intro e; subst e
          rw [hn i (by simp) o t ho hd] at hu; cases hu
    obtain ⟨ρ1, hK, hm, hback, hr⟩ := xPreI_ap hT hnd h hl.2 (fun j hj o' d ho' hd' => by
      have h1 := hn j (by simp [hj]) o' d ho' hd'
      cases hd : o.dst with
      | none => exact h1
      | some d' =>
        simp only [Env.put, set_eq]
        rw [if_neg]
        · exact h1
        · intro e; subst e
          have : i = j := dsts_inj hnd ho ho' hd hd'
          subst this
          rw [mem_memN hj] at hl; cases hl.1)
    refine ⟨ρ1, hK, fun t u hu => hm t u (hput t u hu), fun t u hu => ?_, fun j hj => ?_⟩
    · rcases hback t u hu with h1 | ⟨j, hj, o', ho', hd'⟩
      · cases hd : o.dst with
        | none => rw [hd] at h1; exact .inl h1
        | some d =>
          rw [hd] at h1
          simp only [Env.put, set_eq] at h1
          by_cases e : t = d
          · subst e; exact .inr ⟨i, by simp, o, ho, hd⟩
          · rw [if_neg e] at h1; exact .inl h1
      · exact .inr ⟨j, by simp [hj], o', ho', hd'⟩
    rcases List.mem_cons.1 hj with e | e
    · subst e
      refine ⟨o, v, ho, fun d hd => hm d v (by rw [hd]; simp [Env.put, set_eq]), fun a hA hw => ?_⟩
      have hA' : Agree (keepE ρ0 (lookL R.use j) ρ) a := by
        intro t u hu
        refine hA t u ?_
        rw [keepE_at] at hu ⊢
        split at hu
        · rename_i h1; rw [if_pos h1]; exact hm t u (hput t u hu)
        · rename_i h1; rw [if_neg h1]; exact hu
      obtain ⟨v', hy, e⟩ := xQ_yields (P := P) hT (ops := ops) hA' hw hx
      subst e; exact hy
    · exact hr j e
theorem nones_length : ∀ E : List Nat, (nones E).length = E.length
  | [] => rfl
  | _ :: r => by simp [nones, nones_length r]
theorem nones_get : ∀ {E : List Nat} {m : Nat}, m < E.length → (nones E)[m]? = some none
  | _ :: r, 0, _ => rfl
  | _ :: r, m + 1, h => by simp only [nones, List.getElem?_cons_succ]; exact nones_get (by simpa using h)
theorem eachI_ap {ops : List Oper} {KP : List PanicEntry → World → Prop} {R : RI} {ρ0 ρ1 : Env} {J : List (Option Value) → World → Prop} {fin : Prop} : ∀ {n i : Nat}, eachI P T ops KP R ρ0 ρ1 J fin (upTo n i) →
    fin ∧ ∀ j, i ≤ j → j < i + n → memN j R.pre = false → oneI P T ops KP R ρ0 ρ1 J j
  | 0, i, h => ⟨h, fun j h1 h2 => by omega⟩
  | n + 1, i, h => by
    simp only [upTo, eachI] at h
    cases hm : memN i R.pre with
    | true =>
      rw [hm] at h; simp only [cond_true] at h
      obtain ⟨h1, h2⟩ := eachI_ap h
      refine ⟨h1, fun j hj1 hj2 hj => ?_⟩
      by_cases e : j = i
      · subst e; rw [hm] at hj; cases hj
      · exact h2 j (by omega) (by omega) hj
    | false =>
      rw [hm] at h; simp only [cond_false] at h
      obtain ⟨h1, h2⟩ := eachI_ap h.2
      refine ⟨h1, fun j hj1 hj2 hj => ?_⟩
      by_cases e : j = i
      · subst e; exact h.1
      · exact h2 j (by omega) (by omega) hj
theorem pureOp2_run (hT : TabOk P T) {ρ : Env} {a : Act} (hA : Agree ρ a) {o : Oper} {v : Value} (h : pureOp2 T o.op ρ = some v) (w : World) : (execOp a.eval o).run P w = .ok (.value v) w := by
  unfold pureOp2 at h
  cases hp : pureOp T o.op ρ with
  | some u =>
    rw [hp] at h; simp only [Option.some.injEq] at h; subst h
    exact pureOp_run hT (fun x v hx => hA.eval hx) hp w
  | none =>
    rw [hp] at h
    simp only at h
    split at h
    · rename_i t parts ho
      split at h
      · rename_i ps hps
        have := evP_arr hA hps
        simp only [execOp, ho, this]
        exact run_v (buildV_run hT h w)
      · cases h
    · cases h
theorem noGuards_at : ∀ {l : List Oper}, noGuards l = true → ∀ {i : Nat} {o : Oper}, nth l i = some o → o.guard = none
  | [], _, i, _, ho => by cases i <;> cases ho
  | x :: r, h, 0, o, ho => by
    simp only [nth, Option.some.injEq] at ho; subst ho
    simp only [noGuards, Bool.and_eq_true] at h
    cases hg : x.guard with
    | none => rfl
    | some g => rw [hg] at h; cases h.1
  | x :: r, h, i + 1, o, ho => by
    simp only [noGuards, Bool.and_eq_true] at h
    exact noGuards_at h.2 ho

/-- what was yielded does not hang on who yields now -/
theorem envI_same {ops : Array Oper} {R : RI} {ρ0 ρ1 : Env} {x : List (Option Value)} (ha : ancOk ops.toList R.as = true) (hu : useOk ops.toList R = true) (hd : nodupN (dsts ops.toList) = true) (hE : nodupN R.E = true) {l : Array Bool} (hc : Closed ops l) {i m : Nat} (hi : l.getD i false = false)
    (hp : posOf i 0 R.E = some m) (hm : m < x.length) (v : Option Value) : ∀ (n j d : Nat) (o : Oper), j ≤ n → nth ops.toList j = some o → o.dst = some d → l.getD j false = true →
      envI T ops.toList R ρ0 ρ1 (setN v x m) ops.toList.length d = envI T ops.toList R ρ0 ρ1 x ops.toList.length d := by
  intro n
  induction n with
  | zero =>
    intro j d o hn hj hdd hl
    have hjl : j < ops.toList.length := by rw [nth_get] at hj; exact (List.getElem?_eq_some_iff.1 hj).1
    rw [envI_at hd hj hdd hjl, envI_at hd hj hdd hjl]
    unfold valI
    cases hq : posOf j 0 R.E with
    | some m' =>
      simp only
      have h1 := (posOf_get hp).2
      have h2 := (posOf_get hq).2
      have hne : m' ≠ m := fun e => by
        subst e; rw [h1] at h2; injection h2 with h2; subst h2; rw [hi] at hl; cases hl
      unfold nthO
      rw [nth_get, nth_get, setN_get hm, if_neg hne]
    | none =>
      simp only
      cases hb : memN j R.pre with
      | true => rfl
      | false =>
        simp only [cond_false]
        congr 1
        have : j = 0 := by omega
        subst this; rfl
  | succ n ih =>
    intro j d o hn hj hdd hl
    have hjl : j < ops.toList.length := by rw [nth_get] at hj; exact (List.getElem?_eq_some_iff.1 hj).1
    rw [envI_at hd hj hdd hjl, envI_at hd hj hdd hjl]
    unfold valI
    cases hq : posOf j 0 R.E with
    | some m' =>
      simp only
      have h1 := (posOf_get hp).2
      have h2 := (posOf_get hq).2
      have hne : m' ≠ m := fun e => by
        subst e; rw [h1] at h2; injection h2 with h2; subst h2; rw [hi] at hl; cases hl
      unfold nthO
      rw [nth_get, nth_get, setN_get hm, if_neg hne]
    | none =>
      simp only
      cases hb : memN j R.pre with
      | true => rfl
      | false =>
        simp only [cond_false]
        congr 1
        funext t
        rw [keepE_at, keepE_at]
        split
        · rename_i ht
          obtain ⟨k, o', hmem, ho', hdt⟩ := useOk_at hu hj ht
          have hlt := ((ancOk_at ha hj).2 k hmem).1
          have hlk := listed_anc' ha hc hj hl k hmem
          have := ih k t o' (by omega) ho' hdt hlk
          rw [envI_at hd ho' hdt (show k < ops.toList.length by omega), envI_at hd ho' hdt (show k < ops.toList.length by omega)] at this
          rw [envI_at hd ho' hdt hlt, envI_at hd ho' hdt hlt]; exact this
        · rfl

theorem xInvR_sound (hT : TabOk P T) (hm : P.follows .mixedOrders = true) {ops : Array Oper} {KP : List PanicEntry → World → Prop} {R : RI} {ρ : Env} {w : World} {K : Env → World → Prop} (h : xInvR P T ops KP R ρ w K)
    {Q : Exit → Act → World → Prop} (hQ : PanicFree (dsts ops.toList) Q) {a : Act} (hA : Agree ρ a) (hlt : lts a.tmps.size (dsts ops.toList) = true) (hP : ∀ ch a' w', Off (dsts ops.toList) a a' → KeepsD w w' → KP ch w' → Q (.panic ch) a' w')
    (hK : ∀ ρ' a' w', KeepsD w w' → K ρ' w' → Agree ρ' a' → Off (dsts ops.toList) a a' → Q .normal a' w') (id : Nat) : (Code.region id ops true).wpIn (Fw ro) 0 P Q a w := by
  unfold xInvR at h
  obtain ⟨hb, S, hS, h⟩ := bif_imp h
  simp only [Bool.and_eq_true] at hb
  obtain ⟨⟨⟨⟨⟨⟨⟨⟨⟨⟨⟨hsel, hnd⟩, hng⟩, ha⟩, huse⟩, hsE⟩, hsp⟩, hdd⟩, hE⟩, hpd⟩, hEl⟩, hdis⟩ := hb
  have hlen : ops.toList.length = ops.size := by simp
  obtain ⟨ρ1, ⟨J, hJS, hJ0, heach⟩, -, hback, hpre⟩ := xPreI_ap (P := P) hT hdd h hpd (fun i hi o d ho hd => by
    rw [del_at, if_pos]
    rw [nth_get] at ho
    exact dsts_mem (List.mem_of_getElem? ho) hd)
  obtain ⟨hfin, hone⟩ := eachI_ap heach
  have hmem : ∀ {j o d}, nth ops.toList j = some o → o.dst = some d → d ∈ dsts ops.toList := fun {j o d} ho hd => by
    rw [nth_get] at ho
    exact dsts_mem (List.mem_of_getElem? ho) hd
  -- what is known of a slot
  have hold : ∀ {x : List (Option Value)} {a' : Act} {t v}, Off (dsts ops.toList) a a' → (¬ ∃ k o', nth ops.toList k = some o' ∧ o'.dst = some t) → envI T ops.toList R (ρ.del (dsts ops.toList)) ρ1 x ops.toList.length t = some v → a'.tmps[t]? = some v := by
    intro x a' t v ho hk hv
    rw [envI_out (fun k o' _ ho' e => hk ⟨k, o', ho', e⟩)] at hv
    obtain ⟨h1, h2⟩ := del_eq hv
    rw [ho.same t h1]; exact hA t v h2
  let Inv : Array Bool → Act → World → Prop := fun l a' w' => Closed ops l ∧ l.size = ops.size ∧ Off (dsts ops.toList) a a' ∧ KeepsD w w' ∧ ∃ x : List (Option Value), J x w' ∧ x.length = R.E.length ∧
    (∀ m e : Nat, R.E[m]? = some e → (l.getD e false = true → ∃ o v, nth ops.toList e = some o ∧ x[m]? = some (some v) ∧ isTO T o v = true) ∧ (l.getD e false = false → x[m]? = some none)) ∧
    ∀ (j d : Nat) (o : Oper) (v : Value), nth ops.toList j = some o → o.dst = some d → l.getD j false = true → envI T ops.toList R (ρ.del (dsts ops.toList)) ρ1 x ops.toList.length d = some v → a'.tmps[d]? = some v
  refine wpIn_region_any hm (any_inv hnd (Inv := Inv) ?_ ?_ ops.size (Array.replicate ops.size false) a w.drew ?_ ?_)
  · -- a step
    rintro l a' w' i ⟨hcl, hsz, hoff, hkd, x, hJ, hxl, hpos, hag⟩ hr
    obtain ⟨hun, o, hoi, -⟩ := mem_ready.1 hr
    have hi : nth ops.toList i = some o := arr_nth hoi
    have hilt : i < ops.size := (Array.getElem?_eq_some_iff.1 hoi).1
    have hunf : l.getD i false = false := by
      rw [Array.getD_eq_getD_getElem?, Array.getElem?_eq_getElem (by omega)] at hun ⊢; exact hun
    have hw : Region.wanted o (yielded ops a'.tmps) = true := by
      unfold Region.wanted; rw [noGuards_at hng hi]
    have hself : (l.setIfInBounds i true).getD i false = true := by
      rw [Array.getD_eq_getD_getElem?, Array.getElem?_setIfInBounds_self_of_lt (by omega)]; rfl
    have hoth : ∀ {j}, j ≠ i → (l.setIfInBounds i true).getD j false = l.getD j false := fun {j} hj => getD_set_ne false (Ne.symm hj)
    have hancs := listed_anc ha hcl i i (Nat.le_refl _) hi (ready_deps hr hi)
    have heq := envL_eq (T := T) (ops := ops.toList) (R := R) (ρ0 := ρ.del (dsts ops.toList)) (ρ1 := ρ1) hxl hsE hsp hdis
    have agree : Agree (keepE (ρ.del (dsts ops.toList)) (lookL R.use i) (envI T ops.toList R (ρ.del (dsts ops.toList)) ρ1 x ops.toList.length)) a' := by
      intro t v hv
      rw [keepE_at] at hv
      split at hv
      · rename_i h1
        obtain ⟨k, o', hmem, ho', hdt⟩ := useOk_at huse hi h1
        exact hag k t o' v ho' hdt (hancs k hmem) hv
      · obtain ⟨h1, h2⟩ := del_eq hv
        rw [hoff.same t h1]; exact hA t v h2
    have hsize : ∀ y, o.dst = some y → y < a'.tmps.size := fun y hy => by
      rw [hoff.size]; exact lts_mem hlt y (hmem hi hy)
    have hput : ∀ {d v}, o.dst = some d → (a'.put o.dst v).tmps[d]? = some v := fun {d v} hd => by
      have := Agree.put (ρ := fun _ => none) (a := a') (fun t v h => by cases h) (d := o.dst) hsize v
      exact this d v (by rw [hd]; simp [Env.put, set_eq])
    have hkeep : ∀ {d v}, o.dst ≠ some d → (a'.put o.dst v).tmps[d]? = a'.tmps[d]? := fun {d v} hd => by
      have := Off.put (W := match o.dst with | some e => [e] | none => []) (a := a') (d := o.dst) (fun y hy => by rw [hy]; simp) v
      refine this.same d ?_
      cases ho : o.dst with
      | none => simp
      | some e => simp; intro e'; subst e'; exact hd ho
    have hoff' : ∀ v, Off (dsts ops.toList) a (a'.put o.dst v) := fun v => hoff.trans (Off.put (fun y hy => hmem hi hy) v)
    have hcl' := hcl.set hr
    have hsz' : (l.setIfInBounds i true).size = ops.size := by simp [hsz]
    have notE : memN i R.pre = true → ∀ m, posOf i 0 R.E ≠ some m := fun hp m hq => by
      have h1 := (posOf_get hq).2
      have h2 := allL_imp hdis i (memN_mem hp)
      rw [mem_memN (List.mem_of_getElem? h1)] at h2; cases h2
    -- what has been yielded stays, if none that counts yields now
    have quiet : ∀ v, (∀ d, o.dst = some d → envI T ops.toList R (ρ.del (dsts ops.toList)) ρ1 x ops.toList.length d = some v ∨ envI T ops.toList R (ρ.del (dsts ops.toList)) ρ1 x ops.toList.length d = none) → i ∉ R.E → Inv (l.setIfInBounds i true) (a'.put o.dst v) w' := by
      intro v hv hiE
      refine ⟨hcl', hsz', hoff' v, hkd, x, hJ, hxl, fun m e he => ?_, fun j d o' u hj hdj hlj hu => ?_⟩
      · have hne : e ≠ i := fun h => by subst h; exact hiE (List.mem_of_getElem? he)
        rw [hoth hne]; exact hpos m e he
      · by_cases hji : j = i
        · subst hji
          rw [hi] at hj; cases hj
          rcases hv d hdj with h | h
          · rw [h] at hu; cases hu; exact hput hdj
          · rw [h] at hu; cases hu
        · rw [hoth hji] at hlj
          rw [hkeep (fun e => hji (dsts_inj hdd hj hi hdj e))]
          exact hag j d o' u hj hdj hlj hu
    cases hq : posOf i 0 R.E with
    | some m =>
      have hEm := (posOf_get hq).2
      rw [Nat.sub_zero] at hEm
      have hmx : m < x.length := by rw [hxl]; exact (List.getElem?_eq_some_iff.1 hEm).1
      have hnp : memN i R.pre = false := by
        cases hb : memN i R.pre with
        | false => rfl
        | true => exact absurd hq (notE hb m)
      have h1 := hone i (by omega) (by omega) hnp
      unfold oneI at h1
      obtain ⟨o1, ho1, h1⟩ := need_imp h1
      rw [hi] at ho1; cases ho1
      rw [hq] at h1
      have h2 := oblI_ap h1 hxl (fun m' e he hm' => by
        obtain ⟨o', v, h3, h4, h5⟩ := (hpos m' e he).1 (hancs e hm')
        exact ⟨o', v, h3, h4, h5⟩) (fun m' e he hm' => by
        refine (hpos m' e he).2 ?_
        rcases hm' with e' | hm'
        · subst e'; exact hunf
        · cases hle : l.getD e false with
          | false => rfl
          | true =>
            have helt := allL_imp hEl e (List.mem_of_getElem? he)
            have hoe : nth ops.toList e = some (ops.toList[e]'(by simpa using helt)) := by rw [nth_get, List.getElem?_eq_getElem]
            have := listed_anc' ha hcl hoe hle i hm'
            rw [hunf] at this; cases this) w' hJ
      rw [heq] at h2
      unfold opW
      simp only [hoi, hw, if_true]
      refine xOp_sound hT agree h2 (fun v w2 hd hx => ?_) (fun ch w2 hd hp => hP ch a' w2 hoff (hkd.trans hd) hp)
      obtain ⟨hty, hJ2⟩ := bif_imp hx
      refine ⟨hcl', hsz', hoff' v, hkd.trans hd, setN (some v) x m, hJ2, by rw [setN_length]; exact hxl, fun m' e he => ?_, fun j d o' u hj hdj hlj hu => ?_⟩
      · by_cases hei : e = i
        · subst hei
          have : m' = m := nodupN_get hE he hEm
          subst this
          rw [hself]
          refine ⟨fun _ => ⟨o, v, hi, by rw [setN_get hmx, if_pos rfl], hty⟩, fun hf => by cases hf⟩
        · rw [hoth hei]
          have hmm : m' ≠ m := fun e' => by subst e'; rw [hEm] at he; cases he; exact hei rfl
          rw [setN_get hmx, if_neg hmm]
          exact hpos m' e he
      · by_cases hji : j = i
        · subst hji
          rw [hi] at hj; cases hj
          rw [envI_at hdd hi hdj (by omega)] at hu
          unfold valI at hu
          rw [hq] at hu
          simp only [nthO, nth_get, setN_get hmx, if_pos] at hu
          cases hu
          exact hput hdj
        · rw [hoth hji] at hlj
          rw [hkeep (fun e => hji (dsts_inj hdd hj hi hdj e))]
          rw [envI_same ha huse hdd hE hcl hunf hq hmx (some v) j j d o' (Nat.le_refl _) hj hdj hlj] at hu
          exact hag j d o' u hj hdj hlj hu
    | none =>
      have hiE := posOf_none hq
      cases hp : memN i R.pre with
      | true =>
        obtain ⟨o1, v, ho1, hv, hy⟩ := hpre i (memN_mem hp)
        rw [hi] at ho1; cases ho1
        have hval : ∀ d, o.dst = some d → envI T ops.toList R (ρ.del (dsts ops.toList)) ρ1 x ops.toList.length d = some v := fun d hd => by
          rw [envI_at hdd hi hd (by omega)]
          unfold valI
          rw [hq, hp]
          simp only [cond_true, hd]
          exact hv d hd
        refine yields_op hoi (hy a' ?_ hw) (hJS x w' hJ) (quiet v (fun d hd => .inl (hval d hd)) hiE)
        -- what it looks at
        intro t u hu
        rw [keepE_at] at hu
        split at hu
        · rename_i h1
          obtain ⟨k, o', hmem', ho', hdt⟩ := useOk_at huse hi h1
          refine hag k t o' u ho' hdt (hancs k hmem') ?_
          rcases hback t u hu with h3 | ⟨k', hk', o2, ho2, hd2⟩
          · exact absurd (hmem ho' hdt) (del_eq h3).1
          · have : k' = k := dsts_inj hdd ho2 ho' hd2 hdt
            subst this
            rw [ho'] at ho2; cases ho2
            have hkl : k' < ops.toList.length := by rw [nth_get] at ho'; exact (List.getElem?_eq_some_iff.1 ho').1
            rw [envI_at hdd ho' hdt hkl]
            unfold valI
            have hpk := mem_memN hk'
            cases hqk : posOf k' 0 R.E with
            | some m =>
              have h4 := (posOf_get hqk).2
              have h5 := allL_imp hdis k' hk'
              rw [mem_memN (List.mem_of_getElem? h4)] at h5; cases h5
            | none =>
              simp only [hpk, cond_true, hdt]; exact hu
        · obtain ⟨h4, h5⟩ := del_eq hu
          rw [hoff.same t h4]; exact hA t u h5
      | false =>
        have h1 := hone i (by omega) (by omega) hp
        unfold oneI at h1
        obtain ⟨o1, ho1, h1⟩ := need_imp h1
        rw [hi] at ho1; cases ho1
        rw [hq] at h1
        have h2 := oblI_ap h1 hxl (fun m' e he hm' => by
          obtain ⟨o', v, h3, h4, h5⟩ := (hpos m' e he).1 (hancs e hm')
          exact ⟨o', v, h3, h4, h5⟩) (fun m' e he hm' => by
          refine (hpos m' e he).2 ?_
          rcases hm' with e' | hm'
          · subst e'; exact hunf
          · cases hle : l.getD e false with
            | false => rfl
            | true =>
              have helt := allL_imp hEl e (List.mem_of_getElem? he)
              have hoe : nth ops.toList e = some (ops.toList[e]'(by simpa using helt)) := by rw [nth_get, List.getElem?_eq_getElem]
              have := listed_anc' ha hcl hoe hle i hm'
              rw [hunf] at this; cases this)
        rw [heq] at h2
        cases hv : pureOp2 T o.op (keepE (ρ.del (dsts ops.toList)) (lookL R.use i) (envI T ops.toList R (ρ.del (dsts ops.toList)) ρ1 x ops.toList.length)) with
        | none => rw [hv] at h2; exact h2.elim
        | some v =>
          unfold opW
          simp only [hoi, hw, if_true]
          refine wp_value (pureOp2_run hT agree hv w') (quiet v (fun d hd => .inl ?_) hiE)
          rw [envI_at hdd hi hd (by omega)]
          unfold valI
          rw [hq, hp]
          simp only [cond_false]
          rw [envI_del ha huse hdd hi (n := ops.toList.length) (by omega)]
          exact hv
  · -- at the end
    rintro l a' w' ⟨hcl, hsz, hoff, hkd, x, hJ, hxl, hpos, hag⟩ hr
    have hall : ∀ j, j < ops.size → l.getD j false = true := fun j hj => all_listed ha hsz hr j j (Nat.le_refl _) hj
    have hfx := finI_ap hfin hxl (fun m e he => (hpos m e he).1 (hall e (by have := allL_imp hEl e (List.mem_of_getElem? he); simpa using this))) w' hJ
    rw [envL_eq hxl hsE hsp hdis] at hfx
    refine hK _ a' w' hkd hfx ?_ hoff
    · intro t v hv
      by_cases hk : ∃ k o', nth ops.toList k = some o' ∧ o'.dst = some t
      · obtain ⟨k, o', ho', hdt⟩ := hk
        have hkl : k < ops.size := by rw [nth_get] at ho'; have := (List.getElem?_eq_some_iff.1 ho').1; omega
        exact hag k t o' v ho' hdt (hall k hkl) hv
      · exact hold hoff hk hv
  · unfold unl
    exact Nat.le_trans (List.length_filter_le _ _) (by simp)
  · refine ⟨Closed.start ops _, by simp, .refl _ _, .drew w, nones R.E, hJ0, nones_length _, fun m e he => ?_, fun j d o v hj hd hl hv => ?_⟩
    · have hml := (List.getElem?_eq_some_iff.1 he).1
      refine ⟨fun hf => ?_, fun _ => nones_get hml⟩
      simp [Array.getElem?_replicate] at hf
      split at hf <;> cases hf
    · simp [Array.getElem?_replicate] at hl
      split at hl <;> cases hl
end Go.X
