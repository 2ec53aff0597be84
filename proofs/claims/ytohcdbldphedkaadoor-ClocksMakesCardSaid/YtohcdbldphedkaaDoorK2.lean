/- The clocks seat: within, before, apart, join, one part more. -/
import Derived.Test.YtohcdbldphedkaaDoorK1
import Derived.Test.YtohcdbldphedkaaDoorX17
set_option linter.unusedVariables false
set_option linter.unusedSimpArgs false
namespace Go.Proofs.YtohcdbldphedkaaDoor
open Go.X
def Ck.get (c : Ck) : Nat → Int
  | 0 => c.c0
  | 1 => c.c1
  | 2 => c.c2
  | 3 => c.c3
  | 4 => c.c4
  | 5 => c.c5
  | 6 => c.c6
  | 7 => c.c7
  | _ => 0
def Ck.set (c : Ck) (i : Nat) (x : Int) : Ck :=
  match i with
  | 0 => { c with c0 := x }
  | 1 => { c with c1 := x }
  | 2 => { c with c2 := x }
  | 3 => { c with c3 := x }
  | 4 => { c with c4 := x }
  | 5 => { c with c5 := x }
  | 6 => { c with c6 := x }
  | 7 => { c with c7 := x }
  | _ => c
def ck0 : Ck := ⟨0, 0, 0, 0, 0, 0, 0, 0⟩
theorem cells_get (c : Ck) {i : Nat} (h : i < 8) : c.cells[i]? = some (.int .i64 (c.get i)) := by
  match i, h with
  | 0, _ => rfl
  | 1, _ => rfl
  | 2, _ => rfl
  | 3, _ => rfl
  | 4, _ => rfl
  | 5, _ => rfl
  | 6, _ => rfl
  | 7, _ => rfl
  | n + 8, h => omega
theorem cells_set (c : Ck) {i : Nat} (h : i < 8) (x : Int) : c.cells.set i (.int .i64 x) = (c.set i x).cells := by
  match i, h with
  | 0, _ => rfl
  | 1, _ => rfl
  | 2, _ => rfl
  | 3, _ => rfl
  | 4, _ => rfl
  | 5, _ => rfl
  | 6, _ => rfl
  | 7, _ => rfl
  | n + 8, h => omega
theorem get_set (c : Ck) {i : Nat} (h : i < 8) (x : Int) (j : Nat) : (c.set i x).get j = if j = i then x else c.get j := by
  match i, h with
  | 0, _ => match j with | 0 => rfl | 1 => rfl | 2 => rfl | 3 => rfl | 4 => rfl | 5 => rfl | 6 => rfl | 7 => rfl | n + 8 => rfl
  | 1, _ => match j with | 0 => rfl | 1 => rfl | 2 => rfl | 3 => rfl | 4 => rfl | 5 => rfl | 6 => rfl | 7 => rfl | n + 8 => rfl
  | 2, _ => match j with | 0 => rfl | 1 => rfl | 2 => rfl | 3 => rfl | 4 => rfl | 5 => rfl | 6 => rfl | 7 => rfl | n + 8 => rfl
  | 3, _ => match j with | 0 => rfl | 1 => rfl | 2 => rfl | 3 => rfl | 4 => rfl | 5 => rfl | 6 => rfl | 7 => rfl | n + 8 => rfl
  | 4, _ => match j with | 0 => rfl | 1 => rfl | 2 => rfl | 3 => rfl | 4 => rfl | 5 => rfl | 6 => rfl | 7 => rfl | n + 8 => rfl
  | 5, _ => match j with | 0 => rfl | 1 => rfl | 2 => rfl | 3 => rfl | 4 => rfl | 5 => rfl | 6 => rfl | 7 => rfl | n + 8 => rfl
  | 6, _ => match j with | 0 => rfl | 1 => rfl | 2 => rfl | 3 => rfl | 4 => rfl | 5 => rfl | 6 => rfl | 7 => rfl | n + 8 => rfl
  | 7, _ => match j with | 0 => rfl | 1 => rfl | 2 => rfl | 3 => rfl | 4 => rfl | 5 => rfl | 6 => rfl | 7 => rfl | n + 8 => rfl
  | n + 8, h => omega
theorem Ck.ext_get {a b : Ck} (h : ∀ i, i < 8 → a.get i = b.get i) : a = b := by
  rw [Ck.ext_iff']
  exact ⟨h 0 (by decide), h 1 (by decide), h 2 (by decide), h 3 (by decide), h 4 (by decide), h 5 (by decide), h 6 (by decide), h 7 (by decide)⟩
/-- within -/
def wn (a b : Ck) : Bool := (List.range 8).all fun i => decide (a.get i ≤ b.get i)
theorem wn_iff (a b : Ck) : wn a b = true ↔ ∀ i, i < 8 → a.get i ≤ b.get i := by
  unfold wn
  simp only [List.all_eq_true, List.mem_range, decide_eq_true_eq]
theorem wn_no {a b : Ck} {i : Nat} (hi : i < 8) (h : a.get i > b.get i) : wn a b = false := by
  cases hw : wn a b with
  | false => rfl
  | true => have := (wn_iff a b).1 hw i hi; omega
theorem wn_yes {a b : Ck} (h : ∀ i, i < 8 → a.get i ≤ b.get i) : wn a b = true := by
  exact (wn_iff a b).2 h
def jn (a b : Ck) : Ck := ⟨max a.c0 b.c0, max a.c1 b.c1, max a.c2 b.c2, max a.c3 b.c3, max a.c4 b.c4, max a.c5 b.c5, max a.c6 b.c6, max a.c7 b.c7⟩
theorem jn_get (a b : Ck) {i : Nat} (h : i < 8) : (jn a b).get i = max (a.get i) (b.get i) := by
  match i, h with
  | 0, _ => rfl
  | 1, _ => rfl
  | 2, _ => rfl
  | 3, _ => rfl
  | 4, _ => rfl
  | 5, _ => rfl
  | 6, _ => rfl
  | 7, _ => rfl
  | n + 8, h => omega
/-- such a clock may be -/
def okN (n : Int) : Bool := (decide ((0 : Int) ≤ n)) && (decide (n ≤ 4611686018427387904))
def Ck.ok (c : Ck) : Bool := (List.range 8).all fun i => okN (c.get i)
theorem ok_iff (c : Ck) : c.ok = true ↔ ∀ i, i < 8 → okN (c.get i) = true := by
  unfold Ck.ok
  simp only [List.all_eq_true, List.mem_range]
def tk (c : Ck) (t : Int) : Ck × Int :=
  if c.ok = true then (if t < 0 ∨ t ≥ 8 ∨ c.get t.toNat = 4611686018427387904 then (ck0, 4) else (c.set t.toNat (c.get t.toNat + 1), 0)) else (ck0, 2)
section
variable {w : World} {K : Value → World → Prop} {KP : List PanicEntry → World → Prop}
theorem ck_ld {b : Nat} {c : Ck} {t : TypeId} (h : Blk w b c.cells t) {i : Nat} (hi : i < 8) : w.cell? (Addr.add ⟨b, 0, none⟩ (i * 1)) = some (.int .i64 (c.get i)) := by
  rw [Nat.mul_one]; exact h.ld (cells_get c hi)
theorem C16 {a b : Ck} (h : ∀ u, Ex w u → K (.bool (wn a b)) u) : XCP Tryd.prog 16 [a.v, b.v] w K KP := by
  refine E16 ?_
  unfold F16
  intro w0 p w1 p1
  have hs : Sep w1 (bx w0.heap.size b.cells 23 :: bx w.heap.size a.cells 23 :: [oldA w]) := ((Sep.begin w).box _ _).box _ _
  clear_value w1
  refine each 8 (fun i => a.get i ≤ b.get i) (fun I μ n u hu hlt hpre next => ?_) fun I μ u hu hall => ?_
  · rw [if_pos (by simp; omega)]
    refine ⟨fun x => Ex w1 x, hu.trans (Ex.drew _), ?_⟩
    intro w3
    refine ⟨by omega, by omega, _, fun x hx => ck_ld (hs.ext hx).bx1 hlt, by omega, by omega, _, fun x hx => ck_ld (hs.ext hx).bx0 hlt, ?_⟩
    rw [Int.toNat_natCast]
    by_cases hc : a.get n > b.get n
    · rw [if_pos (by simpa using hc)]
      have := h w3 ((hs.ex 2 rfl).trans (hu.trans (Ex.drew _)))
      rwa [wn_no hlt hc] at this
    · rw [if_neg (by simpa using hc), wi (by omega) (by omega)]
      exact next (by omega) _ (Ex.drew _)
  · rw [if_neg (by decide)]
    have := h u ((hs.ex 2 rfl).trans hu)
    rwa [wn_yes hall] at this
theorem C45 {a b : Ck} {L : List Assn} (hs : Sep w L) (h : ∀ u x y, Sep u (bx y b.cells 23 :: bx x a.cells 23 :: L) → K (.func (.func 66) #[] #[.pointer (some ⟨x, 0, none⟩), .pointer (some ⟨y, 0, none⟩)]) u) : XCP Tryd.prog 45 [a.v, b.v] w K KP := by
  refine E45 ?_
  unfold F45
  exact h _ _ _ ((hs.box _ _).box _ _)
theorem C66 {l : Nat} {a b : Ck} {x y : Nat} {J : Nat → World → Prop} {R : World → Prop}
    (hB : ∀ n u, J n u → Blk u x a.cells 23 ∧ Blk u y b.cells 23) (hd : ∀ n u, J n u → J n u.drew)
    (hy : ∀ n u, n < 8 → J n u → ∀ K1 : Value → World → Prop, (∀ u1, J (n + 1) u1 → K1 (.bool true) u1) → (∀ u1, R u1 → K1 (.bool false) u1) → XYield Tryd.prog l [.int .i64 (a.get n), .int .i64 (b.get n)] u K1 NP)
    (h0 : J 0 w) (h1 : ∀ u, J 8 u → K (.tuple #[]) u) (h2 : ∀ u, R u → K (.tuple #[]) u) :
    XCP Tryd.prog 66 [.func (.yield l) #[] #[], .pointer (some ⟨x, 0, none⟩), .pointer (some ⟨y, 0, none⟩)] w K NP := by
  refine E66 ?_
  unfold F66
  refine iter 8 J h0 (fun I μ n u hu hlt next => ?_) fun I μ u hu => ?_
  · rw [if_pos (by simp; omega)]
    refine ⟨J n, hd _ _ hu, ?_⟩
    intro w1
    simp only [xptr_some]
    refine ⟨by omega, by omega, _, fun v hv => ck_ld (hB _ _ hv).1 hlt, by omega, by omega, _, fun v hv => ck_ld (hB _ _ hv).2 hlt, ?_⟩
    rw [Int.toNat_natCast]
    refine hy n _ hlt (hd _ _ hu) _ (fun u1 hj => ⟨_, rfl, fun _ => True, trivial, ?_⟩) fun u1 hr => ⟨_, rfl, fun _ => True, trivial, ?_⟩
    · rw [if_neg (by decide), wi (by omega) (by omega)]
      exact next _ hj
    · rw [if_pos (by decide)]
      exact h2 _ hr
  · rw [if_neg (by decide)]
    exact h1 _ hu
theorem C17 {a b : Ck} (h : ∀ u, Ex w u → K (.bool (wn a b)) u) : XCP Tryd.prog 17 [a.v, b.v] w K KP := by
  refine E17 ?_
  unfold F17
  intro KP0 KP' w0 p w1 p1 w2 p2
  have hs : Sep w2 (bx w1.heap.size [.bool false] 4 :: bx w0.heap.size b.cells 23 :: bx w.heap.size a.cells 23 :: [oldA w]) := (((Sep.begin w).box _ _).box _ _).box _ _
  clear_value w2
  refine ⟨_, _, _, _, _, _, _, _, hs.bx2.lds, _, _, _, _, _, _, _, _, hs.bx1.lds, ?_⟩
  refine C45 (a := a) (b := b) hs fun w3 x y hs => ⟨_, rfl, ?_⟩
  intro l r hl hst hpn rule
  have hs := hs.newLoop r
  rw [← hl] at hs
  generalize (w3.alloc (.deferred (some []))).alloc (.loop r) = w4 at hs ⊢
  show XCP Tryd.prog 66 [.func (.yield l) #[] #[], .pointer (some ⟨x, 0, none⟩), .pointer (some ⟨y, 0, none⟩)] w4 _ _
  refine XC.mono (K := fun _ u => (Sep u (loopA l r :: bx y b.cells 23 :: bx x a.cells 23 :: bx w1.heap.size [.bool false] 4 :: [oldA w]) ∧ wn a b = true) ∨ (Sep u (loopA l { r with state := .done, pending := some .ret } :: bx y b.cells 23 :: bx x a.cells 23 :: bx w1.heap.size [.bool false] 4 :: [oldA w]) ∧ wn a b = false))
    (C66 (a := a) (b := b) (J := fun n u => Sep u (loopA l r :: bx y b.cells 23 :: bx x a.cells 23 :: bx w1.heap.size [.bool false] 4 :: [oldA w]) ∧ ∀ i, i < n → a.get i ≤ b.get i)
      (R := fun u => Sep u (loopA l { r with state := .done, pending := some .ret } :: bx y b.cells 23 :: bx x a.cells 23 :: bx w1.heap.size [.bool false] 4 :: [oldA w]) ∧ wn a b = false)
      (fun n u hu => ⟨hu.1.bx2, hu.1.bx1⟩) (fun n u hu => ⟨hu.1.drew, hu.2⟩) ?hy ⟨?h0, fun i h => by omega⟩ (fun u hu => .inl ⟨hu.1, wn_yes hu.2⟩) fun u hu => .inr hu) ?post
  case h0 => exact (hs.dropAt 4 rfl).dropAt 4 rfl
  case hy =>
    intro n u hlt ⟨hs, hpre⟩ K1 hk1 hk2
    refine rule _ _ u K1 hs.loop ⟨hs.loop, ?_⟩
    intro w5
    have hs5 : Sep w5 _ := hs.setLoop { r with state := .busy }
    clear_value w5
    by_cases hc : a.get n > b.get n
    · rw [if_pos (by simpa using hc)]
      refine hs5.putAt 3 rfl (o := 0) (by decide) fun w6 _ hs6 => ?_
      exact ⟨hs6.loop, hk2 _ ⟨hs6.setLoop _, wn_no hlt hc⟩⟩
    · rw [if_neg (by simpa using hc)]
      exact ⟨hs5.loop, hk1 _ ⟨hs5.setLoop r, fun i hi => by
        by_cases e : i = n
        · subst e; omega
        · exact hpre i (by omega)⟩⟩
  case post =>
    rintro _ u (⟨hs, hw⟩ | ⟨hs, hw⟩)
    · left
      have hr : ({ r with state := .ready, pending := none } : Loop) = r := by rw [← hst, ← hpn]
      refine ⟨.ready, by rw [hr]; exact hs.loop, by decide, ?_⟩
      intro w8
      have hs8 : Sep w8 _ := hs.setLoop _
      clear_value w8
      refine hs8.putAt 3 rfl (o := 0) (by decide) fun w9 _ hs9 w10 hsh => ⟨true, (Blk.shut hsh (hs9.blkAt 3 rfl)).ld' rfl, ?_⟩
      rw [← hw]
      exact h _ (hsh.ex (hs9.ex 4 rfl) (Nat.le_refl _))
    · right; left
      refine ⟨.done, hs.loop, by decide, ?_⟩
      intro w11 w12 hsh
      have hs11 : Sep w11 _ := hs.setLoop _
      clear_value w11
      refine ⟨false, (Blk.shut hsh (hs11.blkAt 3 rfl)).ld' rfl, ?_⟩
      rw [← hw]
      exact h _ (hsh.ex (hs11.ex 4 rfl) (Nat.le_refl _))
theorem C18 {a b : Ck} (h : ∀ u, Ex w u → K (.bool ((!decide (a = b)) && wn a b)) u) : XCP Tryd.prog 18 [a.v, b.v] w K KP := by
  refine E18 ?_
  unfold F18
  intro w0 p w1 p1
  have hs : Sep w1 (bx w0.heap.size b.cells 23 :: bx w.heap.size a.cells 23 :: [oldA w]) := ((Sep.begin w).box _ _).box _ _
  clear_value w1
  refine ⟨_, _, _, _, _, _, _, _, hs.bx1.lds, _, _, _, _, _, _, _, _, hs.bx0.lds, ?_⟩
  refine xr_ck_ne und23 eg23 ⟨_, rfl, ?_⟩
  refine and_join (c := wn a b) (fun kb hk => ?_) fun u hu => h u ((hs.ex 2 rfl).trans hu)
  exact ⟨_, _, _, _, _, _, _, _, hs.bx1.lds, _, _, _, _, _, _, _, _, hs.bx0.lds, C17 (a := a) (b := b) fun u hu => ⟨_, rfl, hk u hu⟩⟩
theorem C19 {a b : Ck} (h : ∀ u, Ex w u → K (.bool ((!wn a b) && !wn b a)) u) : XCP Tryd.prog 19 [a.v, b.v] w K KP := by
  refine E19 ?_
  unfold F19
  intro w0 p w1 p1
  have hs : Sep w1 (bx w0.heap.size b.cells 23 :: bx w.heap.size a.cells 23 :: [oldA w]) := ((Sep.begin w).box _ _).box _ _
  clear_value w1
  refine ⟨_, _, _, _, _, _, _, _, hs.bx1.lds, _, _, _, _, _, _, _, _, hs.bx0.lds, ?_⟩
  refine C17 (a := a) (b := b) fun u1 e1 => ⟨_, rfl, ?_⟩
  replace hs := hs.ext e1
  refine and_join (c := !wn b a) (fun kb hk => ?_) fun u hu => h u ((hs.ex 2 rfl).trans hu)
  exact ⟨_, _, _, _, _, _, _, _, hs.bx0.lds, _, _, _, _, _, _, _, _, hs.bx1.lds, C17 (a := b) (b := a) fun u hu => ⟨_, rfl, hk u hu⟩⟩
end
end Go.Proofs.YtohcdbldphedkaaDoor
