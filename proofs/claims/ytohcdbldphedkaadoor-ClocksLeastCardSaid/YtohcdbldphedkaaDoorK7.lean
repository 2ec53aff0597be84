/- The clocks seat: copies; which are the same; new ones. -/
import Derived.Test.YtohcdbldphedkaaDoorK6
set_option linter.unusedVariables false
set_option linter.unusedSimpArgs false
namespace Go.Proofs.YtohcdbldphedkaaDoor
open Go.X
theorem Sep.merge {w : World} {A B C : Assn} {L : List Assn} (h : Sep w (A :: B :: L)) (hi : ∀ w G H, A.p w G → B.p w H → C.p w (fun b => G b ∨ H b)) : Sep w (C :: L) := by
  obtain ⟨G, H, hG, hH, hd, hA, hB, hr⟩ := h.use2
  have := hr w C nilA (fun b => G b ∨ H b) (fun _ => False) (Fr.refl _ _) (fun b _ h => h) (fun b hb => by rcases hb with h | h; exact .inl h; exact .inr (.inl h)) (fun b hb => hb.elim) (hi _ _ _ hA hB) trivial
  exact this.rid1
theorem zeros_cks : ∀ n : Nat, cks (List.replicate n ck0) = List.replicate (n * 8) (.int .i64 0)
  | 0 => rfl
  | n + 1 => by
    rw [List.replicate_succ]
    show ck0.cells ++ cks (List.replicate n ck0) = _
    rw [zeros_cks n, show (n + 1) * 8 = 8 + n * 8 by omega, ← List.replicate_append_replicate]; rfl
theorem zeros_at (n : Nat) : ∀ i, i < n * 8 → (cks (List.replicate n ck0))[i]? = ck0.cells[i % 8]? := by
  intro i hi
  rw [zeros_cks, List.getElem?_replicate_of_lt hi]
  have : i % 8 < 8 := by omega
  rw [cells_get ck0 this]
  have h0 : ∀ k, k < 8 → ck0.get k = 0 := fun k hk => match k, hk with
    | 0, _ => rfl | 1, _ => rfl | 2, _ => rfl | 3, _ => rfl | 4, _ => rfl | 5, _ => rfl | 6, _ => rfl | 7, _ => rfl | k + 8, h => by omega
  rw [h0 _ this]
section
variable {w : World} {K : Value → World → Prop} {KP : List PanicEntry → World → Prop} {b : Nat} {s p : Sl} {ts ps : List Ck} {L : List Assn}
theorem rows_cks : ∀ {xs : List Ck} {rows : List (List Value)}, rows.length = xs.length → (∀ (i : Nat) (row : List Value) (x : Ck), rows[i]? = some row → xs[i]? = some x → row = x.cells) → rows.flatten = cks xs
  | [], rows, hl, _ => by have : rows = [] := List.length_eq_zero_iff.1 hl; subst this; rfl
  | x :: xs, [], hl, _ => by simp at hl
  | x :: xs, r :: rows, hl, h => by
    have h0 := h 0 r x rfl rfl
    subst h0
    show x.cells ++ rows.flatten = x.cells ++ cks xs
    rw [rows_cks (xs := xs) (by simpa using hl) fun i row y hr hy => h (i + 1) row y (by simpa using hr) (by simpa using hy)]
theorem SlR.cks {G : Nat → Prop} {xs : List Ck} (h : SlR ckR w G s xs) : Rd w s.a (cks xs) G := by
  obtain ⟨h1, h2, rows, h3, h4, h5⟩ := h
  rwa [rows_cks h3 h5] at h4
theorem Own.has {z : Nat} {t : TypeId} {cs : List Value} {G : Nat → Prop} (h : Own w z t s.a s.l s.c cs G) (hc : 0 < cs.length) : s.a.isSome = true := by
  obtain ⟨h1, h2, h | ⟨b, o, B, ha, -⟩⟩ := h
  · have : s.l = 0 := by omega
    rw [this] at h1; omega
  · rw [ha]; rfl
theorem C53 {xs : List Ck} {G : Nat → Prop} (hs : Sep w L) (hx : SlR ckR w G s xs) (hb : xs.length ≤ 1000000) (hK : ∀ s' u, Sep u (row 8 79 s' (cks xs) :: L) → K s'.v u) : XCP Tryd.prog 53 [s.v] w K KP := by
  show XCP Tryd.prog 53 [.slice s.a s.l s.c] w K KP
  refine E53 ?_
  unfold F53
  have hl := hx.len
  by_cases hn : s.a.isNone = true
  · rw [if_pos hn]
    have hx0 : xs = [] := by
      cases xs with
      | nil => rfl
      | cons x r =>
        obtain ⟨q, row, hq, -, -⟩ := hx.nth (i := 0) rfl (by decide)
        rw [hq] at hn; cases hn
    subst hx0
    exact hK ⟨none, 0, 0⟩ w (hs.add (A := row 8 79 ⟨none, 0, 0⟩ (cks [])) (fun D => Fr.refl D _) ⟨rfl, Nat.le_refl _, .inl ⟨rfl, rfl⟩⟩)
  · rw [if_neg hn]
    have hs0 := hs
    refine Sep.build (cs := []) T80 rfl hs rfl rfl (by decide) fun s1 u1 hl1 hs1 e1 => ⟨_, _, _, rfl, ?_⟩
    have hx1 := SlR.cks (hx.ex e1)
    exact Sep.append T80 rfl hs1 hx1 (by rw [cks_length, hl]) (cks_one _) (by omega) (by omega) fun s2 u2 hl2 hc2 hs2 => ⟨_, _, _, rfl, hK s2 u2 hs2⟩
theorem C62 {xs ys : List Ck} {s' : Sl} {G G' : Nat → Prop} (h1 : SlR ckR w G s xs) (h2 : SlR ckR w G' s' ys) (hn : xs.length ≤ 1000000) (h : ∀ u, Ex w u → K (.bool (decide (xs = ys))) u) : XCP Tryd.prog 62 [s.v, s'.v] w K KP := by
  show XCP Tryd.prog 62 [.slice s.a s.l s.c, .slice s'.a s'.l s'.c] w K KP
  refine E62 ?_
  unfold F62
  have l1 := h1.len
  have l2 := h2.len
  have hno : ∀ u, Ex w u → xs ≠ ys → K (.bool false) u := fun u hu e => by have := h u hu; rwa [show decide (xs = ys) = false from by simpa using e] at this
  by_cases hl : xs.length = ys.length
  rotate_left
  · rw [if_pos (by simp; omega)]
    exact hno w (Ex.refl w) fun e => hl (by rw [e])
  rw [if_neg (by simp; omega)]
  refine each xs.length (fun i => ∀ x y, xs[i]? = some x → ys[i]? = some y → x = y) (fun I μ n u hu hlt hpre next => ?_) fun I μ u hu hall => ?_
  · rw [if_pos (by simp; omega)]
    obtain ⟨p1, r1, hp1, hr1, hc1⟩ := h1.nth (List.getElem?_eq_getElem hlt) (by decide)
    obtain ⟨p2, r2, hp2, hr2, hc2⟩ := h2.nth (List.getElem?_eq_getElem (show n < ys.length by omega)) (by decide)
    have hr1 : r1 = _ := hr1
    have hr2 : r2 = _ := hr2
    subst hr1 hr2
    refine ⟨fun x => Ex u x, Ex.drew u, ?_⟩
    rw [hp1, hp2]
    simp only [xptr_some]
    refine ⟨by omega, by omega, _, _, _, _, _, _, _, _, fun x hx => (hu.trans hx).cells hc1, by omega, by omega, _, _, _, _, _, _, _, _, fun x hx => (hu.trans hx).cells hc2, ?_⟩
    refine xr_ck_ne (a := xs[n]) (b := ys[n]'(by omega)) und79 eg79 ⟨_, rfl, ?_⟩
    by_cases e : xs[n] = ys[n]'(by omega)
    · rw [if_neg (by simp [e]), wi (by omega) (by omega)]
      exact next (fun x y hx hy => by
        rw [List.getElem?_eq_getElem hlt] at hx; rw [List.getElem?_eq_getElem (show n < ys.length by omega)] at hy
        injection hx with hx; injection hy with hy; rw [← hx, ← hy]; exact e) _ (Ex.drew u)
    · rw [if_pos (by simpa using e)]
      exact hno _ (hu.trans (Ex.drew u)) fun e' => e (by subst e'; rfl)
  · rw [if_neg (by simp; omega)]
    have he : xs = ys := List.ext_getElem hl fun i h1 h2 => hall i h1 _ _ (List.getElem?_eq_getElem h1) (List.getElem?_eq_getElem h2)
    have := h u hu
    rwa [show decide (xs = ys) = true from by simpa using he] at this
theorem C63 {xs ys : List Ck} {s' : Sl} {G G' : Nat → Prop} (h1 : SlR ckR w G s xs) (h2 : SlR ckR w G' s' ys) (hn : xs.length ≤ 1000000) (h : ∀ u, Ex w u → K (.bool (decide (xs = ys))) u) : XCP Tryd.prog 63 [s.v, s'.v] w K KP := by
  show XCP Tryd.prog 63 [.slice s.a s.l s.c, .slice s'.a s'.l s'.c] w K KP
  refine E63 ?_
  unfold F63
  have l1 := h1.len
  have l2 := h2.len
  have hno : ∀ u, Ex w u → xs ≠ ys → K (.bool false) u := fun u hu e => by have := h u hu; rwa [show decide (xs = ys) = false from by simpa using e] at this
  by_cases hl : xs.length = ys.length
  rotate_left
  · rw [if_pos (by simp; omega)]
    exact hno w (Ex.refl w) fun e => hl (by rw [e])
  rw [if_neg (by simp; omega)]
  refine each xs.length (fun i => ∀ x y, xs[i]? = some x → ys[i]? = some y → x = y) (fun I μ n u hu hlt hpre next => ?_) fun I μ u hu hall => ?_
  · rw [if_pos (by simp; omega)]
    obtain ⟨p1, r1, hp1, hr1, hc1⟩ := h1.nth (List.getElem?_eq_getElem hlt) (by decide)
    obtain ⟨p2, r2, hp2, hr2, hc2⟩ := h2.nth (List.getElem?_eq_getElem (show n < ys.length by omega)) (by decide)
    have hr1 : r1 = _ := hr1
    have hr2 : r2 = _ := hr2
    subst hr1 hr2
    refine ⟨fun x => Ex u x, Ex.drew u, ?_⟩
    rw [hp1, hp2]
    simp only [xptr_some]
    refine ⟨by omega, by omega, _, _, _, _, _, _, _, _, fun x hx => (hu.trans hx).cells hc1, by omega, by omega, _, _, _, _, _, _, _, _, fun x hx => (hu.trans hx).cells hc2, ?_⟩
    refine xr_ck_ne (a := xs[n]) (b := ys[n]'(by omega)) und23 eg23 ⟨_, rfl, ?_⟩
    by_cases e : xs[n] = ys[n]'(by omega)
    · rw [if_neg (by simp [e]), wi (by omega) (by omega)]
      exact next (fun x y hx hy => by
        rw [List.getElem?_eq_getElem hlt] at hx; rw [List.getElem?_eq_getElem (show n < ys.length by omega)] at hy
        injection hx with hx; injection hy with hy; rw [← hx, ← hy]; exact e) _ (Ex.drew u)
    · rw [if_pos (by simpa using e)]
      exact hno _ (hu.trans (Ex.drew u)) fun e' => e (by subst e'; rfl)
  · rw [if_neg (by simp; omega)]
    have he : xs = ys := List.ext_getElem hl fun i h1 h2 => hall i h1 _ _ (List.getElem?_eq_getElem h1) (List.getElem?_eq_getElem h2)
    have := h u hu
    rwa [show decide (xs = ys) = true from by simpa using he] at this
theorem C32 (hs : Sep w (wtL b s p ts ps L)) (has : s.a.isSome = true) (hlt : ts.length ≤ 1000000) (hlp : ps.length ≤ 1000000) (h0 : 0 < ts.length)
    (hK : ∀ b' s' p' u, s'.a.isSome = true → Sep u (wtL b' s' p' ts ps (wtL b s p ts ps L)) → K (.pointer (some ⟨b', 0, none⟩)) u) : XCP Tryd.prog 32 [.pointer (some ⟨b, 0, none⟩)] w K KP := by
  refine E32 ?_
  unfold F32
  refine C52 (WtP.of hs has) ⟨_, rfl, ?_⟩
  rw [if_neg (by decide)]
  refine ⟨fun u => WtP u b s p ts ps, WtP.of hs.drew has, ?_⟩
  intro w1
  have hs : Sep w1 (wtL b s p ts ps L) := hs.drew
  clear_value w1
  rw [xptr_some]
  refine ⟨s.a, s.l, s.c, fun u hu => hu.hb.ld rfl, ?_⟩
  rw [xptr_some]
  refine ⟨p.a, p.l, p.c, fun u hu => hu.hb.ld rfl, ?_⟩
  refine C53 (s := s) hs (WtP.of hs has).hs hlt fun s1 u1 hs1 => ⟨_, _, _, rfl, WtP.of hs1.tail has, ?_⟩
  refine C53 (s := p) hs1 (WtP.of hs1.tail has).hp hlp fun s2 u2 hs2 => ⟨_, _, _, rfl, WtP.of hs2.tail.tail has, ?_⟩
  intro w6 p2
  have hs6 : Sep w6 (bx u2.heap.size [s1.v, s2.v] 82 :: row 8 79 s2 (cks ps) :: row 8 79 s1 (cks ts) :: wtL b s p ts ps L) := hs2.box _ _
  clear_value w6
  have hs7 : Sep w6 (wtL u2.heap.size s1 s2 ts ps (wtL b s p ts ps L)) := (hs6.front 2 rfl).to1
  refine ⟨fun _ => True, trivial, hK _ s1 s2 w6 ?_ hs7⟩
  obtain ⟨G, h⟩ := hs7.at_ 1 rfl
  exact Own.has h (by rw [cks_length]; omega)
theorem C40 {b' : Nat} {s' p' : Sl} {ts' ps' : List Ck} (h1 : WtP w b s p ts ps) (h2 : WtP w b' s' p' ts' ps') (hlt : ts.length ≤ 1000000) (hlp : ps.length ≤ 1000000) (h : ∀ u, Ex w u → K (.bool (decide (ts = ts') && decide (ps = ps'))) u) :
    XCP Tryd.prog 40 [.pointer (some ⟨b, 0, none⟩), .pointer (some ⟨b', 0, none⟩)] w K KP := by
  refine E40 ?_
  unfold F40
  refine C52 h1 ⟨_, rfl, ?_⟩
  refine or_false rfl (fun kb hk => C52 h2 ⟨_, rfl, hk _ (Ex.refl _)⟩) fun u e => ?_
  rw [if_neg (by decide)]
  intro kb hkb
  refine ⟨fun x => Ex u x, Ex.drew u, ?_⟩
  intro w6
  have e6 : Ex u w6 := Ex.drew u
  clear_value w6
  rw [xptr_some]
  refine ⟨s.a, s.l, s.c, fun x hx => (h1.ex (Ex.trans e hx)).hb.ld rfl, ?_⟩
  rw [xptr_some]
  refine ⟨s'.a, s'.l, s'.c, fun x hx => (h2.ex (Ex.trans e hx)).hb.ld rfl, ?_⟩
  have eu := Ex.trans e e6
  refine C62 (s := s) (s' := s') (h1.ex eu).hs (h2.ex eu).hs hlt fun u9 e9 => ⟨_, rfl, Ex.trans e6 e9, ?_⟩
  have eu := Ex.trans eu e9
  cases hd : decide (ts = ts') with
  | false =>
    rw [if_neg (by decide)]
    rw [hd] at h
    exact hkb _ _ (h _ eu)
  | true =>
    rw [if_pos rfl, xptr_some]
    rw [hd] at h
    refine ⟨p.a, p.l, p.c, fun x hx => (h1.ex (Ex.trans e hx)).hb.ld rfl, ?_⟩
    rw [xptr_some]
    refine ⟨p'.a, p'.l, p'.c, fun x hx => (h2.ex (Ex.trans e hx)).hb.ld rfl, ?_⟩
    exact C62 (s := p) (s' := p') (h1.ex eu).hp (h2.ex eu).hp hlp fun u12 e12 => ⟨_, rfl, fun _ => True, trivial, hkb _ _ (h _ (Ex.trans eu e12))⟩
theorem C40sn (h1 : WtP w b s p ts ps) (h : ∀ u, Ex w u → K (.bool false) u) : XCP Tryd.prog 40 [.pointer (some ⟨b, 0, none⟩), .pointer none] w K KP := by
  refine E40 ?_
  unfold F40
  refine C52 h1 ⟨_, rfl, ?_⟩
  intro kb hkb
  rw [if_neg (by decide)]
  refine C52n ⟨_, rfl, hkb _ _ ?_⟩
  rw [if_pos rfl]
  refine C52 h1 ⟨_, rfl, ?_⟩
  intro kb1 hk1
  rw [if_neg (by decide)]
  exact hk1 _ _ (h _ (Ex.refl _))
theorem C40ns (h1 : WtP w b s p ts ps) (h : ∀ u, Ex w u → K (.bool false) u) : XCP Tryd.prog 40 [.pointer none, .pointer (some ⟨b, 0, none⟩)] w K KP := by
  refine E40 ?_
  unfold F40
  refine C52n ⟨_, rfl, ?_⟩
  intro kb hkb
  rw [if_pos rfl]
  refine hkb _ _ ?_
  rw [if_pos rfl]
  refine C52n ⟨_, rfl, ?_⟩
  intro kb1 hk1
  rw [if_pos rfl]
  exact C52 h1 ⟨_, rfl, hk1 _ _ (h _ (Ex.refl _))⟩
theorem C40nn (h : ∀ u, Ex w u → K (.bool true) u) : XCP Tryd.prog 40 [.pointer none, .pointer none] w K KP := by
  refine E40 ?_
  unfold F40
  refine C52n ⟨_, rfl, ?_⟩
  intro kb hkb
  rw [if_pos rfl]
  refine hkb _ _ ?_
  rw [if_pos rfl]
  refine C52n ⟨_, rfl, ?_⟩
  intro kb1 hk1
  rw [if_pos rfl]
  exact C52n ⟨_, rfl, hk1 _ _ (h _ (Ex.refl _))⟩
/-- which numbers of threads and places there are -/
def mkB (n m : Int) : Bool := (((decide (n < 1)) || (decide (n > 8))) || (decide (m < 0))) || (decide (m > 65536))
abbrev zs (n : Int) : List Ck := List.replicate n.toNat ck0
theorem C26bad {n m : Int} (hb : mkB n m = true) (hK : K (.tuple #[.pointer none, .int .i64 2]) w) : XCP Tryd.prog 26 [.int .i64 n, .int .i64 m] w K KP := by
  refine E26 ?_
  unfold F26
  unfold mkB at hb
  rw [if_pos hb]
  exact hK
theorem C26 {n m : Int} (hb : mkB n m = false) (hs : Sep w L) (hK : ∀ b s p u, s.a.isSome = true → Sep u (wtL b s p (zs n) (zs m) L) → K (.tuple #[.pointer (some ⟨b, 0, none⟩), .int .i64 0]) u) : XCP Tryd.prog 26 [.int .i64 n, .int .i64 m] w K KP := by
  refine E26 ?_
  unfold F26
  have hb0 := hb
  unfold mkB at hb
  rw [if_neg (by rw [hb]; decide)]
  simp only [Bool.or_eq_false_iff, decide_eq_false_iff_not] at hb
  have l1 : (zs n).length = n.toNat := by simp
  have l2 : (zs m).length = m.toNat := by simp
  intro kb hkb
  refine ⟨fun _ => True, trivial, ?_⟩
  intro w1
  have hs1 : Sep w1 L := hs.drew
  clear_value w1
  constructor
  · refine Sep.make T80 rfl hs1 (by omega) (Int.le_refl _) (by omega) (by omega) (cs := cks (zs n)) (by rw [cks_length, l1]) (zeros_at _) fun s u2 hl2 hs2 _ => ⟨_, _, _, rfl, trivial, ?_⟩
    refine Sep.make T80 rfl hs2 (by omega) (Int.le_refl _) (by omega) (by omega) (cs := cks (zs m)) (by rw [cks_length, l2]) (zeros_at _) fun p u3 hl3 hs3 _ => ⟨_, _, _, rfl, trivial, ?_⟩
    intro w4 p4
    have hs4 : Sep w4 (wtL u3.heap.size s p (zs n) (zs m) L) := ((hs3.to1).box _ _)
    clear_value w4
    refine ⟨fun _ => True, trivial, hkb _ _ _ (hK _ s p w4 ?_ hs4)⟩
    obtain ⟨G, h⟩ := hs4.at_ 1 rfl
    exact Own.has h (by rw [cks_length, l1]; omega)
  · refine Sep.make T80 rfl hs1 (by omega) (Int.le_refl _) (by omega) (by omega) (cs := cks (zs m)) (by rw [cks_length, l2]) (zeros_at _) fun p u2 hl2 hs2 _ => ⟨_, _, _, rfl, trivial, ?_⟩
    refine Sep.make T80 rfl hs2 (by omega) (Int.le_refl _) (by omega) (by omega) (cs := cks (zs n)) (by rw [cks_length, l1]) (zeros_at _) fun s u3 hl3 hs3 _ => ⟨_, _, _, rfl, trivial, ?_⟩
    intro w4 p4
    have hs4 : Sep w4 (wtL u3.heap.size s p (zs n) (zs m) L) := hs3.box _ _
    clear_value w4
    refine ⟨fun _ => True, trivial, hkb _ _ _ (hK _ s p w4 ?_ hs4)⟩
    obtain ⟨G, h⟩ := hs4.at_ 1 rfl
    exact Own.has h (by rw [cks_length, l1]; omega)
end
end Go.Proofs.YtohcdbldphedkaaDoor
