/- The clocks seat: both side by side. -/
import Derived.Test.YtohcdbldphedkaaDoorK8
set_option linter.unusedVariables false
set_option linter.unusedSimpArgs false
namespace Go.Proofs.YtohcdbldphedkaaDoor
open Go.X
/-- a call -/
structure Ac where
  k : Int
  t : Int
  n : Int
def Ac.cells (x : Ac) : List Value := [.int .i64 x.k, .int .i64 x.t, .int .i64 x.n]
def Ac.v (x : Ac) : Value := .agg #[.int .i64 x.k, .int .i64 x.t, .int .i64 x.n]
def acR : Rep Ac where
  z := 3
  p := fun _ _ cs x => cs = x.cells
  len := fun h => by subst h; rfl
  frame := fun h _ _ => h
  mono := fun h _ => h
def Ac.stp (x : Ac) : Bool := decide (x.k < 0) || decide (x.k > 3)
def acT (x : Ac) (ts ps : List Ck) : List Ck := if x.stp = true then stT ts x.t else moT x.k x.t x.n ts ps
def acP (x : Ac) (ts ps : List Ck) : List Ck := if x.stp = true then ps else moP x.k x.t x.n ts ps
theorem joinAt_len (xs ys : List Ck) (i j : Int) : (joinAt xs ys i j).length = xs.length := by unfold joinAt; simp
theorem mvT_len (li lf : Bool) (i j : Int) (ts ps : List Ck) : (mvT li lf i j ts ps).length = ts.length := by
  unfold mvT; split <;> (try split) <;> simp [joinAt_len]
theorem mvP_len (li lf : Bool) (i j : Int) (ts ps : List Ck) : (mvP li lf i j ts ps).length = ps.length := by
  unfold mvP; split <;> (try split) <;> simp [joinAt_len]
theorem moT_len (k t n : Int) (ts ps : List Ck) : (moT k t n ts ps).length = ts.length := by
  unfold moT; split <;> (try split) <;> (try split) <;> exact mvT_len ..
theorem moP_len (k t n : Int) (ts ps : List Ck) : (moP k t n ts ps).length = ps.length := by
  unfold moP; split <;> (try split) <;> (try split) <;> exact mvP_len ..
theorem stT_len (ts : List Ck) (t : Int) : (stT ts t).length = ts.length := by unfold stT; split <;> simp
theorem acT_len (x : Ac) (ts ps : List Ck) : (acT x ts ps).length = ts.length := by
  unfold acT; split
  · exact stT_len ..
  · exact moT_len ..
theorem acP_len (x : Ac) (ts ps : List Ck) : (acP x ts ps).length = ps.length := by
  unfold acP; split
  · rfl
  · exact moP_len ..
section
variable {w : World} {K : Value → World → Prop} {KP : List PanicEntry → World → Prop} {b : Nat} {s p rt rp : Sl} {ts ps : List Ck} {L : List Assn} {G : Nat → Prop}
theorem C41 {rt' rp' : Sl} {ts' ps' : List Ck} {G' : Nat → Prop} (h1 : (rwA rt rp ts ps).p w G) (h2 : (rwA rt' rp' ts' ps').p w G') (hlt : ts.length ≤ 1000000) (hlp : ps.length ≤ 1000000) (h : ∀ u, Ex w u → K (.bool (decide (ts = ts') && decide (ps = ps'))) u) :
    XCP Tryd.prog 41 [rwV rt rp, rwV rt' rp'] w K KP := by
  show XCP Tryd.prog 41 [.agg #[.slice rt.a rt.l rt.c, .slice rp.a rp.l rp.c], .agg #[.slice rt'.a rt'.l rt'.c, .slice rp'.a rp'.l rp'.c]] w K KP
  refine E41 ?_
  unfold F41
  intro w0 p w1 p1
  have hs : Sep w1 (bx w0.heap.size [rt'.v, rp'.v] 41 :: bx w.heap.size [rt.v, rp.v] 41 :: [oldA w]) := ((Sep.begin w).box _ _).box _ _
  clear_value w1
  have e1 := hs.ex 2 rfl
  refine ⟨rt.a, rt.l, rt.c, hs.bx1.ld rfl, rt'.a, rt'.l, rt'.c, hs.bx0.ld rfl, ?_⟩
  refine C63 (s := rt) (s' := rt') (h1.1.ex e1) (h2.1.ex e1) hlt fun u2 e2 => ⟨_, rfl, ?_⟩
  have hs2 := hs.ext e2
  refine and_join (c := decide (ps = ps')) (fun kb hk => ?_) fun u hu => h u (e1.trans (Ex.trans e2 hu))
  exact ⟨rp.a, rp.l, rp.c, hs2.bx1.ld rfl, rp'.a, rp'.l, rp'.c, hs2.bx0.ld rfl, C63 (s := rp) (s' := rp') (h1.2.ex (e1.trans e2)) (h2.2.ex (e1.trans e2)) hlp fun u3 e3 => ⟨_, rfl, hk _ e3⟩⟩
theorem C31 (h : WtP w b s p ts ps) (hr : (rwA rt rp ts ps).p w G) (hlt : ts.length ≤ 1000000) (hlp : ps.length ≤ 1000000) (hK : ∀ u, Ex w u → K (.bool true) u) : XCP Tryd.prog 31 [.pointer (some ⟨b, 0, none⟩), rwV rt rp] w K KP := by
  show XCP Tryd.prog 31 [.pointer (some ⟨b, 0, none⟩), .agg #[.slice rt.a rt.l rt.c, .slice rp.a rp.l rp.c]] w K KP
  refine E31 ?_
  unfold F31
  intro w0 p0
  have hs : Sep w0 (bx w.heap.size [rt.v, rp.v] 41 :: [oldA w]) := (Sep.begin w).box _ _
  clear_value w0
  have e0 := hs.ex 1 rfl
  have hl1 := hr.1.len
  have hl2 := hr.2.len
  refine each ts.length (fun _ => True) (fun I μ n u hu hlt' _ next => ?_) fun I μ u hu _ => ?_
  · have e1 := e0.trans hu
    refine ⟨rt.a, rt.l, rt.c, (hs.ext hu).bx0.ld rfl, ?_⟩
    rw [if_pos (by simp; omega)]
    refine C34 (n := n) (h.ex e1) fun u2 e2 => ⟨_, _, _, _, _, _, _, _, _, rfl, ?_⟩
    have eF := thF_yes (ts := ts) (n := n) (by omega) (by omega)
    rw [eF]
    intro w3 p1
    have h3 : Sep w3 (bx u2.heap.size ck0.cells 23 :: [oldA u2]) := (Sep.begin u2).box _ _
    clear_value w3
    refine h3.fill (vs := (ts[(n : Int).toNat]'(by omega)).cells) rfl fun w4 _ h4 => ?_
    have e4 : Ex u w4 := Ex.trans e2 (h4.ex 1 rfl)
    intro kb hkb
    refine ⟨fun x => Ex w4 x, Ex.drew w4, ?_⟩
    intro w6
    have e6 : Ex w4 w6 := Ex.drew w4
    clear_value w6
    obtain ⟨q, row, hq, hrow, hc⟩ := (hr.1.ex (e1.trans e4)).nth (i := (n : Int).toNat) (List.getElem?_eq_getElem (show (n : Int).toNat < ts.length by omega)) (by decide)
    have hrow : row = _ := hrow
    subst hrow
    refine ⟨_, _, _, _, _, _, _, _, fun x hx => (hx.blk h4.bx0).lds, rt.a, rt.l, rt.c, fun x hx => ((hs.ext hu).ext (e4.trans hx)).bx0.ld rfl, ?_⟩
    rw [hq, xptr_some]
    refine ⟨by omega, by omega, _, _, _, _, _, _, _, _, fun x hx => hx.cells hc, ?_⟩
    refine xr_ck_ne (a := ts[(n : Int).toNat]'(by omega)) (b := ts[(n : Int).toNat]'(by omega)) und23 eg23 ⟨_, rfl, e6, ?_⟩
    rw [if_neg (by simp)]
    refine C14 ⟨_, rfl, e6, hkb _ _ ?_⟩
    rw [if_neg (show ¬ ((0 : Int) != 0) = true by decide), wi (by omega) (by omega)]
    exact next trivial _ (e4.trans e6)
  · refine ⟨rt.a, rt.l, rt.c, (hs.ext hu).bx0.ld rfl, ?_⟩
    rw [if_neg (by simp; omega)]
    have hs := hs.ext hu
    have e0 := e0.trans hu
    clear hu
    refine each ps.length (fun _ => True) (fun I μ n u hu hlt' _ next => ?_) fun I μ u hu _ => ?_
    · have e1 := e0.trans hu
      refine ⟨rp.a, rp.l, rp.c, (hs.ext hu).bx0.ld rfl, ?_⟩
      rw [if_pos (by simp; omega)]
      refine C35 (n := n) (h.ex e1) fun u2 e2 => ⟨_, _, _, _, _, _, _, _, _, rfl, ?_⟩
      have eF := thF_yes (ts := ps) (n := n) (by omega) (by omega)
      rw [eF]
      intro w3 p1
      have h3 : Sep w3 (bx u2.heap.size ck0.cells 23 :: [oldA u2]) := (Sep.begin u2).box _ _
      clear_value w3
      refine h3.fill (vs := (ps[(n : Int).toNat]'(by omega)).cells) rfl fun w4 _ h4 => ?_
      have e4 : Ex u w4 := Ex.trans e2 (h4.ex 1 rfl)
      intro kb hkb
      refine ⟨fun x => Ex w4 x, Ex.drew w4, ?_⟩
      intro w6
      have e6 : Ex w4 w6 := Ex.drew w4
      clear_value w6
      obtain ⟨q, row, hq, hrow, hc⟩ := (hr.2.ex (e1.trans e4)).nth (i := (n : Int).toNat) (List.getElem?_eq_getElem (show (n : Int).toNat < ps.length by omega)) (by decide)
      have hrow : row = _ := hrow
      subst hrow
      refine ⟨_, _, _, _, _, _, _, _, fun x hx => (hx.blk h4.bx0).lds, rp.a, rp.l, rp.c, fun x hx => ((hs.ext hu).ext (e4.trans hx)).bx0.ld rfl, ?_⟩
      rw [hq, xptr_some]
      refine ⟨by omega, by omega, _, _, _, _, _, _, _, _, fun x hx => hx.cells hc, ?_⟩
      refine xr_ck_ne (a := ps[(n : Int).toNat]'(by omega)) (b := ps[(n : Int).toNat]'(by omega)) und23 eg23 ⟨_, rfl, e6, ?_⟩
      rw [if_neg (by simp)]
      refine C14 ⟨_, rfl, e6, hkb _ _ ?_⟩
      rw [if_neg (show ¬ ((0 : Int) != 0) = true by decide), wi (by omega) (by omega)]
      exact next trivial _ (e4.trans e6)
    · refine ⟨rp.a, rp.l, rp.c, (hs.ext hu).bx0.ld rfl, ?_⟩
      rw [if_neg (by simp; omega)]
      exact hK _ (e0.trans hu)
theorem D33 {x : Ac} (hk : 0 ≤ x.k ∧ x.k ≤ 3) (hs : Sep w (wtL b s p ts ps L)) (has : s.a.isSome = true)
    (hK : ∀ u, Sep u (wtL b s p (moT x.k x.t x.n ts ps) (moP x.k x.t x.n ts ps) L) → K (.int .i64 (moE x.k x.t x.n ts ps)) u) : XCP Tryd.prog 33 [.pointer (some ⟨b, 0, none⟩), x.v] w K KP := by
  refine E33 ?_
  unfold F33
  intro w0 p0
  have h0 : Sep w0 (bx w.heap.size x.cells 46 :: wtL b s p ts ps L) := hs.box _ _
  clear_value w0
  have hb := h0.bx0
  have hs := h0.tail
  refine ⟨_, hb.ld rfl, ?_⟩
  obtain ⟨k, t, n⟩ := x
  simp only at hk hK ⊢
  have hk' : k = 0 ∨ k = 1 ∨ k = 2 ∨ k = 3 := by omega
  rcases hk' with rfl | rfl | rfl | rfl
  · rw [if_pos (by decide)]
    refine ⟨_, hb.ld rfl, _, hb.ld rfl, D36 hs has fun u hu => ⟨_, rfl, ?_⟩⟩
    exact hK u hu
  · rw [if_neg (by decide), if_pos (by decide)]
    refine ⟨_, hb.ld rfl, _, hb.ld rfl, D37 hs has fun u hu => ⟨_, rfl, ?_⟩⟩
    exact hK u hu
  · rw [if_neg (by decide), if_neg (by decide), if_pos (by decide)]
    refine ⟨_, hb.ld rfl, _, hb.ld rfl, D38 hs has fun u hu => ⟨_, rfl, ?_⟩⟩
    exact hK u hu
  · rw [if_neg (by decide), if_neg (by decide), if_neg (by decide)]
    refine ⟨_, hb.ld rfl, _, hb.ld rfl, D39 hs has fun u hu => ⟨_, rfl, ?_⟩⟩
    exact hK u hu
/-- a new box behind the watch's parts -/
theorem box3 {A B C : Assn} (h : Sep w (A :: B :: C :: L)) (V : Array Value) (t : TypeId) : Sep (w.alloc (.cells V t)) (A :: B :: C :: bx w.heap.size V.toList t :: L) := (h.box V t).behind 3 (by simp)
theorem D30 {x : Ac} {Γ : List Assn} (hs : Sep w (wtL b s p ts ps (pers (rwA rt rp ts ps :: Γ) :: L))) (has : s.a.isSome = true) (hlt : ts.length ≤ 1000000) (hlp : ps.length ≤ 1000000)
    (hK : ∀ rt' rp' u, Sep u (wtL b s p (acT x ts ps) (acP x ts ps) (pers (rwA rt' rp' (acT x ts ps) (acP x ts ps) :: rwA rt rp ts ps :: Γ) :: L)) → K (.tuple #[rwV rt' rp', .bool true]) u) :
    XCP Tryd.prog 30 [.pointer (some ⟨b, 0, none⟩), rwV rt rp, x.v] w K KP := by
  show XCP Tryd.prog 30 [.pointer (some ⟨b, 0, none⟩), .agg #[.slice rt.a rt.l rt.c, .slice rp.a rp.l rp.c], .agg #[.int .i64 x.k, .int .i64 x.t, .int .i64 x.n]] w K KP
  refine E30 ?_
  unfold F30
  intro w0 p0 w1 p1 w2 p2
  have h2 : Sep w2 (wtL b s p ts ps (bx w1.heap.size [.slice none 0 0, .slice none 0 0] 41 :: bx w0.heap.size x.cells 46 :: bx w.heap.size [rt.v, rp.v] 41 :: pers (rwA rt rp ts ps :: Γ) :: L)) := box3 (box3 (box3 hs _ _) _ _) _ _
  clear_value w2
  refine ⟨_, (h2.blkAt 4 rfl).ld rfl, ?_⟩
  refine or_join (c := decide (x.k > 3)) (fun kb hk => ⟨_, (h2.blkAt 4 rfl).ld rfl, hk _ (Ex.refl _)⟩) fun w3 e3 => ?_
  have h3 := h2.ext e3
  show if x.stp = true then _ else _
  by_cases hst : x.stp = true
  · rw [if_pos hst]
    have eT : acT x ts ps = stT ts x.t := by unfold acT; rw [if_pos hst]
    have eP : acP x ts ps = ps := by unfold acP; rw [if_pos hst]
    rw [eT, eP] at hK
    obtain ⟨G, hG, hgrow⟩ := growAt h3 6 rfl 0 rfl
    refine ⟨rt.a, rt.l, rt.c, rp.a, rp.l, rp.c, (h3.blkAt 5 rfl).lds, _, (h3.blkAt 4 rfl).ld rfl, ?_⟩
    refine C28 hG hlt fun rt' u4 e4 hr4 => ⟨rt'.a, rt'.l, rt'.c, rp.a, rp.l, rp.c, _, _, _, _, _, _, _, _, _, rfl, ?_⟩
    have h4 : Sep u4 (wtL b s p ts ps (bx w1.heap.size [.slice none 0 0, .slice none 0 0] 41 :: bx w0.heap.size x.cells 46 :: bx w.heap.size [rt.v, rp.v] 41 :: pers (rwA rt' rp (stT ts x.t) ps :: rwA rt rp ts ps :: Γ) :: L)) := hgrow _ (rwA rt' rp (stT ts x.t) ps) e4 hr4
    intro w5 p3 w6 p4
    have h6 : Sep w6 (wtL b s p ts ps (bx w5.heap.size ck0.cells 23 :: bx u4.heap.size [.slice none 0 0, .slice none 0 0] 41 :: bx w1.heap.size [.slice none 0 0, .slice none 0 0] 41 :: bx w0.heap.size x.cells 46 :: bx w.heap.size [rt.v, rp.v] 41 :: pers (rwA rt' rp (stT ts x.t) ps :: rwA rt rp ts ps :: Γ) :: L)) := box3 (box3 h4 _ _) _ _
    clear_value w6
    refine h6.fillAt 4 rfl (vs := [rt'.v, rp.v]) rfl fun w7 _ h7 => ?_
    refine h7.fillAt 3 rfl (vs := (stC ts x.t).cells) rfl fun w8 _ h8 => ?_
    replace h8 : Sep w8 (wtL b s p ts ps (bx w5.heap.size (stC ts x.t).cells 23 :: bx u4.heap.size [rt'.v, rp.v] 41 :: bx w1.heap.size [.slice none 0 0, .slice none 0 0] 41 :: bx w0.heap.size x.cells 46 :: bx w.heap.size [rt.v, rp.v] 41 :: pers (rwA rt' rp (stT ts x.t) ps :: rwA rt rp ts ps :: Γ) :: L)) := h8
    refine ⟨_, (h8.blkAt 6 rfl).ld rfl, ?_⟩
    refine D29 (n := x.t) h8 has fun u9 h9 => ⟨_, _, _, _, _, _, _, _, _, rfl, ?_⟩
    intro w10 p5
    have h10 : Sep w10 (wtL b s p (stT ts x.t) ps (bx u9.heap.size ck0.cells 23 :: bx w5.heap.size (stC ts x.t).cells 23 :: bx u4.heap.size [rt'.v, rp.v] 41 :: bx w1.heap.size [.slice none 0 0, .slice none 0 0] 41 :: bx w0.heap.size x.cells 46 :: bx w.heap.size [rt.v, rp.v] 41 :: pers (rwA rt' rp (stT ts x.t) ps :: rwA rt rp ts ps :: Γ) :: L)) := box3 h9 _ _
    clear_value w10
    refine h10.fillAt 3 rfl (vs := (stC ts x.t).cells) rfl fun w11 _ h11 => ?_
    replace h11 : Sep w11 (wtL b s p (stT ts x.t) ps (bx u9.heap.size (stC ts x.t).cells 23 :: bx w5.heap.size (stC ts x.t).cells 23 :: bx u4.heap.size [rt'.v, rp.v] 41 :: bx w1.heap.size [.slice none 0 0, .slice none 0 0] 41 :: bx w0.heap.size x.cells 46 :: bx w.heap.size [rt.v, rp.v] 41 :: pers (rwA rt' rp (stT ts x.t) ps :: rwA rt rp ts ps :: Γ) :: L)) := h11
    intro kb1 hkb1
    refine ⟨fun x => Blk x u4.heap.size [rt'.v, rp.v] 41 ∧ Blk x w5.heap.size (stC ts _).cells 23 ∧ Blk x u9.heap.size (stC ts _).cells 23, ⟨h11.drew.blkAt 5 rfl, h11.drew.blkAt 4 rfl, h11.drew.blkAt 3 rfl⟩, ?_⟩
    intro w13
    have h13 : Sep w13 _ := h11.drew
    clear_value w13
    refine ⟨rt'.a, rt'.l, rt'.c, rp.a, rp.l, rp.c, fun x hx => hx.1.lds, _, _, _, _, _, _, _, _, fun x hx => hx.2.1.lds, _, _, _, _, _, _, _, _, fun x hx => hx.2.2.lds, ?_⟩
    refine xr_ck_eq (a := stC ts x.t) (b := stC ts x.t) und23 eg23 ⟨_, rfl, ⟨h13.blkAt 5 rfl, h13.blkAt 4 rfl, h13.blkAt 3 rfl⟩, ?_⟩
    rw [if_pos (by simp)]
    refine C14 ⟨_, rfl, ⟨h13.blkAt 5 rfl, h13.blkAt 4 rfl, h13.blkAt 3 rfl⟩, ?_⟩
    refine h13.fillAt 6 rfl (vs := [rt'.v, rp.v]) rfl fun w19 _ h19 => ⟨⟨h19.blkAt 5 rfl, h19.blkAt 4 rfl, h19.blkAt 3 rfl⟩, hkb1 _ _ ?_⟩
    refine ⟨rt'.a, rt'.l, rt'.c, rp.a, rp.l, rp.c, (h19.blkAt 6 rfl).lds, ?_⟩
    rw [beq_self_eq_true]
    exact hK rt' rp _ ((((((h19.dropAt 3 rfl).dropAt 3 rfl).dropAt 3 rfl).dropAt 3 rfl).dropAt 3 rfl).dropAt 3 rfl)
  · rw [if_neg hst]
    have eT : acT x ts ps = moT x.k x.t x.n ts ps := by unfold acT; rw [if_neg hst]
    have eP : acP x ts ps = moP x.k x.t x.n ts ps := by unfold acP; rw [if_neg hst]
    rw [eT, eP] at hK
    have hk : 0 ≤ x.k ∧ x.k ≤ 3 := by unfold Ac.stp at hst; simp at hst; omega
    obtain ⟨G, hG, hgrow⟩ := growAt h3 6 rfl 0 rfl
    refine ⟨rt.a, rt.l, rt.c, rp.a, rp.l, rp.c, (h3.blkAt 5 rfl).lds, _, (h3.blkAt 4 rfl).ld rfl, _, (h3.blkAt 4 rfl).ld rfl, _, (h3.blkAt 4 rfl).ld rfl, ?_⟩
    refine C51 hk hG hlt hlp fun rt' rp' u4 e4 hr4 => ⟨rt'.a, rt'.l, rt'.c, rp'.a, rp'.l, rp'.c, _, rfl, ?_⟩
    have h4 : Sep u4 (wtL b s p ts ps (bx w1.heap.size [.slice none 0 0, .slice none 0 0] 41 :: bx w0.heap.size x.cells 46 :: bx w.heap.size [rt.v, rp.v] 41 :: pers (rwA rt' rp' (moT x.k x.t x.n ts ps) (moP x.k x.t x.n ts ps) :: rwA rt rp ts ps :: Γ) :: L)) := hgrow _ (rwA rt' rp' (moT x.k x.t x.n ts ps) (moP x.k x.t x.n ts ps)) e4 hr4
    intro w22 p6
    have h22 : Sep w22 (wtL b s p ts ps (bx u4.heap.size [.slice none 0 0, .slice none 0 0] 41 :: bx w1.heap.size [.slice none 0 0, .slice none 0 0] 41 :: bx w0.heap.size x.cells 46 :: bx w.heap.size [rt.v, rp.v] 41 :: pers (rwA rt' rp' (moT x.k x.t x.n ts ps) (moP x.k x.t x.n ts ps) :: rwA rt rp ts ps :: Γ) :: L)) := box3 h4 _ _
    clear_value w22
    refine h22.fillAt 3 rfl (vs := [rt'.v, rp'.v]) rfl fun w23 _ h23 => ?_
    replace h23 : Sep w23 (wtL b s p ts ps (bx u4.heap.size [rt'.v, rp'.v] 41 :: bx w1.heap.size [.slice none 0 0, .slice none 0 0] 41 :: bx w0.heap.size x.cells 46 :: bx w.heap.size [rt.v, rp.v] 41 :: pers (rwA rt' rp' (moT x.k x.t x.n ts ps) (moP x.k x.t x.n ts ps) :: rwA rt rp ts ps :: Γ) :: L)) := h23
    refine ⟨fun y => Blk y u4.heap.size [rt'.v, rp'.v] 41 ∧ Blk y w0.heap.size x.cells 46, ⟨h23.drew.blkAt 3 rfl, h23.drew.blkAt 5 rfl⟩, ?_⟩
    intro w24
    have h24 : Sep w24 _ := h23.drew
    clear_value w24
    refine ⟨rt'.a, rt'.l, rt'.c, rp'.a, rp'.l, rp'.c, fun x hx => hx.1.lds, _, _, _, fun x hx => hx.2.lds, ?_⟩
    refine D33 (x := x) hk h24 has fun u27 h27 => ⟨_, rfl, ⟨h27.blkAt 3 rfl, h27.blkAt 5 rfl⟩, ?_⟩
    refine C14 ⟨_, rfl, ⟨h27.blkAt 3 rfl, h27.blkAt 5 rfl⟩, ?_⟩
    refine h27.fillAt 4 rfl (vs := [rt'.v, rp'.v]) rfl fun w29 _ h29 => ⟨⟨h29.blkAt 3 rfl, h29.blkAt 5 rfl⟩, ?_⟩
    refine ⟨rt'.a, rt'.l, rt'.c, rp'.a, rp'.l, rp'.c, (h29.blkAt 4 rfl).lds, ?_⟩
    rw [beq_self_eq_true]
    exact hK rt' rp' _ ((((h29.dropAt 3 rfl).dropAt 3 rfl).dropAt 3 rfl).dropAt 3 rfl)
end
end Go.Proofs.YtohcdbldphedkaaDoor
