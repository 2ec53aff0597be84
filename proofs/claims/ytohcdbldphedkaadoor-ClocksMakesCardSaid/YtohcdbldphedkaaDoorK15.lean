/- The clocks seat: the stage's theorem. -/
import Derived.Test.YtohcdbldphedkaaDoorK14
set_option linter.unusedVariables false
set_option linter.unusedSimpArgs false
namespace Go.Proofs.YtohcdbldphedkaaDoor
open Go.X
section
variable {w : World} {K : Value → World → Prop} {KP : List PanicEntry → World → Prop} {L : List Assn} {G : Nat → Prop}
theorem L9 {a b c : Ck} {n m : Int} {sl : Sl} {xs : List Ac} (hx : SlR acR w G sl xs) (h : ∀ u, Ex w u → K (.bool true) u) : XCP Tryd.prog 9 [a.v, b.v, c.v, .agg #[.int .i64 n, .int .i64 m, sl.v]] w K KP := by
  show XCP Tryd.prog 9 [a.v, b.v, c.v, .agg #[.int .i64 n, .int .i64 m, .slice sl.a sl.l sl.c]] w K KP
  refine E9 ?_
  unfold F9
  intro w0 p0 w1 p1 w2 p2 w3 p3
  have h3 : Sep w3 (bx w2.heap.size [.int .i64 n, .int .i64 m, sl.v] 59 :: bx w1.heap.size c.cells 23 :: bx w0.heap.size b.cells 23 :: bx w.heap.size a.cells 23 :: [oldA w]) := ((((Sep.begin w).box _ _).box _ _).box _ _).box _ _
  clear_value w3
  refine ⟨_, _, _, _, _, _, _, _, h3.bx3.lds, _, _, _, _, _, _, _, _, h3.bx2.lds, ?_⟩
  refine C22 (a := a) (b := b) fun u4 e4 => ⟨_, _, _, _, _, _, _, _, rfl, ?_⟩
  intro w5 p4
  have h5 : Sep w5 (bx u4.heap.size ck0.cells 23 :: bx w2.heap.size [.int .i64 n, .int .i64 m, sl.v] 59 :: bx w1.heap.size c.cells 23 :: bx w0.heap.size b.cells 23 :: bx w.heap.size a.cells 23 :: [oldA w]) := (h3.ext e4).box _ _
  clear_value w5
  refine h5.fill (vs := (jn a b).cells) rfl fun w6 _ h6 => ?_
  have A : ∀ u, Ex w6 u → cellsAt u ⟨w.heap.size, 0, none⟩ 0 a.cells := fun u hu => (h6.ext hu).bx4.lds
  have B : ∀ u, Ex w6 u → cellsAt u ⟨w0.heap.size, 0, none⟩ 0 b.cells := fun u hu => (h6.ext hu).bx3.lds
  have C : ∀ u, Ex w6 u → cellsAt u ⟨w1.heap.size, 0, none⟩ 0 c.cells := fun u hu => (h6.ext hu).bx2.lds
  have J : ∀ u, Ex w6 u → cellsAt u ⟨u4.heap.size, 0, none⟩ 0 (jn a b).cells := fun u hu => (h6.ext hu).bx0.lds
  have I3 : ∀ u, Ex w6 u → Blk u w2.heap.size [.int .i64 n, .int .i64 m, sl.v] 59 := fun u hu => (h6.ext hu).bx1
  have W : Ex w w6 := h6.ex 5 rfl
  clear h6 h5 h3
  refine ⟨_, _, _, _, _, _, _, _, A _ (Ex.refl _), _, _, _, _, _, _, _, _, J _ (Ex.refl _), ?_⟩
  refine C17 (a := a) (b := jn a b) fun u7 e7 => ⟨_, rfl, ?_⟩
  rw [wn_jn_l]
  refine or_false rfl (fun kb hk => ⟨_, _, _, _, _, _, _, _, B _ e7, _, _, _, _, _, _, _, _, J _ e7, C17 (a := b) (b := jn a b) fun u hu => ⟨_, rfl, by rw [wn_jn_r]; exact hk _ hu⟩⟩) fun u8 e8 => ?_
  have f8 := Ex.trans e7 e8
  refine or_false rfl (fun kb hk => ⟨_, _, _, _, _, _, _, _, A _ f8, _, _, _, _, _, _, _, _, C _ f8, C17 (a := a) (b := c) fun u9 e9 => ⟨_, rfl, ?_⟩⟩) fun u10 e10 => ?_
  · have f9 := Ex.trans f8 e9
    refine and_join (c := wn b c) (fun kb' hk' => ⟨_, _, _, _, _, _, _, _, B _ f9, _, _, _, _, _, _, _, _, C _ f9, C17 (a := b) (b := c) fun u hu => ⟨_, rfl, hk' _ hu⟩⟩) fun u11 e11 => ?_
    have f11 := Ex.trans f9 e11
    refine and_join (c := !wn (jn a b) c) (fun kb' hk' => ⟨_, _, _, _, _, _, _, _, J _ f11, _, _, _, _, _, _, _, _, C _ f11, C17 (a := jn a b) (b := c) fun u hu => ⟨_, rfl, hk' _ hu⟩⟩) fun u12 e12 => ?_
    rw [show ((wn a c && wn b c) && !wn (jn a b) c) = false from by
      cases h1 : wn a c <;> cases h2 : wn b c <;> simp
      exact wn_jn h1 h2]
    exact hk _ (Ex.trans e9 (Ex.trans e11 e12))
  rw [if_neg (by decide)]
  have f10 := Ex.trans f8 e10
  intro kb2 hkb2
  refine ⟨_, _, _, _, _, _, _, _, A _ f10, _, _, _, _, _, _, _, _, B _ f10, xr_ck_eq (a := a) (b := b) und23 eg23 ⟨_, rfl, ?_⟩⟩
  refine cnt (by omega) (hkb2 _ _ ?_)
  intro kb3 hkb3
  refine ⟨_, _, _, _, _, _, _, _, A _ f10, _, _, _, _, _, _, _, _, B _ f10, C18 (a := a) (b := b) fun u11 e11 => ⟨_, rfl, ?_⟩⟩
  have f11 := Ex.trans f10 e11
  have cn : ∀ x : Bool, 0 ≤ (if x = true then (1 : Int) else 0) ∧ (if x = true then (1 : Int) else 0) ≤ 1 := fun x => by cases x <;> decide
  have c1 := cn (decide (a = b))
  have c2 := cn ((!decide (a = b)) && wn a b)
  have c3 := cn ((!decide (b = a)) && wn b a)
  have c4 := cn ((!wn a b) && !wn b a)
  refine cnt (by omega) (hkb3 _ _ ?_)
  intro kb4 hkb4
  refine ⟨_, _, _, _, _, _, _, _, B _ f11, _, _, _, _, _, _, _, _, A _ f11, C18 (a := b) (b := a) fun u12 e12 => ⟨_, rfl, ?_⟩⟩
  have f12 := Ex.trans f11 e12
  refine cnt (by omega) (hkb4 _ _ ?_)
  intro kb5 hkb5
  refine ⟨_, _, _, _, _, _, _, _, A _ f12, _, _, _, _, _, _, _, _, B _ f12, C19 (a := a) (b := b) fun u13 e13 => ⟨_, rfl, ?_⟩⟩
  have f13 := Ex.trans f12 e13
  refine cnt (by omega) (hkb5 _ _ ?_)
  have hone := one_of a b
  rw [show (0 : Int) + (if decide (a = b) = true then 1 else 0) + (if ((!decide (a = b)) && wn a b) = true then 1 else 0) + (if ((!decide (b = a)) && wn b a) = true then 1 else 0) + (if ((!wn a b) && !wn b a) = true then 1 else 0) = 1 by omega]
  refine or_false (by decide) (fun kb hk => ⟨_, _, _, _, _, _, _, _, A _ f13, _, _, _, _, _, _, _, _, B _ f13, C17 (a := a) (b := b) fun u14 e14 => ⟨_, rfl, ?_⟩⟩) fun u10 e10 => ?_
  · have f14 := Ex.trans f13 e14
    refine and_join (c := wn b c) (fun kb' hk' => ⟨_, _, _, _, _, _, _, _, B _ f14, _, _, _, _, _, _, _, _, C _ f14, C17 (a := b) (b := c) fun u hu => ⟨_, rfl, hk' _ hu⟩⟩) fun u15 e15 => ?_
    have f15 := Ex.trans f14 e15
    refine and_join (c := !wn a c) (fun kb' hk' => ⟨_, _, _, _, _, _, _, _, A _ f15, _, _, _, _, _, _, _, _, C _ f15, C17 (a := a) (b := c) fun u hu => ⟨_, rfl, hk' _ hu⟩⟩) fun u16 e16 => ?_
    rw [show ((wn a b && wn b c) && !wn a c) = false from by
      cases h1 : wn a b <;> cases h2 : wn b c <;> simp
      exact wn_trans h1 h2]
    exact hk _ (Ex.trans e14 (Ex.trans e15 e16))
  rw [if_neg (by decide)]
  have g := Ex.trans f13 e10
  have hin := I3 _ g
  refine ⟨_, hin.ld rfl, _, hin.ld rfl, sl.a, sl.l, sl.c, hin.ld rfl, ?_⟩
  have W2 : Ex w u10 := Ex.trans W g
  have hx2 := hx.ex W2
  refine C24 (s := sl) hx2 ⟨_, rfl, ?_⟩
  cases hsm : smB n m xs.length with
  | false => rw [if_pos (by decide)]; exact C15 fun u hu => ⟨_, rfl, h u (Ex.trans W2 hu)⟩
  | true =>
    rw [if_neg (by decide)]
    obtain ⟨hb, hl, hn1, hn8, hm0, hm20⟩ := smB_iff hsm
    refine ⟨_, hin.ld rfl, _, hin.ld rfl, ?_⟩
    refine C26 hb (Sep.begin u10) fun bb s p u17 has hs => ⟨_, _, rfl, ?_⟩
    have hln := hx2.len
    refine iter xs.length (fun _ u => ∃ ts ps, ts.length = n.toNat ∧ ps.length = m.toNat ∧ Sep u (wtL bb s p ts ps [oldA u10])) ⟨zs n, zs m, by simp, by simp, hs⟩ (fun I μ k u hu hlt next => ?_) fun I μ u hu => ?_
    · obtain ⟨ts, ps, lt, lp, hs⟩ := hu
      have eu : Ex u10 u := hs.ex 3 rfl
      refine ⟨sl.a, sl.l, sl.c, (eu.blk hin).ld rfl, ?_⟩
      rw [if_pos (by simp; omega)]
      refine C32 hs has (by omega) (by omega) (by omega) fun b' s' p' u19 has' h19 => ⟨_, rfl, ?_⟩
      have h19 : Sep u19 (wtL bb s p ts ps (oldA u10 :: [bx b' [s'.v, p'.v] 82, row 8 79 s' (cks ts), row 8 79 p' (cks ps)])) := toEnd3 h19
      intro kb7 hkb7
      have fin : ∀ u20 ts2 ps2, Up ts ts2 → Up ps ps2 → Sep u20 (wtL bb s p ts2 ps2 (oldA u10 :: [bx b' [s'.v, p'.v] 82, row 8 79 s' (cks ts), row 8 79 p' (cks ps)])) → kb7 u20 := by
        intro u20 ts2 ps2 ut up hs
        refine hkb7 _ ?_
        have lt2 := ut.1
        have lp2 := up.1
        refine iter n.toNat (fun _ v => Sep v (wtL bb s p ts2 ps2 (oldA u10 :: [bx b' [s'.v, p'.v] 82, row 8 79 s' (cks ts), row 8 79 p' (cks ps)]))) hs (fun I1 μ1 j v hv hj next1 => ?_) fun I1 μ1 v hv => ?_
        · refine ⟨_, ((hv.ex 3 rfl).blk hin).ld rfl, ?_⟩
          rw [if_pos (by simp; omega)]
          refine C34 (n := j) (WtP.at_ hv has' 4 5 6 rfl rfl rfl) fun v1 e1 => ?_
          rw [thF_yes (ts := ts) (n := j) (by omega) (by omega)]
          refine ⟨_, _, _, _, _, _, _, _, _, rfl, ?_⟩
          intro v2 p5
          have hv2 : Sep v2 (wtL bb s p ts2 ps2 (bx v1.heap.size ck0.cells 23 :: oldA u10 :: [bx b' [s'.v, p'.v] 82, row 8 79 s' (cks ts), row 8 79 p' (cks ps)])) := box3 (hv.ext e1) _ _
          clear_value v2
          refine hv2.fillAt 3 rfl (vs := (ts[((j : Nat) : Int).toNat]'(by omega)).cells) rfl fun v3 _ hv3 => ?_
          refine C34 (n := j) (WtP.of hv3 has) fun v4 e4 => ?_
          rw [thF_yes (ts := ts2) (n := j) (by omega) (by omega)]
          refine ⟨_, _, _, _, _, _, _, _, _, rfl, ?_⟩
          intro v5 p6
          have hv5 : Sep v5 (wtL bb s p ts2 ps2 (bx v4.heap.size ck0.cells 23 :: bx v1.heap.size (ts[((j : Nat) : Int).toNat]'(by omega)).cells 23 :: oldA u10 :: [bx b' [s'.v, p'.v] 82, row 8 79 s' (cks ts), row 8 79 p' (cks ps)])) := box3 (hv3.ext e4) _ _
          clear_value v5
          refine hv5.fillAt 3 rfl (vs := (ts2[((j : Nat) : Int).toNat]'(by omega)).cells) rfl fun v6 _ hv6 => ?_
          refine ⟨_, _, _, _, _, _, _, _, (hv6.blkAt 4 rfl).lds, _, _, _, _, _, _, _, _, (hv6.blkAt 3 rfl).lds, ?_⟩
          refine C17 (a := ts[((j : Nat) : Int).toNat]'(by omega)) (b := ts2[((j : Nat) : Int).toNat]'(by omega)) fun v7 e7 => ⟨_, rfl, ?_⟩
          rw [ut.2 _ (by omega) (by omega), if_neg (by decide), wi (by omega) (by omega)]
          exact next1 _ (((hv6.ext e7).dropAt 3 rfl).dropAt 3 rfl)
        · refine ⟨_, ((hv.ex 3 rfl).blk hin).ld rfl, ?_⟩
          rw [if_neg (by simp; omega)]
          refine iter m.toNat (fun _ v => Sep v (wtL bb s p ts2 ps2 (oldA u10 :: [bx b' [s'.v, p'.v] 82, row 8 79 s' (cks ts), row 8 79 p' (cks ps)]))) hv (fun I2 μ2 j v hv hj next2 => ?_) fun I2 μ2 v hv => ?_
          · refine ⟨_, ((hv.ex 3 rfl).blk hin).ld rfl, ?_⟩
            rw [if_pos (by simp; omega)]
            refine C35 (n := j) (WtP.at_ hv has' 4 5 6 rfl rfl rfl) fun v1 e1 => ?_
            rw [thF_yes (ts := ps) (n := j) (by omega) (by omega)]
            refine ⟨_, _, _, _, _, _, _, _, _, rfl, ?_⟩
            intro v2 p5
            have hv2 : Sep v2 (wtL bb s p ts2 ps2 (bx v1.heap.size ck0.cells 23 :: oldA u10 :: [bx b' [s'.v, p'.v] 82, row 8 79 s' (cks ts), row 8 79 p' (cks ps)])) := box3 (hv.ext e1) _ _
            clear_value v2
            refine hv2.fillAt 3 rfl (vs := (ps[((j : Nat) : Int).toNat]'(by omega)).cells) rfl fun v3 _ hv3 => ?_
            refine C35 (n := j) (WtP.of hv3 has) fun v4 e4 => ?_
            rw [thF_yes (ts := ps2) (n := j) (by omega) (by omega)]
            refine ⟨_, _, _, _, _, _, _, _, _, rfl, ?_⟩
            intro v5 p6
            have hv5 : Sep v5 (wtL bb s p ts2 ps2 (bx v4.heap.size ck0.cells 23 :: bx v1.heap.size (ps[((j : Nat) : Int).toNat]'(by omega)).cells 23 :: oldA u10 :: [bx b' [s'.v, p'.v] 82, row 8 79 s' (cks ts), row 8 79 p' (cks ps)])) := box3 (hv3.ext e4) _ _
            clear_value v5
            refine hv5.fillAt 3 rfl (vs := (ps2[((j : Nat) : Int).toNat]'(by omega)).cells) rfl fun v6 _ hv6 => ?_
            refine ⟨_, _, _, _, _, _, _, _, (hv6.blkAt 4 rfl).lds, _, _, _, _, _, _, _, _, (hv6.blkAt 3 rfl).lds, ?_⟩
            refine C17 (a := ps[((j : Nat) : Int).toNat]'(by omega)) (b := ps2[((j : Nat) : Int).toNat]'(by omega)) fun v7 e7 => ⟨_, rfl, ?_⟩
            rw [up.2 _ (by omega) (by omega), if_neg (by decide), wi (by omega) (by omega)]
            exact next2 _ (((hv6.ext e7).dropAt 3 rfl).dropAt 3 rfl)
          · refine ⟨_, ((hv.ex 3 rfl).blk hin).ld rfl, ?_⟩
            rw [if_neg (by simp; omega), wi (by omega) (by omega)]
            exact next _ ⟨ts2, ps2, by omega, by omega, ((hv.dropAt 4 rfl).dropAt 4 rfl).dropAt 4 rfl⟩
      have i19 := (h19.ex 3 rfl).blk hin
      obtain ⟨q, rw_, hq, hrow, hc⟩ := (hx2.ex (h19.ex 3 rfl)).nth (i := k) (List.getElem?_eq_getElem hlt) (by decide)
      have hrow : rw_ = _ := hrow
      subst hrow
      have hc0 : u19.cell? (Addr.add (Addr.add q (((k : Nat) : Int).toNat * 3)) 0) = some (.int .i64 xs[k].k) := hc.1
      refine ⟨sl.a, sl.l, sl.c, i19.ld rfl, ?_⟩
      rw [hq, xptr_some]
      refine ⟨by omega, by omega, _, hc0, ?_⟩
      refine or_join (c := decide (xs[k].k > 3)) (fun kb hk => ⟨sl.a, sl.l, sl.c, i19.ld rfl, ?_⟩) fun u21 e21 => ?_
      · rw [hq, xptr_some]
        exact ⟨by omega, by omega, _, hc0, hk _ (Ex.refl _)⟩
      show if (xs[k]).stp = true then _ else _
      have h21 := h19.ext e21
      have hT := acT_up xs[k] ts ps
      have hP := acP_up xs[k] ts ps
      by_cases hst : (xs[k]).stp = true
      · rw [if_pos hst]
        refine ⟨sl.a, sl.l, sl.c, (e21.blk i19).ld rfl, ?_⟩
        rw [hq, xptr_some]
        refine ⟨by omega, by omega, _, e21.cell hc.2.1, ?_⟩
        refine D29 (n := xs[k].t) h21 has fun u22 h22 => ⟨_, _, _, _, _, _, _, _, _, rfl, ?_⟩
        have eT : acT xs[k] ts ps = stT ts xs[k].t := by unfold acT; rw [if_pos hst]
        have eP : acP xs[k] ts ps = ps := by unfold acP; rw [if_pos hst]
        rw [eT] at hT
        exact fin _ _ _ hT (Up.refl _) h22
      · rw [if_neg hst]
        refine ⟨sl.a, sl.l, sl.c, (e21.blk i19).ld rfl, ?_⟩
        rw [hq, xptr_some]
        have hk : 0 ≤ xs[k].k ∧ xs[k].k ≤ 3 := by unfold Ac.stp at hst; simp at hst; omega
        refine ⟨by omega, by omega, _, _, _, e21.cells hc, ?_⟩
        refine D33 (x := xs[k]) hk h21 has fun u22 h22 => ⟨_, rfl, ?_⟩
        have eT : acT xs[k] ts ps = moT xs[k].k xs[k].t xs[k].n ts ps := by unfold acT; rw [if_neg hst]
        have eP : acP xs[k] ts ps = moP xs[k].k xs[k].t xs[k].n ts ps := by unfold acP; rw [if_neg hst]
        rw [eT] at hT
        rw [eP] at hP
        exact fin _ _ _ hT hP h22
    · obtain ⟨ts, ps, lt, lp, hs⟩ := hu
      have eu : Ex u10 u := hs.ex 3 rfl
      refine ⟨sl.a, sl.l, sl.c, (eu.blk hin).ld rfl, ?_⟩
      rw [if_neg (by simp; omega)]
      refine C14 ⟨_, rfl, ?_⟩
      refine and_true rfl (fun kb hk => C15 fun u hu => ⟨_, rfl, hk _ hu⟩) fun u2 e2 => ?_
      exact h _ (Ex.trans W2 (Ex.trans eu e2))
end
end Go.Proofs.YtohcdbldphedkaaDoor
