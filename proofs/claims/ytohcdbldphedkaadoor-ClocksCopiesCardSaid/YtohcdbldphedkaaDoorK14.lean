/- The clocks seat: a copy goes on apart; clocks never get less. -/
import Derived.Test.YtohcdbldphedkaaDoorK13
set_option linter.unusedVariables false
set_option linter.unusedSimpArgs false
namespace Go.Proofs.YtohcdbldphedkaaDoor
open Go.X
theorem wn_refl (a : Ck) : wn a a = true := wn_yes fun i _ => Int.le_refl _
theorem wn_trans {a b c : Ck} (h1 : wn a b = true) (h2 : wn b c = true) : wn a c = true := wn_yes fun i hi => Int.le_trans ((wn_iff a b).1 h1 i hi) ((wn_iff b c).1 h2 i hi)
theorem wn_anti {a b : Ck} (h1 : wn a b = true) (h2 : wn b a = true) : a = b := Ck.ext_get fun i hi => Int.le_antisymm ((wn_iff a b).1 h1 i hi) ((wn_iff b a).1 h2 i hi)
theorem wn_jn_l (a b : Ck) : wn a (jn a b) = true := wn_yes fun i hi => by rw [jn_get a b hi]; omega
theorem wn_jn_r (a b : Ck) : wn b (jn a b) = true := wn_yes fun i hi => by rw [jn_get a b hi]; omega
theorem wn_jn {a b c : Ck} (h1 : wn a c = true) (h2 : wn b c = true) : wn (jn a b) c = true := wn_yes fun i hi => by
  have := (wn_iff a c).1 h1 i hi
  have := (wn_iff b c).1 h2 i hi
  rw [jn_get a b hi]; omega
/-- each clock of a list is within the one at its place in another -/
def Up (xs ys : List Ck) : Prop := xs.length = ys.length ∧ ∀ i (h : i < xs.length) (h' : i < ys.length), wn xs[i] ys[i] = true
theorem Up.refl (xs : List Ck) : Up xs xs := ⟨rfl, fun i _ _ => wn_refl _⟩
theorem Up.set {xs : List Ck} {i : Nat} {c : Ck} (h : ∀ hi : i < xs.length, wn xs[i] c = true) : Up xs (xs.set i c) := by
  refine ⟨by simp, fun j h1 h2 => ?_⟩
  by_cases e : i = j
  · subst e; rw [List.getElem_set_self]; exact h h1
  · rw [List.getElem_set_ne e]; exact wn_refl _
theorem Up.joinAt (xs ys : List Ck) (i j : Int) : Up xs (joinAt xs ys i j) := by
  refine Up.set fun hi => ?_
  rw [List.getD_eq_getElem?_getD, List.getElem?_eq_getElem hi]
  exact wn_jn_l _ _
theorem tk_up {c : Ck} {t : Int} (h : (tk c t).2 = 0) : wn c (tk c t).1 = true := by
  unfold tk at h ⊢
  by_cases h1 : c.ok = true
  · rw [if_pos h1] at h ⊢
    by_cases h2 : t < 0 ∨ t ≥ 8 ∨ c.get t.toNat = 4611686018427387904
    · rw [if_pos h2] at h; exact absurd h (by show ¬ ((4 : Int) = 0); decide)
    · rw [if_neg h2]
      refine wn_yes fun i hi => ?_
      rw [get_set c (by omega)]
      split
      · rename_i e; subst e; omega
      · exact Int.le_refl _
  · rw [if_neg h1] at h; exact absurd h (by show ¬ ((2 : Int) = 0); decide)
theorem stT_up (ts : List Ck) (t : Int) : Up ts (stT ts t) := by
  unfold stT
  split
  · rename_i h
    refine Up.set fun hi => ?_
    unfold stE at h
    by_cases hz : (thF ts t).2 = 0
    · rw [if_pos hz] at h
      unfold stC
      rw [if_pos hz]
      have hin : 0 ≤ t ∧ t < ts.length := by
        by_cases h : 0 ≤ t ∧ t < ts.length
        · exact h
        · unfold thF at hz; rw [if_neg h] at hz; exact absurd hz (by decide)
      have e := thF_yes hin.1 hin.2
      rw [e] at h ⊢
      exact tk_up h
    · rw [if_neg hz] at h; exact absurd h hz
  · exact Up.refl _
theorem mvT_up (li lf : Bool) (i j : Int) (ts ps : List Ck) : Up ts (mvT li lf i j ts ps) := by
  unfold mvT; split
  · split
    · exact Up.joinAt ..
    · exact Up.refl _
  · exact Up.refl _
theorem mvP_up (li lf : Bool) (i j : Int) (ts ps : List Ck) : Up ps (mvP li lf i j ts ps) := by
  unfold mvP; split
  · split
    · exact Up.refl _
    · exact Up.joinAt ..
  · exact Up.refl _
theorem acT_up (x : Ac) (ts ps : List Ck) : Up ts (acT x ts ps) := by
  unfold acT; split
  · exact stT_up ..
  · unfold moT; split <;> (try split) <;> (try split) <;> exact mvT_up ..
theorem acP_up (x : Ac) (ts ps : List Ck) : Up ps (acP x ts ps) := by
  unfold acP; split
  · exact Up.refl _
  · unfold moP; split <;> (try split) <;> (try split) <;> exact mvP_up ..
theorem one_of (a b : Ck) : (((if decide (a = b) = true then (1 : Int) else 0) + (if ((!decide (a = b)) && wn a b) = true then 1 else 0)) + (if ((!decide (b = a)) && wn b a) = true then 1 else 0)) + (if ((!wn a b) && !wn b a) = true then 1 else 0) = 1 := by
  by_cases h : a = b
  · subst h
    simp [wn_refl]
  · have h' : ¬ b = a := fun e => h e.symm
    cases h1 : wn a b <;> cases h2 : wn b a
    · simp [h, h']
    · simp [h, h']
    · simp [h, h']
    · exact absurd (wn_anti h1 h2) h
theorem cnt {b : Bool} {n : Int} {kb : Int → World → Prop} {u : World} (hn : 0 ≤ n ∧ n ≤ 10) (h : kb (n + (if b = true then 1 else 0)) u) : if b = true then kb (IntKind.wrap .i64 (n + 1)) u else kb n u := by
  cases b with
  | true => rw [if_pos rfl, wi (by omega) (by omega)]; exact h
  | false => rw [if_neg (by decide)]; simpa using h
section
variable {w : World} {K : Value → World → Prop} {KP : List PanicEntry → World → Prop} {L : List Assn} {G : Nat → Prop}
theorem toEnd3 {A B C : Assn} (h : Sep w (A :: B :: C :: L)) : Sep w (L ++ [A, B, C]) := by
  have := h.toEnd.toEnd.toEnd
  simpa using this
theorem WtP.at_ {b : Nat} {s p : Sl} {ts ps : List Ck} (h : Sep w L) (hs : s.a.isSome = true) (i j k : Nat) (hi : L[i]? = some (bx b [s.v, p.v] 82)) (hj : L[j]? = some (row 8 79 s (cks ts))) (hk : L[k]? = some (row 8 79 p (cks ps))) : WtP w b s p ts ps := by
  obtain ⟨G, h1⟩ := h.at_ j hj
  obtain ⟨G2, h2⟩ := h.at_ k hk
  have h1 : Own w 8 79 s.a s.l s.c (cks ts) G := h1
  have h2 : Own w 8 79 p.a p.l p.c (cks ps) G2 := h2
  exact ⟨h.blkAt i hi, (SlR.of_cks h1).mono fun _ _ _ => trivial, (SlR.of_cks h2).mono fun _ _ _ => trivial, hs⟩
theorem L11 {n m : Int} {sl : Sl} {xs : List Ac} {x : Ac} (hx : SlR acR w G sl xs) (h : ∀ u, Ex w u → K (.bool true) u) : XCP Tryd.prog 11 [.int .i64 n, .int .i64 m, sl.v, x.v] w K KP := by
  show XCP Tryd.prog 11 [.int .i64 n, .int .i64 m, .slice sl.a sl.l sl.c, .agg #[.int .i64 x.k, .int .i64 x.t, .int .i64 x.n]] w K KP
  refine E11 ?_
  unfold F11
  intro w0 p0
  have h0 : Sep w0 (bx w.heap.size x.cells 46 :: [oldA w]) := (Sep.begin w).box _ _
  clear_value w0
  have e0 := h0.ex 1 rfl
  refine C24 (s := sl) (hx.ex e0) ⟨_, rfl, ?_⟩
  cases hsm : smB n m xs.length with
  | false => rw [if_pos (by decide)]; exact C15 fun u hu => ⟨_, rfl, h u (Ex.trans e0 hu)⟩
  | true =>
    rw [if_neg (by decide)]
    obtain ⟨hb, hl, hn1, hn8, hm0, hm20⟩ := smB_iff hsm
    refine C25 (sl := sl) hb (hx.ex e0) hl fun b s p rt rp ts ps u3 has hs lt lp => ⟨_, rt.a, rt.l, rt.c, rp.a, rp.l, rp.c, _, rfl, ?_⟩
    have hx0 : Ex w0 u3 := hs.ex 4 rfl
    intro w4 p1
    have h4 : Sep w4 (wtL b s p ts ps (bx u3.heap.size [.slice none 0 0, .slice none 0 0] 41 :: [pers [rwA rt rp ts ps], oldA w0])) := box3 hs _ _
    clear_value w4
    refine h4.fillAt 3 rfl (vs := [rt.v, rp.v]) rfl fun w5 _ h5 => ?_
    replace h5 : Sep w5 (wtL b s p ts ps (bx u3.heap.size [rt.v, rp.v] 41 :: [pers [rwA rt rp ts ps], oldA w0])) := h5
    refine C32 h5 has (by omega) (by omega) (by omega) fun b' s' p' u6 has' h6 => ⟨_, rfl, ?_⟩
    refine or_false (by decide) (fun kb hk => C40 (WtP.of (drop3 h6) has) (WtP.of h6 has') (by omega) (by omega) fun u hu => ⟨_, rfl, by simpa using hk _ hu⟩) fun u7 e7 => ?_
    rw [if_neg (by decide)]
    have h7 := h6.ext e7
    have h7 : Sep u7 (wtL b s p ts ps (bx u3.heap.size [rt.v, rp.v] 41 :: pers [rwA rt rp ts ps] :: oldA w0 :: [bx b' [s'.v, p'.v] 82, row 8 79 s' (cks ts), row 8 79 p' (cks ps)])) := toEnd3 h7
    have h7 : Sep u7 (pers [rwA rt rp ts ps] :: wtL b s p ts ps (bx u3.heap.size [rt.v, rp.v] 41 :: oldA w0 :: [bx b' [s'.v, p'.v] 82, row 8 79 s' (cks ts), row 8 79 p' (cks ps)])) := h7.front 4 rfl
    have h7 : Sep u7 (wtL b s p ts ps (pers [rwA rt rp ts ps] :: bx u3.heap.size [rt.v, rp.v] 41 :: oldA w0 :: [bx b' [s'.v, p'.v] 82, row 8 79 s' (cks ts), row 8 79 p' (cks ps)])) := h7.behind 3 (by simp)
    have hb0 := e0
    have hbx : Blk u7 w.heap.size x.cells 46 := (h7.ex 5 rfl).blk h0.bx0
    refine ⟨rt.a, rt.l, rt.c, rp.a, rp.l, rp.c, (h7.blkAt 4 rfl).lds, _, _, _, hbx.lds, ?_⟩
    refine D30 (x := x) (Γ := []) h7 has (by omega) (by omega) fun rt' rp' u8 h8 => ⟨rt'.a, rt'.l, rt'.c, rp'.a, rp'.l, rp'.c, _, rfl, ?_⟩
    have la := acT_len x ts ps
    have lb := acP_len x ts ps
    generalize acT x ts ps = ts2 at h8 la ⊢
    generalize acP x ts ps = ps2 at h8 lb ⊢
    intro w9 p2
    have h9 : Sep w9 (wtL b s p ts2 ps2 (bx u8.heap.size [.slice none 0 0, .slice none 0 0] 41 :: pers [rwA rt' rp' ts2 ps2, rwA rt rp ts ps] :: bx u3.heap.size [rt.v, rp.v] 41 :: oldA w0 :: [bx b' [s'.v, p'.v] 82, row 8 79 s' (cks ts), row 8 79 p' (cks ps)])) := box3 h8 _ _
    clear_value w9
    refine h9.fillAt 3 rfl (vs := [rt'.v, rp'.v]) rfl fun w10 _ h10 => ?_
    replace h10 : Sep w10 (wtL b s p ts2 ps2 (bx u8.heap.size [rt'.v, rp'.v] 41 :: pers [rwA rt' rp' ts2 ps2, rwA rt rp ts ps] :: bx u3.heap.size [rt.v, rp.v] 41 :: oldA w0 :: [bx b' [s'.v, p'.v] 82, row 8 79 s' (cks ts), row 8 79 p' (cks ps)])) := h10
    refine ⟨rt.a, rt.l, rt.c, rp.a, rp.l, rp.c, (h10.blkAt 5 rfl).lds, rt'.a, rt'.l, rt'.c, rp'.a, rp'.l, rp'.c, (h10.blkAt 3 rfl).lds, ?_⟩
    obtain ⟨G1, hr1⟩ := h10.persAt' 4 rfl 0 rfl
    obtain ⟨G2, hr2⟩ := h10.persAt' 4 rfl 1 rfl
    refine C41 hr2 hr1 (by omega) (by omega) fun u11 e11 => ⟨_, rfl, ?_⟩
    have ww : ∀ u, Ex w10 u → WtP u b s p ts2 ps2 ∧ WtP u b' s' p' ts ps ∧ Blk u u3.heap.size [rt.v, rp.v] 41 ∧ Blk u u8.heap.size [rt'.v, rp'.v] 41 ∧ (rwA rt rp ts ps).p u TG ∧ (rwA rt' rp' ts2 ps2).p u TG ∧ Ex w u := by
      intro u hu
      have hs := h10.ext hu
      exact ⟨WtP.of hs has, WtP.at_ hs has' 7 8 9 rfl rfl rfl, hs.blkAt 5 rfl, hs.blkAt 3 rfl, Assn.ex _ hu hr2, Assn.ex _ hu hr1, Ex.trans e0 (hs.ex 6 rfl)⟩
    have hz : mkB n (m + 1) = false := by
      unfold mkB
      simp only [Bool.or_eq_false_iff, decide_eq_false_iff_not]
      omega
    rw [wi (by omega) (by omega)]
    refine C26 hz (Sep.begin u11) fun b1 s1 p1 u12 has1 h12 => ⟨_, _, rfl, ?_⟩
    refine C26 hb h12 fun b2 s2 p2 u13 has2 h13 => ⟨_, _, rfl, ?_⟩
    have e13 : Ex w10 u13 := Ex.trans e11 (h13.ex 6 rfl)
    have wz : ∀ u, Ex u13 u → WtP u b1 s1 p1 (zs n) (zs (m + 1)) ∧ WtP u b2 s2 p2 (zs n) (zs m) := fun u hu => ⟨WtP.at_ (h13.ext hu) has1 3 4 5 rfl rfl rfl, WtP.of (h13.ext hu) has2⟩
    clear h13 h12
    refine and_true rfl (fun kb hk => ⟨rt.a, rt.l, rt.c, rp.a, rp.l, rp.c, (ww _ e13).2.2.1.lds, C31 (ww _ e13).2.1 (ww _ e13).2.2.2.2.1 (by omega) (by omega) fun u hu => ⟨_, rfl, hk _ hu⟩⟩) fun u14 e14 => ?_
    have f14 := Ex.trans e13 e14
    refine and_true rfl (fun kb hk => ⟨rt'.a, rt'.l, rt'.c, rp'.a, rp'.l, rp'.c, (ww _ f14).2.2.2.1.lds, C31 (ww _ f14).1 (ww _ f14).2.2.2.2.2.1 (by omega) (by omega) fun u hu => ⟨_, rfl, hk _ hu⟩⟩) fun u15 e15 => ?_
    have f15 := Ex.trans f14 e15
    have hsym : (decide (ts2 = ts) && decide (ps2 = ps)) = (decide (ts = ts2) && decide (ps = ps2)) := by
      rw [show decide (ts2 = ts) = decide (ts = ts2) from decide_eq_decide.2 eq_comm, show decide (ps2 = ps) = decide (ps = ps2) from decide_eq_decide.2 eq_comm]
    refine and_true rfl (fun kb hk => C40 (ww _ f15).1 (ww _ f15).2.1 (by omega) (by omega) fun u hu => ⟨_, rfl, by rw [hsym, beq_self_eq_true]; exact hk _ hu⟩) fun u16 e16 => ?_
    have f16 := Ex.trans f15 e16
    refine and_true rfl (fun kb hk => C40 (ww _ f16).2.1 (ww _ f16).1 (by omega) (by omega) fun u hu => ⟨_, rfl, by rw [beq_self_eq_true]; exact hk _ hu⟩) fun u17 e17 => ?_
    have f17 := Ex.trans f16 e17
    have g17 : Ex u13 u17 := Ex.trans e14 (Ex.trans e15 (Ex.trans e16 e17))
    refine and_true rfl (fun kb hk => C40 (wz _ g17).1 (wz _ g17).2 (by simp; omega) (by simp; omega) fun u hu => ⟨_, rfl, ?_⟩) fun u18 e18 => ?_
    · rw [show decide (zs (m + 1) = zs m) = false from by
        rw [decide_eq_false_iff_not]
        intro e
        have := congrArg List.length e
        simp at this
        omega, Bool.and_false]
      exact hk _ hu
    refine and_true rfl (fun kb hk => C15 fun u hu => ⟨_, rfl, hk _ hu⟩) fun u19 e19 => ?_
    exact h _ (Ex.trans (ww _ f17).2.2.2.2.2.2 (Ex.trans e18 e19))
end
end Go.Proofs.YtohcdbldphedkaaDoor
