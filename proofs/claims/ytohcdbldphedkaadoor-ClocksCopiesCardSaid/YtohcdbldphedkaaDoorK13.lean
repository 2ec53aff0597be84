/- The clocks seat: watches made; one call behind steps; copies. -/
import Derived.Test.YtohcdbldphedkaaDoorK12
set_option linter.unusedVariables false
set_option linter.unusedSimpArgs false
namespace Go.Proofs.YtohcdbldphedkaaDoor
open Go.X
/-- what New has made -/
def Mk (w : World) (n m : Int) (o : Option Addr) (e : Int) (u : World) : Prop :=
  (mkB n m = true ∧ o = none ∧ e = 2 ∧ Ex w u) ∨ (mkB n m = false ∧ e = 0 ∧ ∃ b s p, o = some ⟨b, 0, none⟩ ∧ s.a.isSome = true ∧ Sep u (wtL b s p (zs n) (zs m) [oldA w]))
theorem Mk.ex {w u v : World} {n m : Int} {o : Option Addr} {e : Int} (h : Mk w n m o e u) (he : Ex u v) : Mk w n m o e v := by
  rcases h with ⟨h1, h2, h3, h4⟩ | ⟨h1, h2, b, s, p, h3, h4, h5⟩
  · exact .inl ⟨h1, h2, h3, h4.trans he⟩
  · exact .inr ⟨h1, h2, b, s, p, h3, h4, h5.ext he⟩
theorem Mk.old {w u : World} {n m : Int} {o : Option Addr} {e : Int} (h : Mk w n m o e u) : Ex w u := by
  rcases h with ⟨h1, h2, h3, h4⟩ | ⟨h1, h2, b, s, p, h3, h4, h5⟩
  · exact h4
  · exact h5.ex 3 rfl
section
variable {w : World} {K : Value → World → Prop} {KP : List PanicEntry → World → Prop} {L : List Assn} {G : Nat → Prop}
theorem C26any {n m : Int} (hK : ∀ o e u, Mk w n m o e u → K (.tuple #[.pointer o, .int .i64 e]) u) : XCP Tryd.prog 26 [.int .i64 n, .int .i64 m] w K KP := by
  cases hb : mkB n m with
  | true => exact C26bad hb (hK _ _ _ (.inl ⟨hb, rfl, rfl, Ex.refl _⟩))
  | false => exact C26 hb (Sep.begin w) fun b s p u has hs => hK _ _ _ (.inr ⟨hb, rfl, b, s, p, rfl, has, hs⟩)
theorem C27any {n m : Int} (hK : ∀ rt rp u, Ex w u → K (.tuple #[rwV rt rp, .int .i64 (if mkB n m = true then 2 else 0)]) u) : XCP Tryd.prog 27 [.int .i64 n, .int .i64 m] w K KP := by
  cases hb : mkB n m with
  | true => rw [hb] at hK; exact C27bad hb fun u hu => hK _ _ _ hu
  | false => rw [hb] at hK; exact C27 hb (Sep.begin w) fun rt rp u hs => hK _ _ _ (hs.ex 1 rfl)
theorem L10 {n m : Int} (hn : -9223372036854775808 ≤ n ∧ n ≤ 9223372036854775807) (h : ∀ u, Ex w u → K (.bool true) u) : XCP Tryd.prog 10 [.int .i64 n, .int .i64 m] w K KP := by
  refine E10 ?_
  unfold F10
  refine C26any fun o e u0 hm => ⟨_, _, rfl, ?_⟩
  refine C27any fun rt rp u1 e1 => ⟨rt.a, rt.l, rt.c, rp.a, rp.l, rp.c, _, rfl, ?_⟩
  replace hm := hm.ex e1
  intro w2 p2
  have h2 : Sep w2 (bx u1.heap.size [.slice none 0 0, .slice none 0 0] 41 :: [oldA u1]) := (Sep.begin u1).box _ _
  clear_value w2
  refine h2.fill (vs := [rt.v, rp.v]) rfl fun w3 _ h3 => ?_
  replace hm := hm.ex (h3.ex 1 rfl)
  refine C29n fun u4 e4 => ⟨_, _, _, _, _, _, _, _, _, rfl, ?_⟩
  replace hm := hm.ex e4
  intro w5 p5
  have h5 : Sep w5 (bx u4.heap.size ck0.cells 23 :: [oldA u4]) := (Sep.begin u4).box _ _
  clear_value w5
  refine h5.fill (vs := ck0.cells) rfl fun w6 _ h6 => ?_
  replace hm := hm.ex (h6.ex 1 rfl)
  refine C34n fun u7 e7 => ⟨_, _, _, _, _, _, _, _, _, rfl, ?_⟩
  replace hm := hm.ex e7
  intro w8 p8
  have h8 : Sep w8 (bx u7.heap.size ck0.cells 23 :: [oldA u7]) := (Sep.begin u7).box _ _
  clear_value w8
  refine h8.fill (vs := ck0.cells) rfl fun w9 _ h9 => ?_
  replace hm := hm.ex (h9.ex 1 rfl)
  refine C35n fun u10 e10 => ⟨_, _, _, _, _, _, _, _, _, rfl, ?_⟩
  replace hm := hm.ex e10
  intro w11 p11
  have h11 : Sep w11 (bx u10.heap.size ck0.cells 23 :: [oldA u10]) := (Sep.begin u10).box _ _
  clear_value w11
  refine h11.fill (vs := ck0.cells) rfl fun w12 _ h12 => ?_
  replace hm := hm.ex (h12.ex 1 rfl)
  refine C14 ⟨_, rfl, C14 ⟨_, rfl, C14 ⟨_, rfl, ?_⟩⟩⟩
  refine or_false (by decide) (fun kb hk => C36n fun u hu => ⟨_, rfl, C14 ⟨_, rfl, hk _ hu⟩⟩) fun u e => ?_
  replace hm := hm.ex e
  refine or_false rfl (fun kb hk => C37n fun u hu => ⟨_, rfl, C14 ⟨_, rfl, hk _ hu⟩⟩) fun u e => ?_
  replace hm := hm.ex e
  refine or_false rfl (fun kb hk => C38n fun u hu => ⟨_, rfl, C14 ⟨_, rfl, hk _ hu⟩⟩) fun u e => ?_
  replace hm := hm.ex e
  refine or_false rfl (fun kb hk => C39n fun u hu => ⟨_, rfl, C14 ⟨_, rfl, hk _ hu⟩⟩) fun u e => ?_
  replace hm := hm.ex e
  refine or_false rfl (fun kb hk => ?_) fun u e => ?_
  · refine E32 ?_
    unfold F32
    refine C52n ⟨_, rfl, ?_⟩
    rw [if_pos rfl]
    exact ⟨_, rfl, hk _ (Ex.refl _)⟩
  replace hm := hm.ex e
  refine or_false rfl (fun kb hk => C40nn fun u hu => ⟨_, rfl, hk _ hu⟩) fun u e => ?_
  replace hm := hm.ex e
  rw [if_neg (by decide)]
  rcases hm with ⟨hb, ho, he, ew⟩ | ⟨hb, he, b, s, p, ho, has, hs⟩
  · subst ho he
    rw [hb, if_pos rfl, if_pos (by decide)]
    refine and_true rfl (fun kb hk => C14 ⟨_, rfl, hk _ (Ex.refl _)⟩) fun u e => ?_
    refine and_true rfl (fun kb hk => C15 fun u hu => ⟨_, rfl, hk _ hu⟩) fun u2 e2 => ?_
    exact h _ (Ex.trans ew (Ex.trans e e2))
  · subst ho he
    rw [hb, if_neg (by decide)]
    have hb' : ¬ (n < 1) ∧ ¬ (n > 8) ∧ ¬ (m < 0) ∧ ¬ (m > 65536) := by
      unfold mkB at hb
      simp only [Bool.or_eq_false_iff, decide_eq_false_iff_not] at hb
      exact ⟨hb.1.1.1, hb.1.1.2, hb.1.2, hb.2⟩
    have lz : ∀ x : Int, 0 ≤ x → (((zs x).length : Nat) : Int) = x := fun x hx => by simp; omega
    have f1 : thF (zs n) n = (ck0, 4) := by unfold thF; rw [if_neg (by rw [lz n (by omega)]; omega)]
    have f2 : thF (zs m) m = (ck0, 4) := by unfold thF; rw [if_neg (by rw [lz m (by omega)]; omega)]
    have f3 : thF (zs n) (n - 1) = (ck0, 0) := by
      rw [thF_yes (by omega) (by rw [lz n (by omega)]; omega)]; simp
    refine C34 (n := n) (WtP.of hs has) fun u1 e1 => ?_
    rw [f1]
    refine ⟨_, _, _, _, _, _, _, _, _, rfl, ?_⟩
    replace hs := hs.ext e1
    intro w2 p2
    have h2 : Sep w2 (wtL b s p (zs n) (zs m) (bx u1.heap.size ck0.cells 23 :: [oldA w])) := box3 hs _ _
    clear_value w2
    refine h2.fillAt 3 rfl (vs := ck0.cells) rfl fun w3 _ h3 => ?_
    refine C35 (n := m) (WtP.of h3 has) fun u4 e4 => ?_
    rw [f2]
    refine ⟨_, _, _, _, _, _, _, _, _, rfl, ?_⟩
    replace hs : Sep u4 (wtL b s p (zs n) (zs m) [oldA w]) := (h3.ext e4).dropAt 3 rfl
    intro w5 p5
    have h5 : Sep w5 (wtL b s p (zs n) (zs m) (bx u4.heap.size ck0.cells 23 :: [oldA w])) := box3 hs _ _
    clear_value w5
    refine h5.fillAt 3 rfl (vs := ck0.cells) rfl fun w6 _ h6 => ?_
    rw [wi (by omega) (by omega)]
    refine C34 (n := n - 1) (WtP.of h6 has) fun u7 e7 => ?_
    rw [f3]
    refine ⟨_, _, _, _, _, _, _, _, _, rfl, ?_⟩
    replace hs : Sep u7 (wtL b s p (zs n) (zs m) [oldA w]) := (h6.ext e7).dropAt 3 rfl
    intro w8 p8
    have h8 : Sep w8 (wtL b s p (zs n) (zs m) (bx u7.heap.size ck0.cells 23 :: [oldA w])) := box3 hs _ _
    clear_value w8
    refine h8.fillAt 3 rfl (vs := ck0.cells) rfl fun w9 _ h9 => ?_
    replace h9 : Sep w9 (wtL b s p (zs n) (zs m) (bx u7.heap.size ck0.cells 23 :: [oldA w])) := h9
    refine C14 ⟨_, rfl, C14 ⟨_, rfl, ?_⟩⟩
    refine and_true (by decide) (fun kb hk => C14 ⟨_, rfl, hk _ (Ex.refl _)⟩) fun u e => ?_
    have h10 := h9.ext e
    refine and_true rfl (fun kb hk => C14 ⟨_, rfl, hk _ (Ex.refl _)⟩) fun u e => ?_
    have h11 := h10.ext e
    refine and_true rfl (fun kb hk => ⟨_, _, _, _, _, _, _, _, (h11.blkAt 3 rfl).lds, xr_ck_eq (a := ck0) (b := ck0) und23 eg23 ⟨_, rfl, hk _ (Ex.refl _)⟩⟩) fun u e => ?_
    have h12 := h11.ext e
    refine and_true rfl (fun kb hk => C40sn (WtP.of h12 has) fun u hu => ⟨_, rfl, hk _ hu⟩) fun u e => ?_
    have h13 := h12.ext e
    refine and_true rfl (fun kb hk => C40ns (WtP.of h13 has) fun u hu => ⟨_, rfl, hk _ hu⟩) fun u e => ?_
    have h14 := h13.ext e
    refine and_true rfl (fun kb hk => C15 fun u hu => ⟨_, rfl, hk _ hu⟩) fun u e => ?_
    exact h _ (Ex.trans (h14.ex 4 rfl) e)
theorem L8 {sl : Sl} {xs : List Int} {x : Ac} (hx : SlR (.int .i64) w G sl xs) (h : ∀ u, Ex w u → K (.bool true) u) : XCP Tryd.prog 8 [sl.v, x.v] w K KP := by
  show XCP Tryd.prog 8 [.slice sl.a sl.l sl.c, .agg #[.int .i64 x.k, .int .i64 x.t, .int .i64 x.n]] w K KP
  refine E8 ?_
  unfold F8
  intro w0 p0
  have h0 : Sep w0 (bx w.heap.size x.cells 46 :: [oldA w]) := (Sep.begin w).box _ _
  clear_value w0
  have hln := hx.len
  by_cases hl : sl.l > 8
  · rw [if_pos (by simp; omega)]
    exact C15 fun u hu => ⟨_, rfl, h _ (Ex.trans (h0.ex 1 rfl) hu)⟩
  rw [if_neg (by simp; omega)]
  have hb : mkB 8 3 = false := by decide
  refine C26 hb h0 fun b s p u1 has h1 => ⟨_, _, rfl, ?_⟩
  refine C27 hb h1 fun rt rp u2 h2 => ⟨rt.a, rt.l, rt.c, rp.a, rp.l, rp.c, _, rfl, ?_⟩
  have h2 : Sep u2 (pers [rwA rt rp (zs 8) (zs 3)] :: wtL b s p (zs 8) (zs 3) (bx w.heap.size x.cells 46 :: [oldA w])) := h2.pers1
  have h2 : Sep u2 (wtL b s p (zs 8) (zs 3) (pers [rwA rt rp (zs 8) (zs 3)] :: bx w.heap.size x.cells 46 :: [oldA w])) := h2.behind 3 (by simp)
  intro w3 p1
  have h3 : Sep w3 (bx u2.heap.size [.slice none 0 0, .slice none 0 0] 41 :: wtL b s p (zs 8) (zs 3) (pers [rwA rt rp (zs 8) (zs 3)] :: bx w.heap.size x.cells 46 :: [oldA w])) := h2.box _ _
  clear_value w3
  refine h3.fill (vs := [rt.v, rp.v]) rfl fun w4 _ h4 => ?_
  have h4 : Sep w4 (wtL b s p (zs 8) (zs 3) (pers [rwA rt rp (zs 8) (zs 3)] :: bx u2.heap.size [rt.v, rp.v] 41 :: bx w.heap.size x.cells 46 :: [oldA w])) := h4.behind 4 (by simp)
  let St : World → Prop := fun u => ∃ rt rp ts, ts.length = 8 ∧ Sep u (wtL b s p ts (zs 3) (pers [rwA rt rp ts (zs 3)] :: bx u2.heap.size [rt.v, rp.v] 41 :: bx w.heap.size x.cells 46 :: [oldA w]))
  refine iter xs.length (fun _ u => St u) ⟨rt, rp, zs 8, rfl, h4⟩ (fun I μ k u hu hlt next => ?_) fun I μ u hu => ?_
  · rw [if_pos (by simp; omega)]
    refine ⟨fun i v => 0 ≤ i ∧ i ≤ 50 ∧ St v, fun i _ => 50 - i.toNat, ⟨by omega, by omega, hu⟩, ?_⟩
    rintro i v ⟨i0, i1, rt, rp, ts, lt, hs⟩
    obtain ⟨q, hq, hc⟩ := hx.int hlt
    rw [hq, xptr_some]
    refine ⟨by omega, by omega, _, by rw [Int.toNat_natCast, Nat.mul_one]; exact (hs.ex 6 rfl).cell hc, ?_⟩
    by_cases hgo : i < xs[k] ∧ i < 50
    · rw [if_pos (by simpa using hgo)]
      refine ⟨rt.a, rt.l, rt.c, rp.a, rp.l, rp.c, (hs.blkAt 4 rfl).lds, ?_⟩
      obtain ⟨Gg, hG, hgrow⟩ := growAt hs 3 rfl 0 rfl
      refine C28 (n := k) hG (by omega) fun rt' u8 e8 hr8 => ⟨rt'.a, rt'.l, rt'.c, rp.a, rp.l, rp.c, _, _, _, _, _, _, _, _, _, rfl, ?_⟩
      have h8 := hgrow _ (rwA rt' rp (stT ts k) (zs 3)) e8 hr8
      refine h8.fillAt 4 rfl (vs := [rt'.v, rp.v]) rfl fun w9 _ h9 => ?_
      refine D29 (n := k) h9 has fun u10 h10 => ⟨_, _, _, _, _, _, _, _, _, rfl, ?_⟩
      rw [wi (by omega) (by omega)]
      refine ⟨⟨by omega, by omega, rt', rp, stT ts k, by rw [stT_len, lt], ?_⟩, by show 50 - (i + 1).toNat < 50 - i.toNat; omega⟩
      exact h10.forgetAt 3 rfl (Γ' := [rwA rt' rp (stT ts k) (zs 3)]) fun i A hA => ⟨i, by
        cases i with
        | zero => simpa using hA
        | succ i => simp at hA⟩
    · rw [if_neg (by simpa using hgo), wi (by omega) (by omega)]
      exact next _ ⟨rt, rp, ts, lt, hs⟩
  · rw [if_neg (by simp; omega)]
    obtain ⟨rt, rp, ts, lt, hs⟩ := hu
    refine ⟨rt.a, rt.l, rt.c, rp.a, rp.l, rp.c, (hs.blkAt 4 rfl).lds, _, _, _, (hs.blkAt 5 rfl).lds, ?_⟩
    refine D30 (x := x) (Γ := []) hs has (by omega) (by simp) fun rt' rp' u11 h11 => ⟨rt'.a, rt'.l, rt'.c, rp'.a, rp'.l, rp'.c, _, rfl, ?_⟩
    intro w12 p3
    have h12 : Sep w12 (wtL b s p (acT x ts (zs 3)) (acP x ts (zs 3)) (bx u11.heap.size [.slice none 0 0, .slice none 0 0] 41 :: pers [rwA rt' rp' (acT x ts (zs 3)) (acP x ts (zs 3)), rwA rt rp ts (zs 3)] :: bx u2.heap.size [rt.v, rp.v] 41 :: bx w.heap.size x.cells 46 :: [oldA w])) := box3 h11 _ _
    clear_value w12
    refine h12.fillAt 3 rfl (vs := [rt'.v, rp'.v]) rfl fun w13 _ h13 => ?_
    replace h13 : Sep w13 (wtL b s p (acT x ts (zs 3)) (acP x ts (zs 3)) (bx u11.heap.size [rt'.v, rp'.v] 41 :: pers [rwA rt' rp' (acT x ts (zs 3)) (acP x ts (zs 3)), rwA rt rp ts (zs 3)] :: bx u2.heap.size [rt.v, rp.v] 41 :: bx w.heap.size x.cells 46 :: [oldA w])) := h13
    refine C12 (c := ck0) (t := 0) fun u14 e14 => ⟨_, _, _, _, _, _, _, _, _, rfl, ?_⟩
    have h14 := h13.ext e14
    intro w15 p4
    have h15 : Sep w15 (bx u14.heap.size ck0.cells 23 :: _) := h14.box _ _
    clear_value w15
    refine h15.fill (vs := (tk ck0 0).1.cells) rfl fun w16 _ h16 => ?_
    have h16 := h16.tail
    refine C14 ⟨_, rfl, C14 ⟨_, rfl, ?_⟩⟩
    refine and_true (by decide) (fun kb hk => ?_) fun u e => ?_
    · refine ⟨rt'.a, rt'.l, rt'.c, rp'.a, rp'.l, rp'.c, (h16.blkAt 3 rfl).lds, ?_⟩
      obtain ⟨Gr, hr⟩ := h16.persAt' 4 rfl 0 rfl
      exact C31 (WtP.of h16 has) hr (by rw [acT_len]; omega) (by rw [acP_len]; simp) fun u hu => ⟨_, rfl, hk _ hu⟩
    · refine and_true rfl (fun kb hk => C15 fun u hu => ⟨_, rfl, hk _ hu⟩) fun u2 e2 => ?_
      exact h _ (Ex.trans (h16.ex 7 rfl) (Ex.trans e e2))
end
end Go.Proofs.YtohcdbldphedkaaDoor
