/- The clocks seat: calls played; the laws of watches. -/
import Derived.Test.YtohcdbldphedkaaDoorK11
set_option linter.unusedVariables false
set_option linter.unusedSimpArgs false
namespace Go.Proofs.YtohcdbldphedkaaDoor
open Go.X
def smB (n m : Int) (l : Nat) : Bool := (((decide (n ≥ 1)) && (decide (n ≤ 8))) && (decide (m ≥ 0))) && (decide (m ≤ 20)) && (decide ((l : Int) ≤ 100))
section
variable {w : World} {K : Value → World → Prop} {KP : List PanicEntry → World → Prop} {L : List Assn} {G : Nat → Prop}
theorem C24 {n m : Int} {s : Sl} {xs : List Ac} (h : SlR acR w G s xs) (hK : K (.bool (smB n m xs.length)) w) : XCP Tryd.prog 24 [.int .i64 n, .int .i64 m, s.v] w K KP := by
  show XCP Tryd.prog 24 [.int .i64 n, .int .i64 m, .slice s.a s.l s.c] w K KP
  refine E24 ?_
  unfold F24
  rw [h.len]
  exact hK
theorem C25 {n m : Int} {sl : Sl} {xs : List Ac} (hb : mkB n m = false) (hx : SlR acR w G sl xs) (hl : xs.length ≤ 100)
    (hK : ∀ b s p rt rp ts ps u, s.a.isSome = true → Sep u (wtL b s p ts ps [pers [rwA rt rp ts ps], oldA w]) → ts.length = n.toNat → ps.length = m.toNat → K (.tuple #[.pointer (some ⟨b, 0, none⟩), rwV rt rp, .bool true]) u) :
    XCP Tryd.prog 25 [.int .i64 n, .int .i64 m, sl.v] w K KP := by
  show XCP Tryd.prog 25 [.int .i64 n, .int .i64 m, .slice sl.a sl.l sl.c] w K KP
  refine E25 ?_
  unfold F25
  intro w0 p0
  have h0 : Sep w0 (bx w.heap.size [.slice none 0 0, .slice none 0 0] 41 :: [oldA w]) := (Sep.begin w).box _ _
  clear_value w0
  have hb' : ¬ (n < 1) ∧ ¬ (n > 8) ∧ ¬ (m < 0) ∧ ¬ (m > 65536) := by
    unfold mkB at hb
    simp only [Bool.or_eq_false_iff, decide_eq_false_iff_not] at hb
    exact ⟨hb.1.1.1, hb.1.1.2, hb.1.2, hb.2⟩
  refine C26 hb h0 fun b s p u1 has h1 => ⟨_, _, rfl, ?_⟩
  refine C27 hb h1 fun rt rp u2 h2 => ⟨rt.a, rt.l, rt.c, rp.a, rp.l, rp.c, _, rfl, ?_⟩
  have h2 : Sep u2 (pers [rwA rt rp (zs n) (zs m)] :: wtL b s p (zs n) (zs m) (bx w.heap.size [.slice none 0 0, .slice none 0 0] 41 :: [oldA w])) := h2.pers1
  have h2 : Sep u2 (wtL b s p (zs n) (zs m) (pers [rwA rt rp (zs n) (zs m)] :: bx w.heap.size [.slice none 0 0, .slice none 0 0] 41 :: [oldA w])) := h2.behind 3 (by simp)
  intro w3 p1
  have h3 : Sep w3 (bx u2.heap.size [.slice none 0 0, .slice none 0 0] 41 :: wtL b s p (zs n) (zs m) (pers [rwA rt rp (zs n) (zs m)] :: bx w.heap.size [.slice none 0 0, .slice none 0 0] 41 :: [oldA w])) := h2.box _ _
  clear_value w3
  refine h3.fill (vs := [rt.v, rp.v]) rfl fun w4 _ h4 => C14 ⟨_, rfl, ?_⟩
  have h4 : Sep w4 (wtL b s p (zs n) (zs m) (pers [rwA rt rp (zs n) (zs m)] :: bx u2.heap.size [rt.v, rp.v] 41 :: bx w.heap.size [.slice none 0 0, .slice none 0 0] 41 :: [oldA w])) := h4.behind 4 (by simp)
  have hln := hx.len
  refine ⟨fun f i u => f = true ∧ ∃ k : Nat, i = k ∧ k ≤ xs.length ∧ ∃ rt rp ts ps, ts.length = n.toNat ∧ ps.length = m.toNat ∧ Sep u (wtL b s p ts ps (pers [rwA rt rp ts ps] :: bx u2.heap.size [rt.v, rp.v] 41 :: bx w.heap.size [.slice none 0 0, .slice none 0 0] 41 :: [oldA w])),
    fun _ i _ => xs.length - i.toNat, ⟨rfl, 0, rfl, by omega, rt, rp, zs n, zs m, by simp, by simp, h4⟩, ?_⟩
  rintro f i u ⟨rfl, k, rfl, hk, rt, rp, ts, ps, lt, lp, hs⟩
  by_cases hlt : k < xs.length
  · rw [if_pos (by simp; omega)]
    refine ⟨fun x => Blk x u2.heap.size [rt.v, rp.v] 41 ∧ Ex w x, ⟨hs.drew.blkAt 4 rfl, hs.drew.ex 6 rfl⟩, ?_⟩
    intro w7
    have h7 : Sep w7 _ := hs.drew
    clear_value w7
    refine ⟨rt.a, rt.l, rt.c, rp.a, rp.l, rp.c, fun x hx => hx.1.lds, ?_⟩
    obtain ⟨q, row, hq, hrow, hc⟩ := hx.nth (i := k) (List.getElem?_eq_getElem hlt) (by decide)
    have hrow : row = _ := hrow
    subst hrow
    rw [hq, xptr_some]
    refine ⟨by omega, by omega, _, _, _, fun x hx => by rw [Int.toNat_natCast]; exact hx.2.cells hc, ?_⟩
    refine D30 (x := xs[k]) (Γ := []) h7 has (by omega) (by omega) fun rt' rp' u10 h10 => ⟨rt'.a, rt'.l, rt'.c, rp'.a, rp'.l, rp'.c, _, rfl, fun _ => True, trivial, ?_⟩
    refine h10.fillAt 4 rfl (vs := [rt'.v, rp'.v]) rfl fun w11 _ h11 => ⟨fun _ => True, trivial, ?_⟩
    rw [wi (by omega) (by omega)]
    refine ⟨⟨rfl, k + 1, by omega, by omega, rt', rp', acT xs[k] ts ps, acP xs[k] ts ps, by rw [acT_len, lt], by rw [acP_len, lp], ?_⟩, by show xs.length - ((k : Int) + 1).toNat < xs.length - (k : Int).toNat; omega⟩
    exact h11.forgetAt 3 rfl (Γ' := [rwA rt' rp' (acT xs[k] ts ps) (acP xs[k] ts ps)]) fun i A hA => ⟨i, by
      cases i with
      | zero => simpa using hA
      | succ i => simp at hA⟩
  · rw [if_neg (by simp; omega)]
    intro kb hkb
    refine ⟨fun x => Blk x u2.heap.size [rt.v, rp.v] 41, hs.drew.blkAt 4 rfl, ?_⟩
    intro w13
    have h13 : Sep w13 _ := hs.drew
    clear_value w13
    refine ⟨rt.a, rt.l, rt.c, rp.a, rp.l, rp.c, fun x hx => hx.lds, ?_⟩
    rw [if_pos rfl]
    refine ⟨rt.a, rt.l, rt.c, rp.a, rp.l, rp.c, fun x hx => hx.lds, ?_⟩
    obtain ⟨Gr, hr⟩ := h13.persAt' 3 rfl 0 rfl
    refine C31 (WtP.of h13 has) hr (by omega) (by omega) fun u16 e16 => ⟨_, rfl, e16.blk (h13.blkAt 4 rfl), ?_⟩
    have h16 := h13.ext e16
    refine h16.fillAt 5 rfl (vs := [rt.v, rp.v]) rfl fun w17 _ h17 => ⟨h17.blkAt 4 rfl, hkb _ _ _ ⟨rt.a, rt.l, rt.c, rp.a, rp.l, rp.c, (h17.blkAt 5 rfl).lds, ?_⟩⟩
    exact hK b s p rt rp ts ps _ has ((h17.dropAt 4 rfl).dropAt 4 rfl) lt lp
theorem smB_iff {n m : Int} {l : Nat} (h : smB n m l = true) : mkB n m = false ∧ l ≤ 100 ∧ 1 ≤ n ∧ n ≤ 8 ∧ 0 ≤ m ∧ m ≤ 20 := by
  unfold smB at h
  unfold mkB
  simp only [Bool.and_eq_true, decide_eq_true_eq] at h
  simp only [Bool.or_eq_false_iff, decide_eq_false_iff_not]
  omega
theorem L7 {n m : Int} {sl : Sl} {xs : List Ac} (hx : SlR acR w G sl xs) (h : ∀ u, Ex w u → K (.bool true) u) : XCP Tryd.prog 7 [.int .i64 n, .int .i64 m, sl.v] w K KP := by
  show XCP Tryd.prog 7 [.int .i64 n, .int .i64 m, .slice sl.a sl.l sl.c] w K KP
  refine E7 ?_
  unfold F7
  refine C24 (s := sl) hx ⟨_, rfl, ?_⟩
  cases hsm : smB n m xs.length with
  | false => rw [if_pos (by decide)]; exact C15 fun u hu => ⟨_, rfl, h u hu⟩
  | true =>
    rw [if_neg (by decide)]
    obtain ⟨hb, hl, -⟩ := smB_iff hsm
    refine C25 (sl := sl) hb hx hl fun b s p rt rp ts ps u has hs lt lp => ⟨_, rt.a, rt.l, rt.c, rp.a, rp.l, rp.c, _, rfl, ?_⟩
    intro w3 p3
    have h3 : Sep w3 (bx u.heap.size [.slice none 0 0, .slice none 0 0] 41 :: _) := hs.box _ _
    clear_value w3
    refine h3.fill (vs := [rt.v, rp.v]) rfl fun w4 _ h4 => ?_
    refine and_true rfl (fun kb hk => C15 fun u8 e8 => ⟨_, rfl, hk _ e8⟩) fun u9 e9 => ?_
    exact h _ (Ex.trans (h4.ex 5 rfl) e9)
end
end Go.Proofs.YtohcdbldphedkaaDoor
