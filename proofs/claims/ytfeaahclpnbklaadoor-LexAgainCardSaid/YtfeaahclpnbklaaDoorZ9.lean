/- The lex seat: LexAgain walked. -/
import Derived.Test.YtfeaahclpnbklaaDoorZ8
set_option linter.unusedVariables false
set_option linter.unusedSimpArgs false
set_option maxRecDepth 10000
set_option maxHeartbeats 4000000
namespace Go.Lx
theorem cat_ge : ∀ (ts : List Tok), ts.length ≤ (cat ts).length
  | [] => Nat.zero_le _
  | t :: ts => by
    have := cat_ge ts
    rw [cat_cons, List.length_append, List.length_cons, List.length_cons]; omega
theorem cat_snoc (ts : List Tok) (t : Tok) : cat (ts ++ [t]) = cat ts ++ t.text ++ [32] := by simp [cat]
theorem offs_cat {T : By} : ∀ (ts : List Tok) (o : Nat), o ≤ T.length → Offs T ts o → (cat ts).length ≤ 2 * (T.length - o)
  | [], o, _, _ => by simp [cat]
  | t :: ts, o, ho, ⟨k, h1, h2, h3, _, _, h6⟩ => by
    have := offs_cat ts (k + t.text.length) h2 h6
    rw [cat_cons, List.length_append, List.length_cons]
    omega
end Go.Lx
namespace Go.X
theorem setL_append : ∀ (vs A B : List Value) (i : Nat), setL (A ++ B) (A.length + i) vs = A ++ setL B i vs
  | [], A, B, i => rfl
  | v :: vs, A, B, i => by
    unfold setL
    rw [List.set_append_right _ _ (by omega), show A.length + i - A.length = i by omega, show A.length + i + 1 = A.length + (i + 1) by omega]
    exact setL_append vs A (B.set i v) (i + 1)
theorem cellsAt_ix {z : World} {p : Addr} {vs : List Value} (h : cellsAt z p 0 vs) {j : Nat} {v : Value} (hv : vs[j]? = some v) : z.cell? (p.add j) = some v := by
  have := cellsAt_get h j v hv
  rwa [Nat.zero_add] at this
theorem cellsAt_drop {z : World} {p : Addr} {vs : List Value} (h : cellsAt z p 0 vs) (j : Nat) : cellsAt z (p.add j) 0 (vs.drop j) :=
  cellsAt_of fun i v hv => by
    rw [Nat.zero_add, addr_add]
    exact cellsAt_ix h (by rwa [List.getElem?_drop] at hv)
theorem Own.ex {w u : World} {z : Nat} {t : TypeId} {a : Option Addr} {l c : Nat} {cs : List Value} {G : Nat → Prop} (h : Own w z t a l c cs G) (he : Ex w u) : Own u z t a l c cs (fun b => b < w.heap.size) :=
  (h.mono (G' := fun b => b < w.heap.size) fun b hb _ => hb).frame (he (fun _ => False)) (fun _ _ h => h)
end Go.X
namespace Go.Proofs.YtfeaahclpnbklaaDoor
open Go.X Go.Lx Go.RowKit
section
variable {w : World} {K : Value → World → Prop} {KP : List PanicEntry → World → Prop} {L : List Assn}
theorem xr_add {x y : Operand} {a b : By} (hl : a.length + b.length ≤ 1000000) (h : K (.string (S (a ++ b))) w) : XRun Tryd.prog (do eqGuard .add 9 x y (.string (S a)) (.string (S b)); binOp .add 9 (.string (S a)) (.string (S b))) w K := by
  have hg : (eqGuard .add 9 x y (.string (S a)) (.string (S b))).run Tryd.prog w = .ok () w := rfl
  have hab : S a ++ S b = S (a ++ b) := by
    apply ByteArray.ext
    simp [S, ByteArray.data_append]
  have hb : (binOp .add 9 (.string (S a)) (.string (S b))).run Tryd.prog w = .ok (.string (S (a ++ b))) w := by
    show (Op.stringOp .add (S a) (S b)).run Tryd.prog w = _
    have hm : IntKind.i64.max = 9223372036854775807 := by decide
    unfold Op.stringOp
    simp only [hm, S_size]
    rw [if_neg (by omega), hab]
    rfl
  unfold XRun
  rw [Sem.run_bind, hg]
  simp only [Result.andThen, hb]
  exact ⟨.refl w, h⟩
theorem xr_mid {l : By} {m n : Nat} (h : m ≤ n) (h' : n ≤ l.length) (hK : K (.string (S ((l.take n).drop m))) w) : XRun Tryd.prog (Instr.sliceAt 9 (.string (S l)) (some (.int .i64 m)) (some (.int .i64 n)) none) w K := by
  have : (Instr.sliceAt 9 (.string (S l)) (some (.int .i64 m)) (some (.int .i64 n)) none).run Tryd.prog w = .ok (.string (S ((l.take n).drop m))) w := by
    simp [Instr.sliceAt, Instr.slice, Instr.sliceBounds, Instr.sliceBound, asIntOf, run_underlying prog9, S_size, S_extract, h, h', Result.andThen]
  unfold XRun; rw [this]; exact ⟨.refl w, hK⟩
theorem C10 {t : By} {o : Nat} (ho : o < t.length) (hl : t.length ≤ 900000) (h : ∀ u, Ex w u → K (.int .i64 o) u) : XCP Tryd.prog 10 [.string (S t), .agg #[.int .i64 (Lx.adv Lx.p1 (t.take o)).line, .int .i64 (Lx.adv Lx.p1 (t.take o)).col]] w K KP := by
  refine E10 ?_
  unfold F10
  intro w0 p
  have hs : Sep w0 (bx w.heap.size [.int .i64 (Lx.adv Lx.p1 (t.take o)).line, .int .i64 (Lx.adv Lx.p1 (t.take o)).col] 25 :: [oldA w]) := (Sep.begin w).box _ _
  clear_value w0
  have hB := hs.bx0
  have e0 : Ex w w0 := hs.ex 1 rfl
  clear hs
  refine ⟨fun n2 n3 n4 u => ∃ k : Nat, n4 = k ∧ k ≤ o ∧ n2 = (Lx.adv Lx.p1 (t.take k)).line ∧ n3 = (Lx.adv Lx.p1 (t.take k)).col ∧ Ex w0 u, fun _ _ n4 _ => t.length - n4.toNat, ⟨0, rfl, Nat.zero_le _, rfl, rfl, Ex.refl _⟩, ?_⟩
  rintro n2 n3 n4 u ⟨k, rfl, hk, rfl, rfl, hu⟩
  rw [S_size, if_pos (by simp; omega)]
  have hck : t[k]? = some t[k] := List.getElem?_eq_getElem (by omega)
  intro kb hkb
  refine ⟨_, (hu.blk hB).ld (o := 0) rfl, ?_⟩
  refine X.and_join (c := (Lx.adv Lx.p1 (t.take k)).col == (Lx.adv Lx.p1 (t.take o)).col) (fun kb' hk' => ⟨_, (hu.blk hB).ld (o := 1) rfl, hk' _ (Ex.refl _)⟩) fun u1 e1 => ?_
  by_cases e : k = o
  · subst e
    rw [if_pos (by simp)]
    exact h u1 (e0.trans (hu.trans e1))
  · have hne := adv_ne (p := Lx.p1) (T := t) (i := k) (j := o) (by omega) (by omega)
    rw [if_neg (by
      intro hc
      simp only [Bool.and_eq_true, beq_iff_eq] at hc
      exact hne (pos_iff.2 hc))]
    refine xr_idx hck ⟨_, rfl, ?_⟩
    have hnx := adv_take_succ (p := Lx.p1) hck
    have hpk : PB (Lx.adv Lx.p1 (t.take k)) (t.drop k) := PB.adv ⟨by decide, by decide, by show (1 : Int) + _ ≤ _; omega, by show (1 : Int) + _ ≤ _; omega⟩
    obtain ⟨q1, q2, q3, q4⟩ := hpk
    have h10 := u8_eq (c := t[k]) (n := 10) (by decide)
    by_cases h : t[k] = 10
    · rw [if_pos (by rw [show (10 : Int) = ((10 : Nat) : Int) from rfl, h10, h]; rfl)]
      refine hkb _ _ _ ?_
      rw [wi (by omega) (by omega), wi (by omega) (by omega)]
      refine ⟨⟨k + 1, rfl, by omega, ?_, ?_, hu.trans e1⟩, by show t.length - ((k : Int) + 1).toNat < t.length - ((k : Int)).toNat; omega⟩ <;> rw [hnx, Lx.step, if_pos h]
    · rw [if_neg (by rw [show (10 : Int) = ((10 : Nat) : Int) from rfl, h10]; simpa using h)]
      refine hkb _ _ _ ?_
      rw [wi (by omega) (by omega), wi (by omega) (by omega)]
      refine ⟨⟨k + 1, rfl, by omega, ?_, ?_, hu.trans e1⟩, by show t.length - ((k : Int) + 1).toNat < t.length - ((k : Int)).toNat; omega⟩ <;> rw [hnx, Lx.step, if_neg h]
theorem C11 {s s' : Sl} {ts : List Lx.Tok} {G G' : Nat → Prop} (h1 : Own w 5 34 s.a s.l s.c (toksC ts) G) (h2 : Own w 5 34 s'.a s'.l s'.c (toksC ts) G') (hn : ts.length ≤ 1000000) (h : ∀ u, Ex w u → K (.bool true) u) : XCP Tryd.prog 11 [s.v, s'.v] w K KP := by
  show XCP Tryd.prog 11 [.slice s.a s.l s.c, .slice s'.a s'.l s'.c] w K KP
  refine E11 ?_
  unfold F11
  have l1 : s.l = ts.length := by have := h1.1; rw [toksC_len] at this; omega
  have l2 : s'.l = ts.length := by have := h2.1; rw [toksC_len] at this; omega
  rw [if_neg (by rw [l1, l2]; simp)]
  refine X.each ts.length (fun _ => True) ?_ ?_
  · intro I μ n u he hlt hf next
    rw [if_pos (by simp; omega)]
    obtain ⟨p, hp, hc⟩ := tok_at h1 hlt
    obtain ⟨p', hp', hc'⟩ := tok_at h2 hlt
    refine ⟨fun z => Ex w z, he.trans (Ex.drew u), ?_⟩
    refine xptr_of' hp ⟨by omega, by omega, _, _, _, _, _, fun z hz => hc z hz, ?_⟩
    refine xptr_of' hp' ⟨by omega, by omega, _, _, _, _, _, fun z hz => hc' z hz, ?_⟩
    refine xr_tok_ne (a := ts[n]) (b := ts[n]) ⟨_, rfl, ?_⟩
    rw [decide_eq_true rfl, if_neg (by decide), wi (by omega) (by omega)]
    exact next trivial _ (Ex.drew u)
  · intro I μ u he hf
    rw [if_neg (by simp; omega)]
    exact h u he
end
end Go.Proofs.YtfeaahclpnbklaaDoor
