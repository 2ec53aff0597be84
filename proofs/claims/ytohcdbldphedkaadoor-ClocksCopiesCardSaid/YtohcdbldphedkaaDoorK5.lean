/- The clocks seat: clocks joined in a watch; a step; copies; which are the same. -/
import Derived.Test.YtohcdbldphedkaaDoorK4
set_option linter.unusedVariables false
set_option linter.unusedSimpArgs false
namespace Go.Proofs.YtohcdbldphedkaaDoor
open Go.X
theorem info79 : ∃ j, Tryd.prog.info? 79 = some j ∧ j.size ≠ 0 := by
  have h : (Tryd.prog.info? 79).map (fun j => j.size) = some 8 := by kernel_rfl
  cases hi : Tryd.prog.info? 79 with
  | none => rw [hi] at h; cases h
  | some j => rw [hi] at h; injection h with h; exact ⟨j, rfl, by have h : j.size = 8 := h; rw [h]; decide⟩
theorem T80 : SlT Tryd.prog 80 79 8 64 ck0.cells := ⟨by kernel_rfl, by kernel_rfl⟩
theorem T39 : SlT Tryd.prog 39 23 8 64 ck0.cells := ⟨by kernel_rfl, by kernel_rfl⟩
theorem jn_self (a : Ck) : jn a a = a := Ck.ext_get fun i hi => by rw [jn_get a a hi]; omega
theorem vi64 {a b : Int} (h : Value.int .i64 a = Value.int .i64 b) : a = b := by injection h
theorem cks_one (l : List Ck) : ∀ u ∈ cks l, u.oneCell' = true := by
  intro u hu
  unfold cks at hu
  rw [List.mem_flatten] at hu
  obtain ⟨row, hr, hu⟩ := hu
  obtain ⟨c, -, rfl⟩ := List.mem_map.1 hr
  simp only [Ck.cells, List.mem_cons, List.not_mem_nil, _root_.or_false] at hu
  rcases hu with h | h | h | h | h | h | h | h <;> (subst h; rfl)
/-- one clock of a list joined into -/
def joinAt (xs ys : List Ck) (i j : Int) : List Ck := xs.set i.toNat (jn (xs.getD i.toNat ck0) (ys.getD j.toNat ck0))
def inB (xs : List Ck) (n : Int) : Bool := decide (n ≥ 0) && decide (n < xs.length)
theorem inB_iff {xs : List Ck} {n : Int} : inB xs n = true ↔ 0 ≤ n ∧ n < xs.length := by unfold inB; simp
section
variable {w : World} {K : Value → World → Prop} {KP : List PanicEntry → World → Prop} {b : Nat} {s p : Sl} {ts ps : List Ck} {L : List Assn}
theorem row_blk {z : Nat} {t : TypeId} {cs : List Value} (k : Nat) (h : Sep w L) (hk : L[k]? = some (row z t s cs)) {q : Addr} (hq : s.a = some q) (i : Nat) : ∃ B, Blk w (q.add i).block B t := by
  obtain ⟨G, h⟩ := h.at_ k hk
  have h : Own w z t s.a s.l s.c cs G := h
  obtain ⟨-, -, h | ⟨b, o, B, ha, -, hb, -, -⟩⟩ := h
  · rw [h.1] at hq; cases hq
  · rw [hq] at ha; injection ha with ha; subst ha
    rw [add_block]; exact ⟨B, hb⟩
/-- which of the two lists -/
def pk {α : Type} (li : Bool) (x y : α) : α := if li = true then x else y
/-- the lists behind a join: li tells which list it goes into, lf out of which -/
def mvT (li lf : Bool) (i j : Int) (ts ps : List Ck) : List Ck := if (inB (pk li ts ps) i && inB (pk lf ts ps) j) = true then (if li = true then joinAt ts (pk lf ts ps) i j else ts) else ts
def mvP (li lf : Bool) (i j : Int) (ts ps : List Ck) : List Ck := if (inB (pk li ts ps) i && inB (pk lf ts ps) j) = true then (if li = true then ps else joinAt ps (pk lf ts ps) i j) else ps
def mvE (li lf : Bool) (i j : Int) (ts ps : List Ck) : Int := if (inB (pk li ts ps) i && inB (pk lf ts ps) j) = true then 0 else 4
theorem C57 {fv : Value} {li lf : Bool} {i j : Int} (hs : Sep w (wtL b s p ts ps L)) (has : s.a.isSome = true)
    (hf : ∀ u, Ex w u → ∀ K1 : Value → World → Prop, (∀ u1, Ex u u1 → K1 (.tuple #[.pointer (el (pk li s p) i), .pointer (el (pk lf s p) j)]) u1) → XCV Tryd.prog fv [] u K1 KP)
    (hK : ∀ u, Sep u (wtL b s p (mvT li lf i j ts ps) (mvP li lf i j ts ps) L) → K (.int .i64 (mvE li lf i j ts ps)) u) : XCP Tryd.prog 57 [.pointer (some ⟨b, 0, none⟩), fv] w K KP := by
  refine E57 ?_
  unfold F57
  refine C52 (WtP.of hs has) ⟨_, rfl, ?_⟩
  rw [if_neg (by decide)]
  refine hf w (Ex.refl w) _ fun u e => ⟨_, _, rfl, ?_⟩
  replace hs := hs.ext e
  have hw := WtP.of hs has
  have hI : SlR ckR u TG (pk li s p) (pk li ts ps) := by cases li; exact hw.hp; exact hw.hs
  have hF : SlR ckR u TG (pk lf s p) (pk lf ts ps) := by cases lf; exact hw.hp; exact hw.hs
  by_cases hi : 0 ≤ i ∧ i < (pk li ts ps).length
  rotate_left
  · rw [el_none hI hi, if_pos (by simp)]
    have hb : (inB (pk li ts ps) i && inB (pk lf ts ps) j) = false := by
      rw [show inB (pk li ts ps) i = false from by cases h : inB (pk li ts ps) i with | false => rfl | true => exact absurd (inB_iff.1 h) hi]; rfl
    unfold mvT mvP mvE at hK
    rw [hb] at hK
    exact hK u hs
  by_cases hj : 0 ≤ j ∧ j < (pk lf ts ps).length
  rotate_left
  · rw [el_none hF hj, if_pos (by simp)]
    have hb : (inB (pk li ts ps) i && inB (pk lf ts ps) j) = false := by
      rw [show inB (pk lf ts ps) j = false from by cases h : inB (pk lf ts ps) j with | false => rfl | true => exact absurd (inB_iff.1 h) hj]; simp
    unfold mvT mvP mvE at hK
    rw [hb] at hK
    exact hK u hs
  have hb : (inB (pk li ts ps) i && inB (pk lf ts ps) j) = true := by rw [inB_iff.2 hi, inB_iff.2 hj]; rfl
  unfold mvT mvP mvE at hK
  rw [hb] at hK
  simp only [if_true] at hK
  obtain ⟨q1, a1, e1, c1⟩ := el_some hI hi.1 hi.2
  obtain ⟨q2, a2, e2, c2⟩ := el_some hF hj.1 hj.2
  rw [e1, e2, if_neg (by simp)]
  have hil : i.toNat < (pk li ts ps).length := by omega
  have hjl : j.toNat < (pk lf ts ps).length := by omega
  have hgi : (pk li ts ps).getD i.toNat ck0 = (pk li ts ps)[i.toNat] := by rw [List.getD_eq_getElem?_getD, List.getElem?_eq_getElem hil]; rfl
  have hgj : (pk lf ts ps).getD j.toNat ck0 = (pk lf ts ps)[j.toNat] := by rw [List.getD_eq_getElem?_getD, List.getElem?_eq_getElem hjl]; rfl
  obtain ⟨B1, b1⟩ : ∃ B, Blk u (q1.add (i.toNat * 8)).block B 79 := by
    cases li
    · exact row_blk 2 hs rfl a1 _
    · exact row_blk 1 hs rfl a1 _
  obtain ⟨B2, b2⟩ : ∃ B, Blk u (q2.add (j.toNat * 8)).block B 79 := by
    cases lf
    · exact row_blk 2 hs rfl a2 _
    · exact row_blk 1 hs rfl a2 _
  obtain ⟨ji, hji, hjs⟩ := info79
  refine xr_ptr_ne und90 hji hjs b1 b2 ⟨_, rfl, ?_⟩
  by_cases hq : q1.add (i.toNat * 8) = q2.add (j.toNat * 8)
  · rw [if_neg (by simp [hq])]
    have hsame : (pk li ts ps)[i.toNat] = (pk lf ts ps)[j.toNat] := by
      rw [hq] at c1
      have : ∀ (A B : Ck) (q : Addr), cellsAt u q 0 A.cells → cellsAt u q 0 B.cells → A = B := by
        intro A B q hA hB
        obtain ⟨x0, x1, x2, x3, x4, x5, x6, x7, -⟩ := hA
        obtain ⟨y0, y1, y2, y3, y4, y5, y6, y7, -⟩ := hB
        rw [Ck.ext_iff']
        refine ⟨?_, ?_, ?_, ?_, ?_, ?_, ?_, ?_⟩
        · exact vi64 (Option.some.inj (x0.symm.trans y0))
        · exact vi64 (Option.some.inj (x1.symm.trans y1))
        · exact vi64 (Option.some.inj (x2.symm.trans y2))
        · exact vi64 (Option.some.inj (x3.symm.trans y3))
        · exact vi64 (Option.some.inj (x4.symm.trans y4))
        · exact vi64 (Option.some.inj (x5.symm.trans y5))
        · exact vi64 (Option.some.inj (x6.symm.trans y6))
        · exact vi64 (Option.some.inj (x7.symm.trans y7))
      exact this _ _ _ c1 c2
    have hno : ∀ xs : List Ck, xs = pk li ts ps → joinAt xs (pk lf ts ps) i j = xs := by
      intro xs hxs
      unfold joinAt
      rw [hxs, hgi, hgj, ← hsame, jn_self, List.set_getElem_self]
    have := hK u
    cases li with
    | true =>
      rw [if_pos rfl, if_pos rfl, hno ts rfl] at this
      exact this hs
    | false =>
      rw [if_neg (by decide), if_neg (by decide), hno ps rfl] at this
      exact this hs
  · rw [if_pos (by simp [hq])]
    refine ⟨fun x => Ex u x, Ex.drew u, ?_⟩
    intro w3
    have hs3 : Sep w3 _ := hs.drew
    rw [xptr_some]
    refine ⟨_, _, _, _, _, _, _, _, fun x hx => hx.cells c1, ?_⟩
    rw [xptr_some]
    refine ⟨_, _, _, _, _, _, _, _, fun x hx => hx.cells c2, ?_⟩
    clear_value w3
    refine C48 (a := (pk li ts ps)[i.toNat]) (b := (pk lf ts ps)[j.toNat]) fun w6 e6 => ⟨_, _, _, _, _, _, _, _, rfl, fun _ => True, trivial, ?_⟩
    have hs6 := hs3.ext e6
    rw [xptr_some]
    show storesAt (q1.add (i.toNat * 8)) 0 (jn (pk li ts ps)[i.toNat] (pk lf ts ps)[j.toNat]).cells w6 _
    rw [← hgi, ← hgj]
    have h8 : ∀ (x y : Ck), (jn x y).cells.length = 8 := fun _ _ => rfl
    cases li with
    | true =>
      have hil : i.toNat < ts.length := hil
      rw [if_pos rfl, if_pos rfl] at hK
      refine hs6.rowFillAt 1 rfl (by rw [h8, cks_length]; omega) a1 fun w7 _ hs7 => hK w7 ?_
      rw [cks_setL _ _ _ hil] at hs7
      exact hs7
    | false =>
      have hil : i.toNat < ps.length := hil
      rw [if_neg (by decide), if_neg (by decide)] at hK
      refine hs6.rowFillAt 2 rfl (by rw [h8, cks_length]; omega) a1 fun w7 _ hs7 => hK w7 ?_
      rw [cks_setL _ _ _ hil] at hs7
      exact hs7
end
end Go.Proofs.YtohcdbldphedkaaDoor
