/- The clocks seat: a watch in memory; what is told of it; clocks joined in it. -/
import Derived.Test.YtohcdbldphedkaaDoorK3
set_option linter.unusedVariables false
set_option linter.unusedSimpArgs false
namespace Go.Proofs.YtohcdbldphedkaaDoor
open Go.X
def ckR : Rep Ck where
  z := 8
  p := fun _ _ cs x => cs = x.cells
  len := fun h => by subst h; rfl
  frame := fun h _ _ => h
  mono := fun h _ => h
def cks (l : List Ck) : List Value := (l.map Ck.cells).flatten
@[simp] theorem cks_length : ∀ l : List Ck, (cks l).length = l.length * 8
  | [] => rfl
  | c :: r => by
    show (c.cells ++ cks r).length = _
    rw [List.length_append, cks_length r, List.length_cons]; show 8 + _ = _; omega
theorem cks_setL : ∀ (l : List Ck) (i : Nat) (c : Ck), i < l.length → setL (cks l) (i * 8) c.cells = cks (l.set i c) := by
  intro l i c hi
  apply List.ext_getElem?
  intro j
  have hz : ∀ (l : List Ck), ∀ row ∈ l.map Ck.cells, row.length = 8 := fun l row hr => by
    obtain ⟨x, _, rfl⟩ := List.mem_map.1 hr; rfl
  rw [setL_get _ _ _ _ (by rw [cks_length]; show i * 8 + 8 ≤ _; omega)]
  show (if i * 8 ≤ j ∧ j < i * 8 + 8 then _ else _) = _
  by_cases hj : j < l.length * 8
  rotate_left
  · rw [if_neg (by omega), List.getElem?_eq_none (by rw [cks_length]; omega), List.getElem?_eq_none (by rw [cks_length, List.length_set]; omega)]
  have hq : j / 8 < l.length := by omega
  have hjj : j = j / 8 * 8 + j % 8 := by omega
  have get : ∀ (l' : List Ck) (x : Ck), l'[j / 8]? = some x → (cks l')[j]? = x.cells[j % 8]? := by
    intro l' x hx
    have hlt : j % 8 < x.cells.length := by show j % 8 < 8; omega
    have := flatten_get (hz l') (i := j / 8) (j := j % 8) (row := x.cells) (v := x.cells[j % 8]) (by simp [hx]) (List.getElem?_eq_getElem hlt)
    rw [← hjj] at this
    rw [List.getElem?_eq_getElem hlt]; exact this
  by_cases h : i * 8 ≤ j ∧ j < i * 8 + 8
  · rw [if_pos h, get (l.set i c) c (by rw [show j / 8 = i by omega, List.getElem?_set_self hi]), show j - i * 8 = j % 8 by omega]
  · rw [if_neg h, get l _ (List.getElem?_eq_getElem hq), get (l.set i c) l[j / 8] (by rw [List.getElem?_set_ne (by omega), List.getElem?_eq_getElem hq])]
theorem SlR.of_cks {w : World} {s : Sl} {ts : List Ck} {G : Nat → Prop} {t : TypeId} (h : Own w 8 t s.a s.l s.c (cks ts) G) : SlR ckR w G s ts := by
  refine ⟨?_, h.2.1, ts.map Ck.cells, by simp, h.rd, fun i row x hr hx => ?_⟩
  · have := h.1; rw [cks_length] at this; omega
  · simp only [List.getElem?_map, hx, Option.map_some, Option.some.injEq] at hr
    exact hr.symm
/-- the parts of a watch -/
abbrev wtL (b : Nat) (s p : Sl) (ts ps : List Ck) (L : List Assn) : List Assn := bx b [s.v, p.v] 82 :: row 8 79 s (cks ts) :: row 8 79 p (cks ps) :: L
/-- a watch, read -/
structure WtP (w : World) (b : Nat) (s p : Sl) (ts ps : List Ck) : Prop where
  hb : Blk w b [s.v, p.v] 82
  hs : SlR ckR w TG s ts
  hp : SlR ckR w TG p ps
  has : s.a.isSome = true
section
variable {w : World} {K : Value → World → Prop} {KP : List PanicEntry → World → Prop} {b : Nat} {s p : Sl} {ts ps : List Ck} {L : List Assn}
theorem WtP.of (h : Sep w (wtL b s p ts ps L)) (hs : s.a.isSome = true) : WtP w b s p ts ps := by
  obtain ⟨G, h1⟩ := h.at_ 1 rfl
  obtain ⟨G2, h2⟩ := h.at_ 2 rfl
  have h1 : Own w 8 79 s.a s.l s.c (cks ts) G := h1
  have h2 : Own w 8 79 p.a p.l p.c (cks ps) G2 := h2
  exact ⟨h.bx0, (SlR.of_cks h1).mono fun _ _ _ => trivial, (SlR.of_cks h2).mono fun _ _ _ => trivial, hs⟩
theorem WtP.ex {u : World} (h : WtP w b s p ts ps) (he : Ex w u) : WtP u b s p ts ps := ⟨he.blk h.hb, h.hs.ex he, h.hp.ex he, h.has⟩
theorem C52 (h : WtP w b s p ts ps) (hK : K (.bool false) w) : XCP Tryd.prog 52 [.pointer (some ⟨b, 0, none⟩)] w K KP := by
  refine E52 ?_
  unfold F52
  intro kb hkb
  rw [if_neg (by simp), xptr_some]
  have e : s.a.isNone = false := by have := h.has; cases hsa : s.a with | none => rw [hsa] at this; cases this | some q => rfl
  refine ⟨s.a, s.l, s.c, h.hb.ld rfl, ?_⟩
  rw [e]
  exact hkb _ _ hK
theorem C52n (hK : K (.bool true) w) : XCP Tryd.prog 52 [.pointer none] w K KP := by
  refine E52 ?_
  unfold F52
  intro kb hkb
  rw [if_pos (by simp)]
  exact hkb _ _ hK
/-- where an element lies -/
def el (s : Sl) (n : Int) : Option Addr := if 0 ≤ n ∧ n < s.l then s.a.map (fun p => p.add (n.toNat * 8)) else none
theorem C59 {n : Int} {G : Nat → Prop} (h : SlR ckR w G s ts) (hK : K (.pointer (el s n)) w) : XCP Tryd.prog 59 [s.v, .int .i64 n] w K KP := by
  show XCP Tryd.prog 59 [.slice s.a s.l s.c, .int .i64 n] w K KP
  refine E59 ?_
  unfold F59
  have hl := h.len
  by_cases hn : 0 ≤ n ∧ n < s.l
  · obtain ⟨q, row, hq, -, -⟩ := h.nth (i := n.toNat) (List.getElem?_eq_getElem (by omega)) (by decide)
    unfold el at hK
    rw [if_pos hn, hq] at hK
    rw [if_neg (by simp; omega), hq, xptr_some]
    exact ⟨hn.1, hn.2, hK⟩
  · unfold el at hK
    rw [if_neg hn] at hK
    rw [if_pos (by simp; omega)]
    exact hK
theorem el_some {n : Int} {G : Nat → Prop} (h : SlR ckR w G s ts) (h0 : 0 ≤ n) (h1 : n < ts.length) : ∃ q, s.a = some q ∧ el s n = some (q.add (n.toNat * 8)) ∧ cellsAt w (q.add (n.toNat * 8)) 0 (ts[n.toNat]'(by omega)).cells := by
  obtain ⟨q, row, hq, hr, hc⟩ := h.nth (i := n.toNat) (List.getElem?_eq_getElem (show n.toNat < ts.length by omega)) (by decide)
  have hr : row = _ := hr
  subst hr
  refine ⟨q, hq, ?_, hc⟩
  unfold el
  rw [if_pos ⟨h0, by rw [h.len]; omega⟩, hq]; rfl
theorem el_none {n : Int} {G : Nat → Prop} (h : SlR ckR w G s ts) (hn : ¬ (0 ≤ n ∧ n < ts.length)) : el s n = none := by
  unfold el
  rw [if_neg (by rw [h.len]; exact hn)]
/-- what is told by a number -/
def thF (ts : List Ck) (n : Int) : Ck × Int := if 0 ≤ n ∧ n < ts.length then (ts.getD n.toNat ck0, 0) else (ck0, 4)
theorem thF_yes {n : Int} (h0 : 0 ≤ n) (h1 : n < ts.length) : thF ts n = (ts[n.toNat]'(by omega), 0) := by
  unfold thF
  rw [if_pos ⟨h0, h1⟩, List.getD_eq_getElem?_getD, List.getElem?_eq_getElem (by omega)]; rfl
theorem C54 {n : Int} {fv : Value} {sl : Sl} {xs : List Ck} (h : WtP w b s p ts ps) (hx : SlR ckR w TG sl xs)
    (hf : ∀ u, Ex w u → ∀ K1 : Value → World → Prop, K1 sl.v u → XCV Tryd.prog fv [] u K1 KP)
    (hK : ∀ u, Ex w u → K (.tuple #[(thF xs n).1.v, .int .i64 (thF xs n).2]) u) : XCP Tryd.prog 54 [.pointer (some ⟨b, 0, none⟩), fv, .int .i64 n] w K KP := by
  refine E54 ?_
  unfold F54
  intro w0 p
  have hs : Sep w0 (bx w.heap.size ck0.cells 23 :: [oldA w]) := (Sep.begin w).box _ _
  clear_value w0
  refine C52 (h.ex (hs.ex 1 rfl)) ⟨_, rfl, ?_⟩
  rw [if_neg (by decide)]
  refine hf _ (hs.ex 1 rfl) _ ⟨_, _, _, rfl, ?_⟩
  refine C59 (s := sl) (ts := xs) (hx.ex (hs.ex 1 rfl)) ⟨_, rfl, ?_⟩
  by_cases hn : 0 ≤ n ∧ n < xs.length
  · obtain ⟨q, hq, he, hc⟩ := el_some (hx.ex (hs.ex 1 rfl)) hn.1 hn.2
    rw [he, if_neg (by simp), xptr_some]
    refine ⟨_, _, _, _, _, _, _, _, hc, ?_⟩
    rw [thF_yes hn.1 hn.2] at hK
    exact hs.fill (vs := (xs[n.toNat]'(by omega)).cells) rfl fun w6 _ hs => ⟨_, _, _, _, _, _, _, _, hs.bx0.lds, hK _ (hs.ex 1 rfl)⟩
  · rw [el_none (hx.ex (hs.ex 1 rfl)) hn, if_pos (by simp)]
    unfold thF at hK
    rw [if_neg hn] at hK
    exact hs.fill (vs := ck0.cells) rfl fun w6 _ hs => ⟨_, _, _, _, _, _, _, _, hs.bx0.lds, hK _ (hs.ex 1 rfl)⟩
theorem C54n {n : Int} {fv : Value} (hK : ∀ u, Ex w u → K (.tuple #[ck0.v, .int .i64 1]) u) : XCP Tryd.prog 54 [.pointer none, fv, .int .i64 n] w K KP := by
  refine E54 ?_
  unfold F54
  intro w0 p
  have hs : Sep w0 (bx w.heap.size ck0.cells 23 :: [oldA w]) := (Sep.begin w).box _ _
  clear_value w0
  refine C52n ⟨_, rfl, ?_⟩
  rw [if_pos (by decide)]
  exact hs.fill (vs := ck0.cells) rfl fun w6 _ hs => ⟨_, _, _, _, _, _, _, _, hs.bx0.lds, hK _ (hs.ex 1 rfl)⟩
theorem C34 {n : Int} (h : WtP w b s p ts ps) (hK : ∀ u, Ex w u → K (.tuple #[(thF ts n).1.v, .int .i64 (thF ts n).2]) u) : XCP Tryd.prog 34 [.pointer (some ⟨b, 0, none⟩), .int .i64 n] w K KP := by
  refine E34 ?_
  unfold F34
  intro w0 p0 w1 p1
  have hs : Sep w1 (bx w0.heap.size ck0.cells 23 :: bx w.heap.size [.pointer (some ⟨b, 0, none⟩)] 38 :: [oldA w]) := ((Sep.begin w).box _ _).box _ _
  clear_value w1
  have h1 := h.ex (hs.ex 2 rfl)
  refine ⟨_, hs.bx1.ld' rfl, ?_⟩
  refine C54 h1 h1.hs (fun u hu K1 hk => ?_) fun u hu => ⟨_, _, _, _, _, _, _, _, _, rfl, ?_⟩
  · show XCP Tryd.prog 55 [.pointer (some ⟨w.heap.size, 0, none⟩)] u K1 KP
    refine E55 ?_
    unfold F55
    simp only [xptr_some]
    exact ⟨_, (hs.ext hu).bx1.ld' rfl, s.a, s.l, s.c, (h1.ex hu).hb.ld rfl, hk⟩
  · exact (hs.ext hu).fill (vs := (thF ts n).1.cells) rfl fun w3 _ hs => ⟨_, _, _, _, _, _, _, _, hs.bx0.lds, hK _ (hs.ex 2 rfl)⟩
theorem C35 {n : Int} (h : WtP w b s p ts ps) (hK : ∀ u, Ex w u → K (.tuple #[(thF ps n).1.v, .int .i64 (thF ps n).2]) u) : XCP Tryd.prog 35 [.pointer (some ⟨b, 0, none⟩), .int .i64 n] w K KP := by
  refine E35 ?_
  unfold F35
  intro w0 p0 w1 p1
  have hs : Sep w1 (bx w0.heap.size ck0.cells 23 :: bx w.heap.size [.pointer (some ⟨b, 0, none⟩)] 38 :: [oldA w]) := ((Sep.begin w).box _ _).box _ _
  clear_value w1
  have h1 := h.ex (hs.ex 2 rfl)
  refine ⟨_, hs.bx1.ld' rfl, ?_⟩
  refine C54 h1 h1.hp (fun u hu K1 hk => ?_) fun u hu => ⟨_, _, _, _, _, _, _, _, _, rfl, ?_⟩
  · show XCP Tryd.prog 56 [.pointer (some ⟨w.heap.size, 0, none⟩)] u K1 KP
    refine E56 ?_
    unfold F56
    simp only [xptr_some]
    exact ⟨_, (hs.ext hu).bx1.ld' rfl, p.a, p.l, p.c, (h1.ex hu).hb.ld rfl, hk⟩
  · exact (hs.ext hu).fill (vs := (thF ps n).1.cells) rfl fun w3 _ hs => ⟨_, _, _, _, _, _, _, _, hs.bx0.lds, hK _ (hs.ex 2 rfl)⟩
theorem C34n {n : Int} (hK : ∀ u, Ex w u → K (.tuple #[ck0.v, .int .i64 1]) u) : XCP Tryd.prog 34 [.pointer none, .int .i64 n] w K KP := by
  refine E34 ?_
  unfold F34
  intro w0 p0 w1 p1
  have hs : Sep w1 (bx w0.heap.size ck0.cells 23 :: bx w.heap.size [.pointer none] 38 :: [oldA w]) := ((Sep.begin w).box _ _).box _ _
  clear_value w1
  refine ⟨_, hs.bx1.ld' rfl, C54n fun u hu => ⟨_, _, _, _, _, _, _, _, _, rfl, ?_⟩⟩
  exact (hs.ext hu).fill (vs := ck0.cells) rfl fun w3 _ hs => ⟨_, _, _, _, _, _, _, _, hs.bx0.lds, hK _ (hs.ex 2 rfl)⟩
theorem C35n {n : Int} (hK : ∀ u, Ex w u → K (.tuple #[ck0.v, .int .i64 1]) u) : XCP Tryd.prog 35 [.pointer none, .int .i64 n] w K KP := by
  refine E35 ?_
  unfold F35
  intro w0 p0 w1 p1
  have hs : Sep w1 (bx w0.heap.size ck0.cells 23 :: bx w.heap.size [.pointer none] 38 :: [oldA w]) := ((Sep.begin w).box _ _).box _ _
  clear_value w1
  refine ⟨_, hs.bx1.ld' rfl, C54n fun u hu => ⟨_, _, _, _, _, _, _, _, _, rfl, ?_⟩⟩
  exact (hs.ext hu).fill (vs := ck0.cells) rfl fun w3 _ hs => ⟨_, _, _, _, _, _, _, _, hs.bx0.lds, hK _ (hs.ex 2 rfl)⟩
end
end Go.Proofs.YtohcdbldphedkaaDoor
