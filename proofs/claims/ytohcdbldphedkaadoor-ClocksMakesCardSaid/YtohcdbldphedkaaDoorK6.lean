/- The clocks seat: give, take, spawn, meet; a step; copies; which watches are the same; a new one. -/
import Derived.Test.YtohcdbldphedkaaDoorK5
set_option linter.unusedVariables false
set_option linter.unusedSimpArgs false
namespace Go.Proofs.YtohcdbldphedkaaDoor
open Go.X
section
variable {w : World} {K : Value → World → Prop} {KP : List PanicEntry → World → Prop} {b : Nat} {s p : Sl} {ts ps : List Ck} {L : List Assn}
theorem C58 {x y z : Nat} {m n : Int} (h : WtP w b s p ts ps) (hx : Blk w x [.pointer (some ⟨b, 0, none⟩)] 38) (hy : Blk w y [.int .i64 n] 3) (hz : Blk w z [.int .i64 m] 3)
    (hK : ∀ u, Ex w u → K (.tuple #[.pointer (el p n), .pointer (el s m)]) u) : XCP Tryd.prog 58 [.pointer (some ⟨x, 0, none⟩), .pointer (some ⟨y, 0, none⟩), .pointer (some ⟨z, 0, none⟩)] w K KP := by
  refine E58 ?_
  unfold F58
  refine ⟨fun u => Ex w u, Ex.drew w, ?_⟩
  intro w0
  have e0 : Ex w w0 := Ex.drew w
  clear_value w0
  simp only [xptr_some]
  refine ⟨_, fun u hu => (hu.blk hx).ld' rfl, ?_⟩
  rw [xptr_some]
  refine ⟨p.a, p.l, p.c, fun u hu => (h.ex hu).hb.ld rfl, _, fun u hu => (hu.blk hy).ld' rfl, _, fun u hu => (hu.blk hx).ld' rfl, ?_⟩
  rw [xptr_some]
  refine ⟨s.a, s.l, s.c, fun u hu => (h.ex hu).hb.ld rfl, _, fun u hu => (hu.blk hz).ld' rfl, ?_⟩
  exact C59 (s := p) (h.ex e0).hp ⟨_, rfl, e0, C59 (s := s) (h.ex e0).hs ⟨_, rfl, fun _ => True, trivial, hK _ e0⟩⟩
theorem C60 {x y z : Nat} {m n : Int} (h : WtP w b s p ts ps) (hx : Blk w x [.pointer (some ⟨b, 0, none⟩)] 38) (hy : Blk w y [.int .i64 n] 3) (hz : Blk w z [.int .i64 m] 3)
    (hK : ∀ u, Ex w u → K (.tuple #[.pointer (el s n), .pointer (el p m)]) u) : XCP Tryd.prog 60 [.pointer (some ⟨x, 0, none⟩), .pointer (some ⟨y, 0, none⟩), .pointer (some ⟨z, 0, none⟩)] w K KP := by
  refine E60 ?_
  unfold F60
  refine ⟨fun u => Ex w u, Ex.drew w, ?_⟩
  intro w0
  have e0 : Ex w w0 := Ex.drew w
  clear_value w0
  simp only [xptr_some]
  refine ⟨_, fun u hu => (hu.blk hx).ld' rfl, ?_⟩
  rw [xptr_some]
  refine ⟨s.a, s.l, s.c, fun u hu => (h.ex hu).hb.ld rfl, _, fun u hu => (hu.blk hy).ld' rfl, _, fun u hu => (hu.blk hx).ld' rfl, ?_⟩
  rw [xptr_some]
  refine ⟨p.a, p.l, p.c, fun u hu => (h.ex hu).hb.ld rfl, _, fun u hu => (hu.blk hz).ld' rfl, ?_⟩
  exact C59 (s := s) (h.ex e0).hs ⟨_, rfl, e0, C59 (s := p) (h.ex e0).hp ⟨_, rfl, fun _ => True, trivial, hK _ e0⟩⟩
theorem C61 {x y z : Nat} {m n : Int} (h : WtP w b s p ts ps) (hx : Blk w x [.pointer (some ⟨b, 0, none⟩)] 38) (hy : Blk w y [.int .i64 n] 3) (hz : Blk w z [.int .i64 m] 3)
    (hK : ∀ u, Ex w u → K (.tuple #[.pointer (el s n), .pointer (el s m)]) u) : XCP Tryd.prog 61 [.pointer (some ⟨x, 0, none⟩), .pointer (some ⟨y, 0, none⟩), .pointer (some ⟨z, 0, none⟩)] w K KP := by
  refine E61 ?_
  unfold F61
  refine ⟨fun u => Ex w u, Ex.drew w, ?_⟩
  intro w0
  have e0 : Ex w w0 := Ex.drew w
  clear_value w0
  simp only [xptr_some]
  refine ⟨_, fun u hu => (hu.blk hx).ld' rfl, ?_⟩
  rw [xptr_some]
  refine ⟨s.a, s.l, s.c, fun u hu => (h.ex hu).hb.ld rfl, _, fun u hu => (hu.blk hy).ld' rfl, _, fun u hu => (hu.blk hx).ld' rfl, ?_⟩
  rw [xptr_some]
  refine ⟨s.a, s.l, s.c, fun u hu => (h.ex hu).hb.ld rfl, _, fun u hu => (hu.blk hz).ld' rfl, ?_⟩
  exact C59 (s := s) (h.ex e0).hs ⟨_, rfl, e0, C59 (s := s) (h.ex e0).hs ⟨_, rfl, fun _ => True, trivial, hK _ e0⟩⟩
theorem drop3 {A B C : Assn} (h : Sep w (A :: B :: C :: L)) : Sep w L := ((h.tail).tail).tail
theorem D36 {n m : Int} (hs : Sep w (wtL b s p ts ps L)) (has : s.a.isSome = true) (hK : ∀ u, Sep u (wtL b s p (mvT false true m n ts ps) (mvP false true m n ts ps) L) → K (.int .i64 (mvE false true m n ts ps)) u) :
    XCP Tryd.prog 36 [.pointer (some ⟨b, 0, none⟩), .int .i64 n, .int .i64 m] w K KP := by
  refine E36 ?_
  unfold F36
  intro w0 p0 w1 p1 w2 p2
  have h2 : Sep w2 (bx w1.heap.size [.int .i64 m] 3 :: bx w0.heap.size [.int .i64 n] 3 :: bx w.heap.size [.pointer (some ⟨b, 0, none⟩)] 38 :: wtL b s p ts ps L) := ((hs.box _ _).box _ _).box _ _
  clear_value w2
  refine ⟨_, h2.bx2.ld' rfl, ?_⟩
  have hx := h2.bx2
  have hy := h2.bx1
  have hz := h2.bx0
  have hs := drop3 h2
  refine C57 (li := false) (lf := true) (i := m) (j := n) hs has (fun u hu K1 hk => ?_) fun u hu => ⟨_, rfl, hK u hu⟩
  exact C58 ((WtP.of hs has).ex hu) (hu.blk hx) (hu.blk hz) (hu.blk hy) hk
theorem D37 {n m : Int} (hs : Sep w (wtL b s p ts ps L)) (has : s.a.isSome = true) (hK : ∀ u, Sep u (wtL b s p (mvT true false n m ts ps) (mvP true false n m ts ps) L) → K (.int .i64 (mvE true false n m ts ps)) u) :
    XCP Tryd.prog 37 [.pointer (some ⟨b, 0, none⟩), .int .i64 n, .int .i64 m] w K KP := by
  refine E37 ?_
  unfold F37
  intro w0 p0 w1 p1 w2 p2
  have h2 : Sep w2 (bx w1.heap.size [.int .i64 m] 3 :: bx w0.heap.size [.int .i64 n] 3 :: bx w.heap.size [.pointer (some ⟨b, 0, none⟩)] 38 :: wtL b s p ts ps L) := ((hs.box _ _).box _ _).box _ _
  clear_value w2
  refine ⟨_, h2.bx2.ld' rfl, ?_⟩
  have hx := h2.bx2
  have hy := h2.bx1
  have hz := h2.bx0
  have hs := drop3 h2
  refine C57 (li := true) (lf := false) (i := n) (j := m) hs has (fun u hu K1 hk => ?_) fun u hu => ⟨_, rfl, hK u hu⟩
  exact C60 ((WtP.of hs has).ex hu) (hu.blk hx) (hu.blk hy) (hu.blk hz) hk
theorem D38 {n m : Int} (hs : Sep w (wtL b s p ts ps L)) (has : s.a.isSome = true) (hK : ∀ u, Sep u (wtL b s p (mvT true true m n ts ps) (mvP true true m n ts ps) L) → K (.int .i64 (mvE true true m n ts ps)) u) :
    XCP Tryd.prog 38 [.pointer (some ⟨b, 0, none⟩), .int .i64 n, .int .i64 m] w K KP := by
  refine E38 ?_
  unfold F38
  intro w0 p0 w1 p1 w2 p2
  have h2 : Sep w2 (bx w1.heap.size [.int .i64 m] 3 :: bx w0.heap.size [.int .i64 n] 3 :: bx w.heap.size [.pointer (some ⟨b, 0, none⟩)] 38 :: wtL b s p ts ps L) := ((hs.box _ _).box _ _).box _ _
  clear_value w2
  refine ⟨_, h2.bx2.ld' rfl, ?_⟩
  have hx := h2.bx2
  have hy := h2.bx1
  have hz := h2.bx0
  have hs := drop3 h2
  refine C57 (li := true) (lf := true) (i := m) (j := n) hs has (fun u hu K1 hk => ?_) fun u hu => ⟨_, rfl, hK u hu⟩
  exact C61 ((WtP.of hs has).ex hu) (hu.blk hx) (hu.blk hz) (hu.blk hy) hk
theorem D39 {n m : Int} (hs : Sep w (wtL b s p ts ps L)) (has : s.a.isSome = true) (hK : ∀ u, Sep u (wtL b s p (mvT true true n m ts ps) (mvP true true n m ts ps) L) → K (.int .i64 (mvE true true n m ts ps)) u) :
    XCP Tryd.prog 39 [.pointer (some ⟨b, 0, none⟩), .int .i64 n, .int .i64 m] w K KP := by
  refine E39 ?_
  unfold F39
  exact D38 hs has fun u hu => ⟨_, rfl, hK u hu⟩
/-- of no watch -/
theorem C57n {fv : Value} (hK : K (.int .i64 1) w) : XCP Tryd.prog 57 [.pointer none, fv] w K KP := by
  refine E57 ?_
  unfold F57
  refine C52n ⟨_, rfl, ?_⟩
  rw [if_pos (by decide)]
  exact hK
theorem C36n {n m : Int} (hK : ∀ u, Ex w u → K (.int .i64 1) u) : XCP Tryd.prog 36 [.pointer none, .int .i64 n, .int .i64 m] w K KP := by
  refine E36 ?_
  unfold F36
  intro w0 p0 w1 p1 w2 p2
  have h2 : Sep w2 (bx w1.heap.size [.int .i64 m] 3 :: bx w0.heap.size [.int .i64 n] 3 :: bx w.heap.size [.pointer none] 38 :: [oldA w]) := (((Sep.begin w).box _ _).box _ _).box _ _
  clear_value w2
  exact ⟨_, h2.bx2.ld' rfl, C57n ⟨_, rfl, hK _ (h2.ex 3 rfl)⟩⟩
theorem C37n {n m : Int} (hK : ∀ u, Ex w u → K (.int .i64 1) u) : XCP Tryd.prog 37 [.pointer none, .int .i64 n, .int .i64 m] w K KP := by
  refine E37 ?_
  unfold F37
  intro w0 p0 w1 p1 w2 p2
  have h2 : Sep w2 (bx w1.heap.size [.int .i64 m] 3 :: bx w0.heap.size [.int .i64 n] 3 :: bx w.heap.size [.pointer none] 38 :: [oldA w]) := (((Sep.begin w).box _ _).box _ _).box _ _
  clear_value w2
  exact ⟨_, h2.bx2.ld' rfl, C57n ⟨_, rfl, hK _ (h2.ex 3 rfl)⟩⟩
theorem C38n {n m : Int} (hK : ∀ u, Ex w u → K (.int .i64 1) u) : XCP Tryd.prog 38 [.pointer none, .int .i64 n, .int .i64 m] w K KP := by
  refine E38 ?_
  unfold F38
  intro w0 p0 w1 p1 w2 p2
  have h2 : Sep w2 (bx w1.heap.size [.int .i64 m] 3 :: bx w0.heap.size [.int .i64 n] 3 :: bx w.heap.size [.pointer none] 38 :: [oldA w]) := (((Sep.begin w).box _ _).box _ _).box _ _
  clear_value w2
  exact ⟨_, h2.bx2.ld' rfl, C57n ⟨_, rfl, hK _ (h2.ex 3 rfl)⟩⟩
theorem C39n {n m : Int} (hK : ∀ u, Ex w u → K (.int .i64 1) u) : XCP Tryd.prog 39 [.pointer none, .int .i64 n, .int .i64 m] w K KP := by
  refine E39 ?_
  unfold F39
  exact C38n fun u hu => ⟨_, rfl, hK u hu⟩
/-- a step's outcome: the clock, the error, the threads behind it -/
def stC (ts : List Ck) (t : Int) : Ck := if (thF ts t).2 = 0 then (tk (thF ts t).1 t).1 else (thF ts t).1
def stE (ts : List Ck) (t : Int) : Int := if (thF ts t).2 = 0 then (tk (thF ts t).1 t).2 else (thF ts t).2
def stT (ts : List Ck) (t : Int) : List Ck := if stE ts t = 0 then ts.set t.toNat (stC ts t) else ts
theorem D29 {n : Int} (hs : Sep w (wtL b s p ts ps L)) (has : s.a.isSome = true) (hK : ∀ u, Sep u (wtL b s p (stT ts n) ps L) → K (.tuple #[(stC ts n).v, .int .i64 (stE ts n)]) u) :
    XCP Tryd.prog 29 [.pointer (some ⟨b, 0, none⟩), .int .i64 n] w K KP := by
  refine E29 ?_
  unfold F29
  intro w0 p0
  have h0 : Sep w0 (bx w.heap.size ck0.cells 23 :: wtL b s p ts ps L) := hs.box _ _
  clear_value w0
  refine C34 (n := n) (WtP.of h0.tail has) fun u1 e1 => ⟨_, _, _, _, _, _, _, _, _, rfl, ?_⟩
  intro w2 p1
  have h2 : Sep w2 (bx u1.heap.size ck0.cells 23 :: bx w.heap.size ck0.cells 23 :: wtL b s p ts ps L) := (h0.ext e1).box _ _
  clear_value w2
  refine h2.fill (vs := (thF ts n).1.cells) rfl fun w3 _ h3 => ?_
  by_cases hz : (thF ts n).2 = 0
  rotate_left
  · rw [if_pos (by simpa using hz)]
    have e1 : stE ts n = (thF ts n).2 := by unfold stE; rw [if_neg hz]
    have e2 : stC ts n = (thF ts n).1 := by unfold stC; rw [if_neg hz]
    have e3 : stT ts n = ts := by unfold stT; rw [if_neg (by rw [e1]; exact hz)]
    rw [e1, e2, e3] at hK
    refine ⟨_, _, _, _, _, _, _, _, h3.bx0.lds, h3.fill1 (vs := (thF ts n).1.cells) rfl fun w4 _ h4 => ⟨_, _, _, _, _, _, _, _, h4.bx1.lds, hK _ h4.tail.tail⟩⟩
  rw [if_neg (by simpa using hz)]
  have e1 : stE ts n = (tk (thF ts n).1 n).2 := by unfold stE; rw [if_pos hz]
  have e2 : stC ts n = (tk (thF ts n).1 n).1 := by unfold stC; rw [if_pos hz]
  have hin : 0 ≤ n ∧ n < ts.length := by
    by_cases h : 0 ≤ n ∧ n < ts.length
    · exact h
    · unfold thF at hz; rw [if_neg h] at hz; exact absurd hz (by decide)
  intro kb hkb
  refine ⟨_, _, _, _, _, _, _, _, h3.bx0.lds, ?_⟩
  refine C12 (c := (thF ts n).1) (t := n) fun u7 e7 => ?_
  rw [← e1, ← e2]
  refine ⟨_, _, _, _, _, _, _, _, _, rfl, ?_⟩
  refine (h3.ext e7).fill (vs := (stC ts n).cells) rfl fun w8 _ h8 => ?_
  by_cases hz2 : stE ts n = 0
  · rw [if_pos (by simpa using hz2)]
    have e3 : stT ts n = ts.set n.toNat (stC ts n) := by unfold stT; rw [if_pos hz2]
    refine ⟨fun x => Ex w8 x, Ex.drew w8, ?_⟩
    intro w9
    have h9 : Sep w9 _ := h8.drew
    have e9 : Ex w8 w9 := Ex.drew w8
    clear_value w9
    rw [xptr_some]
    refine ⟨s.a, s.l, s.c, fun u hu => ((WtP.of h8.tail.tail has).ex hu).hb.ld rfl, _, _, _, _, _, _, _, _, fun u hu => (hu.blk h8.bx0).lds, ?_⟩
    obtain ⟨q, hq, -, -⟩ := el_some (WtP.of h9.tail.tail has).hs hin.1 hin.2
    have hl := (WtP.of h9.tail.tail has).hs.len
    rw [hq, xptr_some]
    refine ⟨hin.1, by omega, ?_⟩
    refine h9.rowFillAt 3 rfl (vs := (stC ts n).cells) (by show n.toNat * 8 + 8 ≤ _; rw [cks_length]; omega) hq fun w12 _ h12 => ?_
    rw [cks_setL _ _ _ (by omega), ← e3] at h12
    refine hkb _ _ ⟨_, _, _, _, _, _, _, _, h12.bx0.lds, h12.fill1 (vs := (stC ts n).cells) rfl fun w4 _ h4 => ⟨_, _, _, _, _, _, _, _, h4.bx1.lds, hK _ h4.tail.tail⟩⟩
  · rw [if_neg (by simpa using hz2)]
    have e3 : stT ts n = ts := by unfold stT; rw [if_neg hz2]
    rw [e3] at hK
    exact hkb _ _ ⟨_, _, _, _, _, _, _, _, h8.bx0.lds, h8.fill1 (vs := (stC ts n).cells) rfl fun w4 _ h4 => ⟨_, _, _, _, _, _, _, _, h4.bx1.lds, hK _ h4.tail.tail⟩⟩
theorem C29n {n : Int} (hK : ∀ u, Ex w u → K (.tuple #[ck0.v, .int .i64 1]) u) : XCP Tryd.prog 29 [.pointer none, .int .i64 n] w K KP := by
  refine E29 ?_
  unfold F29
  intro w0 p0
  have h0 : Sep w0 (bx w.heap.size ck0.cells 23 :: [oldA w]) := (Sep.begin w).box _ _
  clear_value w0
  refine C34n fun u1 e1 => ⟨_, _, _, _, _, _, _, _, _, rfl, ?_⟩
  intro w2 p1
  have h2 : Sep w2 (bx u1.heap.size ck0.cells 23 :: bx w.heap.size ck0.cells 23 :: [oldA w]) := (h0.ext e1).box _ _
  clear_value w2
  refine h2.fill (vs := ck0.cells) rfl fun w3 _ h3 => ?_
  rw [if_pos (by decide)]
  exact ⟨_, _, _, _, _, _, _, _, h3.bx0.lds, h3.fill1 (vs := ck0.cells) rfl fun w4 _ h4 => ⟨_, _, _, _, _, _, _, _, h4.bx1.lds, hK _ (h4.ex 2 rfl)⟩⟩
end
end Go.Proofs.YtohcdbldphedkaaDoor
