/- The clocks seat: a place that is given to and taken from; the laws of two clocks. -/
import Derived.Test.YtohcdbldphedkaaDoorK10
set_option linter.unusedVariables false
set_option linter.unusedSimpArgs false
namespace Go.Proofs.YtohcdbldphedkaaDoor
open Go.X
def c10 : Ck := ⟨1, 0, 0, 0, 0, 0, 0, 0⟩
def c01 : Ck := ⟨0, 1, 0, 0, 0, 0, 0, 0⟩
def c11 : Ck := ⟨1, 1, 0, 0, 0, 0, 0, 0⟩
theorem wk1 : stE (zs 2) 0 = 0 ∧ stT (zs 2) 0 = [c10, ck0] := by decide
theorem wk2 : mvE false true 0 0 [c10, ck0] (zs 1) = 0 ∧ mvT false true 0 0 [c10, ck0] (zs 1) = [c10, ck0] ∧ mvP false true 0 0 [c10, ck0] (zs 1) = [c10] := by decide
theorem wk3 : mvE true false 1 0 [c10, ck0] [c10] = 0 ∧ mvT true false 1 0 [c10, ck0] [c10] = [c10, c10] ∧ mvP true false 1 0 [c10, ck0] [c10] = [c10] := by decide
theorem wk4 : stE [c10, c10] 1 = 0 ∧ stC [c10, c10] 1 = c11 := by decide
theorem wk5 : textF c11 = [49, 32, 49] := by decide +kernel
theorem wk6 : ((!wn c10 c01) && !wn c01 c10) = true := by decide
theorem wk7 : ((!decide (c10 = c11)) && wn c10 c11) = true := by decide
section
variable {w : World} {K : Value → World → Prop} {KP : List PanicEntry → World → Prop}
theorem C15 (h : ∀ u, Ex w u → K (.bool true) u) : XCP Tryd.prog 15 [] w K KP := by
  refine E15 ?_
  unfold F15
  refine C26 (n := 2) (m := 1) (by decide) (Sep.begin w) fun b s p u0 has hs => ⟨_, _, rfl, ?_⟩
  refine D29 hs has fun u1 hs => ⟨_, _, _, _, _, _, _, _, _, rfl, ?_⟩
  rw [wk1.1]
  rw [wk1.2] at hs
  intro w2 p2
  have hs2 : Sep w2 (wtL b s p [c10, ck0] (zs 1) (bx u1.heap.size ck0.cells 23 :: [oldA w])) := box3 hs _ _
  clear_value w2
  refine hs2.fillAt 3 rfl (vs := (stC (zs 2) 0).cells) rfl fun w3 _ hs3 => ?_
  replace hs3 : Sep w3 (wtL b s p [c10, ck0] (zs 1) [oldA w]) := hs3.dropAt 3 rfl
  refine D36 hs3 has fun u4 hs4 => ?_
  rw [wk2.1]
  rw [wk2.2.1, wk2.2.2] at hs4
  refine ⟨_, rfl, D37 hs4 has fun u5 hs5 => ?_⟩
  rw [wk3.1]
  rw [wk3.2.1, wk3.2.2] at hs5
  refine ⟨_, rfl, D29 hs5 has fun u6 hs6 => ?_⟩
  rw [wk4.1, wk4.2]
  refine ⟨_, _, _, _, _, _, _, _, _, rfl, ?_⟩
  intro w7 p7
  have hs7 : Sep w7 (wtL b s p (stT [c10, c10] 1) [c10] (bx u6.heap.size ck0.cells 23 :: [oldA w])) := box3 hs6 _ _
  clear_value w7
  refine hs7.fillAt 3 rfl (vs := c11.cells) rfl fun w8 _ hs8 => ?_
  refine C14 ⟨_, rfl, C14 ⟨_, rfl, C14 ⟨_, rfl, C14 ⟨_, rfl, C14 ⟨_, rfl, ?_⟩⟩⟩⟩⟩
  replace hs8 : Sep w8 [bx u6.heap.size c11.cells 23, oldA w] := hs8.tail.tail.tail
  refine and_true (by decide) (fun kb hk => ⟨_, _, _, _, _, _, _, _, hs8.bx0.lds, xr_ck_eq (a := c11) (b := c11) und23 eg23 ⟨_, rfl, hk _ (Ex.refl _)⟩⟩) fun u9 e9 => ?_
  have hs9 := hs8.ext e9
  refine and_true rfl (fun kb hk => ⟨_, _, _, _, _, _, _, _, hs9.bx0.lds, C20 (c := c11) (fun i hi => .inl ?_) fun u10 e10 => ⟨_, rfl, ?_⟩⟩) fun u11 e11 => ?_
  · match i, hi with
    | 0, _ => decide
    | 1, _ => decide
    | 2, _ => decide
    | 3, _ => decide
    | 4, _ => decide
    | 5, _ => decide
    | 6, _ => decide
    | 7, _ => decide
    | k + 8, h => omega
  · rw [wk5]
    show kb (ByteArray.toList ⟨#[49, 32, 49]⟩ == ByteArray.toList ⟨#[49, 32, 49]⟩) u10
    rw [beq_self_eq_true]
    exact hk _ e10
  have hs11 := hs9.ext e11
  refine and_true rfl (fun kb hk => ?_) fun u12 e12 => ?_
  · exact C19 (a := c10) (b := c01) fun u hu => ⟨_, rfl, by rw [wk6]; exact hk _ hu⟩
  have hs12 := hs11.ext e12
  refine and_true rfl (fun kb hk => ?_) fun u13 e13 => ?_
  · exact ⟨_, _, _, _, _, _, _, _, hs12.bx0.lds, C18 (a := c10) (b := c11) fun u hu => ⟨_, rfl, by rw [wk7]; exact hk _ hu⟩⟩
  exact h _ (Ex.trans (hs12.ex 1 rfl) e13)
/-- the left side holds: the call works -/
theorem L3 {c : Ck} {t : Int} (h : ∀ u, Ex w u → K (.bool true) u) : XCP Tryd.prog 3 [c.v, .int .i64 t] w K KP := by
  refine E3 ?_
  unfold F3
  intro w0 p
  have hs : Sep w0 (bx w.heap.size c.cells 23 :: [oldA w]) := (Sep.begin w).box _ _
  clear_value w0
  refine ⟨_, _, _, _, _, _, _, _, hs.bx0.lds, C12 (c := c) fun u1 e1 => ⟨_, _, _, _, _, _, _, _, _, rfl, ?_⟩⟩
  intro w2 p1
  have h2 : Sep w2 (bx u1.heap.size ck0.cells 23 :: bx w.heap.size c.cells 23 :: [oldA w]) := (hs.ext e1).box _ _
  clear_value w2
  refine h2.fill (vs := (tk c t).1.cells) rfl fun w3 _ h3 => ?_
  refine ⟨_, _, _, _, _, _, _, _, h3.bx1.lds, C13 (c := c) fun u4 e4 => ⟨_, _, _, _, _, _, _, _, _, rfl, ?_⟩⟩
  intro w5 p2
  have h5 : Sep w5 (bx u4.heap.size ck0.cells 23 :: bx u1.heap.size (tk c t).1.cells 23 :: bx w.heap.size c.cells 23 :: [oldA w]) := (h3.ext e4).box _ _
  clear_value w5
  refine h5.fill (vs := (tk c t).1.cells) rfl fun w6 _ h6 => ?_
  refine ⟨_, _, _, _, _, _, _, _, h6.bx1.lds, _, _, _, _, _, _, _, _, h6.bx0.lds, ?_⟩
  refine xr_ck_eq (a := (tk c t).1) (b := (tk c t).1) und23 eg23 ⟨_, rfl, ?_⟩
  refine and_true (by simp) (fun kb hk => C14 ⟨_, rfl, by rw [beq_self_eq_true]; exact hk _ (Ex.refl _)⟩) fun u7 e7 => ?_
  refine and_true rfl (fun kb hk => C15 fun u8 e8 => ⟨_, rfl, hk _ e8⟩) fun u9 e9 => ?_
  exact h _ (Ex.trans (h6.ex 3 rfl) (Ex.trans e7 e9))
theorem L4 {a b : Ck} (h : ∀ u, Ex w u → K (.bool true) u) : XCP Tryd.prog 4 [a.v, b.v] w K KP := by
  refine E4 ?_
  unfold F4
  intro w0 p w1 p1
  have hs : Sep w1 (bx w0.heap.size b.cells 23 :: bx w.heap.size a.cells 23 :: [oldA w]) := ((Sep.begin w).box _ _).box _ _
  clear_value w1
  refine ⟨fun x => Ex w1 x, Ex.drew w1, ?_⟩
  intro w2
  have e2 : Ex w1 w2 := Ex.drew w1
  clear_value w2
  refine ⟨_, _, _, _, _, _, _, _, fun x hx => (hs.ext hx).bx1.lds, _, _, _, _, _, _, _, _, fun x hx => (hs.ext hx).bx0.lds, _, _, _, _, _, _, _, _, fun x hx => (hs.ext hx).bx0.lds, _, _, _, _, _, _, _, _, fun x hx => (hs.ext hx).bx1.lds, ?_⟩
  refine C16 (a := a) (b := b) fun u7 e7 => ⟨_, rfl, Ex.trans e2 e7, ?_⟩
  refine C16 (a := b) (b := a) fun u8 e8 => ⟨_, rfl, fun _ => True, trivial, ?_⟩
  have hs8 := ((hs.ext e2).ext e7).ext e8
  refine ⟨_, _, _, _, _, _, _, _, hs8.bx1.lds, _, _, _, _, _, _, _, _, hs8.bx0.lds, ?_⟩
  refine C17 (a := a) (b := b) fun u9 e9 => ⟨_, rfl, ?_⟩
  have hs9 := hs8.ext e9
  refine and_true (by simp) (fun kb hk => ?_) fun u10 e10 => ?_
  · refine ⟨_, _, _, _, _, _, _, _, hs9.bx1.lds, _, _, _, _, _, _, _, _, hs9.bx0.lds, ?_⟩
    refine C18 (a := a) (b := b) fun u11 e11 => ⟨_, rfl, ?_⟩
    have hs11 := hs9.ext e11
    refine and_join (c := !decide (a = b)) (fun kb' hk' => ⟨_, _, _, _, _, _, _, _, hs11.bx1.lds, _, _, _, _, _, _, _, _, hs11.bx0.lds, xr_ck_ne (a := a) (b := b) und23 eg23 ⟨_, rfl, hk' _ (Ex.refl _)⟩⟩) fun u12 e12 => ?_
    rw [show (((!decide (a = b)) && wn a b) == (wn a b && !decide (a = b))) = true from by cases wn a b <;> cases decide (a = b) <;> rfl]
    exact hk _ (Ex.trans e11 e12)
  have hs10 := hs9.ext e10
  refine and_true rfl (fun kb hk => ⟨_, _, _, _, _, _, _, _, hs10.bx1.lds, _, _, _, _, _, _, _, _, hs10.bx0.lds, C19 (a := a) (b := b) fun u11 e11 => ⟨_, rfl, by rw [beq_self_eq_true]; exact hk _ e11⟩⟩) fun u12 e12 => ?_
  refine and_true rfl (fun kb hk => C15 fun u8 e8 => ⟨_, rfl, hk _ e8⟩) fun u13 e13 => ?_
  exact h _ (Ex.trans (hs10.ex 2 rfl) (Ex.trans e12 e13))
theorem L5 {c : Ck} (hc : ∀ i, i < 8 → fmtOk w (c.get i)) (h : ∀ u, Ex w u → K (.bool true) u) : XCP Tryd.prog 5 [c.v] w K KP := by
  refine E5 ?_
  unfold F5
  intro w0 p
  have hs : Sep w0 (bx w.heap.size c.cells 23 :: [oldA w]) := (Sep.begin w).box _ _
  clear_value w0
  intro kb hkb
  refine ⟨fun x => Ex w0 x, Ex.drew w0, ?_⟩
  intro w2
  have e2 : Ex w0 w2 := Ex.drew w0
  clear_value w2
  refine ⟨_, _, _, _, _, _, _, _, fun x hx => (hs.ext hx).bx0.lds, _, _, _, _, _, _, _, _, fun x hx => (hs.ext hx).bx0.lds, ?_⟩
  have ew := Ex.trans (hs.ex 1 rfl) e2
  refine C20 (c := c) (fun i hi => (hc i hi).ex ew) fun u5 e5 => ⟨_, rfl, Ex.trans e2 e5, ?_⟩
  refine C21 (c := c) (fun i hi => (hc i hi).ex (Ex.trans ew e5)) fun u6 e6 => ⟨_, rfl, Ex.trans e2 (Ex.trans e5 e6), ?_⟩
  rw [if_pos (by simp)]
  refine C15 fun u7 e7 => ⟨_, rfl, fun _ => True, trivial, hkb _ _ (h _ (Ex.trans ew (Ex.trans e5 (Ex.trans e6 e7))))⟩
theorem L6 {a b : Ck} (h : ∀ u, Ex w u → K (.bool true) u) : XCP Tryd.prog 6 [a.v, b.v] w K KP := by
  refine E6 ?_
  unfold F6
  intro w0 p w1 p1
  have hs : Sep w1 (bx w0.heap.size b.cells 23 :: bx w.heap.size a.cells 23 :: [oldA w]) := ((Sep.begin w).box _ _).box _ _
  clear_value w1
  intro kb hkb
  refine ⟨fun x => Ex w1 x, Ex.drew w1, ?_⟩
  intro w2
  have e2 : Ex w1 w2 := Ex.drew w1
  clear_value w2
  refine ⟨_, _, _, _, _, _, _, _, fun x hx => (hs.ext hx).bx1.lds, _, _, _, _, _, _, _, _, fun x hx => (hs.ext hx).bx0.lds, _, _, _, _, _, _, _, _, fun x hx => (hs.ext hx).bx1.lds, _, _, _, _, _, _, _, _, fun x hx => (hs.ext hx).bx0.lds, ?_⟩
  refine C22 (a := a) (b := b) fun u7 e7 => ⟨_, _, _, _, _, _, _, _, rfl, Ex.trans e2 e7, ?_⟩
  refine C23 (a := a) (b := b) fun u8 e8 => ⟨_, _, _, _, _, _, _, _, rfl, Ex.trans e2 (Ex.trans e7 e8), ?_⟩
  refine xr_ck_eq (a := jn a b) (b := jn a b) und23 eg23 ⟨_, rfl, Ex.trans e2 (Ex.trans e7 e8), ?_⟩
  rw [if_pos (by simp)]
  exact C15 fun u9 e9 => ⟨_, rfl, fun _ => True, trivial, hkb _ _ (h _ (Ex.trans (hs.ex 2 rfl) (Ex.trans e2 (Ex.trans e7 (Ex.trans e8 e9)))))⟩
end
end Go.Proofs.YtohcdbldphedkaaDoor
