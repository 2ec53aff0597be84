/- The sync seat: the law of what there is at first. -/
import Derived.Test.YthegnnifbgikmaaU9
import Derived.Test.YthegnnifbgikmaaX11
set_option linter.unusedVariables false
set_option linter.unusedSimpArgs false
namespace Go.Proofs.Ythegnnifbgikmaa
open Go.X
section
variable {w : World} {K : Value → World → Prop} {KP : List PanicEntry → World → Prop} {pb : Nat} {S : SS} {g : Nat → Nat}
theorem C20n {n : Int} (h : K (.tuple #[.int .i64 0, .int .i64 1]) w) : XCP Try.prog 20 [.pointer none, .int .i64 n] w K KP := by
  apply E20; unfold F20
  exact C37n ⟨_, _, rfl, by rw [if_pos (by decide)]; exact h⟩
theorem C13n {n m : Int} (h : K (.tuple #[.bool false, .int .i64 1]) w) : XCP Try.prog 13 [.pointer none, .int .i64 n, .int .i64 m] w K KP := by
  apply E13; unfold F13
  refine C37n ⟨_, _, rfl, ?_⟩
  intro kb hk
  rw [if_neg (by decide)]
  refine hk _ _ ?_
  intro kb1 hk1
  rw [if_pos (by decide)]
  refine hk1 _ _ ?_
  rw [if_pos rfl]
  exact h
theorem C15n {n m : Int} (h : K (.int .i64 1) w) : XCP Try.prog 15 [.pointer none, .int .i64 n, .int .i64 m] w K KP := by
  apply E15; unfold F15
  refine C37n ⟨_, _, rfl, ?_⟩
  intro kb hk
  rw [if_neg (by decide)]
  refine hk _ _ ?_
  rw [if_pos (by decide)]
  exact h
theorem C21n {n : Int} (h : K (.tuple #[.slice none 0 0, .int .i64 1]) w) : XCP Try.prog 21 [.pointer none, .int .i64 n] w K KP := by
  apply E21; unfold F21
  exact C40n ⟨_, _, rfl, by rw [if_pos (by decide)]; exact h⟩
theorem C17n {n : Int} (h : K (.tuple #[.int .i64 0, .bool false, .int .i64 1]) w) : XCP Try.prog 17 [.pointer none, .int .i64 n] w K KP := by
  apply E17; unfold F17
  exact C40n ⟨_, _, rfl, by rw [if_pos (by decide)]; exact h⟩
theorem C30n {n : Int} (h : K (.tuple #[.slice none 0 0, .int .i64 1]) w) : XCP Try.prog 30 [.pointer none, .int .i64 n] w K KP := by
  apply E30; unfold F30
  exact C40n ⟨_, _, rfl, by rw [if_pos (by decide)]; exact h⟩
theorem C18n {n m : Int} (h : K (.tuple #[.int .i64 0, .bool false, .int .i64 1]) w) : XCP Try.prog 18 [.pointer none, .int .i64 n, .int .i64 m] w K KP := by
  apply E18; unfold F18
  exact C45n ⟨_, _, rfl, by rw [if_pos (by decide)]; exact h⟩
theorem C19n {n : Int} (h : K (.tuple #[.int .i64 0, .int .i64 0, .bool false, .int .i64 1]) w) : XCP Try.prog 19 [.pointer none, .int .i64 n] w K KP := by
  apply E19; unfold F19
  exact C45n ⟨_, _, rfl, by rw [if_pos (by decide)]; exact h⟩
theorem C28n {n : Int} (h : K (.tuple #[.slice none 0 0, .int .i64 1]) w) : XCP Try.prog 28 [.pointer none, .int .i64 n] w K KP := by
  apply E28; unfold F28
  exact C45n ⟨_, _, rfl, by rw [if_pos (by decide)]; exact h⟩
theorem C29n {n : Int} (h : K (.tuple #[.int .i64 0, .int .i64 1]) w) : XCP Try.prog 29 [.pointer none, .int .i64 n] w K KP := by
  apply E29; unfold F29
  exact C45n ⟨_, _, rfl, by rw [if_pos (by decide)]; exact h⟩
theorem C31n (h : K (.pointer none) w) : XCP Try.prog 31 [.pointer none] w K KP := by
  apply E31; unfold F31
  exact C59n ⟨_, rfl, by rw [if_pos rfl]; exact h⟩
theorem C32nn (h : K (.bool true) w) : XCP Try.prog 32 [.pointer none, .pointer none] w K KP := by
  apply E32; unfold F32
  refine C59n ⟨_, rfl, ?_⟩
  intro kb hkb
  rw [if_pos rfl]
  refine hkb _ _ ?_
  rw [if_pos rfl]
  refine C59n ⟨_, rfl, ?_⟩
  intro kb1 hkb1
  rw [if_pos rfl]
  exact C59n ⟨_, rfl, hkb1 _ _ h⟩
theorem C32n0 (h1 : SyncAt w pb S g) (h : K (.bool false) w) : XCP Try.prog 32 [.pointer none, .pointer (some ⟨pb, 0, none⟩)] w K KP := by
  obtain ⟨ow1, cd1, ch1, qs1, hs1, hR1⟩ := h1
  apply E32; unfold F32
  refine C59n ⟨_, rfl, ?_⟩
  intro kb hkb
  rw [if_pos rfl]
  refine hkb _ _ ?_
  rw [if_pos rfl]
  refine C59n ⟨_, rfl, ?_⟩
  intro kb1 hkb1
  rw [if_pos rfl]
  exact C59 hR1.blk ⟨_, rfl, hkb1 _ _ h⟩
theorem C32n1 (h1 : SyncAt w pb S g) (h : K (.bool false) w) : XCP Try.prog 32 [.pointer (some ⟨pb, 0, none⟩), .pointer none] w K KP := by
  obtain ⟨ow1, cd1, ch1, qs1, hs1, hR1⟩ := h1
  apply E32; unfold F32
  refine C59 hR1.blk ⟨_, rfl, ?_⟩
  intro kb hkb
  rw [if_neg (by decide)]
  refine C59n ⟨_, rfl, hkb _ _ ?_⟩
  rw [if_pos rfl]
  refine C59 hR1.blk ⟨_, rfl, ?_⟩
  intro kb1 hkb1
  rw [if_neg (by decide)]
  exact hkb1 _ _ h
theorem C16n {n m : Int} (h : ∀ w', (∀ D, Fr D w w') → K (.int .i64 1) w') : XCP Try.prog 16 [.pointer none, .int .i64 n, .int .i64 m] w K KP := by
  apply E16; unfold F16
  intro KP0 KP w0 p w1 p1
  have hs : Sep w1 (bx w0.heap.size [.int .i64 0] 25 :: bx w.heap.size [.int .i64 m] 3 :: [oldA w]) := ((Sep.begin w).box _ _).box _ _
  clear_value w0 w1 KP0 KP
  refine C40n ⟨_, _, rfl, ?_⟩
  intro kb hk
  rw [if_neg (by decide)]
  refine hk _ _ ?_
  rw [if_pos (by decide)]
  refine Sep.put (o := 0) hs (by simp) fun w4 _ hs => ?_
  intro w5 hsh
  have hb := hs.bx0.shut hsh
  refine ⟨1, hb.ld' rfl, h w5 fun D => (hs.old 2 rfl D).trans hsh.fr' (fun _ _ h => h) (fun b hb e => by omega)⟩

/-- what there is at first, and what is told of none -/
theorem L9 {s : Sl} {rooms : List Int} {m c : Int} (hr : RdI w s rooms (fun _ => True))
    (h : ∀ w', (∀ D, Fr D w w') → K (.bool true) w') : XCP Try.prog 9 [.agg #[.int .i64 m, .int .i64 c, s.v]] w K KP := by
  show XCP Try.prog 9 [.agg #[.int .i64 m, .int .i64 c, .slice s.a s.l s.c]] w K KP
  apply E9; unfold F9
  intro w0 p
  have hs : Sep w0 (bx w.heap.size (formCells m c s) 48 :: [oldA w]) := (Sep.begin w).box _ _
  clear_value w0
  have hsl := hr.2.1
  refine ⟨_, _, _, hs.bx0.ld rfl, ?_⟩
  by_cases h200 : (s.l : Int) > 200
  · rw [if_pos (by simpa using h200)]
    exact C11 fun w1 hf => ⟨_, rfl, h w1 (fr_old (hs.old 1 rfl) hf)⟩
  rw [if_neg (by simpa using h200)]
  intro kb hkb
  -- what comes behind
  have rest : ∀ (q : Sl) (u : World), Sep u (pers [IntsA q rooms] :: bx w.heap.size (formCells m c s) 48 :: [oldA w]) → kb q.a q.l q.c u := by
    intro q u hs
    refine hkb _ _ _ _ ⟨_, hs.bx1.ld rfl, _, hs.bx1.ld rfl, ?_⟩
    obtain ⟨_, hq0⟩ := hs.known 0 rfl
    have hq0 : RdI u q rooms _ := hq0
    by_cases hb : NewBad m c rooms
    · refine D12 (s := q) hs hq0 (by omega) (fun _ => ⟨_, _, rfl, ?_⟩) (fun hg => absurd hb hg)
      refine ⟨_, hs.bx1.ld rfl, _, hs.bx1.ld rfl, _, _, _, hs.bx1.ld rfl, ?_⟩
      refine D25 (s := s) hs (rdI_old hr (hs.old 2 rfl)) (fun _ z' w1 hs _ => ⟨_, _, _, _, _, _, _, _, _, _, _, _, _, _, _, _, rfl, ?_⟩) (fun hg => absurd hb hg)
      intro w2 p1
      replace hs : Sep w2 (bx w1.heap.size zero5 53 :: _) := hs.box _ _
      clear_value w2
      refine hs.fill (vs := z'.cells) rfl fun w3 _ hs => ?_
      refine C20n ⟨_, _, rfl, C13n ⟨_, _, rfl, C21n ⟨_, _, _, _, rfl, C17n ⟨_, _, _, rfl, C30n ⟨_, _, _, _, rfl, C18n ⟨_, _, _, rfl, C19n ⟨_, _, _, _, rfl, C28n ⟨_, _, _, _, rfl, C29n ⟨_, _, rfl, ?_⟩⟩⟩⟩⟩⟩⟩⟩⟩
      refine C14 ⟨_, rfl, C14 ⟨_, rfl, C14 ⟨_, rfl, C14 ⟨_, rfl, C14 ⟨_, rfl, C14 ⟨_, rfl, C14 ⟨_, rfl, C14 ⟨_, rfl, C14 ⟨_, rfl, ?_⟩⟩⟩⟩⟩⟩⟩⟩⟩
      intro kb1 hkb1
      rw [if_neg (by decide)]
      refine C15n ⟨_, rfl, C14 ⟨_, rfl, hkb1 _ _ ?_⟩⟩
      intro kb2 hkb2
      rw [if_neg (by decide)]
      refine C16n fun w4 hf4 => ⟨_, rfl, C14 ⟨_, rfl, hkb2 _ _ ?_⟩⟩
      replace hs := hs.ext hf4
      intro kb3 hkb3
      rw [if_neg (by decide)]
      refine C31n ⟨_, rfl, hkb3 _ _ ?_⟩
      intro kb4 hkb4
      rw [if_neg (by decide)]
      refine C32nn ⟨_, rfl, hkb4 _ _ ?_⟩
      intro kb5 hkb5
      rw [if_neg (by decide)]
      refine ⟨_, _, _, hs.bx2.ld rfl, ?_⟩
      obtain ⟨_, hq⟩ := hs.to1.known 0 rfl
      have hq : RdI w4 q rooms _ := hq
      have hs4 := rdI_old hr (hs.old 3 rfl)
      refine C22 (s1 := q) (s2 := s) hq.1 hq.2.1 hs4.1 hs4.2.1 (by omega) fun w5 hf5 => ⟨_, rfl, hkb5 _ _ ?_⟩
      replace hs := hs.ext hf5
      rw [if_neg (by simp)]
      rw [if_pos (by decide)]
      intro kb6 hkb6
      rw [if_pos (by decide)]
      refine C14 ⟨_, rfl, hkb6 _ _ ?_⟩
      intro kb7 hkb7
      rw [if_pos (by decide)]
      exact C11 fun w6 hf => ⟨_, rfl, hkb7 _ _ (h w6 (fr_old (hs.old 3 rfl) hf))⟩
    · refine D12 (s := q) hs hq0 (by omega) (fun hb2 => absurd hb2 hb) (fun _ pb w9 hs _ => ⟨_, _, rfl, ?_⟩)
      refine ⟨_, hs.bx2.ld rfl, _, hs.bx2.ld rfl, _, _, _, hs.bx2.ld rfl, ?_⟩
      refine D25 (s := s) hs (rdI_old hr (hs.old 3 rfl)) (fun hb2 => absurd hb2 hb) (fun _ z' w1 hs _ => ⟨_, _, _, _, _, _, _, _, _, _, _, _, _, _, _, _, rfl, ?_⟩)
      intro w2 p1
      replace hs : Sep w2 (bx w1.heap.size zero5 53 :: _) := hs.box _ _
      clear_value w2
      refine hs.fill (vs := z'.cells) rfl fun w3 _ hs => ?_
      refine C20n ⟨_, _, rfl, C13n ⟨_, _, rfl, C21n ⟨_, _, _, _, rfl, C17n ⟨_, _, _, rfl, C30n ⟨_, _, _, _, rfl, C18n ⟨_, _, _, rfl, C19n ⟨_, _, _, _, rfl, C28n ⟨_, _, _, _, rfl, C29n ⟨_, _, rfl, ?_⟩⟩⟩⟩⟩⟩⟩⟩⟩
      refine C14 ⟨_, rfl, C14 ⟨_, rfl, C14 ⟨_, rfl, C14 ⟨_, rfl, C14 ⟨_, rfl, C14 ⟨_, rfl, C14 ⟨_, rfl, C14 ⟨_, rfl, C14 ⟨_, rfl, ?_⟩⟩⟩⟩⟩⟩⟩⟩⟩
      intro kb1 hkb1
      rw [if_neg (by decide)]
      refine C15n ⟨_, rfl, C14 ⟨_, rfl, hkb1 _ _ ?_⟩⟩
      intro kb2 hkb2
      rw [if_neg (by decide)]
      refine C16n fun w4 hf4 => ⟨_, rfl, C14 ⟨_, rfl, hkb2 _ _ ?_⟩⟩
      replace hs := hs.ext hf4
      intro kb3 hkb3
      rw [if_neg (by decide)]
      refine C31n ⟨_, rfl, hkb3 _ _ ?_⟩
      intro kb4 hkb4
      rw [if_neg (by decide)]
      refine C32nn ⟨_, rfl, hkb4 _ _ ?_⟩
      intro kb5 hkb5
      rw [if_neg (by decide)]
      refine ⟨_, _, _, hs.bx4.ld rfl, ?_⟩
      obtain ⟨_, hq⟩ := hs.to3.known 0 rfl
      have hq : RdI w4 q rooms _ := hq
      have hs4 := rdI_old hr (hs.old 5 rfl)
      refine C22 (s1 := q) (s2 := s) hq.1 hq.2.1 hs4.1 hs4.2.1 (by omega) fun w5 hf5 => ⟨_, rfl, hkb5 _ _ ?_⟩
      replace hs := hs.ext hf5
      rw [if_neg (by simp)]
      rw [if_neg (by decide)]
      refine C14 ⟨_, rfl, ?_⟩
      intro kb8 hkb8
      rw [if_pos (by decide)]
      refine ⟨_, _, _, _, _, _, _, _, _, _, _, _, _, _, _, hs.bx0.lds, ?_⟩
      refine D27 (z := z') hs.tail (new_good hb) (by omega) fun w6 hs => ⟨_, rfl, hkb8 _ _ ?_⟩
      obtain ⟨_, g, hS, _⟩ := hs.at1
      intro kb9 hkb9
      rw [if_pos rfl]
      refine C32n1 hS ⟨_, rfl, hkb9 _ _ ?_⟩
      intro kb10 hkb10
      rw [if_pos (by decide)]
      refine C32n0 hS ⟨_, rfl, hkb10 _ _ ?_⟩
      intro kb11 hkb11
      rw [if_pos (by decide)]
      exact C11 fun w7 hf => ⟨_, rfl, hkb11 _ _ (h w7 (fr_old (hs.old 4 rfl) hf))⟩
  have done : ∀ (q : Sl) (u : World), q.l = s.l + 1 → q.l ≤ q.c → Sep u (row 1 3 q (ints rooms ++ [.int .i64 77]) :: bx w.heap.size (formCells m c s) 48 :: [oldA w]) → (0 : Int) ≤ ((s.l : Nat) : Int) ∧ ((s.l : Nat) : Int) ≤ ((q.c : Nat) : Int) ∧ kb q.a (Int.toNat ((s.l : Nat) : Int)) q.c u := by
    intro q u hl hc hs
    refine ⟨by omega, by omega, ?_⟩
    refine rest ⟨q.a, Int.toNat ((s.l : Nat) : Int), q.c⟩ u (Sep.pers1 (hs.imp (A' := IntsA ⟨q.a, Int.toNat ((s.l : Nat) : Int), q.c⟩ rooms) fun u G hA => ?_))
    have hA : Own u 1 3 q.a q.l q.c (ints rooms ++ [.int .i64 77]) G := hA
    exact ⟨hA.rd.pre, by simpa using hsl, by simp; omega⟩
  replace hs := hs.drew
  refine ⟨fun y => Blk y w.heap.size (formCells m c s) 48, hs.bx0, ?_⟩
  refine ⟨_, _, _, fun y hy => hy.ld rfl, _, _, _, fun y hy => hy.ld rfl, ?_⟩
  have rd : ∀ {u : World}, (∀ D, Fr D w u) → Rd u s.a (ints rooms) (fun b => True ∧ b < w.heap.size) := fun hf => (rdI_old hr hf).1
  have one : ∀ u ∈ ([.int .i64 77] : List Value), u.oneCell' = true := by intro u hu; simp at hu; subst hu; rfl
  refine ⟨?_, ?_⟩
  · refine Sep.build T29 rfl hs (n := 0) (cs := []) (by rfl) rfl (by omega) fun s1 w1 e1 hs _ => ⟨_, _, _, rfl, hs.bx1, ?_, ?_⟩
    · refine Sep.append T29 rfl (x := s) hs (rd (hs.old 2 rfl)) (by simp [hsl]) (ints_one _) (by omega) (by omega) fun s2 w2 e2 c2 hs => ⟨_, _, _, rfl, hs.bx1, ?_⟩
      refine Sep.build T29 rfl hs (n := 1) (cs := [.int .i64 77]) (by rfl) rfl (by omega) fun s3 w3 e3 hs _ => ⟨_, _, _, rfl, hs.bx2, ?_⟩
      obtain ⟨_, hr3, _, hl3⟩ := hs.rowRd
      refine Sep.append T29 rfl (x := s3) hs.to1 hr3 hl3 one (by omega) (by omega) fun s4 w4 e4 c4 hs => ⟨_, _, _, rfl, hs.bx2, ?_⟩
      exact done s4 w4 (by omega) c4 hs.rid1
    · refine Sep.build T29 rfl hs (n := 1) (cs := [.int .i64 77]) (by rfl) rfl (by omega) fun s3 w3 e3 hs _ => ⟨_, _, _, rfl, hs.bx2, ?_⟩
      refine Sep.append T29 rfl (x := s) hs.to1 (rd (hs.old 3 rfl)) (by simp [hsl]) (ints_one _) (by omega) (by omega) fun s2 w2 e2 c2 hs => ⟨_, _, _, rfl, hs.bx2, ?_⟩
      obtain ⟨_, hr3, _, hl3⟩ := hs.to1.rowRd
      refine Sep.append T29 rfl (x := s3) hs hr3 hl3 one (by omega) (by omega) fun s4 w4 e4 c4 hs => ⟨_, _, _, rfl, hs.bx2, ?_⟩
      exact done s4 w4 (by omega) c4 hs.rid1
  · refine Sep.build T29 rfl hs (n := 1) (cs := [.int .i64 77]) (by rfl) rfl (by omega) fun s3 w3 e3 hs _ => ⟨_, _, _, rfl, hs.bx1, ?_⟩
    refine Sep.build T29 rfl hs (n := 0) (cs := []) (by rfl) rfl (by omega) fun s1 w1 e1 hs _ => ⟨_, _, _, rfl, hs.bx2, ?_⟩
    refine Sep.append T29 rfl (x := s) hs (rd (hs.old 3 rfl)) (by simp [hsl]) (ints_one _) (by omega) (by omega) fun s2 w2 e2 c2 hs => ⟨_, _, _, rfl, hs.bx2, ?_⟩
    obtain ⟨_, hr3, _, hl3⟩ := hs.to1.rowRd
    refine Sep.append T29 rfl (x := s3) hs hr3 hl3 one (by omega) (by omega) fun s4 w4 e4 c4 hs => ⟨_, _, _, rfl, hs.bx2, ?_⟩
    exact done s4 w4 (by omega) c4 hs.rid1
end
end Go.Proofs.Ythegnnifbgikmaa
