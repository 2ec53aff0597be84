/- The sync seat: the laws of locks, conditions, channels. -/
import Derived.Test.YthegnnifbgikmaaU6
set_option linter.unusedVariables false
set_option linter.unusedSimpArgs false
namespace Go.Proofs.Ythegnnifbgikmaa
open Go.X
section
variable {w : World} {K : Value → World → Prop} {KP : List PanicEntry → World → Prop} {L Γ : List Assn}
theorem rdI_nil (w : World) (G : Nat → Prop) : RdI w ⟨none, 0, 0⟩ [] G := ⟨.inl rfl, rfl, Nat.le_refl _⟩
def lockAct (x : Act) : Act := if x.what ≠ 0 then { x with what := 1 } else x
def condAct (x : Act) : Act := if x.what < 2 ∨ x.what > 4 then { x with what := 2 } else x

theorem L5 {q : Sl} {xs : List Act} (hA : ActsL w q.a xs) (hql : q.l = xs.length)
    (h : ∀ w', (∀ D, Fr D w w') → K (.bool true) w') : XCP Try.prog 5 [q.v] w K KP := by
  show XCP Try.prog 5 [.slice q.a q.l q.c] w K KP
  apply E5; unfold F5
  by_cases hl : (q.l : Int) > 100
  · rw [if_pos (by simpa using hl)]
    exact C11 fun w2 hf => ⟨_, rfl, h w2 hf⟩
  rw [if_neg (by simpa using hl)]
  have hng : ¬ NewBad 2 0 [] := by unfold NewBad; simp
  refine D12 (s := ⟨none, 0, 0⟩) (Sep.begin w) (rdI_nil w (fun _ => True)) (by simp) (fun hb => absurd hb hng) fun _ pb w1 hs _ => ⟨_, _, rfl, ?_⟩
  refine D25 (s := ⟨none, 0, 0⟩) hs (rdI_nil w1 (fun _ => True)) (fun hb => absurd hb hng) fun _ z0 w2 hs _ => ⟨_, _, _, _, _, _, _, _, _, _, _, _, _, _, _, _, rfl, ?_⟩
  intro w3 p
  replace hs : Sep w3 (bx w2.heap.size zero5 53 :: _) := hs.box _ _
  clear_value w3
  refine hs.fill (vs := z0.cells) rfl fun w4 _ hs => ?_
  refine ⟨fun i u => 0 ≤ i ∧ i ≤ xs.length ∧ ∃ z1, Sep u (bx w2.heap.size z1.cells 53 :: pers [RefA z1 ((RR.new 2 0 []).acts ((xs.map lockAct).take i.toNat))] :: SyncA pb ((RR.new 2 0 []).acts ((xs.map lockAct).take i.toNat)).toSS :: [oldA w]),
    fun i u => xs.length - i.toNat, ⟨by omega, by omega, z0, hs⟩, ?_⟩
  rintro i u ⟨h0, h1, z1, hs⟩
  have hgd : ((RR.new 2 0 []).acts ((xs.map lockAct).take i.toNat)).good 100 := (good_acts (xs := (xs.map lockAct).take i.toNat) (new_good hng)).mono (by simp; omega)
  by_cases hi : i < xs.length
  · rw [if_pos (by simp; omega)]
    have hit : i.toNat < xs.length := by omega
    have hit2 : i.toNat < (xs.map lockAct).length := by simpa using hit
    obtain ⟨pa, hpa, hc⟩ := hA.at_ (hs.old 3 rfl) hit
    rw [hpa, xptr_some]
    refine ⟨h0, by omega, _, _, _, _, hc, ?_⟩
    intro w6 p2
    replace hs : Sep w6 (bx u.heap.size [.int .i64 0, .int .i64 0, .int .i64 0, .int .i64 0] 31 :: _) := hs.box _ _
    clear_value w6
    refine hs.fill (vs := (xs[i.toNat]).cells) rfl fun w7 _ hs => ?_
    intro kb hkb
    have rest : ∀ w8, Sep w8 (bx u.heap.size (lockAct xs[i.toNat]).cells 31 :: bx w2.heap.size z1.cells 53 :: pers [RefA z1 ((RR.new 2 0 []).acts ((xs.map lockAct).take i.toNat))] :: SyncA pb ((RR.new 2 0 []).acts ((xs.map lockAct).take i.toNat)).toSS :: [oldA w]) → kb w8 := by
      intro w8 hs
      refine hkb w8 ⟨_, _, _, _, _, _, _, _, _, _, _, _, _, _, _, hs.bx1.lds, _, _, _, _, hs.bx0.lds, ?_⟩
      refine D26 (z := z1) (x := lockAct xs[i.toNat]) hs.to3.to3 hgd (by omega) fun z2 w9 hs => ⟨_, _, _, _, _, _, _, _, _, _, _, _, _, _, _, _, rfl, ?_⟩
      have ex : ((RR.new 2 0 []).acts ((xs.map lockAct).take i.toNat)).act (lockAct xs[i.toNat]) = (RR.new 2 0 []).acts ((xs.map lockAct).take (i.toNat + 1)) := by
        rw [acts_step hit2]; simp
      have hgd2 : ((RR.new 2 0 []).acts ((xs.map lockAct).take (i.toNat + 1))).good 100 := (good_acts (xs := (xs.map lockAct).take (i.toNat + 1)) (new_good hng)).mono (by simp; omega)
      rw [ex] at hs
      intro w10 p3
      replace hs : Sep w10 (bx w9.heap.size zero5 53 :: _) := hs.box _ _
      clear_value w10
      refine hs.fill (vs := z2.cells) rfl fun w11 _ hs => ⟨_, _, _, _, _, _, _, _, _, _, _, _, _, _, _, hs.bx0.lds, ?_⟩
      refine hs.fill4 (vs := z2.cells) rfl fun w12 _ hs => ?_
      intro kb1 hkb1
      rw [if_neg (by decide)]
      refine ⟨_, _, _, _, _, _, _, _, _, _, _, _, _, _, _, hs.bx4.lds, ?_⟩
      refine D27 (z := z2) hs.tail hgd2 (by omega) fun w13 hs => ⟨_, rfl, hkb1 _ _ ?_⟩
      rw [if_neg (by decide), wi (by omega) (by omega)]
      refine ⟨⟨by omega, by omega, z2, ?_⟩, by show xs.length - (i + 1).toNat < xs.length - i.toNat; omega⟩
      rw [show (i + 1).toNat = i.toNat + 1 from by omega]
      exact hs.to2.tail.to2
    refine ⟨_, hs.bx0.ld rfl, ?_⟩
    by_cases hw : xs[i.toNat].what = 0
    · rw [if_neg (by simpa using hw)]
      refine rest w7 ?_
      unfold lockAct; rw [if_neg (by simpa using hw)]; exact hs
    · rw [if_pos (by simpa using hw)]
      refine Sep.put (o := 0) hs (by simp [Act.cells]) fun w8 _ hs => rest w8 ?_
      unfold lockAct; rw [if_pos hw]; exact hs
  · rw [if_neg (by simp; omega)]
    refine C14 ⟨_, rfl, ?_⟩
    intro kb hkb
    rw [if_pos (by decide)]
    exact C11 fun w5 hf => ⟨_, rfl, hkb _ _ (h w5 (fr_old (hs.old 3 rfl) hf))⟩

theorem L8 {q : Sl} {xs : List Act} (hA : ActsL w q.a xs) (hql : q.l = xs.length)
    (h : ∀ w', (∀ D, Fr D w w') → K (.bool true) w') : XCP Try.prog 8 [q.v] w K KP := by
  show XCP Try.prog 8 [.slice q.a q.l q.c] w K KP
  apply E8; unfold F8
  by_cases hl : (q.l : Int) > 100
  · rw [if_pos (by simpa using hl)]
    exact C11 fun w2 hf => ⟨_, rfl, h w2 hf⟩
  rw [if_neg (by simpa using hl)]
  have hng : ¬ NewBad 0 2 [] := by unfold NewBad; simp
  refine D12 (s := ⟨none, 0, 0⟩) (Sep.begin w) (rdI_nil w (fun _ => True)) (by simp) (fun hb => absurd hb hng) fun _ pb w1 hs _ => ⟨_, _, rfl, ?_⟩
  refine D25 (s := ⟨none, 0, 0⟩) hs (rdI_nil w1 (fun _ => True)) (fun hb => absurd hb hng) fun _ z0 w2 hs _ => ⟨_, _, _, _, _, _, _, _, _, _, _, _, _, _, _, _, rfl, ?_⟩
  intro w3 p
  replace hs : Sep w3 (bx w2.heap.size zero5 53 :: _) := hs.box _ _
  clear_value w3
  refine hs.fill (vs := z0.cells) rfl fun w4 _ hs => ?_
  refine ⟨fun i u => 0 ≤ i ∧ i ≤ xs.length ∧ ∃ z1, Sep u (bx w2.heap.size z1.cells 53 :: pers [RefA z1 ((RR.new 0 2 []).acts ((xs.map condAct).take i.toNat))] :: SyncA pb ((RR.new 0 2 []).acts ((xs.map condAct).take i.toNat)).toSS :: [oldA w]),
    fun i u => xs.length - i.toNat, ⟨by omega, by omega, z0, hs⟩, ?_⟩
  rintro i u ⟨h0, h1, z1, hs⟩
  have hgd : ((RR.new 0 2 []).acts ((xs.map condAct).take i.toNat)).good 100 := (good_acts (xs := (xs.map condAct).take i.toNat) (new_good hng)).mono (by simp; omega)
  by_cases hi : i < xs.length
  · rw [if_pos (by simp; omega)]
    have hit : i.toNat < xs.length := by omega
    have hit2 : i.toNat < (xs.map condAct).length := by simpa using hit
    obtain ⟨pa, hpa, hc⟩ := hA.at_ (hs.old 3 rfl) hit
    rw [hpa, xptr_some]
    refine ⟨h0, by omega, _, _, _, _, hc, ?_⟩
    intro w6 p2
    replace hs : Sep w6 (bx u.heap.size [.int .i64 0, .int .i64 0, .int .i64 0, .int .i64 0] 31 :: _) := hs.box _ _
    clear_value w6
    refine hs.fill (vs := (xs[i.toNat]).cells) rfl fun w7 _ hs => ?_
    intro kb hkb
    have rest : ∀ w8, Sep w8 (bx u.heap.size (condAct xs[i.toNat]).cells 31 :: bx w2.heap.size z1.cells 53 :: pers [RefA z1 ((RR.new 0 2 []).acts ((xs.map condAct).take i.toNat))] :: SyncA pb ((RR.new 0 2 []).acts ((xs.map condAct).take i.toNat)).toSS :: [oldA w]) → kb w8 := by
      intro w8 hs
      refine hkb w8 ⟨_, _, _, _, _, _, _, _, _, _, _, _, _, _, _, hs.bx1.lds, _, _, _, _, hs.bx0.lds, ?_⟩
      refine D26 (z := z1) (x := condAct xs[i.toNat]) hs.to3.to3 hgd (by omega) fun z2 w9 hs => ⟨_, _, _, _, _, _, _, _, _, _, _, _, _, _, _, _, rfl, ?_⟩
      have ex : ((RR.new 0 2 []).acts ((xs.map condAct).take i.toNat)).act (condAct xs[i.toNat]) = (RR.new 0 2 []).acts ((xs.map condAct).take (i.toNat + 1)) := by
        rw [acts_step hit2]; simp
      have hgd2 : ((RR.new 0 2 []).acts ((xs.map condAct).take (i.toNat + 1))).good 100 := (good_acts (xs := (xs.map condAct).take (i.toNat + 1)) (new_good hng)).mono (by simp; omega)
      rw [ex] at hs
      intro w10 p3
      replace hs : Sep w10 (bx w9.heap.size zero5 53 :: _) := hs.box _ _
      clear_value w10
      refine hs.fill (vs := z2.cells) rfl fun w11 _ hs => ⟨_, _, _, _, _, _, _, _, _, _, _, _, _, _, _, hs.bx0.lds, ?_⟩
      refine hs.fill4 (vs := z2.cells) rfl fun w12 _ hs => ?_
      intro kb1 hkb1
      rw [if_neg (by decide)]
      refine ⟨_, _, _, _, _, _, _, _, _, _, _, _, _, _, _, hs.bx4.lds, ?_⟩
      refine D27 (z := z2) hs.tail hgd2 (by omega) fun w13 hs => ⟨_, rfl, hkb1 _ _ ?_⟩
      rw [if_neg (by decide), wi (by omega) (by omega)]
      refine ⟨⟨by omega, by omega, z2, ?_⟩, by show xs.length - (i + 1).toNat < xs.length - i.toNat; omega⟩
      rw [show (i + 1).toNat = i.toNat + 1 from by omega]
      exact hs.to2.tail.to2
    refine ⟨_, hs.bx0.ld rfl, ?_⟩
    intro kb2 hkb2
    have turn : kb2 (decide (xs[i.toNat].what < 2 ∨ xs[i.toNat].what > 4)) w7 := by
      refine hkb2 _ _ ?_
      by_cases hw : xs[i.toNat].what < 2 ∨ xs[i.toNat].what > 4
      · rw [if_pos (by simpa using hw)]
        refine Sep.put (o := 0) hs (by simp [Act.cells]) fun w8 _ hs => rest w8 ?_
        unfold condAct; rw [if_pos hw]; exact hs
      · rw [if_neg (by simpa using hw)]
        refine rest w7 ?_
        unfold condAct; rw [if_neg hw]; exact hs
    by_cases h2 : xs[i.toNat].what < 2
    · rw [if_pos (by simpa using h2)]
      simpa [h2] using turn
    · rw [if_neg (by simpa using h2)]
      exact ⟨_, hs.bx0.ld rfl, by simpa [h2] using turn⟩
  · rw [if_neg (by simp; omega)]
    refine C14 ⟨_, rfl, ?_⟩
    intro kb hkb
    rw [if_pos (by decide)]
    exact C11 fun w5 hf => ⟨_, rfl, hkb _ _ (h w5 (fr_old (hs.old 3 rfl) hf))⟩

theorem L6 {n : Int} {q t : Sl} {vs ts : List Int} {G1 G2 : Nat → Prop} (hv : RdI w q vs G1) (ht : RdI w t ts G2)
    (h : ∀ w', (∀ D, Fr D w w') → K (.bool true) w') : XCP Try.prog 6 [.int .i64 n, q.v, t.v] w K KP := by
  show XCP Try.prog 6 [.int .i64 n, .slice q.a q.l q.c, .slice t.a t.l t.c] w K KP
  apply E6; unfold F6
  have hvl := hv.2.1
  have htl := ht.2.1
  by_cases hl : (n < 1 ∨ n > 16) ∨ (q.l : Int) > 100
  · rw [if_pos (by simpa using hl)]
    exact C11 fun w2 hf => ⟨_, rfl, h w2 hf⟩
  rw [if_neg (by simpa using hl)]
  have hng : ¬ NewBad 0 0 [n] := by unfold NewBad; simp; omega
  refine xr_build T29 rfl (cs := [.int .i64 n]) (by rfl) rfl (by omega) fun w1 ho hf _ => ⟨_, _, _, rfl, ?_⟩
  have hs := (Sep.begin w).ext hf
  refine D12 (s := ⟨_, 1, 1⟩) (rooms := [n]) hs ⟨ho.rd, rfl, Nat.le_refl _⟩ (by simp) (fun hb => absurd hb hng) fun _ pb w2 hs _ => ⟨_, _, rfl, ?_⟩
  clear ho hf
  refine xr_build T29 rfl (cs := [.int .i64 n]) (by rfl) rfl (by omega) fun w3 ho hf _ => ⟨_, _, _, rfl, ?_⟩
  replace hs := hs.ext hf
  refine D25 (s := ⟨_, 1, 1⟩) (rooms := [n]) hs ⟨ho.rd, rfl, Nat.le_refl _⟩ (fun hb => absurd hb hng) fun _ z0 w4 hs _ => ⟨_, _, _, _, _, _, _, _, _, _, _, _, _, _, _, _, rfl, ?_⟩
  clear ho hf
  intro w5 p
  replace hs : Sep w5 (bx w4.heap.size zero5 53 :: _) := hs.box _ _
  clear_value w5
  refine hs.fill (vs := z0.cells) rfl fun w6 _ hs => C14 ⟨_, rfl, ?_⟩
  refine ⟨fun b i u => b = true ∧ 0 ≤ i ∧ i ≤ vs.length ∧ ∃ z1 R, Sep u (bx w4.heap.size z1.cells 53 :: pers [RefA z1 R] :: SyncA pb R.toSS :: [oldA w]) ∧ R.good (21 * i.toNat),
    fun b i u => vs.length - i.toNat, ⟨rfl, by omega, by omega, z0, _, hs, new_good hng⟩, ?_⟩
  rintro b i u ⟨rfl, h0, h1, z1, R, hs, hgd⟩
  by_cases hi : i < vs.length
  · rw [if_pos (by simp; omega)]
    have hit : i.toNat < vs.length := by omega
    replace hs := hs.drew
    obtain ⟨pa, hpa, hc⟩ := (rdI_old hv (hs.old 3 rfl)).nth hit
    refine ⟨fun y => Blk y w4.heap.size z1.cells 53 ∧ y.cell? (pa.add i.toNat) = some (.int .i64 vs[i.toNat]), ⟨hs.bx0, hc⟩, ?_⟩
    refine ⟨_, _, _, _, _, _, _, _, _, _, _, _, _, _, _, fun y hy => Blk.lds (V := z1.cells) hy.1, ?_⟩
    rw [hpa, xptr_some]
    refine ⟨h0, by omega, _, fun y hy => by simpa using hy.2, ?_⟩
    refine D26 (z := z1) (x := ⟨5, 0, 0, vs[i.toNat]⟩) hs.to2.to2 hgd (by omega) fun z2 w8 hs => ⟨_, _, _, _, _, _, _, _, _, _, _, _, _, _, _, _, rfl, fun _ => True, trivial, ?_⟩
    have hgd2 := good_act hgd ⟨5, 0, 0, vs[i.toNat]⟩
    refine hs.fill2 (vs := z2.cells) rfl fun w9 _ hs => ⟨fun _ => True, trivial, ?_⟩
    refine ⟨fun b k u => b = true ∧ 0 ≤ k ∧ k ≤ 20 ∧ ∃ z1 R, Sep u (pers [RefA z1 R] :: SyncA pb R.toSS :: bx w4.heap.size z1.cells 53 :: [oldA w]) ∧ R.good (21 * i.toNat + 1 + k.toNat),
      fun b k u => 20 - k.toNat, ⟨rfl, by omega, by omega, z2, _, hs, hgd2⟩, ?_⟩
    rintro b k u2 ⟨rfl, k0, k1, z3, R3, hs, hgd3⟩
    intro kb hkb
    have all : ∀ b4, kb b4 u2 := by
      intro b4
      refine hkb _ _ ?_
      by_cases hb : b4 = true ∧ k < 20
      · rw [if_pos (by simpa using hb)]
        refine ⟨_, _, _, _, _, _, _, _, _, _, _, _, _, _, _, hs.bx2.lds, ?_⟩
        refine D26 (z := z3) (x := ⟨6, 0, 0, 0⟩) hs hgd3 (by omega) fun z4 w10 hs => ⟨_, _, _, _, _, _, _, _, _, _, _, _, _, _, _, _, rfl, ?_⟩
        have hgd4 := good_act hgd3 ⟨6, 0, 0, 0⟩
        refine hs.fill2 (vs := z4.cells) rfl fun w11 _ hs => ?_
        rw [wi (by omega) (by omega)]
        exact ⟨⟨rfl, by omega, by omega, z4, _, hs, by rw [show 21 * i.toNat + 1 + (k + 1).toNat = 21 * i.toNat + 1 + k.toNat + 1 from by omega]; exact hgd4⟩, by show 20 - (k + 1).toNat < 20 - k.toNat; omega⟩
      · rw [if_neg (by simpa using hb)]
        intro kb1 hkb1
        rw [if_pos rfl]
        refine ⟨_, _, _, _, _, _, _, _, _, _, _, _, _, _, _, hs.bx2.lds, ?_⟩
        refine D27 (z := z3) hs hgd3 (by omega) fun w12 hs => ⟨_, rfl, hkb1 _ _ ?_⟩
        rw [wi (by omega) (by omega)]
        exact ⟨⟨rfl, by omega, by omega, z3, R3, hs.to2, hgd3.mono (by omega)⟩, by show vs.length - (i + 1).toNat < vs.length - i.toNat; omega⟩
    by_cases hit2 : i < t.l
    · rw [if_pos (by simpa using hit2)]
      obtain ⟨pt, hpt, hct⟩ := (rdI_old ht (hs.old 3 rfl)).nth (i := i.toNat) (by omega)
      rw [hpt, xptr_some]
      exact ⟨h0, hit2, _, by simpa using hct, all _⟩
    · rw [if_neg (by simpa using hit2)]
      exact all _
  · rw [if_neg (by simp; omega)]
    intro kb hkb
    rw [if_pos rfl]
    exact C11 fun w5 hf => ⟨_, rfl, hkb _ _ (h w5 (fr_old (hs.old 3 rfl) hf))⟩
end
end Go.Proofs.Ythegnnifbgikmaa
