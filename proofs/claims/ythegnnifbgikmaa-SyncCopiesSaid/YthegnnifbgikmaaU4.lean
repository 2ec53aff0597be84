/- The sync seat: is: the object stands as the document's state. -/
import Derived.Test.YthegnnifbgikmaaU3
set_option linter.unusedVariables false
set_option linter.unusedSimpArgs false
namespace Go.Proofs.Ythegnnifbgikmaa
open Go.X
section
variable {w : World} {K : Value → World → Prop} {KP : List PanicEntry → World → Prop} {pb : Nat} {z : S5} {R : RR} {L Γ : List Assn}

theorem D27 {n : Nat} (hs : Sep w (pers (RefA z R :: Γ) :: SyncA pb R.toSS :: L)) (hg : R.good n) (hn : n ≤ 100000)
    (h : ∀ w', Sep w' (pers (RefA z R :: Γ) :: SyncA pb R.toSS :: L) → K (.bool true) w') :
    XCP Try.prog 27 [.pointer (some ⟨pb, 0, none⟩), z.v] w K KP := by
  show XCP Try.prog 27 [.pointer (some ⟨pb, 0, none⟩), .agg #[.slice z.o.a z.o.l z.o.c, .slice z.c.a z.c.l z.c.c, .slice z.r.a z.r.l z.r.c, .slice z.s.a z.s.l z.s.c, .slice z.t.a z.t.l z.t.c]] w K KP
  apply E27; unfold F27
  intro w0 p
  replace hs : Sep w0 (bx w.heap.size z.cells 53 :: pers (RefA z R :: Γ) :: SyncA pb R.toSS :: L) := hs.box _ _
  clear_value w0
  have hfine := hg.fine
  have hrl := hg.rl
  have hcl := hg.cl
  have hol := hg.ol
  have hsl := hg.sl
  have htl := hg.tl
  refine ⟨fun i u => 0 ≤ i ∧ i ≤ R.owners.length ∧ Sep u (bx w.heap.size z.cells 53 :: pers (RefA z R :: Γ) :: SyncA pb R.toSS :: L), fun i u => R.owners.length - i.toNat, ⟨by omega, by omega, hs⟩, ?_⟩
  rintro i u ⟨h0, h1, hs⟩
  refine ⟨_, _, _, hs.bx0.ld rfl, ?_⟩
  obtain ⟨G, hR⟩ := hs.to1.known 0 rfl
  have hR : RefAt u z R G := hR
  have lo := hR.o.2.1
  by_cases hi : i < R.owners.length
  · rw [if_pos (by simp; omega)]
    obtain ⟨_, g, hS, _⟩ := hs.at2
    refine C20 hS ⟨_, _, rfl, ?_⟩
    have hit : i.toNat < R.owners.length := by omega
    have eo : R.toSS.owner i = (R.owners[i.toNat], 0) := by
      unfold SS.owner; rw [if_neg (by show ¬ (i < 0 ∨ i ≥ R.owners.length); omega)]
      show ((R.owners[i.toNat]?).getD 0, (0 : Int)) = _
      rw [List.getElem?_eq_getElem hit]; rfl
    rw [eo]
    refine ⟨_, _, _, hs.bx0.ld rfl, ?_⟩
    obtain ⟨pa, hpa, hc⟩ := hR.o.nth hit
    rw [hpa, xptr_some]
    refine ⟨h0, by omega, _, by simpa using hc, ?_⟩
    intro kb hkb
    rw [if_neg (by simp)]
    refine C14 ⟨_, rfl, hkb _ _ ?_⟩
    rw [if_neg (by simp), wi (by omega) (by omega)]
    exact ⟨⟨by omega, by omega, hs⟩, by show R.owners.length - (i + 1).toNat < R.owners.length - i.toNat; omega⟩
  rw [if_neg (by simp; omega)]
  refine ⟨fun i u => 0 ≤ i ∧ i ≤ R.conds.length ∧ Sep u (bx w.heap.size z.cells 53 :: pers (RefA z R :: Γ) :: SyncA pb R.toSS :: L), fun i u => R.conds.length - i.toNat, ⟨by omega, by omega, hs⟩, ?_⟩
  rintro i u ⟨h0, h1, hs⟩
  refine ⟨_, _, _, hs.bx0.ld rfl, ?_⟩
  obtain ⟨G, hR⟩ := hs.to1.known 0 rfl
  have hR : RefAt u z R G := hR
  have lc := hR.c.len
  by_cases hi : i < R.conds.length
  · rw [if_pos (by simp; omega)]
    obtain ⟨_, g, hS, _⟩ := hs.at2
    have hit : i.toNat < R.conds.length := by omega
    have eo : R.toSS.waits i = (R.conds[i.toNat], 0) := by
      unfold SS.waits; rw [if_neg (by show ¬ (i < 0 ∨ i ≥ R.conds.length); omega)]
      show ((R.conds[i.toNat]?).getD [], (0 : Int)) = _
      rw [List.getElem?_eq_getElem hit]; rfl
    refine C21 hS hfine (by omega) fun s' w2 ho hf => ⟨_, _, _, _, rfl, ?_⟩
    rw [eo] at ho ⊢
    replace hs := hs.add (A := IntsA s' R.conds[i.toNat]) hf (OwnI_rdI ho)
    refine ⟨_, _, _, hs.bx1.ld rfl, ?_⟩
    obtain ⟨G2, hR2⟩ := hs.to2.known 0 rfl
    have hR2 : RefAt w2 z R G2 := hR2
    obtain ⟨pa, q, hpa, hc, hq⟩ := hR2.c.nth (List.getElem?_eq_getElem hit)
    rw [hpa, xptr_some]
    refine ⟨h0, by omega, q.a, q.l, q.c, by simpa [Sl.v] using hc, ?_⟩
    have hxl := (hg.cd _ (List.getElem_mem hit)).1
    refine C22 (s1 := s') (s2 := q) (xs := R.conds[i.toNat]) ho.rd ho.len hq.1 hq.2.1 (by omega) fun w3 hf3 => ⟨_, rfl, ?_⟩
    replace hs := (hs.ext hf3).tail
    intro kb hkb
    rw [if_neg (by simp)]
    refine C14 ⟨_, rfl, hkb _ _ ?_⟩
    rw [if_neg (by simp), wi (by omega) (by omega)]
    exact ⟨⟨by omega, by omega, hs⟩, by show R.conds.length - (i + 1).toNat < R.conds.length - i.toNat; omega⟩
  rw [if_neg (by simp; omega)]
  refine ⟨fun i u => 0 ≤ i ∧ i ≤ R.rooms.length ∧ Sep u (bx w.heap.size z.cells 53 :: pers (RefA z R :: Γ) :: SyncA pb R.toSS :: L), fun i u => R.rooms.length - i.toNat, ⟨by omega, by omega, hs⟩, ?_⟩
  rintro i u ⟨h0, h1, hs⟩
  refine ⟨_, _, _, hs.bx0.ld rfl, ?_⟩
  obtain ⟨G, hR⟩ := hs.to1.known 0 rfl
  have hR : RefAt u z R G := hR
  have lr := hR.r.2.1
  by_cases hi : i < R.rooms.length
  · rw [if_pos (by simp; omega)]
    obtain ⟨_, g, hS, _⟩ := hs.at2
    have hit : i.toNat < R.rooms.length := by omega
    have hch := R.chan_at i h0 (by omega)
    have el : R.toSS.chans.length = R.rooms.length := R.chans_length
    have er : R.toSS.rooms i = (R.rooms[i.toNat], 0) := by
      unfold SS.rooms; rw [if_neg (by omega), hch]
      show ((R.rooms[i.toNat]?).getD 0, (0 : Int)) = _
      rw [List.getElem?_eq_getElem hit]; rfl
    have ev : R.toSS.vals i = (R.values i, 0) := by
      unfold SS.vals; rw [if_neg (by omega), hch]
    refine C29 hS ⟨_, _, rfl, ?_⟩
    rw [er]
    refine C28 hS hfine (by omega) fun s' w2 ho hf => ⟨_, _, _, _, rfl, ?_⟩
    rw [ev] at ho ⊢
    replace hs := hs.add (A := IntsA s' (R.values i)) hf (OwnI_rdI ho)
    refine ⟨_, _, _, _, _, _, _, _, _, _, _, _, _, _, _, hs.bx1.lds, ?_⟩
    have hmi : ((i.toNat : Nat) : Int) = i := by omega
    have htk := hg.tk i.toNat hit
    have hln := hg.sentLen i.toNat hit
    rw [hmi] at htk hln
    obtain ⟨G2, hR2, hr2⟩ := hs.to2.grow 0 rfl
    have hR2 : RefAt w2 z R G2 := hR2
    refine C57 (z := z) hR2 h0 (by omega) (by omega) htk.1 htk.2 fun q w3 hq hf3 => ⟨_, _, _, rfl, ?_⟩
    replace hs := (hr2 w3 (IntsA q (R.values i)) hf3 (hq.mono fun b _ hb => .inl hb)).back2

    refine ⟨_, _, _, hs.bx1.ld rfl, ?_⟩
    obtain ⟨G3, hR3⟩ := hs.to2.known 1 rfl
    have hR3 : RefAt w3 z R G3 := hR3
    obtain ⟨pa, hpa, hc⟩ := hR3.r.nth hit
    rw [hpa, xptr_some]
    refine ⟨h0, by omega, _, by simpa using hc, ?_⟩
    have hvl := R.values_length i
    obtain ⟨_, hl1⟩ := hs.at0
    have hl1 : s'.l = (R.values i).length := hl1.2.1
    obtain ⟨_, hl2⟩ := hs.to2.known 0 rfl
    have hl2 : q.l = (R.values i).length := hl2.2.1
    intro kb hkb
    rw [if_neg (by simp)]
    refine C14 ⟨_, rfl, C14 ⟨_, rfl, hkb _ _ ?_⟩⟩
    rw [if_neg (by rw [hl1, hl2]; simp; decide)]
    refine ⟨fun k u => 0 ≤ k ∧ k ≤ (R.values i).length ∧ Sep u (IntsA s' (R.values i) :: bx w.heap.size z.cells 53 :: pers (IntsA q (R.values i) :: RefA z R :: Γ) :: SyncA pb R.toSS :: L), fun k u => (R.values i).length - k.toNat, ⟨by omega, by omega, hs⟩, ?_⟩
    rintro k u2 ⟨k0, k1, hs⟩
    by_cases hk : k < (R.values i).length
    · rw [if_pos (by simp; omega)]
      have hkt : k.toNat < (R.values i).length := by omega
      replace hs := hs.drew
      refine ⟨fun y => y = u2.drew, rfl, ?_⟩
      obtain ⟨_, hA⟩ := hs.at0
      have hA : RdI u2.drew s' (R.values i) _ := hA
      obtain ⟨_, hB⟩ := hs.to2.known 0 rfl
      have hB : RdI u2.drew q (R.values i) _ := hB
      obtain ⟨p1, hp1, hc1⟩ := hA.nth hkt
      obtain ⟨p2, hp2, hc2⟩ := hB.nth hkt
      rw [hp1, hp2, xptr_some]
      refine ⟨k0, by omega, _, fun y hy => by subst hy; simpa using hc1, ?_⟩
      rw [xptr_some]
      refine ⟨k0, by omega, _, fun y hy => by subst hy; simpa using hc2, ?_⟩
      rw [if_neg (by simp), wi (by omega) (by omega)]
      exact ⟨⟨by omega, by omega, hs⟩, by show (R.values i).length - (k + 1).toNat < (R.values i).length - k.toNat; omega⟩
    · rw [if_neg (by simp; omega), wi (by omega) (by omega)]
      exact ⟨⟨by omega, by omega, hs.tail.to1.drop0.to1⟩, by show R.rooms.length - (i + 1).toNat < R.rooms.length - i.toNat; omega⟩
  · rw [if_neg (by simp; omega)]
    exact h u hs.tail
end
end Go.Proofs.Ythegnnifbgikmaa
