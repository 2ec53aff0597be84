/- The sync seat: the document's Same; the law of copies. -/
import Derived.Test.YthegnnifbgikmaaU10
set_option linter.unusedVariables false
set_option linter.unusedSimpArgs false
namespace Go.Proofs.Ythegnnifbgikmaa
open Go.X
theorem chans_get (R : RR) {q : Nat} (hq : q < R.rooms.length) : R.chans[q]? = some ⟨R.values q, R.roomAt q, R.takenAt q⟩ := by
  simp only [RR.chans, List.getElem?_map, List.getElem?_range hq, Option.map_some]
theorem chans_same {R1 R2 : RR} (hr : R1.rooms = R2.rooms) (h : ∀ q : Nat, q < R1.rooms.length → R1.values q = R2.values q ∧ R1.takenAt q = R2.takenAt q) : R1.chans = R2.chans := by
  apply List.ext_getElem?
  intro i
  rcases Nat.lt_or_ge i R1.rooms.length with hi | hi
  · rw [chans_get R1 hi, chans_get R2 (by rw [← hr]; exact hi), (h i hi).1, (h i hi).2]
    simp only [RR.roomAt, hr]
  · rw [List.getElem?_eq_none (by rw [R1.chans_length]; exact hi), List.getElem?_eq_none (by rw [R2.chans_length, ← hr]; exact hi)]
section
variable {w : World} {K : Value → World → Prop} {KP : List PanicEntry → World → Prop} {pb : Nat} {S : SS} {g : Nat → Nat}
theorem RefAt.old {w0 u : World} {z : S5} {R : RR} {G : Nat → Prop} (hr : RefAt w0 z R G) (hf : ∀ D, Fr D w0 u) : RefAt u z R (fun b => G b ∧ b < w0.heap.size) :=
  (hr.mono (fun b hb hg => ⟨hg, hb⟩)).frame (hf (fun _ => False)) (fun _ _ h => h)
theorem C33 {z1 z2 : S5} {R1 R2 : RR} {G1 G2 : Nat → Prop} {n : Nat} (h1 : RefAt w z1 R1 G1) (h2 : RefAt w z2 R2 G2) (hg1 : R1.good n) (hg2 : R2.good n) (hn : n ≤ 100000)
    (ht : R1.toSS = R2.toSS → ∀ w', (∀ D, Fr D w w') → K (.bool true) w') (hf : R1.toSS ≠ R2.toSS → ∀ w', (∀ D, Fr D w w') → K (.bool false) w') :
    XCP Try.prog 33 [z1.v, z2.v] w K KP := by
  show XCP Try.prog 33 [.agg #[.slice z1.o.a z1.o.l z1.o.c, .slice z1.c.a z1.c.l z1.c.c, .slice z1.r.a z1.r.l z1.r.c, .slice z1.s.a z1.s.l z1.s.c, .slice z1.t.a z1.t.l z1.t.c], .agg #[.slice z2.o.a z2.o.l z2.o.c, .slice z2.c.a z2.c.l z2.c.c, .slice z2.r.a z2.r.l z2.r.c, .slice z2.s.a z2.s.l z2.s.c, .slice z2.t.a z2.t.l z2.t.c]] w K KP
  apply E33; unfold F33
  intro w0 p w1 p1
  have hs : Sep w1 (bx w0.heap.size z2.cells 53 :: bx w.heap.size z1.cells 53 :: [oldA w]) := ((Sep.begin w).box _ _).box _ _
  clear_value w0 w1
  have q1 := hg1.ol; have q2 := hg1.cl; have q3 := hg1.rl
  have no : R1.toSS ≠ R2.toSS → ∀ u, Sep u (bx w0.heap.size z2.cells 53 :: bx w.heap.size z1.cells 53 :: [oldA w]) → K (.bool false) u := fun e u hs => hf e u (hs.old 2 rfl)
  refine ⟨_, _, _, hs.bx1.ld rfl, _, _, _, hs.bx0.ld rfl, ?_⟩
  have a1 := rdI_old h1.o (hs.old 2 rfl); have a2 := rdI_old h2.o (hs.old 2 rfl)
  refine C68 (s1 := z1.o) (s2 := z2.o) a1.1 a1.2.1 a2.1 a2.2.1 (by omega) fun w2 hf2 => ⟨_, rfl, ?_⟩
  clear a1 a2
  replace hs := hs.ext hf2
  intro kb hkb
  have bad : R1.toSS ≠ R2.toSS → ∀ u, Sep u (bx w0.heap.size z2.cells 53 :: bx w.heap.size z1.cells 53 :: [oldA w]) → kb true u := fun e u hs => hkb _ _ (by
    intro kb1 hkb1
    rw [if_pos rfl]
    exact hkb1 _ _ (by rw [if_pos rfl]; exact no e u hs))
  by_cases eo : R1.owners = R2.owners
  rotate_left
  · rw [if_pos (by simpa using eo)]
    exact bad (fun e => eo (congrArg SS.owners e)) w2 hs
  rw [if_neg (by simpa using eo)]
  refine ⟨_, _, _, hs.bx1.ld rfl, _, _, _, hs.bx0.ld rfl, ?_⟩
  have lc1 := h1.c.len
  have lc2 := h2.c.len
  by_cases el : R1.conds.length = R2.conds.length
  rotate_left
  · rw [show (((z1.c.l : Nat) : Int) != ((z2.c.l : Nat) : Int)) = true from by simp; omega]
    exact bad (fun e => el (congrArg (fun s => s.conds.length) e)) w2 hs
  rw [show (((z1.c.l : Nat) : Int) != ((z2.c.l : Nat) : Int)) = false from by simp; omega]
  refine hkb _ _ ?_
  intro kb1 hkb1
  rw [if_neg (by decide)]
  refine ⟨_, _, _, hs.bx1.ld rfl, _, _, _, hs.bx0.ld rfl, ?_⟩
  have a1 := rdI_old h1.r (hs.old 2 rfl); have a2 := rdI_old h2.r (hs.old 2 rfl)
  refine C68 (s1 := z1.r) (s2 := z2.r) a1.1 a1.2.1 a2.1 a2.2.1 (by omega) fun w3 hf3 => ⟨_, rfl, hkb1 _ _ ?_⟩
  clear a1 a2
  replace hs := hs.ext hf3
  by_cases er : R1.rooms = R2.rooms
  rotate_left
  · rw [if_pos (by simpa using er)]
    refine no (fun e => er ?_) w3 hs
    have hc : R1.chans = R2.chans := congrArg SS.chans e
    apply List.ext_getElem?
    intro i
    have hl : R1.rooms.length = R2.rooms.length := by rw [← R1.chans_length, ← R2.chans_length, hc]
    rcases Nat.lt_or_ge i R1.rooms.length with hi | hi
    · have := chans_get R1 hi
      rw [hc, chans_get R2 (by omega)] at this
      injection this with this
      have e2 : R2.roomAt i = R1.roomAt i := congrArg Ch.room this
      simp only [RR.roomAt, Int.toNat_natCast] at e2
      rw [List.getElem?_eq_getElem hi, List.getElem?_eq_getElem (show i < R2.rooms.length by omega)] at *
      simpa using e2.symm
    · rw [List.getElem?_eq_none hi, List.getElem?_eq_none (by omega)]
  rw [if_neg (by simpa using er)]
  refine ⟨fun i u => 0 ≤ i ∧ i ≤ R1.conds.length ∧ R1.conds.take i.toNat = R2.conds.take i.toNat ∧ Sep u (bx w0.heap.size z2.cells 53 :: bx w.heap.size z1.cells 53 :: [oldA w]), fun i u => R1.conds.length - i.toNat, ⟨by omega, by omega, by simp, hs⟩, ?_⟩
  clear hs
  rintro i u ⟨i0, i1, heq, hs⟩
  refine ⟨_, _, _, hs.bx1.ld rfl, ?_⟩
  by_cases hi : i < R1.conds.length
  · rw [if_pos (by simp; omega)]
    have hit : i.toNat < R1.conds.length := by omega
    have hit2 : i.toNat < R2.conds.length := by omega
    replace hs := hs.drew
    refine ⟨fun y => y = u.drew, rfl, ?_⟩
    obtain ⟨p2, s2, hp2, hc2, hr2⟩ := h1.c.nth (List.getElem?_eq_getElem hit)
    obtain ⟨p3, s3, hp3, hc3, hr3⟩ := h2.c.nth (List.getElem?_eq_getElem hit2)
    have at1 : ∀ {v : Value} {p : Addr}, w.cell? p = some v → u.drew.cell? p = some v := fun h => (hs.old 2 rfl (fun _ => False)).cell h (fun h => h)
    refine ⟨_, _, _, fun y hy => by subst hy; exact hs.bx1.ld rfl, ?_⟩
    rw [hp2, xptr_some]
    refine ⟨i0, by omega, s2.a, s2.l, s2.c, fun y hy => by subst hy; rw [Nat.mul_one]; exact at1 hc2, ?_⟩
    refine ⟨_, _, _, fun y hy => by subst hy; exact hs.bx0.ld rfl, ?_⟩
    rw [hp3, xptr_some]
    refine ⟨i0, by omega, s3.a, s3.l, s3.c, fun y hy => by subst hy; rw [Nat.mul_one]; exact at1 hc3, ?_⟩
    have a1 := rdI_old hr2 (hs.old 2 rfl); have a2 := rdI_old hr3 (hs.old 2 rfl)
    have hx := (hg1.cd _ (List.getElem_mem hit)).1
    refine C68 (s1 := s2) (s2 := s3) a1.1 a1.2.1 a2.1 a2.2.1 (by omega) fun w5 hf5 => ⟨_, rfl, fun _ => True, trivial, ?_⟩
    replace hs := hs.ext hf5
    by_cases hxy : R1.conds[i.toNat] = R2.conds[i.toNat]
    · rw [if_neg (by simp [hxy]), wi (by omega) (by omega)]
      refine ⟨⟨by omega, by omega, ?_, hs⟩, by show R1.conds.length - (i + 1).toNat < R1.conds.length - i.toNat; omega⟩
      rw [show (i + 1).toNat = i.toNat + 1 from by omega, List.take_add_one, List.take_add_one, heq, List.getElem?_eq_getElem hit, List.getElem?_eq_getElem hit2, hxy]
    · rw [if_pos (by simpa using hxy)]
      refine no (fun e => hxy ?_) w5 hs
      have hc : R1.conds = R2.conds := congrArg SS.conds e
      simp only [hc]
  rw [if_neg (by simp; omega)]
  rw [List.take_of_length_le (by omega), List.take_of_length_le (by omega)] at heq
  have hrl : R2.rooms.length = R1.rooms.length := by rw [er]
  have lr1 := h1.r.2.1
  have s1l := hg1.sl; have s2l := hg2.sl; have t1l := hg1.tl; have t2l := hg2.tl
  have ls1 := h1.s.len; have ls2 := h2.s.len
  refine ⟨fun i u => 0 ≤ i ∧ i ≤ R1.rooms.length ∧ (∀ q : Nat, q < i.toNat → R1.values q = R2.values q ∧ R1.takenAt q = R2.takenAt q) ∧ Sep u (bx w0.heap.size z2.cells 53 :: bx w.heap.size z1.cells 53 :: [oldA w]), fun i u => R1.rooms.length - i.toNat, ⟨by omega, by omega, fun q hq => by simp at hq, hs⟩, ?_⟩
  clear hs i0 i1 hi i u
  rintro i u ⟨i0, i1, hall, hs⟩
  refine ⟨_, _, _, hs.bx1.ld rfl, ?_⟩
  by_cases hi : i < R1.rooms.length
  · rw [if_pos (by simp; omega)]
    have hit : i.toNat < R1.rooms.length := by omega
    have hii : ((i.toNat : Nat) : Int) = i := by omega
    have k1 := hg1.tk i.toNat hit; have k2 := hg2.tk i.toNat (by omega)
    have m1 := hg1.sentLen i.toNat hit
    rw [hii] at k1 k2 m1
    have v1 := R1.values_length i; have v2 := R2.values_length i
    intro kb2 hkb2
    replace hs := hs.drew
    refine ⟨fun y => Sep y (bx w0.heap.size z2.cells 53 :: bx w.heap.size z1.cells 53 :: [oldA w]), hs, ?_⟩
    refine ⟨_, _, _, _, _, _, _, _, _, _, _, _, _, _, _, fun y hy => hy.bx1.lds, _, _, _, _, _, _, _, _, _, _, _, _, _, _, _, fun y hy => hy.bx0.lds, ?_⟩
    refine C57 (z := z1) (h1.old (hs.old 2 rfl)) i0 (by omega) (by omega) k1.1 k1.2 fun s2 w5 hr2 hf5 => ⟨_, _, _, rfl, hs.ext hf5, ?_⟩
    replace hs := hs.ext hf5
    refine C57 (z := z2) (h2.old (hs.old 2 rfl)) i0 (by omega) (by omega) k2.1 k2.2 fun s3 w6 hr3 hf6 => ⟨_, _, _, rfl, hs.ext hf6, ?_⟩
    replace hs := hs.ext hf6
    have hr2' := rdI_old hr2 hf6
    refine C69 (s1 := s2) (s2 := s3) hr2'.1 hr2'.2.1 hr3.1 hr3.2.1 (by omega) fun w7 hf7 => ⟨_, rfl, hs.ext hf7, ?_⟩
    replace hs := hs.ext hf7
    have differ : ¬ (R1.values i = R2.values i ∧ R1.takenAt i = R2.takenAt i) → R1.toSS ≠ R2.toSS := fun hd e => hd (by
      have hc : R1.chans = R2.chans := congrArg SS.chans e
      have := chans_get R1 hit
      rw [hc, chans_get R2 (by omega), hii] at this
      injection this with this
      exact ⟨(congrArg Ch.l this).symm, (congrArg Ch.first this).symm⟩)
    by_cases ev : R1.values i = R2.values i
    rotate_left
    · rw [if_pos (by simpa using ev)]
      refine hkb2 _ _ ?_
      rw [if_pos rfl]
      exact no (differ fun h => ev h.1) w7 hs
    rw [if_neg (by simpa using ev)]
    have hst1 : i.toNat < R1.sent.length := by omega
    have hst2 : i.toNat < R2.sent.length := by omega
    obtain ⟨p4, s4, hp4, hc4, hr4⟩ := h1.s.nth (List.getElem?_eq_getElem hst1)
    obtain ⟨p5, s5, hp5, hc5, hr5⟩ := h2.s.nth (List.getElem?_eq_getElem hst2)
    have at1 : ∀ {y : World}, Sep y (bx w0.heap.size z2.cells 53 :: bx w.heap.size z1.cells 53 :: [oldA w]) → ∀ {v : Value} {p : Addr}, w.cell? p = some v → y.cell? p = some v := by
      intro y hy v p h; exact (hy.old 2 rfl (fun _ => False)).cell h (fun h => h)
    refine ⟨_, _, _, fun y hy => hy.bx1.ld rfl, ?_⟩
    rw [hp4, xptr_some]
    refine ⟨i0, by omega, s4.a, s4.l, s4.c, fun y hy => by rw [Nat.mul_one]; exact at1 hy hc4, ?_⟩
    refine ⟨_, _, _, fun y hy => hy.bx0.ld rfl, ?_⟩
    rw [hp5, xptr_some]
    refine ⟨i0, by omega, s5.a, s5.l, s5.c, fun y hy => by rw [Nat.mul_one]; exact at1 hy hc5, hkb2 _ _ ?_⟩
    have l4 : s4.l = (R1.sentAt i).length := by rw [hr4.2.1]; simp only [RR.sentAt]; rw [List.getElem?_eq_getElem hst1]; rfl
    have l5 : s5.l = (R2.sentAt i).length := by rw [hr5.2.1]; simp only [RR.sentAt]; rw [List.getElem?_eq_getElem hst2]; rfl
    have ev' : (R1.values i).length = (R2.values i).length := by rw [ev]
    by_cases es : s4.l = s5.l
    · rw [if_neg (by simp [es]), wi (by omega) (by omega)]
      refine ⟨⟨by omega, by omega, fun q hq => ?_, hs⟩, by show R1.rooms.length - (i + 1).toNat < R1.rooms.length - i.toNat; omega⟩
      by_cases hq2 : q < i.toNat
      · exact hall q hq2
      · have : q = i.toNat := by omega
        subst this
        rw [hii]
        exact ⟨ev, by omega⟩
    · rw [if_pos (by simp; omega)]
      exact no (differ fun h => es (by omega)) w7 hs
  · rw [if_neg (by simp; omega)]
    refine ht ?_ u (hs.old 2 rfl)
    have hc : R1.chans = R2.chans := chans_same er fun q hq => hall q (by omega)
    show SS.mk R1.owners R1.conds R1.chans = SS.mk R2.owners R2.conds R2.chans
    rw [eo, heq, hc]

theorem C33b {z1 z2 : S5} {R1 R2 : RR} {G1 G2 : Nat → Prop} {n : Nat} (h1 : RefAt w z1 R1 G1) (h2 : RefAt w z2 R2 G2) (hg1 : R1.good n) (hg2 : R2.good n) (hn : n ≤ 100000)
    (h : ∀ b : Bool, (b = true ↔ R1.toSS = R2.toSS) → ∀ w', (∀ D, Fr D w w') → K (.bool b) w') : XCP Try.prog 33 [z1.v, z2.v] w K KP :=
  C33 h1 h2 hg1 hg2 hn (fun e w' hf => h true (by simp [e]) w' hf) (fun e w' hf => h false (by simp [e]) w' hf)
theorem C32b {pb2 : Nat} {S2 : SS} {g2 : Nat → Nat} (h1 : SyncAt w pb S g) (h2 : SyncAt w pb2 S2 g2) {n : Nat} (hfine : S.fine n) (hn : n ≤ 1000000) (hol : S.owners.length ≤ 64) (hcl : S.conds.length ≤ 64) (hhl : S.chans.length ≤ 64)
    (h : ∀ b : Bool, (b = true ↔ S = S2) → ∀ w', (∀ D, Fr D w w') → K (.bool b) w') :
    XCP Try.prog 32 [.pointer (some ⟨pb, 0, none⟩), .pointer (some ⟨pb2, 0, none⟩)] w K KP :=
  C32 h1 h2 hfine hn hol hcl hhl (fun e w' hf => h true (by simp [e]) w' hf) (fun e w' hf => h false (by simp [e]) w' hf)

/-- copies go on apart -/
theorem L10 {s q : Sl} {rooms : List Int} {G : Nat → Prop} {xs : List Act} {m c : Int} {x : Act} (hr : RdI w s rooms G) (hA : ActsL w q.a xs) (hql : q.l = xs.length)
    (h : ∀ w', (∀ D, Fr D w w') → K (.bool true) w') : XCP Try.prog 10 [.agg #[.int .i64 m, .int .i64 c, s.v], q.v, x.v] w K KP := by
  show XCP Try.prog 10 [.agg #[.int .i64 m, .int .i64 c, .slice s.a s.l s.c], .slice q.a q.l q.c, .agg #[.int .i64 x.what, .int .i64 x.n, .int .i64 x.thread, .int .i64 x.value]] w K KP
  apply E10; unfold F10
  intro w0 p w1 p1
  have hs : Sep w1 (bx w0.heap.size x.cells 31 :: bx w.heap.size (formCells m c s) 48 :: [oldA w]) := ((Sep.begin w).box _ _).box _ _
  clear_value w0 w1
  refine ⟨_, _, _, _, _, hs.bx1.lds, ?_⟩
  refine D23 (s := s) (q := q) hs (rdI_old hr (hs.old 2 rfl)) (fun hb w1 hs => ⟨_, rfl, ?_⟩) (fun hg w1 hs => ⟨_, rfl, ?_⟩)
  · rw [if_pos (by decide)]
    exact C11 fun w2 hf => ⟨_, rfl, h w2 (fr_old (hs.old 2 rfl) hf)⟩
  rw [if_neg (by decide)]
  refine ⟨_, _, _, _, _, hs.bx1.lds, ?_⟩
  have hng : ¬ NewBad m c rooms := fun hb => hg (.inl hb)
  refine D24 (s := s) (q := q) hs.to2 hr hA hql (by omega) hng fun pb z' w2 hs => ⟨_, _, _, _, _, _, _, _, _, _, _, _, _, _, _, _, _, rfl, ?_⟩
  have hgd : ((RR.new m c rooms).acts xs).good 100 := (good_acts (xs := xs) (new_good hng)).mono (by omega)
  generalize (RR.new m c rooms).acts xs = R at hs hgd
  intro w3 p2
  replace hs : Sep w3 (bx w2.heap.size zero5 53 :: _) := hs.box _ _
  clear_value w3
  refine hs.fill (vs := z'.cells) rfl fun w4 _ hs => ?_
  have hol := hgd.ol; have hcl := hgd.cl; have hrl := hgd.rl
  have hchl : R.toSS.chans.length ≤ 64 := by show R.chans.length ≤ 64; rw [R.chans_length]; exact hrl
  -- two copies
  refine D31 hs.to2 hgd.fine (by omega) hol hcl hchl fun pc w5 hs => ⟨_, rfl, ?_⟩
  refine D31 hs.to1 hgd.fine (by omega) hol hcl hchl fun pd w6 hs => ⟨_, rfl, ?_⟩
  replace hs : Sep w6 (SyncA pd R.toSS :: SyncA pb R.toSS :: SyncA pc R.toSS :: bx w2.heap.size z'.cells 53 :: pers [RefA z' R] :: oldA w :: bx w0.heap.size x.cells 31 :: bx w.heap.size (formCells m c s) 48 :: []) := hs
  intro kb hkb
  rw [if_neg (by decide)]
  obtain ⟨_, gb, hSb, _⟩ := hs.at1
  obtain ⟨_, gc, hSc, _⟩ := hs.at2
  refine C32 hSb hSc hgd.fine (by omega) hol hcl hchl (fun _ w7 hf7 => ⟨_, rfl, hkb _ _ ?_⟩) (fun e => absurd rfl e)
  replace hs := hs.ext hf7
  rw [if_neg (by decide)]
  refine ⟨_, _, _, _, _, _, _, _, _, _, _, _, _, _, _, hs.bx3.lds, _, _, _, _, hs.bx6.lds, ?_⟩
  -- the object goes on
  replace hs : Sep w7 (pers [RefA z' R, RefA z' R] :: SyncA pb R.toSS :: SyncA pd R.toSS :: SyncA pc R.toSS :: bx w2.heap.size z'.cells 53 :: oldA w :: bx w0.heap.size x.cells 31 :: bx w.heap.size (formCells m c s) 48 :: []) := (hs.to1.to4).dup
  refine D26 (z := z') (x := x) hs hgd (by omega) fun z2 w8 hs => ⟨_, _, _, _, _, _, _, _, _, _, _, _, _, _, _, _, rfl, ?_⟩
  have hgd2 := good_act hgd x
  intro w9 p3
  replace hs : Sep w9 (bx w8.heap.size zero5 53 :: _) := hs.box _ _
  clear_value w9
  refine hs.fill (vs := z2.cells) rfl fun w10 _ hs => ?_
  refine ⟨_, _, _, _, _, _, _, _, _, _, _, _, _, _, _, hs.bx5.lds, _, hs.bx7.ld rfl, ?_⟩
  replace hs : Sep w10 (pers [RefA z' R, RefA z2 (R.act x), RefA z' R] :: SyncA pd R.toSS :: bx w8.heap.size z2.cells 53 :: SyncA pb (R.act x).toSS :: SyncA pc R.toSS :: bx w2.heap.size z'.cells 53 :: oldA w :: bx w0.heap.size x.cells 31 :: bx w.heap.size (formCells m c s) 48 :: []) :=
    (hs.to3.to2).forget fun i A hA => by
      rcases i with _ | _ | _ | i
      · exact ⟨1, hA⟩
      · exact ⟨0, hA⟩
      · exact ⟨1, hA⟩
      · simp at hA
  refine D26 (z := z') (x := ⟨2, x.n, 7, 0⟩) hs hgd (by omega) fun z3 w11 hs => ⟨_, _, _, _, _, _, _, _, _, _, _, _, _, _, _, _, rfl, ?_⟩
  have hgd3 := good_act hgd ⟨2, x.n, 7, 0⟩
  generalize R.act ⟨2, x.n, 7, 0⟩ = R3 at hs hgd3
  generalize R.act x = R2 at hs hgd2
  intro w12 p4
  replace hs : Sep w12 (bx w11.heap.size zero5 53 :: _) := hs.box _ _
  clear_value w12
  refine hs.fill (vs := z3.cells) rfl fun w13 _ hs => ?_
  refine ⟨_, _, _, _, _, _, _, _, _, _, _, _, _, _, _, hs.bx6.lds, _, _, _, _, _, _, _, _, _, _, _, _, _, _, _, hs.bx3.lds, ?_⟩
  obtain ⟨_, hz1⟩ := hs.to1.known 2 rfl
  obtain ⟨_, hz2⟩ := hs.to1.known 1 rfl
  have hz1 : RefAt w13 z' R _ := hz1
  have hz2 : RefAt w13 z2 R2 _ := hz2
  refine C33b (z1 := z') (z2 := z2) hz1 hz2 (hgd.mono (by omega)) hgd2 (by omega) fun b6 hb6 w14 hf14 => ⟨_, rfl, ?_⟩
  replace hs := hs.ext hf14
  clear hz1 hz2
  refine ⟨_, hs.bx8.ld rfl, ?_⟩
  obtain ⟨_, gc, hSc, _⟩ := hs.at5
  refine C21 hSc hgd.fine (by omega) fun s8 w15 ho15 hf15 => ⟨_, _, _, _, rfl, ?_⟩
  have hxl : s8.l = (R.toSS.waits x.n).1.length := ho15.len
  have hbound : (R.toSS.waits x.n).1.length ≤ 100 := by
    unfold SS.waits
    split
    · simp
    · rename_i hh
      have hh : ¬ (x.n < 0 ∨ x.n ≥ R.conds.length) := hh
      exact (hgd.cd _ (getD_mem (l := R.conds) (i := x.n.toNat) (d := []) (by omega))).1
  replace hs := hs.add (A := row 1 3 s8 (ints (R.toSS.waits x.n).1)) hf15 ho15
  generalize (R.toSS.waits x.n).1 = ys at hs hxl hbound
  clear ho15 hf15 hSc
  replace hs : Sep w15 (row 1 3 s8 (ints ys) :: bx w11.heap.size z3.cells 53 :: pers [RefA z3 R3, RefA z2 R2, RefA z' R] :: SyncA pd R3.toSS :: bx w8.heap.size z2.cells 53 :: SyncA pb R2.toSS :: SyncA pc R.toSS :: bx w2.heap.size z'.cells 53 :: oldA w :: bx w0.heap.size x.cells 31 :: bx w.heap.size (formCells m c s) 48 :: []) := hs
  refine ⟨fun i u => 0 ≤ i ∧ i ≤ s8.l ∧ ∃ vs : List Value, vs.length = s8.l ∧ Sep u (row 1 3 s8 vs :: bx w11.heap.size z3.cells 53 :: pers [RefA z3 R3, RefA z2 R2, RefA z' R] :: SyncA pd R3.toSS :: bx w8.heap.size z2.cells 53 :: SyncA pb R2.toSS :: SyncA pc R.toSS :: bx w2.heap.size z'.cells 53 :: oldA w :: bx w0.heap.size x.cells 31 :: bx w.heap.size (formCells m c s) 48 :: []), fun i u => s8.l - i.toNat, ⟨by omega, by omega, _, by simp [hxl], hs⟩, ?_⟩
  clear hs
  rintro i u ⟨i0, i1, vs, hvl, hs⟩
  by_cases hi : i < s8.l
  · rw [if_pos (by simpa using hi)]
    have hsome : ∃ p5, s8.a = some p5 := by
      obtain ⟨_, hrd, _, _⟩ := hs.rowRd
      obtain ⟨p5, hp5, _⟩ := hrd.isSome (i := i.toNat) (v := vs[i.toNat]'(by omega)) (List.getElem?_eq_getElem (by omega))
      exact ⟨p5, hp5⟩
    obtain ⟨p5, hp5⟩ := hsome
    rw [hp5, xptr_some]
    refine ⟨i0, hi, ?_⟩
    rw [Nat.mul_one]
    refine Sep.rowPut hs (by omega) hp5 fun w16 _ hs => ?_
    rw [wi (by omega) (by omega)]
    exact ⟨⟨by omega, by omega, _, by simpa using hvl, hs⟩, by show s8.l - (i + 1).toNat < s8.l - i.toNat; omega⟩
  rw [if_neg (by simpa using hi)]
  replace hs := hs.tail
  have hch2 : R2.toSS.chans.length ≤ 64 := by show R2.chans.length ≤ 64; rw [R2.chans_length]; exact hgd2.rl
  intro kb1 hkb1
  rw [if_pos (by decide)]
  refine ⟨_, _, _, _, _, _, _, _, _, _, _, _, _, _, _, hs.bx6.lds, ?_⟩
  -- [z3, pers, pd, z2, pb, pc, z', old ..]
  replace hs : Sep u (pers [RefA z' R, RefA z3 R3, RefA z2 R2] :: SyncA pc R.toSS :: bx w11.heap.size z3.cells 53 :: SyncA pd R3.toSS :: bx w8.heap.size z2.cells 53 :: SyncA pb R2.toSS :: bx w2.heap.size z'.cells 53 :: oldA w :: bx w0.heap.size x.cells 31 :: bx w.heap.size (formCells m c s) 48 :: []) :=
    hs.to1.to5.to1.forget fun i A hA => by
      rcases i with _ | _ | _ | i
      · exact ⟨2, hA⟩
      · exact ⟨0, hA⟩
      · exact ⟨1, hA⟩
      · simp at hA
  refine D27 (z := z') hs hgd (by omega) fun w17 hs => ⟨_, rfl, hkb1 _ _ ?_⟩
  intro kb2 hkb2
  rw [if_pos rfl]
  refine ⟨_, _, _, _, _, _, _, _, _, _, _, _, _, _, _, hs.bx4.lds, ?_⟩
  replace hs : Sep w17 (pers [RefA z2 R2, RefA z' R, RefA z3 R3] :: SyncA pb R2.toSS :: SyncA pc R.toSS :: bx w11.heap.size z3.cells 53 :: SyncA pd R3.toSS :: bx w8.heap.size z2.cells 53 :: bx w2.heap.size z'.cells 53 :: oldA w :: bx w0.heap.size x.cells 31 :: bx w.heap.size (formCells m c s) 48 :: []) :=
    hs.to5.to1.forget fun i A hA => by
      rcases i with _ | _ | _ | i
      · exact ⟨2, hA⟩
      · exact ⟨0, hA⟩
      · exact ⟨1, hA⟩
      · simp at hA
  refine D27 (z := z2) hs hgd2 (by omega) fun w18 hs => ⟨_, rfl, hkb2 _ _ ?_⟩
  intro kb3 hkb3
  rw [if_pos rfl]
  refine ⟨_, _, _, _, _, _, _, _, _, _, _, _, _, _, _, hs.bx3.lds, ?_⟩
  replace hs : Sep w18 (pers [RefA z3 R3, RefA z2 R2, RefA z' R] :: SyncA pd R3.toSS :: SyncA pb R2.toSS :: SyncA pc R.toSS :: bx w11.heap.size z3.cells 53 :: bx w8.heap.size z2.cells 53 :: bx w2.heap.size z'.cells 53 :: oldA w :: bx w0.heap.size x.cells 31 :: bx w.heap.size (formCells m c s) 48 :: []) :=
    hs.to4.to1.forget fun i A hA => by
      rcases i with _ | _ | _ | i
      · exact ⟨2, hA⟩
      · exact ⟨0, hA⟩
      · exact ⟨1, hA⟩
      · simp at hA
  refine D27 (z := z3) hs hgd3 (by omega) fun w19 hs => ⟨_, rfl, hkb3 _ _ ?_⟩
  intro kb4 hkb4
  rw [if_pos rfl]
  obtain ⟨_, gb, hSb, _⟩ := hs.at2
  obtain ⟨_, gc, hSc, _⟩ := hs.at3
  refine C32b hSb hSc hgd2.fine (by omega) hgd2.ol hgd2.cl hch2 fun b7 hb7 w20 hf20 => ⟨_, rfl, hkb4 _ _ ?_⟩
  replace hs := hs.ext hf20
  obtain ⟨_, gb, hSb, _⟩ := hs.at2
  obtain ⟨_, gc, hSc, _⟩ := hs.at3
  intro kb5 hkb5
  have e7 : b7 = b6 := by rw [Bool.eq_iff_iff, hb7, hb6]; exact eq_comm
  rw [if_pos (by simp [e7])]
  refine C32b hSc hSb hgd.fine (by omega) hol hcl hchl fun b8 hb8 w21 hf21 => ⟨_, rfl, hkb5 _ _ ?_⟩
  replace hs := hs.ext hf21
  intro kb6 hkb6
  have e8 : b8 = b6 := by rw [Bool.eq_iff_iff, hb8, hb6]
  rw [if_pos (by simp [e8])]
  exact C11 fun w22 hf => ⟨_, rfl, hkb6 _ _ (h w22 (fr_old (hs.old 7 rfl) hf))⟩
end
end Go.Proofs.Ythegnnifbgikmaa
