/- The sync seat: Same, and the document's Same. -/
import Derived.Test.YthegnnifbgikmaaU8
set_option linter.unusedVariables false
set_option linter.unusedSimpArgs false
namespace Go.Proofs.Ythegnnifbgikmaa
open Go.X
section
variable {w : World} {K : Value → World → Prop} {KP : List PanicEntry → World → Prop} {pb : Nat} {S : SS} {g : Nat → Nat}

theorem F22_ok {s1 s2 : Sl} {xs ys : List Int} {G1 G2 : Nat → Prop} (hr1 : Rd w s1.a (ints xs) G1) (hl1 : s1.l = xs.length) (hr2 : Rd w s2.a (ints ys) G2) (hl2 : s2.l = ys.length) (hn : xs.length ≤ 1000000000)
    (h : ∀ w', (∀ D, Fr D w w') → K (.bool (xs == ys)) w') : F22 s1.a s1.l s1.c s2.a s2.l s2.c w K KP := by
  unfold F22
  by_cases hlen : xs.length = ys.length
  · rw [if_neg (by simp [hl1, hl2, hlen])]
    refine ⟨fun n u => 0 ≤ n ∧ n ≤ xs.length ∧ xs.take n.toNat = ys.take n.toNat ∧ ∀ D, Fr D w u, fun n u => xs.length - n.toNat, ⟨by omega, by omega, by simp, fun D => Fr.refl D w⟩, ?_⟩
    rintro n u ⟨hn0, hn1, heq, hf⟩
    by_cases hlt : n < xs.length
    · rw [if_pos (by simpa [hl1] using hlt)]
      have ht : n.toNat < xs.length := by omega
      have ht2 : n.toNat < ys.length := by omega
      obtain ⟨p1, hp1, -, hx1⟩ := hr1.isSome (ints_get_iff ht)
      obtain ⟨p2, hp2, -, hx2⟩ := hr2.isSome (ints_get_iff ht2)
      refine ⟨fun x => x = u.drew, rfl, ?_⟩
      rw [hp1, hp2, xptr_some]
      refine ⟨hn0, by omega, xs[n.toNat], fun x hx => by subst hx; simpa using (hf (fun _ => False)).cell hx1 (fun h => h), ?_⟩
      rw [xptr_some]
      refine ⟨hn0, by omega, ys[n.toNat], fun x hx => by subst hx; simpa using (hf (fun _ => False)).cell hx2 (fun h => h), ?_⟩
      have hfd : ∀ D, Fr D w u.drew := fun D => (hf D).trans (Fr.drew D u) (fun _ _ h => h) (fun _ _ h => h)
      by_cases hxy : xs[n.toNat] = ys[n.toNat]
      · rw [if_neg (by simp [hxy]), wi (by omega) (by omega)]
        refine ⟨⟨by omega, by omega, ?_, hfd⟩, by show xs.length - (n + 1).toNat < xs.length - n.toNat; omega⟩
        rw [show (n + 1).toNat = n.toNat + 1 from by omega, List.take_add_one, List.take_add_one, heq, List.getElem?_eq_getElem ht, List.getElem?_eq_getElem ht2, hxy]
      · rw [if_pos (by simpa using hxy)]
        have := h u.drew hfd
        rwa [show (xs == ys) = false from by
          rw [beq_eq_false_iff_ne]; intro e; subst e; exact hxy rfl] at this
    · rw [if_neg (by simpa [hl1] using hlt)]
      rw [List.take_of_length_le (by omega), List.take_of_length_le (by omega)] at heq
      subst heq
      have := h u hf
      rwa [show (xs == xs) = true from by simp] at this
  · rw [if_pos (by simp [hl1, hl2]; omega)]
    have := h w (fun D => Fr.refl D w)
    rwa [show (xs == ys) = false from by
      rw [beq_eq_false_iff_ne]; intro e; subst e; exact hlen rfl] at this
theorem C62 {s1 s2 : Sl} {xs ys : List Int} {G1 G2 : Nat → Prop} (hr1 : RdI w s1 xs G1) (hr2 : RdI w s2 ys G2) (hn : xs.length ≤ 1000000000)
    (h : ∀ w', (∀ D, Fr D w w') → K (.bool (xs == ys)) w') : XCP Try.prog 62 [s1.v, s2.v] w K KP := E62 (F22_ok (KP := KP) hr1.1 hr1.2.1 hr2.1 hr2.2.1 hn h)
theorem C67 {s1 s2 : Sl} {xs ys : List Int} {G1 G2 : Nat → Prop} (hr1 : RdI w s1 xs G1) (hr2 : RdI w s2 ys G2) (hn : xs.length ≤ 1000000000)
    (h : ∀ w', (∀ D, Fr D w w') → K (.bool (xs == ys)) w') : XCP Try.prog 67 [s1.v, s2.v] w K KP := E67 (F22_ok (KP := KP) hr1.1 hr1.2.1 hr2.1 hr2.2.1 hn h)
theorem C64 {s1 s2 : Sl} {xs ys : List Int} {G1 G2 : Nat → Prop} (hr1 : RdI w s1 xs G1) (hr2 : RdI w s2 ys G2) (hn : xs.length ≤ 1000000000)
    (h : ∀ w', (∀ D, Fr D w w') → K (.bool (xs == ys)) w') : XCP Try.prog 64 [.agg #[s1.v], .agg #[s2.v]] w K KP := by
  show XCP Try.prog 64 [.agg #[.slice s1.a s1.l s1.c], .agg #[.slice s2.a s2.l s2.c]] w K KP
  apply E64; unfold F64
  intro w0 p w1 p1
  have hs : Sep w1 (bx w0.heap.size [s2.v] 93 :: bx w.heap.size [s1.v] 93 :: [oldA w]) := ((Sep.begin w).box _ _).box _ _
  clear_value w0 w1
  have hf1 := hs.old 2 rfl
  refine ⟨_, _, _, by rw [add_zero_addr]; exact hs.bx1.ld rfl, _, _, _, by rw [add_zero_addr]; exact hs.bx0.ld rfl, ?_⟩
  exact C62 (s1 := s1) (s2 := s2) (rdI_old hr1 hf1) (rdI_old hr2 hf1) hn fun w2 hf => ⟨_, rfl, h w2 (fr_old hf1 hf)⟩
theorem RdL.old {w0 u : World} {s : Sl} {xss : List (List Int)} {G : Nat → Prop} (hr : RdL w0 s xss G) (hf : ∀ D, Fr D w0 u) : RdL u s xss (fun b => G b ∧ b < w0.heap.size) :=
  (hr.mono (fun b hb hg => ⟨hg, hb⟩)).frame (hf (fun _ => False)) (fun _ _ h => h)
/-- EqualFunc on conditions -/
theorem C63 {s1 s2 : Sl} {xss yss : List (List Int)} {G1 G2 : Nat → Prop} (hr1 : RdL w s1 xss G1) (hr2 : RdL w s2 yss G2) (hn : xss.length ≤ 1000000) (hx : ∀ xs ∈ xss, xs.length ≤ 1000000)
    (h : ∀ w', (∀ D, Fr D w w') → K (.bool (xss == yss)) w') : XCP Try.prog 63 [s1.v, s2.v, .func (.func 64) #[] #[]] w K KP := by
  show XCP Try.prog 63 [.slice s1.a s1.l s1.c, .slice s2.a s2.l s2.c, .func (.func 64) #[] #[]] w K KP
  apply E63; unfold F63
  have hl1 := hr1.len
  have hl2 := hr2.len
  by_cases hlen : xss.length = yss.length
  · rw [if_neg (by simp [hl1, hl2, hlen])]
    refine ⟨fun n u => 0 ≤ n ∧ n ≤ xss.length ∧ xss.take n.toNat = yss.take n.toNat ∧ Sep u [oldA w], fun n u => xss.length - n.toNat, ⟨by omega, by omega, by simp, Sep.begin w⟩, ?_⟩
    rintro n u ⟨hn0, hn1, heq, hs⟩
    by_cases hlt : n < xss.length
    · rw [if_pos (by simpa [hl1] using hlt)]
      have ht : n.toNat < xss.length := by omega
      have ht2 : n.toNat < yss.length := by omega
      obtain ⟨p1, q1, hp1, hc1, hq1⟩ := hr1.nth (List.getElem?_eq_getElem ht)
      rw [hp1, xptr_some]
      refine ⟨hn0, by omega, q1.a, q1.l, q1.c, ⟨by rw [add_zero_addr, Nat.mul_one]; exact (hs.old 0 rfl (fun _ => False)).cell hc1 (fun h => h), trivial⟩, ?_⟩
      intro w1 p3
      replace hs : Sep w1 (bx u.heap.size [.slice none 0 0] 93 :: _) := hs.box _ _
      clear_value w1
      refine hs.fill (vs := [q1.v]) rfl fun w2 _ hs => ?_
      obtain ⟨p2, q2, hp2, hc2, hq2⟩ := hr2.nth (List.getElem?_eq_getElem ht2)
      rw [hp2, xptr_some]
      refine ⟨hn0, by omega, q2.a, q2.l, q2.c, ⟨by rw [add_zero_addr, Nat.mul_one]; exact (hs.old 1 rfl (fun _ => False)).cell hc2 (fun h => h), trivial⟩, ?_⟩
      intro w3 p4
      replace hs : Sep w3 (bx w2.heap.size [.slice none 0 0] 93 :: _) := hs.box _ _
      clear_value w3
      refine hs.fill (vs := [q2.v]) rfl fun w4 _ hs => ?_
      refine ⟨_, _, _, hs.bx1.lds, _, _, _, hs.bx0.lds, ?_⟩
      show XCP Try.prog 64 [.agg #[q1.v], .agg #[q2.v]] w4 _ KP
      refine C64 (rdI_old hq1 (hs.old 2 rfl)) (rdI_old hq2 (hs.old 2 rfl)) (by have := hx _ (List.getElem_mem ht); omega) fun w5 hf5 => ⟨_, rfl, ?_⟩
      replace hs := (hs.ext hf5).tail.tail
      by_cases hxy : xss[n.toNat] = yss[n.toNat]
      · rw [if_neg (by simp [hxy]), wi (by omega) (by omega)]
        refine ⟨⟨by omega, by omega, ?_, hs⟩, by show xss.length - (n + 1).toNat < xss.length - n.toNat; omega⟩
        rw [show (n + 1).toNat = n.toNat + 1 from by omega, List.take_add_one, List.take_add_one, heq, List.getElem?_eq_getElem ht, List.getElem?_eq_getElem ht2, hxy]
      · rw [if_pos (by simpa using hxy)]
        have := h w5 (hs.old 0 rfl)
        rwa [show (xss == yss) = false from by
          rw [beq_eq_false_iff_ne]; intro e; subst e; exact hxy rfl] at this
    · rw [if_neg (by simpa [hl1] using hlt)]
      rw [List.take_of_length_le (by omega), List.take_of_length_le (by omega)] at heq
      subst heq
      have := h u (hs.old 0 rfl)
      rwa [show (xss == xss) = true from by simp] at this
  · rw [if_pos (by simp [hl1, hl2]; omega)]
    have := h w (fun D => Fr.refl D w)
    rwa [show (xss == yss) = false from by
      rw [beq_eq_false_iff_ne]; intro e; subst e; exact hlen rfl] at this

/-- rows of channels -/
def RdH (w : World) (s : Sl) (cs : List Ch) : Prop :=
  ∃ hs : List Sl, Rd w s.a (chCells hs cs) (fun _ => True) ∧ s.l = cs.length ∧ hs.length = cs.length ∧ ∀ (i : Nat) (q : Sl) (c : Ch), hs[i]? = some q → cs[i]? = some c → RdI w q c.l (fun _ => True)
theorem RdH.nth {s : Sl} {cs : List Ch} (h : RdH w s cs) {i : Nat} {c : Ch} (hc : cs[i]? = some c) :
    ∃ p q, s.a = some p ∧ w.cell? (p.add (i * 3)) = some (Sl.v q) ∧ w.cell? (p.add (i * 3 + 1)) = some (.int .i64 c.room) ∧ w.cell? (p.add (i * 3 + 2)) = some (.int .i64 c.first) ∧ RdI w q c.l (fun _ => True) := by
  obtain ⟨hs, h1, h2, h3, h4⟩ := h
  have hi : i < hs.length := by have := (List.getElem?_eq_some_iff.1 hc).1; omega
  have hcc := chCells_get (List.getElem?_eq_getElem hi) hc
  obtain ⟨p, hp, -, h0⟩ := h1.isSome hcc.1
  rw [hp] at h1
  exact ⟨p, hs[i], hp, h0, h1.cell hcc.2.1, h1.cell hcc.2.2, h4 i _ _ (List.getElem?_eq_getElem hi) hc⟩
theorem SyncR.rdC {ow cd ch : Sl} {qs hs : List Sl} (h : SyncR w pb S g ow cd ch qs hs) : RdL w cd S.conds (fun _ => True) :=
  ⟨qs, h.cds.rd.mono (fun _ _ _ => trivial), by have := h.cds.1; simpa using this.symm, h.nq, fun i q xs hq hx => (OwnI_rdI (h.q i q xs hq hx)).mono (fun _ _ _ => trivial)⟩
theorem SyncR.rdH {ow cd ch : Sl} {qs hs : List Sl} (h : SyncR w pb S g ow cd ch qs hs) : RdH w ch S.chans :=
  ⟨hs, h.chs.rd.mono (fun _ _ _ => trivial), by have := h.chs.1; rw [chCells_length hs S.chans h.nh] at this; omega, h.nh, fun i q c hq hx => (OwnI_rdI (h.h i q c hq hx)).mono (fun _ _ _ => trivial)⟩
theorem SyncR.rdO {ow cd ch : Sl} {qs hs : List Sl} (h : SyncR w pb S g ow cd ch qs hs) : RdI w ow S.owners (fun _ => True) := (OwnI_rdI h.own).mono (fun _ _ _ => trivial)
theorem rdI_old' {w0 u : World} {s : Sl} {xs : List Int} (hr : RdI w0 s xs (fun _ => True)) (hf : ∀ D, Fr D w0 u) : RdI u s xs (fun _ => True) := (rdI_old hr hf).mono (fun _ _ _ => trivial)
theorem rdL_old' {w0 u : World} {s : Sl} {xs : List (List Int)} (hr : RdL w0 s xs (fun _ => True)) (hf : ∀ D, Fr D w0 u) : RdL u s xs (fun _ => True) := (RdL.old hr hf).mono (fun _ _ _ => trivial)
theorem rdH_old' {w0 u : World} {s : Sl} {xs : List Ch} (hr : RdH w0 s xs) (hf : ∀ D, Fr D w0 u) : RdH u s xs := by
  obtain ⟨hs, h1, h2, h3, h4⟩ := hr
  exact ⟨hs, ((h1.mono (G' := fun b => b < w0.heap.size) (fun b hb _ => hb)).frame (hf (fun _ => False)) (fun _ _ h => h)).mono (fun _ _ _ => trivial), h2, h3, fun i q c hq hc => rdI_old' (h4 i q c hq hc) hf⟩

theorem Ch.eq_iff {c d : Ch} : c = d ↔ c.l = d.l ∧ c.room = d.room ∧ c.first = d.first := by
  cases c; cases d; simp
theorem C66 {s1 s2 : Sl} {c d : Ch} (hr1 : RdI w s1 c.l (fun _ => True)) (hr2 : RdI w s2 d.l (fun _ => True)) (hn : c.l.length ≤ 1000000)
    (ht : c = d → ∀ w', (∀ D, Fr D w w') → K (.bool true) w') (hf : c ≠ d → ∀ w', (∀ D, Fr D w w') → K (.bool false) w') :
    XCP Try.prog 66 [.agg #[s1.v, .int .i64 c.room, .int .i64 c.first], .agg #[s2.v, .int .i64 d.room, .int .i64 d.first]] w K KP := by
  show XCP Try.prog 66 [.agg #[.slice s1.a s1.l s1.c, .int .i64 c.room, .int .i64 c.first], .agg #[.slice s2.a s2.l s2.c, .int .i64 d.room, .int .i64 d.first]] w K KP
  apply E66; unfold F66
  intro w0 p w1 p1
  have hs : Sep w1 (bx w0.heap.size [s2.v, .int .i64 d.room, .int .i64 d.first] 81 :: bx w.heap.size [s1.v, .int .i64 c.room, .int .i64 c.first] 81 :: [oldA w]) := ((Sep.begin w).box _ _).box _ _
  clear_value w0 w1
  refine ⟨_, _, _, by rw [add_zero_addr]; exact hs.bx1.ld rfl, _, _, _, by rw [add_zero_addr]; exact hs.bx0.ld rfl, ?_⟩
  refine C67 (s1 := s1) (s2 := s2) (rdI_old hr1 (hs.old 2 rfl)) (rdI_old hr2 (hs.old 2 rfl)) (by omega) fun w2 hf2 => ⟨_, rfl, ?_⟩
  replace hs := hs.ext hf2
  have yes : c = d → K (.bool true) w2 := fun e => ht e w2 (hs.old 2 rfl)
  have no : c ≠ d → K (.bool false) w2 := fun e => hf e w2 (hs.old 2 rfl)
  intro kb hkb
  by_cases h1 : c.l = d.l
  · rw [if_pos (by simpa using h1)]
    refine ⟨_, hs.bx1.ld rfl, _, hs.bx0.ld rfl, hkb _ _ ?_⟩
    intro kb1 hkb1
    by_cases h2 : c.room = d.room
    · rw [if_pos (by simpa using h2)]
      refine ⟨_, hs.bx1.ld rfl, _, hs.bx0.ld rfl, hkb1 _ _ ?_⟩
      by_cases h3 : c.first = d.first
      · rw [show (c.first == d.first) = true from by simpa using h3]; exact yes (Ch.eq_iff.2 ⟨h1, h2, h3⟩)
      · rw [show (c.first == d.first) = false from by simpa using h3]; exact no (fun e => h3 (by rw [e]))
    · rw [if_neg (by simpa using h2)]
      exact hkb1 _ _ (no (fun e => h2 (by rw [e])))
  · rw [if_neg (by simpa using h1)]
    refine hkb _ _ ?_
    intro kb1 hkb1
    rw [if_neg (by decide)]
    exact hkb1 _ _ (no (fun e => h1 (by rw [e])))
/-- EqualFunc on channels -/
theorem C65 {s1 s2 : Sl} {xss yss : List Ch} (hr1 : RdH w s1 xss) (hr2 : RdH w s2 yss) (hn : xss.length ≤ 1000000) (hx : ∀ c ∈ xss, c.l.length ≤ 1000000)
    (ht : xss = yss → ∀ w', (∀ D, Fr D w w') → K (.bool true) w') (hf : xss ≠ yss → ∀ w', (∀ D, Fr D w w') → K (.bool false) w') : XCP Try.prog 65 [s1.v, s2.v, .func (.func 66) #[] #[]] w K KP := by
  show XCP Try.prog 65 [.slice s1.a s1.l s1.c, .slice s2.a s2.l s2.c, .func (.func 66) #[] #[]] w K KP
  apply E65; unfold F65
  have hl1 : s1.l = xss.length := by obtain ⟨_, _, h, _⟩ := hr1; exact h
  have hl2 : s2.l = yss.length := by obtain ⟨_, _, h, _⟩ := hr2; exact h
  by_cases hlen : xss.length = yss.length
  · rw [if_neg (by simp [hl1, hl2, hlen])]
    refine ⟨fun n u => 0 ≤ n ∧ n ≤ xss.length ∧ xss.take n.toNat = yss.take n.toNat ∧ Sep u [oldA w], fun n u => xss.length - n.toNat, ⟨by omega, by omega, by simp, Sep.begin w⟩, ?_⟩
    rintro n u ⟨hn0, hn1, heq, hs⟩
    by_cases hlt : n < xss.length
    · rw [if_pos (by simpa [hl1] using hlt)]
      have ht1 : n.toNat < xss.length := by omega
      have ht2 : n.toNat < yss.length := by omega
      obtain ⟨p1, q1, hp1, hc1, hd1, he1, hq1⟩ := hr1.nth (List.getElem?_eq_getElem ht1)
      obtain ⟨p2, q2, hp2, hc2, hd2, he2, hq2⟩ := hr2.nth (List.getElem?_eq_getElem ht2)
      rw [hp1, xptr_some]
      have at1 : ∀ {v : Value} {p : Addr}, w.cell? p = some v → u.cell? p = some v := fun h => (hs.old 0 rfl (fun _ => False)).cell h (fun h => h)
      refine ⟨hn0, by omega, q1.a, q1.l, q1.c, _, _, ⟨by rw [add_zero_addr]; exact at1 hc1, by rw [add_add]; exact at1 hd1, by rw [add_add]; exact at1 he1, trivial⟩, ?_⟩
      intro w1 p3
      replace hs : Sep w1 (bx u.heap.size [.slice none 0 0, .int .i64 0, .int .i64 0] 81 :: _) := hs.box _ _
      clear_value w1
      refine hs.fill (vs := [q1.v, .int .i64 xss[n.toNat].room, .int .i64 xss[n.toNat].first]) rfl fun w2 _ hs => ?_
      have at2 : ∀ {v : Value} {p : Addr}, w.cell? p = some v → w2.cell? p = some v := fun h => (hs.old 1 rfl (fun _ => False)).cell h (fun h => h)
      rw [hp2, xptr_some]
      refine ⟨hn0, by omega, q2.a, q2.l, q2.c, _, _, ⟨by rw [add_zero_addr]; exact at2 hc2, by rw [add_add]; exact at2 hd2, by rw [add_add]; exact at2 he2, trivial⟩, ?_⟩
      intro w3 p4
      replace hs : Sep w3 (bx w2.heap.size [.slice none 0 0, .int .i64 0, .int .i64 0] 81 :: _) := hs.box _ _
      clear_value w3
      refine hs.fill (vs := [q2.v, .int .i64 yss[n.toNat].room, .int .i64 yss[n.toNat].first]) rfl fun w4 _ hs => ?_
      refine ⟨_, _, _, _, _, hs.bx1.lds, _, _, _, _, _, hs.bx0.lds, ?_⟩
      show XCP Try.prog 66 [.agg #[q1.v, .int .i64 xss[n.toNat].room, .int .i64 xss[n.toNat].first], .agg #[q2.v, .int .i64 yss[n.toNat].room, .int .i64 yss[n.toNat].first]] w4 _ KP
      refine C66 (rdI_old' hq1 (hs.old 2 rfl)) (rdI_old' hq2 (hs.old 2 rfl)) (by have := hx _ (List.getElem_mem ht1); omega) (fun hxy w5 hf5 => ⟨_, rfl, ?_⟩) (fun hxy w5 hf5 => ⟨_, rfl, ?_⟩)
      · replace hs := (hs.ext hf5).tail.tail
        rw [if_neg (by decide), wi (by omega) (by omega)]
        refine ⟨⟨by omega, by omega, ?_, hs⟩, by show xss.length - (n + 1).toNat < xss.length - n.toNat; omega⟩
        rw [show (n + 1).toNat = n.toNat + 1 from by omega, List.take_add_one, List.take_add_one, heq, List.getElem?_eq_getElem ht1, List.getElem?_eq_getElem ht2, hxy]
      · replace hs := (hs.ext hf5).tail.tail
        rw [if_pos (by decide)]
        exact hf (fun e => hxy (by subst e; rfl)) w5 (hs.old 0 rfl)
    · rw [if_neg (by simpa [hl1] using hlt)]
      rw [List.take_of_length_le (by omega), List.take_of_length_le (by omega)] at heq
      exact ht heq u (hs.old 0 rfl)
  · rw [if_pos (by simp [hl1, hl2]; omega)]
    exact hf (fun e => hlen (by rw [e])) w (fun D => Fr.refl D w)

/-- Same, of two objects -/
theorem C32 {pb2 : Nat} {S2 : SS} {g2 : Nat → Nat} (h1 : SyncAt w pb S g) (h2 : SyncAt w pb2 S2 g2) {n : Nat} (hfine : S.fine n) (hn : n ≤ 1000000) (hol : S.owners.length ≤ 64) (hcl : S.conds.length ≤ 64) (hhl : S.chans.length ≤ 64)
    (ht : S = S2 → ∀ w', (∀ D, Fr D w w') → K (.bool true) w') (hf : S ≠ S2 → ∀ w', (∀ D, Fr D w w') → K (.bool false) w') :
    XCP Try.prog 32 [.pointer (some ⟨pb, 0, none⟩), .pointer (some ⟨pb2, 0, none⟩)] w K KP := by
  obtain ⟨ow1, cd1, ch1, qs1, hs1, hR1⟩ := h1
  obtain ⟨ow2, cd2, ch2, qs2, hs2, hR2⟩ := h2
  have o1 := hR1.rdO; have o2 := hR2.rdO; have c1 := hR1.rdC; have c2 := hR2.rdC; have d1 := hR1.rdH; have d2 := hR2.rdH
  have b1 := hR1.blk; have b2 := hR2.blk
  apply E32; unfold F32
  refine C59 b1 ⟨_, rfl, ?_⟩
  intro kb hkb
  rw [if_neg (by decide)]
  refine C59 b2 ⟨_, rfl, hkb _ _ ?_⟩
  rw [if_neg (by decide)]
  intro kb2 hkb2
  have hs : Sep w.drew [oldA w] := (Sep.begin w).drew
  have bl : ∀ {y : World}, (∀ D, Fr D w y) → Blk y pb (obj ow1 cd1 ch1) 77 ∧ Blk y pb2 (obj ow2 cd2 ch2) 77 := fun hf => ⟨(hf (fun _ => False)).blk b1 (fun h => h), (hf (fun _ => False)).blk b2 (fun h => h)⟩
  refine ⟨fun y => Blk y pb (obj ow1 cd1 ch1) 77 ∧ Blk y pb2 (obj ow2 cd2 ch2) 77, bl (hs.old 0 rfl), ?_⟩
  rw [xptr_some]
  refine ⟨_, _, _, fun y hy => hy.1.ld rfl, ?_⟩
  rw [xptr_some]
  refine ⟨_, _, _, fun y hy => hy.2.ld rfl, ?_⟩
  refine C62 (s1 := ow1) (s2 := ow2) (rdI_old' o1 (hs.old 0 rfl)) (rdI_old' o2 (hs.old 0 rfl)) (by omega) fun w9 hf9 => ⟨_, rfl, ?_⟩
  replace hs := hs.ext hf9
  refine ⟨bl (hs.old 0 rfl), ?_⟩
  by_cases e1 : S.owners = S2.owners
  · rw [if_pos (by simpa using e1), xptr_some]
    refine ⟨_, _, _, fun y hy => hy.1.ld rfl, ?_⟩
    rw [xptr_some]
    refine ⟨_, _, _, fun y hy => hy.2.ld rfl, ?_⟩
    refine C63 (s1 := cd1) (s2 := cd2) (rdL_old' c1 (hs.old 0 rfl)) (rdL_old' c2 (hs.old 0 rfl)) (by omega) (fun xs hx => by have := hfine.conds xs hx; omega) fun w12 hf12 => ⟨_, rfl, ?_⟩
    replace hs := hs.ext hf12
    refine ⟨bl (hs.old 0 rfl), ?_⟩
    by_cases e2 : S.conds = S2.conds
    · rw [if_pos (by simpa using e2), xptr_some]
      refine ⟨_, _, _, fun y hy => hy.1.ld rfl, ?_⟩
      rw [xptr_some]
      refine ⟨_, _, _, fun y hy => hy.2.ld rfl, ?_⟩
      refine C65 (s1 := ch1) (s2 := ch2) (rdH_old' d1 (hs.old 0 rfl)) (rdH_old' d2 (hs.old 0 rfl)) (by omega) (fun c hc => by have := (hfine.chans c hc).1; omega) (fun e3 w15 hf15 => ⟨_, rfl, fun _ => True, trivial, hkb2 _ _ ?_⟩) (fun e3 w15 hf15 => ⟨_, rfl, fun _ => True, trivial, hkb2 _ _ ?_⟩)
      · exact ht (by cases S; cases S2; simp_all) w15 (fr_old (hs.old 0 rfl) hf15)
      · exact hf (fun e => e3 (by rw [e])) w15 (fr_old (hs.old 0 rfl) hf15)
    · rw [if_neg (by simpa using e2)]
      exact hkb2 _ _ (hf (fun e => e2 (by rw [e])) w12 (hs.old 0 rfl))
  · rw [if_neg (by simpa using e1), if_neg (by decide)]
    exact hkb2 _ _ (hf (fun e => e1 (by rw [e])) w9 (hs.old 0 rfl))
end
end Go.Proofs.Ythegnnifbgikmaa
