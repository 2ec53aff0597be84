/- The sync seat: Copy. -/
import Derived.Test.YthegnnifbgikmaaU7
set_option linter.unusedVariables false
set_option linter.unusedSimpArgs false
namespace Go.Proofs.Ythegnnifbgikmaa
open Go.X
section
variable {w : World} {K : Value → World → Prop} {KP : List PanicEntry → World → Prop} {pb : Nat} {S : SS} {g : Nat → Nat}

open Classical in
theorem SyncR.addC {w6 w7 : World} {ow cd ch cd' : Sl} {qs hs : List Sl} (hR : SyncR w pb S g ow cd ch qs hs) {s' : Sl} {xs : List Int} {G : Nat → Prop} (hG : ∀ b, G b → b < w.heap.size ∧ g b = 0) (hq : OwnI w 3 s' xs G)
    (ho : Own w6 1 93 cd'.a cd'.l cd'.c (qs.map Sl.v ++ [s'.v]) (fun b => g b = 3 ∨ w.heap.size ≤ b)) (hf : Fr (fun b => g b = 3) w w6)
    (hb : Blk w7 pb (obj ow cd' ch) 77) (hf7 : Fr (fun b => b = pb) w6 w7) :
    ∃ g', SyncAt w7 pb { S with conds := S.conds ++ [xs] } g' ∧ ∀ b, g' b ≠ 0 → g b ≠ 0 ∨ G b ∨ w.heap.size ≤ b := by
  have e2 := hf.size
  have e3 := hf7.size
  have htag := hR.tag
  have hlt := hR.blk.lt
  let g' : Nat → Nat := fun b => if b < w.heap.size then (if G b then 5 + 2 * qs.length else g b) else if b < w7.heap.size then 3 else 0
  have hold : ∀ b, b < w.heap.size → g b ≠ 0 → g' b = g b := fun b hb hg => by
    have : ¬ G b := fun h => hg (hG b h).2
    simp [g', hb, this]
  have keep : ∀ {z : Nat} {t : TypeId} {a : Option Addr} {l c : Nat} {cs : List Value} {j : Nat}, j ≠ 3 → j ≠ 1 → j ≠ 0 → Own w z t a l c cs (g · = j) → Own w7 z t a l c cs (g' · = j) := by
    intro z t a l c cs j hj hj1 hj0 ho
    have h1 := ho.mono (G' := fun b => g b = j ∧ b < w.heap.size) (fun b hb hg => ⟨hg, hb⟩)
    exact ((h1.frame hf (fun b hb e => by omega)).frame hf7 (fun b hb e => by subst e; omega)).mono (fun b _ hb => by rw [hold b hb.2 (by omega)]; exact hb.1)
  refine ⟨g', ⟨ow, cd', ch, qs ++ [s'], hs, ?_⟩, fun b hb => ?_⟩
  · exact {
      blk := hb
      tag := by rw [hold _ hlt (by omega)]; exact htag
      own := keep (by decide) (by decide) (by decide) hR.own
      cds := by
        have := ho.frame hf7 (fun k hk e => by have e : k = pb := e; rw [e] at hk; rcases hk with hk | hk <;> omega)
        have := this.mono (G' := fun b => g' b = 3) (fun b hb hh => by
          rcases Nat.lt_or_ge b w.heap.size with h | h
          · rcases hh with hh | hh
            · rw [hold b h (by omega)]; exact hh
            · omega
          · simp [g', Nat.not_lt.2 h, hb])
        simpa using this
      chs := keep (by decide) (by decide) (by decide) hR.chs
      nq := by simp [hR.nq]
      nh := hR.nh
      q := fun i s ys hs' hx => by
        by_cases hi : i < qs.length
        · rw [List.getElem?_append_left hi] at hs'
          rw [List.getElem?_append_left (by rw [← hR.nq]; exact hi)] at hx
          exact keep (by omega) (by omega) (by omega) (hR.q i s ys hs' hx)
        · have he : i = qs.length := by
            have := (List.getElem?_eq_some_iff.1 hs').1
            simp at this; omega
          subst he
          rw [List.getElem?_append_right (Nat.le_refl _)] at hs'
          rw [List.getElem?_append_right (by rw [hR.nq]; exact Nat.le_refl _)] at hx
          simp [hR.nq] at hs' hx
          subst hs'; subst hx
          have h1 := Own.frame (Own.frame hq hf (fun k hk e => by have := (hG k hk).2; omega)) hf7 (fun k hk e => by have e : k = pb := e; have := (hG k hk).2; rw [e] at this; omega)
          exact h1.mono (fun b _ hb => by simp [g', (hG b hb).1, hb])
      h := fun i s c hs' hx => keep (by omega) (by omega) (by omega) (hR.h i s c hs' hx)
      sup := fun b hb => by simp [g', show ¬ b < w.heap.size by omega, show ¬ b < w7.heap.size by omega] }
  · rcases Nat.lt_or_ge b w.heap.size with h | h
    · by_cases hh : G b
      · exact .inr (.inl hh)
      · left; simpa [g', h, hh] using hb
    · exact .inr (.inr h)
open Classical in
theorem SyncR.addH {w6 w7 : World} {ow cd ch ch' : Sl} {qs hs : List Sl} (hR : SyncR w pb S g ow cd ch qs hs) {s' : Sl} {xs : List Int} {r f : Int} {G : Nat → Prop} (hG : ∀ b, G b → b < w.heap.size ∧ g b = 0) (hq : OwnI w 2 s' xs G)
    (ho : Own w6 3 81 ch'.a ch'.l ch'.c (chCells hs S.chans ++ [s'.v, .int .i64 r, .int .i64 f]) (fun b => g b = 4 ∨ w.heap.size ≤ b)) (hf : Fr (fun b => g b = 4) w w6)
    (hb : Blk w7 pb (obj ow cd ch') 77) (hf7 : Fr (fun b => b = pb) w6 w7) :
    ∃ g', SyncAt w7 pb { S with chans := S.chans ++ [⟨xs, r, f⟩] } g' ∧ ∀ b, g' b ≠ 0 → g b ≠ 0 ∨ G b ∨ w.heap.size ≤ b := by
  have e2 := hf.size
  have e3 := hf7.size
  have htag := hR.tag
  have hlt := hR.blk.lt
  let g' : Nat → Nat := fun b => if b < w.heap.size then (if G b then 6 + 2 * hs.length else g b) else if b < w7.heap.size then 4 else 0
  have hold : ∀ b, b < w.heap.size → g b ≠ 0 → g' b = g b := fun b hb hg => by
    have : ¬ G b := fun h => hg (hG b h).2
    simp [g', hb, this]
  have keep : ∀ {z : Nat} {t : TypeId} {a : Option Addr} {l c : Nat} {cs : List Value} {j : Nat}, j ≠ 4 → j ≠ 1 → j ≠ 0 → Own w z t a l c cs (g · = j) → Own w7 z t a l c cs (g' · = j) := by
    intro z t a l c cs j hj hj1 hj0 ho
    have h1 := ho.mono (G' := fun b => g b = j ∧ b < w.heap.size) (fun b hb hg => ⟨hg, hb⟩)
    exact ((h1.frame hf (fun b hb e => by omega)).frame hf7 (fun b hb e => by subst e; omega)).mono (fun b _ hb => by rw [hold b hb.2 (by omega)]; exact hb.1)
  refine ⟨g', ⟨ow, cd, ch', qs, hs ++ [s'], ?_⟩, fun b hb => ?_⟩
  · exact {
      blk := hb
      tag := by rw [hold _ hlt (by omega)]; exact htag
      own := keep (by decide) (by decide) (by decide) hR.own
      chs := by
        have := ho.frame hf7 (fun k hk e => by have e : k = pb := e; rw [e] at hk; rcases hk with hk | hk <;> omega)
        have := this.mono (G' := fun b => g' b = 4) (fun b hb hh => by
          rcases Nat.lt_or_ge b w.heap.size with h | h
          · rcases hh with hh | hh
            · rw [hold b h (by omega)]; exact hh
            · omega
          · simp [g', Nat.not_lt.2 h, hb])
        rw [chCells_append hs S.chans s' ⟨xs, r, f⟩ hR.nh]
        exact this
      cds := keep (by decide) (by decide) (by decide) hR.cds
      nh := by simp [hR.nh]
      nq := hR.nq
      h := fun i s c hs' hx => by
        by_cases hi : i < hs.length
        · rw [List.getElem?_append_left hi] at hs'
          rw [List.getElem?_append_left (by rw [← hR.nh]; exact hi)] at hx
          exact keep (by omega) (by omega) (by omega) (hR.h i s c hs' hx)
        · have he : i = hs.length := by
            have := (List.getElem?_eq_some_iff.1 hs').1
            simp at this; omega
          subst he
          rw [List.getElem?_append_right (Nat.le_refl _)] at hs'
          rw [List.getElem?_append_right (by rw [hR.nh]; exact Nat.le_refl _)] at hx
          simp [hR.nh] at hs' hx
          subst hs'; subst hx
          have h1 := Own.frame (Own.frame hq hf (fun k hk e => by have := (hG k hk).2; omega)) hf7 (fun k hk e => by have e : k = pb := e; have := (hG k hk).2; rw [e] at this; omega)
          exact h1.mono (fun b _ hb => by simp [g', (hG b hb).1, hb])
      q := fun i s c hs' hx => keep (by omega) (by omega) (by omega) (hR.q i s c hs' hx)
      sup := fun b hb => by simp [g', show ¬ b < w.heap.size by omega, show ¬ b < w7.heap.size by omega] }
  · rcases Nat.lt_or_ge b w.heap.size with h | h
    · by_cases hh : G b
      · exact .inr (.inl hh)
      · left; simpa [g', h, hh] using hb
    · exact .inr (.inr h)

/-- queue.copied -/
theorem C60 {s : Sl} {xs : List Int} {G : Nat → Prop} (hr : Rd w s.a (ints xs) G) (hl : s.l = xs.length) (hn : xs.length ≤ 1000000000)
    (h : ∀ (s' : Sl) (w' : World), OwnI w' 3 s' xs (fun k => w.heap.size ≤ k) → (∀ D, Fr D w w') → K (.agg #[s'.v]) w') : XCP Try.prog 60 [.agg #[s.v]] w K KP := by
  show XCP Try.prog 60 [.agg #[.slice s.a s.l s.c]] w K KP
  apply E60; unfold F60
  intro w0 p w1 p1
  have hf1 : ∀ D, Fr D w w1 := fun D => (Fr.alloc D w _).trans (Fr.alloc D w0 _) (fun _ _ h => h) (fun _ _ h => h)
  have hs : Sep w1 (bx w0.heap.size [.slice none 0 0] 91 :: bx w.heap.size [s.v] 91 :: [oldA w]) := ((Sep.begin w).box _ _).box _ _
  clear_value w0 w1
  refine ⟨_, _, _, hs.bx1.ld rfl, ?_⟩
  refine C49 (s := s) ((hr.mono (G' := fun b => G b ∧ b < w.heap.size) (fun b hb hg => ⟨hg, hb⟩)).frame (hf1 (fun _ => False)) (fun _ _ h => h)) hl hn fun s' w2 ho hf => ⟨_, _, _, rfl, ?_⟩
  replace hs := hs.add (A := row 1 3 s' (ints xs)) hf ho
  refine hs.fill1 (vs := [s'.v]) rfl fun w3 _ hs => ⟨_, _, _, hs.bx1.lds, ?_⟩
  exact h s' w3 (hs.fresh 0 3 rfl rfl (by decide)) (hs.old 3 rfl)
theorem C61 {s : Sl} {xs : List Int} {G : Nat → Prop} (hr : Rd w s.a (ints xs) G) (hl : s.l = xs.length) (hn : xs.length ≤ 1000000000)
    (h : ∀ (s' : Sl) (w' : World), OwnI w' 2 s' xs (fun k => w.heap.size ≤ k) → (∀ D, Fr D w w') → K (.agg #[s'.v]) w') : XCP Try.prog 61 [.agg #[s.v]] w K KP := by
  show XCP Try.prog 61 [.agg #[.slice s.a s.l s.c]] w K KP
  apply E61; unfold F61
  intro w0 p w1 p1
  have hf1 : ∀ D, Fr D w w1 := fun D => (Fr.alloc D w _).trans (Fr.alloc D w0 _) (fun _ _ h => h) (fun _ _ h => h)
  have hs : Sep w1 (bx w0.heap.size [.slice none 0 0] 79 :: bx w.heap.size [s.v] 79 :: [oldA w]) := ((Sep.begin w).box _ _).box _ _
  clear_value w0 w1
  refine ⟨_, _, _, hs.bx1.ld rfl, ?_⟩
  refine C58 (s := s) ((hr.mono (G' := fun b => G b ∧ b < w.heap.size) (fun b hb hg => ⟨hg, hb⟩)).frame (hf1 (fun _ => False)) (fun _ _ h => h)) hl hn fun s' w2 ho hf => ⟨_, _, _, rfl, ?_⟩
  replace hs := hs.add (A := row 1 2 s' (ints xs)) hf ho
  refine hs.fill1 (vs := [s'.v]) rfl fun w3 _ hs => ⟨_, _, _, hs.bx1.lds, ?_⟩
  exact h s' w3 (hs.fresh 0 3 rfl rfl (by decide)) (hs.old 3 rfl)

/-- an object whose rows are named -/
def SyncRA (pb : Nat) (S : SS) (ow cd ch : Sl) (qs hs : List Sl) : Assn where
  p := fun w G => ∃ g, SyncR w pb S g ow cd ch qs hs ∧ ∀ b, g b ≠ 0 → G b
  frame := fun ⟨g, h, hg⟩ hf hd => ⟨g, h.frame hf (fun b hb => by
    rcases Nat.eq_zero_or_pos (g b) with h0 | h0
    · exact h0
    · exact absurd hb (hd b (hg b (by omega)))), hg⟩
  mono := fun ⟨g, h, hg⟩ hm => ⟨g, h, fun b hb => hm b (SyncAt.lt ⟨_, _, _, _, _, h⟩ b hb) (hg b hb)⟩
theorem add_zero_addr (p : Addr) : p.add 0 = p := by unfold Addr.add; split <;> simp_all
theorem sepRows {L : List Assn} (h : Sep w (SyncA pb S :: L)) : ∃ ow cd ch qs hs, Sep w (SyncRA pb S ow cd ch qs hs :: L) := by
  obtain ⟨G, hG, ⟨g, ⟨ow, cd, ch, qs, hs, hR⟩, hgG⟩, hr⟩ := h.use
  exact ⟨ow, cd, ch, qs, hs, hr w (SyncRA pb S ow cd ch qs hs) (Fr.refl _ _) ⟨g, hR, fun b hb => .inl (hgG b hb)⟩⟩
theorem sepNoRows {L : List Assn} {ow cd ch : Sl} {qs hs : List Sl} (h : Sep w (SyncRA pb S ow cd ch qs hs :: L)) : Sep w (SyncA pb S :: L) :=
  h.imp fun w G ⟨g, hR, hg⟩ => ⟨g, ⟨_, _, _, _, _, hR⟩, hg⟩
theorem sepRow {L : List Assn} {ow cd ch : Sl} {qs hs : List Sl} (h : Sep w (SyncRA pb S ow cd ch qs hs :: L)) : ∃ g, SyncR w pb S g ow cd ch qs hs ∧ ∀ (w' : World) (S' : SS) (g' : Nat → Nat), SyncAt w' pb S' g' → Ext g w g' w' → Sep w' (SyncA pb S' :: L) := by
  obtain ⟨G, hG, ⟨g, hs, hgG⟩, hr⟩ := h.use
  refine ⟨g, hs, fun w' S' g' hs' he => hr w' (SyncA pb S') (he.fr.mono fun b _ hb => hgG b hb) ⟨g', hs', fun b hb => ?_⟩⟩
  rcases Nat.lt_or_ge b w.heap.size with h1 | h1
  · exact .inl (hgG b (by rw [← he.old b h1]; exact hb))
  · exact .inr h1

theorem sepAddC {L : List Assn} {ow cd ch s' : Sl} {qs hs' : List Sl} {xs : List Int} (hs : Sep w (row 1 3 s' (ints xs) :: SyncRA pb S ow cd ch qs hs' :: L)) {xa : Option Addr} {xc : Nat} {G : Nat → Prop} (hx : Rd w xa [s'.v] G) (hl : S.conds.length ≤ 1000)
    {K : World → Prop} (h : ∀ w', Sep w' (SyncA pb { S with conds := S.conds ++ [xs] } :: L) → K w') :
    XRun Try.prog (Builtin.append_ #[74, 74] 74 (List.toArray [.slice cd.a cd.l cd.c, .slice xa 1 xc])) w fun v w1 => ∃ (a : Option Addr) (l c : Nat), v = .slice a l c ∧ ∃ S1 : World → Prop, S1 w1 ∧ storeP w1 (Addr.add ⟨pb, 0, none⟩ 1) (.slice a l c) K := by
  obtain ⟨G1, H, hG1, hH, hd, hA, ⟨g, hR, hgH⟩, hr⟩ := hs.use2
  have hA : OwnI w 3 s' xs G1 := hA
  have lcd : cd.l = S.conds.length := by have := hR.cds.1; have := hR.nq; simp at *; omega
  refine xr_append T74 rfl hR.cds hx (by simp) (by intro u hu; simp at hu; subst hu; rfl) (by omega) (by omega) fun a' c' w6 ho6 hf6 _ => ⟨_, _, _, rfl, fun _ => True, trivial, ?_⟩
  have hb6 : Blk w6 pb (obj ow cd ch) 77 := hf6.blk hR.blk (fun e => by have := hR.tag; have e : g pb = 3 := e; omega)
  rw [add_lit]
  refine storeP_blk hb6 (by simp [obj]) fun w7 hb7 hf7 hs7 => ?_
  obtain ⟨g', hat, hg'⟩ := hR.addC (cd' := ⟨a', cd.l + 1, c'⟩) (fun b hb => ⟨hG1 b hb, by
    rcases Nat.eq_zero_or_pos (g b) with h0 | h0
    · exact h0
    · exact absurd (hgH b (by omega)) (hd b hb)⟩) hA ho6 hf6 hb7 hf7
  have := hr w7 (SyncA pb _) nilA (fun b => G1 b ∨ H b ∨ w.heap.size ≤ b) (fun _ => False) (hf6.trans hf7 (fun b _ e => .inr (hgH b (by omega))) (fun b _ e => by subst e; exact .inr (hgH _ (by have := hR.tag; omega)))) (fun _ _ h => h) (fun _ h => h) (fun _ h => h.elim)
    ⟨g', hat, fun b hb => by rcases hg' b hb with h | h | h; exact .inr (.inl (hgH b h)); exact .inl h; exact .inr (.inr h)⟩ trivial
  exact h w7 this.rid1
theorem sepAddH {L : List Assn} {ow cd ch s' : Sl} {qs hs' : List Sl} {xs : List Int} {r f : Int} (hs : Sep w (row 1 2 s' (ints xs) :: SyncRA pb S ow cd ch qs hs' :: L)) {xa : Option Addr} {xc : Nat} {G : Nat → Prop} (hx : Rd w xa [s'.v, .int .i64 r, .int .i64 f] G) (hl : S.chans.length ≤ 1000)
    {K : World → Prop} (h : ∀ w', Sep w' (SyncA pb { S with chans := S.chans ++ [⟨xs, r, f⟩] } :: L) → K w') :
    XRun Try.prog (Builtin.append_ #[75, 75] 75 (List.toArray [.slice ch.a ch.l ch.c, .slice xa 1 xc])) w fun v w1 => ∃ (a : Option Addr) (l c : Nat), v = .slice a l c ∧ ∃ S1 : World → Prop, S1 w1 ∧ storeP w1 (Addr.add ⟨pb, 0, none⟩ 2) (.slice a l c) K := by
  obtain ⟨G1, H, hG1, hH, hd, hA, ⟨g, hR, hgH⟩, hr⟩ := hs.use2
  have hA : OwnI w 2 s' xs G1 := hA
  have lch : ch.l = S.chans.length := by have := hR.chs.1; rw [chCells_length hs' S.chans hR.nh] at this; omega
  refine xr_append T75 rfl hR.chs hx (by simp) (by intro u hu; simp at hu; rcases hu with rfl | rfl | rfl <;> rfl) (by omega) (by omega) fun a' c' w6 ho6 hf6 _ => ⟨_, _, _, rfl, fun _ => True, trivial, ?_⟩
  have hb6 : Blk w6 pb (obj ow cd ch) 77 := hf6.blk hR.blk (fun e => by have := hR.tag; have e : g pb = 4 := e; omega)
  rw [add_lit]
  refine storeP_blk hb6 (by simp [obj]) fun w7 hb7 hf7 hs7 => ?_
  obtain ⟨g', hat, hg'⟩ := hR.addH (ch' := ⟨a', ch.l + 1, c'⟩) (fun b hb => ⟨hG1 b hb, by
    rcases Nat.eq_zero_or_pos (g b) with h0 | h0
    · exact h0
    · exact absurd (hgH b (by omega)) (hd b hb)⟩) hA ho6 hf6 hb7 hf7
  have := hr w7 (SyncA pb _) nilA (fun b => G1 b ∨ H b ∨ w.heap.size ≤ b) (fun _ => False) (hf6.trans hf7 (fun b _ e => .inr (hgH b (by omega))) (fun b _ e => by subst e; exact .inr (hgH _ (by have := hR.tag; omega)))) (fun _ _ h => h) (fun _ h => h) (fun _ h => h.elim)
    ⟨g', hat, fun b hb => by rcases hg' b hb with h | h | h; exact .inr (.inl (hgH b h)); exact .inl h; exact .inr (.inr h)⟩ trivial
  exact h w7 this.rid1

theorem D31 {L : List Assn} (hs : Sep w (SyncA pb S :: L)) {n : Nat} (hfine : S.fine n) (hn : n ≤ 1000000) (hol : S.owners.length ≤ 64) (hcl : S.conds.length ≤ 64) (hhl : S.chans.length ≤ 64)
    (h : ∀ pb' w', Sep w' (SyncA pb' S :: SyncA pb S :: L) → K (.pointer (some ⟨pb', 0, none⟩)) w') : XCP Try.prog 31 [.pointer (some ⟨pb, 0, none⟩)] w K KP := by
  obtain ⟨ow, cd, ch, qs, hs', hs⟩ := sepRows hs
  obtain ⟨_, g, hR, _⟩ := hs.at0
  have hql := hR.nq
  have hhs := hR.nh
  have lcd : cd.l = S.conds.length := by have := hR.cds.1; simp at this; omega
  have lch : ch.l = S.chans.length := by have := hR.chs.1; rw [chCells_length hs' S.chans hR.nh] at this; omega
  apply E31; unfold F31
  refine C59 hR.blk ⟨_, rfl, ?_⟩
  rw [if_neg (by decide), xptr_some]
  refine ⟨_, _, _, hR.blk.ld rfl, ?_⟩
  refine C49 (s := ow) hR.own.rd hR.own.len (by omega) fun s1 w1 ho1 hf1 => ⟨_, _, _, rfl, ?_⟩
  replace hs := hs.add (A := row 1 3 s1 (ints S.owners)) hf1 ho1
  clear hR
  intro w2 p1
  replace hs : Sep w2 (bx w1.heap.size (obj s1 ⟨none, 0, 0⟩ ⟨none, 0, 0⟩) 77 :: row 1 3 s1 (ints S.owners) :: SyncRA pb S ow cd ch qs hs' :: L) := hs.box _ _
  clear_value w2
  -- the new object, with no queue yet
  replace hs : Sep w2 (SyncA w1.heap.size ⟨S.owners, [], []⟩ :: SyncRA pb S ow cd ch qs hs' :: L) := by
    obtain ⟨G, H, hG, hH, hd, hA, hB, hr⟩ := hs.use2
    classical
    have := hr w2 (SyncA w1.heap.size ⟨S.owners, [], []⟩) nilA (fun b => G b ∨ H b) (fun _ => False) (Fr.refl _ _) (fun _ _ h => h) (fun b hb => by rcases hb with h | h; exact .inl h; exact .inr (.inl h)) (fun b hb => hb.elim)
      ⟨fun b => if w2.heap.size ≤ b then 0 else if b = w1.heap.size then 1 else if H b then 2 else 0, ⟨s1, ⟨none, 0, 0⟩, ⟨none, 0, 0⟩, [], [], {
        blk := hA.1
        tag := by have := hA.1.lt; simp [Nat.not_le.2 this]
        own := Own.mono hB (fun b hb hh => by
          have h1 : b ≠ w1.heap.size := fun e => hd b (e ▸ hA.2) hh
          simp [Nat.not_le.2 hb, h1, hh])
        cds := Own.none _ _ _ _
        chs := Own.none _ _ _ _
        nq := rfl
        nh := rfl
        q := fun i s xs hs hx => by simp at hs
        h := fun i s c hs hx => by simp at hs
        sup := fun b hb' => by simp [hb'] }⟩, fun b hb => by
          dsimp only at hb
          split at hb
          · exact absurd rfl hb
          · split at hb
            · rename_i e; subst e; exact .inl hA.2
            · split at hb
              · exact .inr (by assumption)
              · exact absurd rfl hb⟩ trivial
    exact this.rid1
  have rd : ∀ {u : World} {M : List Assn}, Sep u (SyncRA pb S ow cd ch qs hs' :: M) → ∃ g, SyncR u pb S g ow cd ch qs hs' := fun h => by obtain ⟨_, g, hR, _⟩ := h.at0; exact ⟨g, hR⟩
  obtain ⟨_, hR⟩ := rd hs.to1
  rw [xptr_some]
  refine ⟨_, _, _, hR.blk.ld rfl, ?_⟩
  refine ⟨fun i u => 0 ≤ i ∧ i ≤ S.conds.length ∧ Sep u (SyncA w1.heap.size ⟨S.owners, S.conds.take i.toNat, []⟩ :: SyncRA pb S ow cd ch qs hs' :: L), fun i u => S.conds.length - i.toNat, ⟨by omega, by omega, by simpa using hs⟩, ?_⟩
  clear hs hR
  rintro i u ⟨h0, h1, hs⟩
  by_cases hi : i < S.conds.length
  · rw [if_pos (by simp; omega)]
    have hit : i.toNat < S.conds.length := by omega
    have hlq : i.toNat < qs.length := by omega
    obtain ⟨_, hR⟩ := rd hs.to1
    obtain ⟨p3, hp3, -, hc3⟩ := hR.cds.rd.isSome (i := i.toNat) (v := (qs[i.toNat]).v) (by simp [hlq])
    rw [hp3, xptr_some]
    refine ⟨h0, by omega, (qs[i.toNat]).a, (qs[i.toNat]).l, (qs[i.toNat]).c, ⟨by rw [add_zero_addr, Nat.mul_one]; exact hc3, trivial⟩, ?_⟩
    intro w4 p4
    replace hs : Sep w4 (bx u.heap.size [.slice none 0 0] 93 :: _) := hs.box _ _
    clear_value w4
    refine hs.fill (vs := [(qs[i.toNat]).v]) rfl fun w5 _ hs => ?_
    replace hs := hs.drew
    obtain ⟨ow2, cd2, ch2, qs2, hs2, hs⟩ := sepRows hs.to1
    have key : ∀ {y : World} {A : List Assn}, Sep y (A ++ SyncRA w1.heap.size ⟨S.owners, S.conds.take i.toNat, []⟩ ow2 cd2 ch2 qs2 hs2 :: bx u.heap.size [(qs[i.toNat]).v] 93 :: SyncRA pb S ow cd ch qs hs' :: L) →
        Blk y w1.heap.size (obj ow2 cd2 ch2) 77 ∧ Blk y u.heap.size [(qs[i.toNat]).v] 93 := fun {y A} hy => by
      obtain ⟨_, g, hg, _⟩ := hy.at_ (A := SyncRA w1.heap.size ⟨S.owners, S.conds.take i.toNat, []⟩ ow2 cd2 ch2 qs2 hs2) A.length (by simp)
      obtain ⟨_, hb, _⟩ := hy.at_ (A := bx u.heap.size [(qs[i.toNat]).v] 93) (A.length + 1) (by simp)
      exact ⟨hg.blk, hb⟩
    refine ⟨fun y => Blk y w1.heap.size (obj ow2 cd2 ch2) 77 ∧ Blk y u.heap.size [(qs[i.toNat]).v] 93, key (A := []) hs, ?_⟩
    refine ⟨_, _, _, fun y hy => hy.1.ld rfl, _, _, _, fun y hy => ⟨by rw [add_zero_addr, add_zero_addr]; exact hy.2.ld' rfl, trivial⟩, ?_⟩
    obtain ⟨_, hR⟩ := rd hs.to2
    have hq := hR.q i.toNat _ _ (List.getElem?_eq_getElem hlq) (List.getElem?_eq_getElem hit)
    have hxn := hfine.conds _ (List.getElem_mem hit)
    refine C60 (s := qs[i.toNat]) hq.rd hq.len (by omega) fun s9 w9 ho9 hf9 => ⟨_, _, _, rfl, ?_⟩
    replace hs := hs.add (A := row 1 3 s9 (ints S.conds[i.toNat])) hf9 ho9
    refine ⟨key (A := [_]) hs, ?_⟩
    refine xr_build T74 rfl (cs := [s9.v]) (by rfl) rfl (by omega) fun w10 ho10 hf10 _ => ⟨_, _, _, rfl, ?_⟩
    replace hs := hs.ext hf10
    refine ⟨key (A := [_]) hs, ?_⟩
    refine sepAddC hs ho10.rd (by simp; omega) fun w12 hs => ?_
    rw [wi (by omega) (by omega)]
    refine ⟨⟨by omega, by omega, ?_⟩, by show S.conds.length - (i + 1).toNat < S.conds.length - i.toNat; omega⟩
    rw [show (i + 1).toNat = i.toNat + 1 from by omega, List.take_add_one, List.getElem?_eq_getElem hit]
    exact hs.rid1
  rw [if_neg (by simp; omega)]
  rw [List.take_of_length_le (by omega)] at hs
  obtain ⟨_, hR⟩ := rd hs.to1
  rw [xptr_some]
  refine ⟨_, _, _, hR.blk.ld rfl, ?_⟩
  refine ⟨fun i u => 0 ≤ i ∧ i ≤ S.chans.length ∧ Sep u (SyncA w1.heap.size ⟨S.owners, S.conds, S.chans.take i.toNat⟩ :: SyncRA pb S ow cd ch qs hs' :: L), fun i u => S.chans.length - i.toNat, ⟨by omega, by omega, by simpa using hs⟩, ?_⟩
  clear hs hR h0 h1 hi u i
  rintro i u ⟨h0, h1, hs⟩
  by_cases hi : i < S.chans.length
  · rw [if_pos (by simp; omega)]
    have hit : i.toNat < S.chans.length := by omega
    have hlq : i.toNat < hs'.length := by omega
    obtain ⟨_, hR⟩ := rd hs.to1
    have hcc := chCells_get (List.getElem?_eq_getElem hlq) (List.getElem?_eq_getElem hit)
    obtain ⟨p3, hp3, -, hc3⟩ := hR.chs.rd.isSome hcc.1
    have hrd := hR.chs.rd
    rw [hp3] at hrd
    rw [hp3, xptr_some]
    refine ⟨h0, by omega, (hs'[i.toNat]).a, (hs'[i.toNat]).l, (hs'[i.toNat]).c, _, _, ⟨by rw [add_zero_addr]; exact hc3, by rw [add_add]; exact hrd.cell hcc.2.1, by rw [add_add]; exact hrd.cell hcc.2.2, trivial⟩, ?_⟩
    intro w4 p4
    replace hs : Sep w4 (bx u.heap.size [.slice none 0 0, .int .i64 0, .int .i64 0] 81 :: _) := hs.box _ _
    clear_value w4
    refine hs.fill (vs := [(hs'[i.toNat]).v, .int .i64 (S.chans[i.toNat]).room, .int .i64 (S.chans[i.toNat]).first]) rfl fun w5 _ hs => ?_
    replace hs := hs.drew
    obtain ⟨ow2, cd2, ch2, qs2, hs2, hs⟩ := sepRows hs.to1
    have key : ∀ {y : World} {A : List Assn}, Sep y (A ++ SyncRA w1.heap.size ⟨S.owners, S.conds, S.chans.take i.toNat⟩ ow2 cd2 ch2 qs2 hs2 :: bx u.heap.size [(hs'[i.toNat]).v, .int .i64 (S.chans[i.toNat]).room, .int .i64 (S.chans[i.toNat]).first] 81 :: SyncRA pb S ow cd ch qs hs' :: L) →
        Blk y w1.heap.size (obj ow2 cd2 ch2) 77 ∧ Blk y u.heap.size [(hs'[i.toNat]).v, .int .i64 (S.chans[i.toNat]).room, .int .i64 (S.chans[i.toNat]).first] 81 := fun {y A} hy => by
      obtain ⟨_, g, hg, _⟩ := hy.at_ (A := SyncRA w1.heap.size ⟨S.owners, S.conds, S.chans.take i.toNat⟩ ow2 cd2 ch2 qs2 hs2) A.length (by simp)
      obtain ⟨_, hb, _⟩ := hy.at_ (A := bx u.heap.size [(hs'[i.toNat]).v, .int .i64 (S.chans[i.toNat]).room, .int .i64 (S.chans[i.toNat]).first] 81) (A.length + 1) (by simp)
      exact ⟨hg.blk, hb⟩
    refine ⟨fun y => Blk y w1.heap.size (obj ow2 cd2 ch2) 77 ∧ Blk y u.heap.size [(hs'[i.toNat]).v, .int .i64 (S.chans[i.toNat]).room, .int .i64 (S.chans[i.toNat]).first] 81, key (A := []) hs, ?_⟩
    refine ⟨_, _, _, fun y hy => hy.1.ld rfl, _, _, _, fun y hy => ⟨by rw [add_zero_addr, add_zero_addr]; exact hy.2.ld' rfl, trivial⟩, _, fun y hy => hy.2.ld rfl, _, fun y hy => hy.2.ld rfl, ?_⟩
    obtain ⟨_, hR⟩ := rd hs.to2
    have hq := hR.h i.toNat _ _ (List.getElem?_eq_getElem hlq) (List.getElem?_eq_getElem hit)
    have hxn := (hfine.chans _ (List.getElem_mem hit)).1
    refine C61 (s := hs'[i.toNat]) hq.rd hq.len (by omega) fun s9 w9 ho9 hf9 => ⟨_, _, _, rfl, ?_⟩
    replace hs := hs.add (A := row 1 2 s9 (ints (S.chans[i.toNat]).l)) hf9 ho9
    refine ⟨key (A := [_]) hs, ?_⟩
    refine xr_build T75 rfl (cs := [s9.v, .int .i64 (S.chans[i.toNat]).room, .int .i64 (S.chans[i.toNat]).first]) (by rfl) rfl (by omega) fun w10 ho10 hf10 _ => ⟨_, _, _, rfl, ?_⟩
    replace hs := hs.ext hf10
    refine ⟨key (A := [_]) hs, ?_⟩
    refine sepAddH hs ho10.rd (by simp; omega) fun w12 hs => ?_
    rw [wi (by omega) (by omega)]
    refine ⟨⟨by omega, by omega, ?_⟩, by show S.chans.length - (i + 1).toNat < S.chans.length - i.toNat; omega⟩
    rw [show (i + 1).toNat = i.toNat + 1 from by omega, List.take_add_one, List.getElem?_eq_getElem hit]
    exact hs.rid1
  · rw [if_neg (by simp; omega)]
    rw [List.take_of_length_le (by omega)] at hs
    exact h _ u (sepNoRows hs.to1).to1
end
end Go.Proofs.Ythegnnifbgikmaa
