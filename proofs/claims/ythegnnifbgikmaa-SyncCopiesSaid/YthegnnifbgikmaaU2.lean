/- The sync seat: the calls, told of owned parts. -/
import Derived.Test.YthegnnifbgikmaaU1
import Derived.Test.YthegnnifbgikmaaX10
set_option linter.unusedVariables false
set_option linter.unusedSimpArgs false
namespace Go.Proofs.Ythegnnifbgikmaa
open Go.X

theorem SyncAt.lt {w : World} {pb : Nat} {S : SS} {g : Nat → Nat} (h : SyncAt w pb S g) : ∀ b, g b ≠ 0 → b < w.heap.size := fun b hb => by
  obtain ⟨ow, cd, ch, qs, hs, h⟩ := h
  rcases Nat.lt_or_ge b w.heap.size with h1 | h1
  · exact h1
  · exact absurd (h.sup b h1) hb
def RefA (z : S5) (R : RR) : Assn where
  p := fun w G => RefAt w z R G
  frame := fun h hf hd => h.frame hf hd
  mono := fun h hm => h.mono hm
def IntsA (s : Sl) (xs : List Int) : Assn where
  p := fun w G => RdI w s xs G
  frame := fun h hf hd => h.frame hf hd
  mono := fun h hm => h.mono hm
def SyncA (pb : Nat) (S : SS) : Assn where
  p := fun w G => ∃ g, SyncAt w pb S g ∧ ∀ b, g b ≠ 0 → G b
  frame := fun ⟨g, h, hg⟩ hf hd => ⟨g, h.frame hf (fun b hb => by
    rcases Nat.eq_zero_or_pos (g b) with h0 | h0
    · exact h0
    · exact absurd hb (hd b (hg b (by omega)))), hg⟩
  mono := fun ⟨g, h, hg⟩ hm => ⟨g, h, fun b hb => hm b (h.lt b hb) (hg b hb)⟩

section
variable {w : World} {K : Value → World → Prop} {KP : List PanicEntry → World → Prop} {pb : Nat} {S : SS} {z : S5} {R : RR} {L Γ : List Assn}
theorem sepSync (h : Sep w (SyncA pb S :: L)) : ∃ g, SyncAt w pb S g ∧ ∀ (w' : World) (S' : SS) (g' : Nat → Nat), SyncAt w' pb S' g' → Ext g w g' w' → Sep w' (SyncA pb S' :: L) := by
  obtain ⟨G, hG, ⟨g, hs, hgG⟩, hr⟩ := h.use
  refine ⟨g, hs, fun w' S' g' hs' he => hr w' (SyncA pb S') (he.fr.mono fun b _ hb => hgG b hb) ⟨g', hs', fun b hb => ?_⟩⟩
  rcases Nat.lt_or_ge b w.heap.size with h1 | h1
  · exact .inl (hgG b (by rw [← he.old b h1]; exact hb))
  · exact .inr h1
/-! the object's calls -/
theorem D13 (hs : Sep w (SyncA pb S :: L)) {m t : Int} (h : ∀ w', Sep w' (SyncA pb (S.lock m t).1 :: L) → K (.tuple #[.bool (S.lock m t).2.1, .int .i64 (S.lock m t).2.2]) w') :
    XCP Try.prog 13 [.pointer (some ⟨pb, 0, none⟩), .int .i64 m, .int .i64 t] w K KP := by
  obtain ⟨g, hg, hr⟩ := sepSync hs
  exact C13 hg fun w' hs' hf => h w' (hr w' _ g hs' (Ext.same hf))
theorem D15 (hs : Sep w (SyncA pb S :: L)) {m t : Int} (h : ∀ w', Sep w' (SyncA pb (S.unlock m t).1 :: L) → K (.int .i64 (S.unlock m t).2) w') :
    XCP Try.prog 15 [.pointer (some ⟨pb, 0, none⟩), .int .i64 m, .int .i64 t] w K KP := by
  obtain ⟨g, hg, hr⟩ := sepSync hs
  exact C15 hg fun w' hs' hf => h w' (hr w' _ g hs' (Ext.same hf))
theorem D16 (hs : Sep w (SyncA pb S :: L)) {n : Nat} (hf' : S.fine n) (hn : n ≤ 1000000) (hcl : S.conds.length ≤ 1000) {m t : Int} (h : ∀ w', Sep w' (SyncA pb (S.wait m t).1 :: L) → K (.int .i64 (S.wait m t).2) w') :
    XCP Try.prog 16 [.pointer (some ⟨pb, 0, none⟩), .int .i64 m, .int .i64 t] w K KP := by
  obtain ⟨g, hg, hr⟩ := sepSync hs
  exact C16 hg hf' hn hcl fun g' w' hs' he => h w' (hr w' _ g' hs' he)
theorem D17 (hs : Sep w (SyncA pb S :: L)) {m : Int} (h : ∀ w', Sep w' (SyncA pb (S.signal m).1 :: L) → K (.tuple #[.int .i64 (S.signal m).2.1, .bool (S.signal m).2.2.1, .int .i64 (S.signal m).2.2.2]) w') :
    XCP Try.prog 17 [.pointer (some ⟨pb, 0, none⟩), .int .i64 m] w K KP := by
  obtain ⟨g, hg, hr⟩ := sepSync hs
  exact C17 hg fun g' w' hs' he => h w' (hr w' _ g' hs' he)
theorem D18 (hs : Sep w (SyncA pb S :: L)) {n : Nat} (hf : S.fine n) (hn : n ≤ 1000000) {m v : Int} (h : ∀ w', Sep w' (SyncA pb (S.send m v).1 :: L) → K (.tuple #[.int .i64 (S.send m v).2.1, .bool (S.send m v).2.2.1, .int .i64 (S.send m v).2.2.2]) w') :
    XCP Try.prog 18 [.pointer (some ⟨pb, 0, none⟩), .int .i64 m, .int .i64 v] w K KP := by
  obtain ⟨g, hg, hr⟩ := sepSync hs
  exact C18 hg hf hn fun g' w' hs' he => h w' (hr w' _ g' hs' he)
theorem D19 (hs : Sep w (SyncA pb S :: L)) {n : Nat} (hf : S.fine n) (hn : n ≤ 1000000) {m : Int} (h : ∀ w', Sep w' (SyncA pb (S.recv m).1 :: L) → K (.tuple #[.int .i64 (S.recv m).2.1, .int .i64 (S.recv m).2.2.1, .bool (S.recv m).2.2.2.1, .int .i64 (S.recv m).2.2.2.2]) w') :
    XCP Try.prog 19 [.pointer (some ⟨pb, 0, none⟩), .int .i64 m] w K KP := by
  obtain ⟨g, hg, hr⟩ := sepSync hs
  exact C19 hg hf hn fun g' w' hs' he => h w' (hr w' _ g' hs' he)
/-- All -/
theorem D30 (hs : Sep w (SyncA pb S :: L)) {m : Int} (h : ∀ s w', Sep w' (SyncA pb (S.all m).1 :: L) → (∃ G, RdI w' s (S.all m).2.1 G) → K (.tuple #[s.v, .int .i64 (S.all m).2.2]) w') :
    XCP Try.prog 30 [.pointer (some ⟨pb, 0, none⟩), .int .i64 m] w K KP := by
  obtain ⟨g, hg, hr⟩ := sepSync hs
  have hg' := hg
  obtain ⟨ow, cd, ch, qs, hs, hR⟩ := hg
  have hl : cd.l = S.conds.length := by have := hR.cds.1; have := hR.nq; simp at *; omega
  apply E30; unfold F30
  unfold SS.all at h
  refine C40 hR.blk (Own.ne hR.cds) (fun hn => ⟨_, _, rfl, ?_⟩) (fun h0 h1 p hp => ⟨_, _, rfl, ?_⟩)
  · rw [if_pos (by omega)] at h
    rw [if_pos (by decide)]
    exact h ⟨none, 0, 0⟩ w (hr w _ g hg' (Ext.refl _ _)) ⟨fun _ => True, .inl rfl, rfl, Nat.le_refl _⟩
  · rw [if_neg (by omega)] at h
    rw [if_neg (by decide), xptr_some]
    have hlt : m.toNat < S.conds.length := by omega
    have hlq : m.toNat < qs.length := by rw [hR.nq]; exact hlt
    rw [List.getElem?_eq_getElem hlt, Option.getD_some] at h
    obtain ⟨b, o, B, rfl, hg, hb, hfit, hv⟩ := Own.at_ hR.cds hp
    have hq := hR.q m.toNat _ _ (List.getElem?_eq_getElem hlq) (List.getElem?_eq_getElem hlt)
    have hc := hv m.toNat qs[m.toNat].v (by simp [hlq])
    refine ⟨qs[m.toNat].a, qs[m.toNat].l, qs[m.toNat].c, by simp only [add_lit, Nat.add_zero, hb.cell]; exact hc, ?_⟩
    rw [xptr_some]
    simp only [add_lit, Nat.add_zero]
    refine storeP_blk hb (List.getElem?_eq_some_iff.1 hc).1 fun w1 hb1 hf1 hs1 => ?_
    have := hR.setCond (xs' := []) (s' := ⟨none, 0, 0⟩) hlt hp hb hb1 (Own.none _ _ _ _) (hf1.mono (fun k _ hk => .inl hk)) hg
    refine h qs[m.toNat] w1 (hr w1 _ _ this.1 this.2) ⟨_, OwnI_rdI (Own.frame hq hf1 (fun k hk e => by subst e; omega))⟩
/-- what is told of channels -/
def SS.vals (S : SS) (q : Int) : List Int × Int := if q < 0 ∨ q ≥ S.chans.length then ([], 4) else ((S.chan q).l, 0)
def SS.rooms (S : SS) (q : Int) : Int × Int := if q < 0 ∨ q ≥ S.chans.length then (0, 4) else ((S.chan q).room, 0)
theorem C28 {g : Nat → Nat} (hs : SyncAt w pb S g) {n : Nat} (hf : S.fine n) (hn : n ≤ 1000000) {m : Int} (h : ∀ (s' : Sl) (w' : World), OwnI w' 2 s' (S.vals m).1 (fun k => w.heap.size ≤ k) → (∀ D, Fr D w w') → K (.tuple #[s'.v, .int .i64 (S.vals m).2]) w') :
    XCP Try.prog 28 [.pointer (some ⟨pb, 0, none⟩), .int .i64 m] w K KP := by
  obtain ⟨ow, cd, ch, qs, hs, hR⟩ := hs
  have hl : ch.l = S.chans.length := by have := hR.chs.1; rw [chCells_length hs S.chans hR.nh] at this; omega
  apply E28; unfold F28
  unfold SS.vals at h
  refine C45 hR.blk (Own.ne hR.chs) (fun hn => ⟨_, _, rfl, ?_⟩) (fun h0 h1 p hp => ⟨_, _, rfl, ?_⟩)
  · rw [if_pos (by omega)] at h
    rw [if_pos (by decide)]
    exact h ⟨none, 0, 0⟩ w (Own.none _ _ _ _) (fun D => Fr.refl D w)
  · rw [if_neg (by omega)] at h
    rw [if_neg (by decide), xptr_some]
    have hlt : m.toNat < S.chans.length := by omega
    have hlq : m.toNat < hs.length := by rw [hR.nh]; exact hlt
    have ech : S.chan m = S.chans[m.toNat] := by unfold SS.chan; rw [List.getElem?_eq_getElem hlt]; rfl
    rw [ech] at h
    obtain ⟨b, o, B, rfl, hg, hb, hfit, hv⟩ := Own.at_ hR.chs hp
    have hq := hR.h m.toNat _ _ (List.getElem?_eq_getElem hlq) (List.getElem?_eq_getElem hlt)
    simp only [add_lit, Nat.add_zero, hb.cell]
    refine ⟨_, _, _, hv (m.toNat * 3) hs[m.toNat].v (chCells_get (List.getElem?_eq_getElem hlq) (List.getElem?_eq_getElem hlt)).1, ?_⟩
    refine C58 hq.rd hq.len (by have := (hf.chans _ (List.getElem_mem hlt)).1; omega) fun s' w' ho' hf' => ⟨_, _, _, rfl, ?_⟩
    exact h s' w' ho' hf'
theorem C29 {g : Nat → Nat} (hs : SyncAt w pb S g) {m : Int} (h : K (.tuple #[.int .i64 (S.rooms m).1, .int .i64 (S.rooms m).2]) w) :
    XCP Try.prog 29 [.pointer (some ⟨pb, 0, none⟩), .int .i64 m] w K KP := by
  obtain ⟨ow, cd, ch, qs, hs, hR⟩ := hs
  have hl : ch.l = S.chans.length := by have := hR.chs.1; rw [chCells_length hs S.chans hR.nh] at this; omega
  apply E29; unfold F29
  unfold SS.rooms at h
  refine C45 hR.blk (Own.ne hR.chs) (fun hn => ⟨_, _, rfl, ?_⟩) (fun h0 h1 p hp => ⟨_, _, rfl, ?_⟩)
  · rw [if_pos (by omega)] at h
    rw [if_pos (by decide)]
    exact h
  · rw [if_neg (by omega)] at h
    rw [if_neg (by decide), xptr_some]
    have hlt : m.toNat < S.chans.length := by omega
    have hlq : m.toNat < hs.length := by rw [hR.nh]; exact hlt
    have ech : S.chan m = S.chans[m.toNat] := by unfold SS.chan; rw [List.getElem?_eq_getElem hlt]; rfl
    rw [ech] at h
    obtain ⟨b, o, B, rfl, hg, hb, hfit, hv⟩ := Own.at_ hR.chs hp
    simp only [add_lit, Nat.add_zero, hb.cell, Nat.add_assoc]
    exact ⟨_, hv (m.toNat * 3 + 1) _ (chCells_get (List.getElem?_eq_getElem hlq) (List.getElem?_eq_getElem hlt)).2.1, h⟩
/-! two lists -/
theorem C68 {s1 s2 : Sl} {xs ys : List Int} {G1 G2 : Nat → Prop} (hr1 : Rd w s1.a (ints xs) G1) (hl1 : s1.l = xs.length) (hr2 : Rd w s2.a (ints ys) G2) (hl2 : s2.l = ys.length) (hn : xs.length ≤ 1000000000)
    (h : ∀ w', (∀ D, Fr D w w') → K (.bool (xs == ys)) w') : XCP Try.prog 68 [s1.v, s2.v] w K KP := by
  show XCP Try.prog 68 [.slice s1.a s1.l s1.c, .slice s2.a s2.l s2.c] w K KP
  apply E68; unfold F68
  by_cases hlen : xs.length = ys.length
  · rw [if_neg (by simp [hl1, hl2, hlen])]
    refine ⟨fun n u => 0 ≤ n ∧ n ≤ xs.length ∧ xs.take n.toNat = ys.take n.toNat ∧ ∀ D, Fr D w u, fun n u => xs.length - n.toNat, ⟨by omega, by omega, by simp, fun D => Fr.refl D w⟩, ?_⟩
    rintro n u ⟨hn0, hn1, heq, hf⟩
    by_cases hlt : n < xs.length
    · rw [if_pos (by simpa [hl1] using hlt)]
      have ht : n.toNat < xs.length := by omega
      have ht2 : n.toNat < ys.length := by omega
      obtain ⟨p1, hp1, -, hx1⟩ := hr1.isSome (ints_get_iff ht)
      obtain ⟨p2, hp2, -, hx2⟩ := hr2.isSome (ints_get_iff ht2)
      refine ⟨fun x => x = u.drew, rfl, ?_⟩
      rw [hp1, hp2, xptr_some]
      refine ⟨hn0, by omega, xs[n.toNat], fun x hx => by subst hx; simpa using (hf (fun _ => False)).cell hx1 (fun h => h), ?_⟩
      rw [xptr_some]
      refine ⟨hn0, by omega, ys[n.toNat], fun x hx => by subst hx; simpa using (hf (fun _ => False)).cell hx2 (fun h => h), ?_⟩
      have hfd : ∀ D, Fr D w u.drew := fun D => (hf D).trans (Fr.drew D u) (fun _ _ h => h) (fun _ _ h => h)
      by_cases hxy : xs[n.toNat] = ys[n.toNat]
      · rw [if_neg (by simp [hxy]), wi (by omega) (by omega)]
        refine ⟨⟨by omega, by omega, ?_, hfd⟩, by show xs.length - (n + 1).toNat < xs.length - n.toNat; omega⟩
        rw [show (n + 1).toNat = n.toNat + 1 from by omega, List.take_add_one, List.take_add_one, heq, List.getElem?_eq_getElem ht, List.getElem?_eq_getElem ht2, hxy]
      · rw [if_pos (by simpa using hxy)]
        have := h u.drew hfd
        rwa [show (xs == ys) = false from by
          rw [beq_eq_false_iff_ne]; intro e; subst e; exact hxy rfl] at this
    · rw [if_neg (by simpa [hl1] using hlt)]
      rw [List.take_of_length_le (by omega), List.take_of_length_le (by omega)] at heq
      subst heq
      have := h u hf
      rwa [show (xs == xs) = true from by simp] at this
  · rw [if_pos (by simp [hl1, hl2]; omega)]
    have := h w (fun D => Fr.refl D w)
    rwa [show (xs == ys) = false from by
      rw [beq_eq_false_iff_ne]; intro e; subst e; exact hlen rfl] at this
theorem C69 {s1 s2 : Sl} {xs ys : List Int} {G1 G2 : Nat → Prop} (hr1 : Rd w s1.a (ints xs) G1) (hl1 : s1.l = xs.length) (hr2 : Rd w s2.a (ints ys) G2) (hl2 : s2.l = ys.length) (hn : xs.length ≤ 1000000000)
    (h : ∀ w', (∀ D, Fr D w w') → K (.bool (xs == ys)) w') : XCP Try.prog 69 [s1.v, s2.v] w K KP := by
  show XCP Try.prog 69 [.slice s1.a s1.l s1.c, .slice s2.a s2.l s2.c] w K KP
  apply E69; unfold F69
  by_cases hlen : xs.length = ys.length
  · rw [if_neg (by simp [hl1, hl2, hlen])]
    refine ⟨fun n u => 0 ≤ n ∧ n ≤ xs.length ∧ xs.take n.toNat = ys.take n.toNat ∧ ∀ D, Fr D w u, fun n u => xs.length - n.toNat, ⟨by omega, by omega, by simp, fun D => Fr.refl D w⟩, ?_⟩
    rintro n u ⟨hn0, hn1, heq, hf⟩
    by_cases hlt : n < xs.length
    · rw [if_pos (by simpa [hl1] using hlt)]
      have ht : n.toNat < xs.length := by omega
      have ht2 : n.toNat < ys.length := by omega
      obtain ⟨p1, hp1, -, hx1⟩ := hr1.isSome (ints_get_iff ht)
      obtain ⟨p2, hp2, -, hx2⟩ := hr2.isSome (ints_get_iff ht2)
      refine ⟨fun x => x = u.drew, rfl, ?_⟩
      rw [hp1, hp2, xptr_some]
      refine ⟨hn0, by omega, xs[n.toNat], fun x hx => by subst hx; simpa using (hf (fun _ => False)).cell hx1 (fun h => h), ?_⟩
      rw [xptr_some]
      refine ⟨hn0, by omega, ys[n.toNat], fun x hx => by subst hx; simpa using (hf (fun _ => False)).cell hx2 (fun h => h), ?_⟩
      have hfd : ∀ D, Fr D w u.drew := fun D => (hf D).trans (Fr.drew D u) (fun _ _ h => h) (fun _ _ h => h)
      by_cases hxy : xs[n.toNat] = ys[n.toNat]
      · rw [if_neg (by simp [hxy]), wi (by omega) (by omega)]
        refine ⟨⟨by omega, by omega, ?_, hfd⟩, by show xs.length - (n + 1).toNat < xs.length - n.toNat; omega⟩
        rw [show (n + 1).toNat = n.toNat + 1 from by omega, List.take_add_one, List.take_add_one, heq, List.getElem?_eq_getElem ht, List.getElem?_eq_getElem ht2, hxy]
      · rw [if_pos (by simpa using hxy)]
        have := h u.drew hfd
        rwa [show (xs == ys) = false from by
          rw [beq_eq_false_iff_ne]; intro e; subst e; exact hxy rfl] at this
    · rw [if_neg (by simpa [hl1] using hlt)]
      rw [List.take_of_length_le (by omega), List.take_of_length_le (by omega)] at heq
      subst heq
      have := h u hf
      rwa [show (xs == xs) = true from by simp] at this
  · rw [if_pos (by simp [hl1, hl2]; omega)]
    have := h w (fun D => Fr.refl D w)
    rwa [show (xs == ys) = false from by
      rw [beq_eq_false_iff_ne]; intro e; subst e; exact hlen rfl] at this

/-! the document's calls -/
theorem D50 {n : Nat} (hs : Sep w (pers (RefA z R :: Γ) :: L)) (hg : R.good n) (hn : n ≤ 1000000) {m t : Int} (h : ∀ z' w', Sep w' (pers (RefA z' (R.lock m t).1 :: Γ) :: L) → K (.tuple #[S5.v z', .bool (R.lock m t).2.1, .int .i64 (R.lock m t).2.2]) w') :
    XCP Try.prog 50 [z.v, .int .i64 m, .int .i64 t] w K KP := by
  obtain ⟨G, hR, hr⟩ := hs.grow 0 rfl
  exact C50 hR (hg.small hn) fun z' w' hz hf => h z' w' (hr w' (RefA z' _) hf hz).drop1
theorem D51 {n : Nat} (hs : Sep w (pers (RefA z R :: Γ) :: L)) (hg : R.good n) (hn : n ≤ 1000000) {m t : Int} (h : ∀ z' w', Sep w' (pers (RefA z' (R.unlock m t).1 :: Γ) :: L) → K (.tuple #[S5.v z', .int .i64 (R.unlock m t).2]) w') :
    XCP Try.prog 51 [z.v, .int .i64 m, .int .i64 t] w K KP := by
  obtain ⟨G, hR, hr⟩ := hs.grow 0 rfl
  exact C51 hR (hg.small hn) fun z' w' hz hf => h z' w' (hr w' (RefA z' _) hf hz).drop1
theorem D52 {n : Nat} (hs : Sep w (pers (RefA z R :: Γ) :: L)) (hg : R.good n) (hn : n ≤ 1000000) {m t : Int} (h : ∀ z' w', Sep w' (pers (RefA z' (R.wait m t).1 :: Γ) :: L) → K (.tuple #[S5.v z', .int .i64 (R.wait m t).2]) w') :
    XCP Try.prog 52 [z.v, .int .i64 m, .int .i64 t] w K KP := by
  obtain ⟨G, hR, hr⟩ := hs.grow 0 rfl
  exact C52 hR (hg.small hn) fun z' w' hz hf => h z' w' (hr w' (RefA z' _) hf hz).drop1
theorem D53 {n : Nat} (hs : Sep w (pers (RefA z R :: Γ) :: L)) (hg : R.good n) (hn : n ≤ 1000000) {m : Int} (h : ∀ z' w', Sep w' (pers (RefA z' (R.signal m).1 :: Γ) :: L) → K (.tuple #[S5.v z', .int .i64 (R.signal m).2.1, .int .i64 (R.signal m).2.2]) w') :
    XCP Try.prog 53 [z.v, .int .i64 m] w K KP := by
  obtain ⟨G, hR, hr⟩ := hs.grow 0 rfl
  exact C53 hR (hg.small hn) fun z' w' hz hf => h z' w' (hr w' (RefA z' _) hf hz).drop1
theorem D54 {n : Nat} (hs : Sep w (pers (RefA z R :: Γ) :: L)) (hg : R.good n) (hn : n ≤ 1000000) {m : Int} (h : ∀ z' q w', Sep w' (pers (RefA z' (R.all m).1 :: IntsA q (R.all m).2.1 :: Γ) :: L) → K (.tuple #[S5.v z', q.v, .int .i64 (R.all m).2.2]) w') :
    XCP Try.prog 54 [z.v, .int .i64 m] w K KP := by
  obtain ⟨G, hR, hr⟩ := hs.grow2 0 rfl
  exact C54 hR (hg.small hn) fun z' q w' hz hq hf => h z' q w' (by
    refine (hr w' (RefA z' _) (IntsA q _) hf hz hq).forget fun i C hC => ?_
    rcases i with _ | _ | i
    · exact ⟨0, hC⟩
    · exact ⟨1, hC⟩
    · exact ⟨i + 3, hC⟩)
theorem D55 {n : Nat} (hs : Sep w (pers (RefA z R :: Γ) :: L)) (hg : R.good n) (hn : n ≤ 1000000) {m v : Int} (h : ∀ z' w', Sep w' (pers (RefA z' (R.send m v).1 :: Γ) :: L) → K (.tuple #[S5.v z', .int .i64 (R.send m v).2.1, .int .i64 (R.send m v).2.2]) w') :
    XCP Try.prog 55 [z.v, .int .i64 m, .int .i64 v] w K KP := by
  obtain ⟨G, hR, hr⟩ := hs.grow 0 rfl
  exact C55 hR (hg.small hn) hg.wf fun z' w' hz hf => h z' w' (hr w' (RefA z' _) hf hz).drop1
theorem RR.good.taken {R : RR} {n : Nat} (h : R.good n) (m : Int) : R.takenAt m ≤ n := by
  rcases Nat.lt_or_ge m.toNat R.rooms.length with h1 | h1
  · have h2 := h.tk m.toNat h1
    have h3 := h.sentLen m.toNat h1
    have : R.takenAt ((m.toNat : Nat) : Int) = R.takenAt m := by simp only [RR.takenAt, Int.toNat_natCast]
    omega
  · have : R.takenAt m = 0 := by
      unfold RR.takenAt
      rw [List.getElem?_eq_none (by have := h.tl; omega)]; rfl
    omega
theorem D56 {n : Nat} (hs : Sep w (pers (RefA z R :: Γ) :: L)) (hg : R.good n) (hn : n ≤ 1000000) {m : Int} (h : ∀ z' w', Sep w' (pers (RefA z' (R.recv m).1 :: Γ) :: L) → K (.tuple #[S5.v z', .int .i64 (R.recv m).2.1, .int .i64 (R.recv m).2.2.1, .int .i64 (R.recv m).2.2.2]) w') :
    XCP Try.prog 56 [z.v, .int .i64 m] w K KP := by
  obtain ⟨G, hR, hr⟩ := hs.grow 0 rfl
  exact C56 hR (hg.small hn) hg.wf (by have := hg.taken m; omega) fun z' w' hz hf => h z' w' (hr w' (RefA z' _) hf hz).drop1
end
end Go.Proofs.Ythegnnifbgikmaa
