/- The sync seat: New, whole. -/
import Derived.Test.YthegnnifbgikmaaS6
set_option linter.unusedVariables false
set_option linter.unusedSimpArgs false
namespace Go.Proofs.Ythegnnifbgikmaa
open Go.X
section
variable {w : World} {K : Value → World → Prop} {KP : List PanicEntry → World → Prop} {pb : Nat} {S : SS} {g : Nat → Nat}

def NewBad (m c : Int) (rooms : List Int) : Prop := m < 0 ∨ c < 0 ∨ m > 64 ∨ c > 64 ∨ rooms.length > 64 ∨ ∃ x ∈ rooms, x < 1 ∨ x > 16
def SS.new (m c : Int) (rooms : List Int) : SS := ⟨List.replicate m.toNat (-1), List.replicate c.toNat [], rooms.map fun r => ⟨[], r, 0⟩⟩

theorem chCells_append : ∀ (hs : List Sl) (cs : List Ch) (s : Sl) (c : Ch), hs.length = cs.length → chCells (hs ++ [s]) (cs ++ [c]) = chCells hs cs ++ [s.v, .int .i64 c.room, .int .i64 c.first]
  | [], [], _, _, _ => rfl
  | h :: hs, d :: cs, s, c, he => by simp only [chCells, List.cons_append]; rw [chCells_append hs cs s c (by simpa using he)]

open Classical in
/-- the parts of an object lie in blocks of their own -/
theorem SyncR.made {u : World} {n0 : Nat} {ow cd : Sl} {xs : List Int} {k : Nat} {G2 G3 : Nat → Prop} (hb : Blk u pb (obj ow cd ⟨none, 0, 0⟩) 77) (h2 : OwnI u 3 ow xs G2) (h3 : Own u 1 93 cd.a cd.l cd.c (List.replicate k (.slice none 0 0)) G3)
    (d2 : ∀ b, G2 b → b ≠ pb ∧ n0 ≤ b) (d3 : ∀ b, G3 b → b ≠ pb ∧ n0 ≤ b ∧ ¬ G2 b) (hp : n0 ≤ pb) :
    ∃ g, SyncAt u pb ⟨xs, List.replicate k [], []⟩ g ∧ ∀ b, b < n0 → g b = 0 := by
  refine ⟨fun b => if u.heap.size ≤ b then 0 else if b = pb then 1 else if G2 b then 2 else if G3 b then 3 else 0, ⟨ow, cd, ⟨none, 0, 0⟩, List.replicate k ⟨none, 0, 0⟩, [], ?_⟩, ?_⟩
  · exact {
      blk := hb
      tag := by have := hb.lt; simp [Nat.not_le.2 this]
      own := h2.mono (fun b hb' hh => by simp [Nat.not_le.2 hb', (d2 b hh).1, hh])
      cds := by
        have : (List.replicate k (⟨none, 0, 0⟩ : Sl)).map Sl.v = List.replicate k (.slice none 0 0) := by simp [Sl.v]
        rw [this]
        exact h3.mono (fun b hb' hh => by simp [Nat.not_le.2 hb', (d3 b hh).1, (d3 b hh).2.2, hh])
      chs := Own.none _ _ _ _
      nq := by simp
      nh := rfl
      q := fun i s xs hs hx => by
        rw [List.getElem?_replicate] at hs hx
        split at hs
        · injection hs with hs; subst hs
          rw [if_pos (by assumption)] at hx
          injection hx with hx; subst hx
          exact Own.none _ _ _ _
        · cases hs
      h := fun i s c hs hx => by simp at hs
      sup := fun b hb' => by simp [hb'] }
  · intro b hb'
    have h1 : b ≠ pb := by omega
    have h4 : ¬ G2 b := fun h => by have := (d2 b h).2; omega
    have h5 : ¬ G3 b := fun h => by have := (d3 b h).2.1; omega
    simp [h1, h4, h5]

theorem SyncR.addChan {w6 w7 : World} {ow cd ch ch' : Sl} {qs hs : List Sl} (hR : SyncR w pb S g ow cd ch qs hs) {r : Int} (ho : Own w6 3 81 ch'.a ch'.l ch'.c (chCells hs S.chans ++ [.slice none 0 0, .int .i64 r, .int .i64 0]) (fun b => g b = 4 ∨ w.heap.size ≤ b))
    (hf : Fr (g · = 4) w w6) (hb : Blk w7 pb (obj ow cd ch') 77) (hf7 : Fr (fun b => b = pb) w6 w7) :
    SyncAt w7 pb { S with chans := S.chans ++ [⟨[], r, 0⟩] } (retag g w.heap.size w7.heap.size 4) ∧ Ext g w (retag g w.heap.size w7.heap.size 4) w7 := by
  have hlt := hR.blk.lt
  have hf' : Fr (fun b => g b = 4 ∨ b = pb) w w7 := hf.trans hf7 (fun _ _ h => .inl h) (fun _ _ h => .inr h)
  have htag := hR.tag
  refine ⟨⟨ow, cd, ch', qs, hs ++ [⟨none, 0, 0⟩], ?_⟩, Ext.retag (hf'.mono (fun k _ e => by rcases e with e | e <;> first | omega | (subst e; omega)))⟩
  exact {
    blk := hb
    tag := by rw [retag_old hlt]; exact hR.tag
    own := Own.retag hR.own hf' (fun k hk e => by rcases e with e | e <;> first | omega | (subst e; omega))
    cds := Own.retag hR.cds hf' (fun k hk e => by rcases e with e | e <;> first | omega | (subst e; omega))
    chs := by
      rw [chCells_append hs S.chans _ _ hR.nh]
      have := Own.frame ho hf7 (fun k hk e => by rcases hk with hk | hk <;> (rw [e] at hk; omega))
      refine this.mono (fun b hb' hh => ?_)
      show retag g _ _ _ b = 4
      rcases Nat.lt_or_ge b w.heap.size with h | h
      · rw [retag_old h]; rcases hh with hh | hh; exact hh; omega
      · rw [retag_new h hb']
    nq := hR.nq
    nh := by simp [hR.nh]
    q := fun i s xs hs hx => Own.retag (hR.q i s xs hs hx) hf' (fun k hk e => by rcases e with e | e <;> first | omega | (subst e; omega))
    h := fun i s c hs' hx => by
      by_cases hi : i < hs.length
      · rw [List.getElem?_append_left hi] at hs'
        rw [List.getElem?_append_left (by rw [← hR.nh]; exact hi)] at hx
        exact Own.retag (hR.h i s c hs' hx) hf' (fun k hk e => by rcases e with e | e <;> first | omega | (subst e; omega))
      · have he : i = hs.length := by
          have := (List.getElem?_eq_some_iff.1 hs').1
          simp at this; omega
        subst he
        rw [List.getElem?_append_right (Nat.le_refl _)] at hs'
        rw [List.getElem?_append_right (by rw [hR.nh]; exact Nat.le_refl _)] at hx
        simp [hR.nh] at hs' hx
        subst hs'; subst hx
        exact Own.none _ _ _ _
    sup := fun k hk => retag_sup hf'.size hk }

theorem maxV3 (a b c : Int) : ∃ x, maxV .max [.int .i64 a, .int .i64 b, .int .i64 c] = some (.int .i64 x) ∧ (x > 64 ↔ a > 64 ∨ b > 64 ∨ c > 64) := by
  have h2 : ∀ x y : Int, max2V .max (.int .i64 x) (.int .i64 y) = some (.int .i64 (if y > x then y else x)) := by
    intro x y
    simp [max2V]
  refine ⟨if c > (if b > a then b else a) then c else if b > a then b else a, ?_, ?_⟩
  · rw [maxV, h2]; simp only; rw [maxV, h2]; simp only; rw [maxV]
  · split <;> split <;> omega

theorem C12 {s : Sl} {rooms : List Int} {G : Nat → Prop} (hr : Rd w s.a (ints rooms) G) (hl : s.l = rooms.length) (hn : rooms.length ≤ 1000000000) {m c : Int}
    (hbad : NewBad m c rooms → K (.tuple #[.pointer none, .int .i64 2]) w)
    (h : ¬ NewBad m c rooms → ∀ pb g w', SyncAt w' pb (SS.new m c rooms) g → (∀ b, b < w.heap.size → g b = 0) → (∀ D, Fr D w w') → K (.tuple #[.pointer (some ⟨pb, 0, none⟩), .int .i64 0]) w') :
    XCP Try.prog 12 [.int .i64 m, .int .i64 c, s.v] w K KP := by
  show XCP Try.prog 12 [.int .i64 m, .int .i64 c, .slice s.a s.l s.c] w K KP
  apply E12; unfold F12
  intro kb hk
  by_cases hneg : m < 0 ∨ c < 0
  · rw [if_pos (by simpa using hneg)]
    exact hk w (hbad (by unfold NewBad; omega))
  · rw [if_neg (by simpa using hneg)]
    obtain ⟨x, hx, hx64⟩ := maxV3 m c s.l
    refine xr_max hx ⟨x, rfl, ?_⟩
    intro kb1 hk1
    have hbig : x > 64 ↔ m > 64 ∨ c > 64 ∨ rooms.length > 64 := by rw [hx64, hl]; omega
    by_cases h64 : x > 64
    · rw [if_pos (by simpa using h64)]
      refine hk1 true w ?_
      rw [if_pos rfl]
      exact hk w (hbad (by unfold NewBad; omega))
    · rw [if_neg (by simpa using h64)]
      refine C35 (s := s) hr hl hn (fun hodd => ⟨_, rfl, hk1 true w ?_⟩) (fun hodd => ⟨_, rfl, hk1 false w ?_⟩)
      · rw [if_pos rfl]
        exact hk w (hbad (.inr (.inr (.inr (.inr (.inr hodd))))))
      · rw [if_neg (by decide)]
        have hgood : ¬ NewBad m c rooms := by
          intro hb
          rcases hb with h | h | h | h | h | h <;> first | omega | exact hodd h
        have hm : m.toNat ≤ 64 := by omega
        intro kb2 hk2
        -- once the object is there
        have main : ∀ (u : World) (pb : Nat) (g : Nat → Nat), SyncAt u pb ⟨List.replicate m.toNat (-1), List.replicate c.toNat [], []⟩ g → (∀ b, b < w.heap.size → g b = 0) → (∀ D, Fr D w u) → kb2 (some ⟨pb, 0, none⟩) u := by
          intro u pb g hsy hg0 hfu
          refine hk2 _ u ?_
          refine ⟨fun n u => 0 ≤ n ∧ n ≤ rooms.length ∧ (∃ g, SyncAt u pb ⟨List.replicate m.toNat (-1), List.replicate c.toNat [], (rooms.take n.toNat).map fun r => ⟨[], r, 0⟩⟩ g ∧ ∀ b, b < w.heap.size → g b = 0) ∧ ∀ D, Fr D w u, fun n u => rooms.length - n.toNat, ⟨by omega, by omega, ⟨g, by simpa using hsy, hg0⟩, hfu⟩, ?_⟩
          rintro n u ⟨hn0, hn1, ⟨g, ⟨ow, cd, ch, qs, hs, hR⟩, hg0⟩, hfu⟩
          by_cases hlt : n < rooms.length
          · rw [if_pos (by simpa [hl] using hlt)]
            have ht : n.toNat < rooms.length := by omega
            obtain ⟨p, hp, -, hcell⟩ := hr.isSome (ints_get_iff ht)
            have hcell' : u.cell? (p.add n.toNat) = some (.int .i64 rooms[n.toNat]) := (hfu (fun _ => False)).cell hcell (fun h => h)
            rw [hp, xptr_some]
            refine ⟨hn0, by omega, _, by simpa using hcell', ?_⟩
            simp only [xptr_some, add_lit, hR.blk.cell, Nat.zero_add]
            refine ⟨ch.a, ch.l, ch.c, rfl, ?_⟩
            have hcl := hR.chs.1
            rw [chCells_length hs _ hR.nh] at hcl
            simp only [List.length_map, List.length_take] at hcl
            refine xr_push (xs := [.slice none 0 0, .int .i64 rooms[n.toNat], .int .i64 0]) T75 rfl (by rfl) rfl (by omega) (by intro u hu; simp at hu; rcases hu with rfl | rfl | rfl <;> rfl) hR.chs (by omega) (by omega) fun a' c' w6 ho6 hf6 hk6 => ?_
            have hpb4 : ¬ (g pb = 4) := by have := hR.tag; omega
            have hb6 : Blk w6 pb (obj ow cd ch) 77 := hf6.blk hR.blk hpb4
            refine storeP_blk hb6 (by simp [obj]) fun w7 hb7 hf7 hs7 => ?_
            have hadd := hR.addChan (ch' := ⟨a', ch.l + 1, c'⟩) ho6 hf6 hb7 hf7
            rw [wi (by omega) (by omega)]
            refine ⟨⟨by omega, by omega, ⟨Go.Proofs.Ythegnnifbgikmaa.retag g u.heap.size w7.heap.size 4, ?_, fun b hb => ?_⟩, fun D => ?_⟩, by show rooms.length - (n + 1).toNat < rooms.length - n.toNat; omega⟩
            · rw [show (n + 1).toNat = n.toNat + 1 from by omega, List.take_add_one, List.getElem?_eq_getElem ht, List.map_append]
              exact hadd.1
            · rw [hadd.2.old b (Nat.lt_of_lt_of_le hb (hfu (fun _ => False)).size)]; exact hg0 b hb
            · exact (hfu D).trans hadd.2.fr (fun _ _ h => h) (fun b hb hh => absurd (hg0 b hb) hh)
          · rw [if_neg (by simpa [hl] using hlt)]
            have hnl : rooms.take n.toNat = rooms := List.take_of_length_le (by omega)
            rw [hnl] at hR
            exact h hgood pb g u ⟨ow, cd, ch, qs, hs, hR⟩ hg0 hfu
        refine ⟨fun _ => True, trivial, ?_, ?_⟩
        · refine xr_build T29 rfl (cs := [.int .i64 (-1)]) (by rfl) rfl (by omega) fun w1 ho1 hf1 hk1' => ⟨_, _, _, rfl, trivial, ?_, ?_⟩
          · refine C36 (s := ⟨_, 1, 1⟩) ho1.rd rfl (by omega) (by omega) fun s2 w2 ho2 hf2 => ⟨_, _, _, rfl, trivial, ?_⟩
            refine xr_make (cs := List.replicate c.toNat (.slice none 0 0)) T74 rfl (by omega) (Int.le_refl _) (by omega) (by omega) (by simp) (fun i hi => by simp at hi; simp [hi, Nat.mod_one]) fun w3 ho3 hf3 hk3' => ⟨_, _, _, rfl, trivial, ?_⟩
            intro w4 p4
            have hb4 : Blk w4 w3.heap.size (obj s2 ⟨some ⟨w2.heap.size, 0, none⟩, c.toNat, c.toNat⟩ ⟨none, 0, 0⟩) 77 := Blk.new w3 _ _
            have hf4 : ∀ D, Fr D w3 w4 := fun D => Fr.alloc _ _ _
            clear_value w4
            have e1 := (hf1 (fun _ => False)).size
            have e1' : w.drew.heap.size = w.heap.size := rfl
            have e2 := (hf2 (fun _ => False)).size
            have e3 := (hf3 (fun _ => False)).size
            have ho2' : OwnI w4 3 s2 (List.replicate m.toNat (-1)) (fun k => w1.heap.size ≤ k ∧ k < w2.heap.size) := by
              have := ho2.mono (G' := fun k => w1.heap.size ≤ k ∧ k < w2.heap.size) (fun b hb hh => ⟨hh, hb⟩)
              exact Own.frame (Own.frame this (hf3 (fun _ => False)) (fun _ _ h => h)) (hf4 (fun _ => False)) (fun _ _ h => h)
            have ho3' := Own.frame ho3 (hf4 (fun _ => False)) (fun _ _ h => h)
            have hlt3 : w2.heap.size < w3.heap.size := by
              obtain ⟨_, _, h | ⟨b, o, B, he, hg, hb, _⟩⟩ := ho3
              · cases h.1
              · cases he; exact hb.lt
            obtain ⟨g, hg1, hg2⟩ := SyncR.made (n0 := w.heap.size) (k := c.toNat) hb4 ho2' ho3' (fun b hb => by omega) (fun b hb => by subst hb; omega) (by omega)
            exact ⟨fun _ => True, trivial, main w4 _ g hg1 hg2 fun D => ((((Fr.drew D w).trans (hf1 D) (fun _ _ h => h) (fun _ _ h => h)).trans (hf2 D) (fun _ _ h => h) (fun _ _ h => h)).trans (hf3 D) (fun _ _ h => h) (fun _ _ h => h)).trans (hf4 D) (fun _ _ h => h) (fun _ _ h => h)⟩
          · refine xr_make (cs := List.replicate c.toNat (.slice none 0 0)) T74 rfl (by omega) (Int.le_refl _) (by omega) (by omega) (by simp) (fun i hi => by simp at hi; simp [hi, Nat.mod_one]) fun w2 ho2 hf2 hk3' => ⟨_, _, _, rfl, trivial, ?_⟩
            have hr1 := (ho1.rd.mono (G' := fun _ => True) (fun _ _ _ => trivial)).frame (hf2 (fun _ => False)) (fun _ _ h => h)
            refine C36 (s := ⟨_, 1, 1⟩) hr1 rfl (by omega) (by omega) fun s3 w3 ho3 hf3 => ⟨_, _, _, rfl, trivial, ?_⟩
            intro w4 p4
            have hb4 : Blk w4 w3.heap.size (obj s3 ⟨some ⟨w1.heap.size, 0, none⟩, c.toNat, c.toNat⟩ ⟨none, 0, 0⟩) 77 := Blk.new w3 _ _
            have hf4 : ∀ D, Fr D w3 w4 := fun D => Fr.alloc _ _ _
            clear_value w4
            have e1 := (hf1 (fun _ => False)).size
            have e1' : w.drew.heap.size = w.heap.size := rfl
            have e2 := (hf2 (fun _ => False)).size
            have e3 := (hf3 (fun _ => False)).size
            have hlt2 : w1.heap.size < w2.heap.size := by
              obtain ⟨_, _, h | ⟨b, o, B, he, hg, hb, _⟩⟩ := ho2
              · cases h.1
              · cases he; exact hb.lt
            have ho3' : OwnI w4 3 s3 (List.replicate m.toNat (-1)) (fun k => w2.heap.size ≤ k ∧ k < w3.heap.size) := by
              have := ho3.mono (G' := fun k => w2.heap.size ≤ k ∧ k < w3.heap.size) (fun b hb hh => ⟨hh, hb⟩)
              exact Own.frame this (hf4 (fun _ => False)) (fun _ _ h => h)
            have ho2' := Own.frame (Own.frame ho2 (hf3 (fun _ => False)) (fun _ _ h => h)) (hf4 (fun _ => False)) (fun _ _ h => h)
            obtain ⟨g, hg1, hg2⟩ := SyncR.made (n0 := w.heap.size) (k := c.toNat) hb4 ho3' ho2' (fun b hb => by omega) (fun b hb => by subst hb; omega) (by omega)
            exact ⟨fun _ => True, trivial, main w4 _ g hg1 hg2 fun D => ((((Fr.drew D w).trans (hf1 D) (fun _ _ h => h) (fun _ _ h => h)).trans (hf2 D) (fun _ _ h => h) (fun _ _ h => h)).trans (hf3 D) (fun _ _ h => h) (fun _ _ h => h)).trans (hf4 D) (fun _ _ h => h) (fun _ _ h => h)⟩
        · refine xr_make (cs := List.replicate c.toNat (.slice none 0 0)) T74 rfl (by omega) (Int.le_refl _) (by omega) (by omega) (by simp) (fun i hi => by simp at hi; simp [hi, Nat.mod_one]) fun w1 ho1 hf1 hk3' => ⟨_, _, _, rfl, trivial, ?_⟩
          refine xr_build T29 rfl (cs := [.int .i64 (-1)]) (by rfl) rfl (by omega) fun w2 ho2 hf2 hk1' => ⟨_, _, _, rfl, trivial, ?_⟩
          refine C36 (s := ⟨_, 1, 1⟩) ho2.rd rfl (by omega) (by omega) fun s3 w3 ho3 hf3 => ⟨_, _, _, rfl, trivial, ?_⟩
          intro w4 p4
          have hb4 : Blk w4 w3.heap.size (obj s3 ⟨some ⟨w.drew.heap.size, 0, none⟩, c.toNat, c.toNat⟩ ⟨none, 0, 0⟩) 77 := Blk.new w3 _ _
          have hf4 : ∀ D, Fr D w3 w4 := fun D => Fr.alloc _ _ _
          clear_value w4
          have e1 := (hf1 (fun _ => False)).size
          have e1' : w.drew.heap.size = w.heap.size := rfl
          have e2 := (hf2 (fun _ => False)).size
          have e3 := (hf3 (fun _ => False)).size
          have hlt2 : w.drew.heap.size < w1.heap.size := by
            obtain ⟨_, _, h | ⟨b, o, B, he, hg, hb, _⟩⟩ := ho1
            · cases h.1
            · cases he; exact hb.lt
          have ho3' : OwnI w4 3 s3 (List.replicate m.toNat (-1)) (fun k => w2.heap.size ≤ k ∧ k < w3.heap.size) := by
            have := ho3.mono (G' := fun k => w2.heap.size ≤ k ∧ k < w3.heap.size) (fun b hb hh => ⟨hh, hb⟩)
            exact Own.frame this (hf4 (fun _ => False)) (fun _ _ h => h)
          have ho1' := Own.frame (Own.frame (Own.frame ho1 (hf2 (fun _ => False)) (fun _ _ h => h)) (hf3 (fun _ => False)) (fun _ _ h => h)) (hf4 (fun _ => False)) (fun _ _ h => h)
          obtain ⟨g, hg1, hg2⟩ := SyncR.made (n0 := w.heap.size) (k := c.toNat) hb4 ho3' ho1' (fun b hb => by omega) (fun b hb => by subst hb; omega) (by omega)
          exact ⟨fun _ => True, trivial, main w4 _ g hg1 hg2 fun D => ((((Fr.drew D w).trans (hf1 D) (fun _ _ h => h) (fun _ _ h => h)).trans (hf2 D) (fun _ _ h => h) (fun _ _ h => h)).trans (hf3 D) (fun _ _ h => h) (fun _ _ h => h)).trans (hf4 D) (fun _ _ h => h) (fun _ _ h => h)⟩
end
end Go.Proofs.Ythegnnifbgikmaa
