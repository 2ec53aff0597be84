/- The sync seat: the document's New, whole. -/
import Derived.Test.YthegnnifbgikmaaR14
set_option linter.unusedVariables false
set_option linter.unusedSimpArgs false
namespace Go.Proofs.Ythegnnifbgikmaa
open Go.X
section
variable {w : World} {K : Value → World → Prop} {KP : List PanicEntry → World → Prop} {G : Nat → Prop}
theorem C25 {s : Sl} {rooms : List Int} (hr : RdI w s rooms G) {m c : Int}
    (hbad : NewBad m c rooms → ∀ z' w', (∀ D, Fr D w w') → K (.tuple #[S5.v z', .int .i64 2]) w')
    (h : ¬ NewBad m c rooms → ∀ z' w', RefAt w' z' (RR.new m c rooms) (fun b => w.heap.size ≤ b) → (∀ D, Fr D w w') → K (.tuple #[S5.v z', .int .i64 0]) w') :
    XCP Try.prog 25 [.int .i64 m, .int .i64 c, s.v] w K KP := by
  show XCP Try.prog 25 [.int .i64 m, .int .i64 c, .slice s.a s.l s.c] w K KP
  apply E25; unfold F25
  intro w0 p w1 p1
  have hb0 : Blk w0 w.heap.size zero5 53 := Blk.new w _ _
  have hf0 : ∀ D, Fr D w w0 := fun D => Fr.alloc _ _ _
  have hs0 : w0.heap.size = w.heap.size + 1 := by simp [w0]
  clear_value w0
  have hb1 : Blk w1 w0.heap.size zero5 53 := Blk.new w0 _ _
  have hf1 : ∀ D, Fr D w0 w1 := fun D => Fr.alloc _ _ _
  clear_value w1
  refine storesAt_self hb1 rfl fun w2 hb2 hf2 hs2 => ?_
  have hsl := hr.2.1
  have hN : NI w w2 w.heap.size w0.heap.size ⟨⟨none, 0, 0⟩, ⟨none, 0, 0⟩, ⟨none, 0, 0⟩, ⟨none, 0, 0⟩, ⟨none, 0, 0⟩⟩ RR.zero (fun _ => 0) [] [] := {
    dst := hb2, res := hf2.blk ((hf1 (fun _ => False)).blk hb0 (fun h => h)) (fun e => by omega)
    own := { o := Own.none _ _ _ _, c := Own.none _ _ _ _, r := Own.none _ _ _ _, s := Own.none _ _ _ _, t := Own.none _ _ _ _, nc := rfl, ns := rfl, ci := fun i q xs hq _ => by simp at hq, si := fun i q xs hq _ => by simp at hq, sup := fun _ _ => rfl }
    dz := rfl, rz := rfl, old := fun _ _ => rfl, dw := by omega, rw_ := Nat.le_refl _, ne := by omega
    fr := fun D => ((hf0 D).trans (hf1 D) (fun _ _ h => h) (fun _ _ h => h)).trans hf2 (fun _ _ h => h) (fun b hb e => by omega) }
  clear hb0 hf0 hb1 hf1 hb2 hf2 hs2
  by_cases hearly : m < 0 ∨ m > 64 ∨ c < 0 ∨ c > 64 ∨ (s.l : Int) > 64
  · rw [if_pos (by simp; omega)]
    exact hN.retD fun u' _ hf => hbad (by unfold NewBad; omega) _ u' hf
  rw [if_neg (by simp; omega)]
  refine ⟨fun n u => 0 ≤ n ∧ n ≤ m ∧ ∃ z' g, NI w u w.heap.size w0.heap.size z' ⟨List.replicate n.toNat (-1), [], [], [], []⟩ g [] [], fun n u => m.toNat - n.toNat, ⟨by omega, by omega, _, _, hN⟩, ?_⟩
  clear hN
  rintro n w4 ⟨hn0, hn1, z', g, hN⟩
  by_cases hn : n < m
  · rw [if_pos (by simpa using hn)]
    refine ⟨z'.o.a, z'.o.l, z'.o.c, by show w4.cell? (Addr.add ⟨w0.heap.size, 0, none⟩ 0) = _; rw [add_lit, hN.dst.cell]; rfl, ?_⟩
    refine OwnI.push T29 (s := z'.o) hN.own.o (by simp; omega) fun s' w6 ho6 hf6 => ?_
    have hp := hN.own.partO hf6 ho6
    have hd6 := hf6.blk hN.dst (fun e => by have := hN.dz; have e : g w0.heap.size = _ := e; omega)
    refine storeP_blk hd6 (by simp [S5.cells, p1]) fun w7 hb7 hf7 hs7 => ?_
    rw [wi (by omega) (by omega)]
    refine ⟨⟨by omega, by omega, { z' with o := s' }, Go.Proofs.Ythegnnifbgikmaa.retag g w4.heap.size w6.heap.size 2, ?_⟩, by show m.toNat - (n + 1).toNat < m.toNat - n.toNat; omega⟩
    have := hN.turn (hf6.mono (fun b _ e => by omega)) (fun b hb => retag_old hb) hp hb7 hf7
    rw [show (n + 1).toNat = n.toNat + 1 from by omega, List.replicate_succ']
    exact this
  rw [if_neg (by simpa using hn)]
  have hnm : n = m := by omega
  subst hnm
  clear hn0 hn1 hn
  have hc0 : 0 ≤ c := by omega
  refine xr_make (cs := List.replicate c.toNat (.slice none 0 0)) T50 rfl hc0 (Int.le_refl _) (by omega) (by omega) (by simp) (fun i hi => by simp at hi; simp [hi, Nat.mod_one]) fun w8 ho8 hf8 _ => ⟨_, _, _, rfl, ?_⟩
  have hp8 := hN.own.partC (s' := ⟨some ⟨w4.heap.size, 0, none⟩, c.toNat, c.toNat⟩) (k := c.toNat) (hf8 _) (ho8.mono (fun b _ hb => .inr (Nat.le_of_eq hb.symm)))
  refine storeP_blk ((hf8 (fun _ => False)).blk hN.dst (fun h => h)) (by simp [S5.cells, p1]) fun w9 hb9 hf9 hs9 => ?_
  have hN9 := hN.turn (hf8 _) (fun b hb => retag_old hb) hp8 hb9 hf9
  clear hp8 hb9 hf9 hs9 ho8 hf8 hN
  refine ⟨fun k u => 0 ≤ k ∧ k ≤ rooms.length ∧ (∀ x ∈ rooms.take k.toNat, ¬ (x < 1 ∨ x > 16)) ∧ ∃ z' g qc, NI w u w.heap.size w0.heap.size z' ⟨List.replicate n.toNat (-1), List.replicate c.toNat [], rooms.take k.toNat, [], []⟩ g qc [], fun k u => rooms.length - k.toNat,
    ⟨by omega, by omega, by simp, _, _, _, by simpa [RR.zero] using hN9⟩, ?_⟩
  clear hN9 z' g
  rintro k w10 ⟨hk0, hk1, hgood, z', g, qc, hN⟩
  by_cases hk : k < rooms.length
  · rw [if_pos (by simp [hsl]; omega)]
    have hkt : k.toNat < rooms.length := by omega
    obtain ⟨p2, hp2, hc2⟩ := hr.nth hkt
    have hc10 : w10.cell? (p2.add k.toNat) = some (.int .i64 rooms[k.toNat]) := (hN.fr (fun _ => False)).cell hc2 (fun h => h)
    rw [show xptr s.a = xptr (some p2) from by rw [hp2], xptr_some]
    refine ⟨hk0, by omega, rooms[k.toNat], by simpa using hc10, ?_⟩
    intro kb hkb
    have badk : rooms[k.toNat] < 1 ∨ rooms[k.toNat] > 16 → kb true w10 := by
      intro hx
      refine hkb _ _ ?_
      rw [if_pos rfl]
      refine storesAt_self hN.res rfl fun w12 hb12 hf12 hs12 => ?_
      refine ⟨none, 0, 0, none, 0, 0, none, 0, 0, none, 0, 0, none, 0, 0, cellsAt_self hb12, ?_⟩
      exact hbad (.inr (.inr (.inr (.inr (.inr ⟨_, List.getElem_mem hkt, hx⟩))))) ⟨⟨none, 0, 0⟩, ⟨none, 0, 0⟩, ⟨none, 0, 0⟩, ⟨none, 0, 0⟩, ⟨none, 0, 0⟩⟩ w12 fun D => (hN.fr D).trans hf12 (fun _ _ h => h) (fun b hb e => by omega)
    by_cases h1 : rooms[k.toNat] < 1
    · rw [if_pos (by simpa using h1)]; exact badk (.inl h1)
    · rw [if_neg (by simpa using h1)]
      rw [xptr_some]
      refine ⟨hk0, by omega, rooms[k.toNat], by simpa using hc10, ?_⟩
      by_cases h16 : rooms[k.toNat] > 16
      · rw [show decide (rooms[k.toNat] > 16) = true from by simpa using h16]; exact badk (.inr h16)
      · rw [show decide (rooms[k.toNat] > 16) = false from by simpa using h16]
        refine hkb _ _ ?_
        rw [if_neg (by decide)]
        refine ⟨fun y => Blk y w0.heap.size z'.cells 53 ∧ y.cell? (p2.add k.toNat) = some (.int .i64 rooms[k.toNat]), ⟨hN.dst, hc10⟩, ?_⟩
        refine ⟨z'.r.a, z'.r.l, z'.r.c, fun y hy => by show y.cell? (Addr.add ⟨w0.heap.size, 0, none⟩ 2) = _; rw [add_lit, hy.1.cell]; rfl, ?_⟩
        rw [xptr_some]
        refine ⟨hk0, by omega, rooms[k.toNat], fun y hy => by simpa using hy.2, ?_⟩
        refine xr_build T29 rfl (cs := [.int .i64 rooms[k.toNat]]) (by rfl) rfl (by omega) fun w16 ho16 hf16 _ => ⟨_, _, _, rfl, ⟨(hf16 (fun _ => False)).blk hN.dst (fun h => h), (hf16 (fun _ => False)).cell hc10 (fun h => h)⟩, ?_⟩
        have hor : Own w16 1 3 z'.r.a z'.r.l z'.r.c (ints (rooms.take k.toNat)) (fun b => g b = 4 ∧ b < w10.drew.heap.size) := Own.frame (Own.drew (Own.mono hN.own.r (G' := fun b => g b = 4 ∧ b < w10.drew.heap.size) (fun b hb hg => ⟨hg, hb⟩))) (hf16 (fun _ => False)) (fun _ _ h => h)
        have e16 := (hf16 (fun _ => False)).size
        have hrl := hN.own.r.len
        simp at hrl
        refine xr_append T29 rfl hor ho16.rd rfl (by intro u hu; simp at hu; subst hu; rfl) (by omega) (by omega) fun a' c' w17 ho17 hf17 _ => ⟨_, _, _, rfl, fun _ => True, trivial, ?_⟩
        have hf1017 : Fr (g · = 4) w10 w17 := ((Fr.drew _ w10).trans (hf16 (g · = 4)) (fun _ _ h => h) (fun _ _ h => h)).trans hf17 (fun _ _ h => h) (fun _ _ h => h.1)
        have ho17' : OwnI w17 3 ⟨a', z'.r.l + 1, c'⟩ (rooms.take k.toNat ++ [rooms[k.toNat]]) (fun b => g b = 4 ∨ w10.heap.size ≤ b) := by
          have := ho17.mono (G' := fun b => g b = 4 ∨ w10.heap.size ≤ b) (fun b _ hb => by
            rcases hb with hb | hb
            · exact .inl hb.1
            · have e : w10.drew.heap.size = w10.heap.size := rfl
              exact .inr (by omega))
          show Own w17 1 3 a' (z'.r.l + 1) c' (ints (rooms.take k.toNat ++ [rooms[k.toNat]])) _
          rw [ints_append]
          exact this
        have hp := hN.own.partR hf1017 ho17'
        have hd17 := hf1017.blk hN.dst (fun e => by have := hN.dz; have e : g w0.heap.size = _ := e; omega)
        refine storeP_blk hd17 (by simp [S5.cells, p1]) fun w18 hb18 hf18 hs18 => ?_
        rw [wi (by omega) (by omega)]
        refine ⟨⟨by omega, by omega, ?_, { z' with r := ⟨a', z'.r.l + 1, c'⟩ }, Go.Proofs.Ythegnnifbgikmaa.retag g w10.heap.size w17.heap.size 4, qc, ?_⟩, by show rooms.length - (k + 1).toNat < rooms.length - k.toNat; omega⟩
        · rw [show (k + 1).toNat = k.toNat + 1 from by omega, List.take_add_one, List.getElem?_eq_getElem hkt]
          intro x hx
          rcases List.mem_append.1 hx with hx | hx
          · exact hgood x hx
          · simp at hx; subst hx; omega
        · have := hN.turn (hf1017.mono (fun b _ e => by omega)) (fun b hb => retag_old hb) hp hb18 hf18
          rw [show (k + 1).toNat = k.toNat + 1 from by omega, List.take_add_one, List.getElem?_eq_getElem hkt]
          exact this
  · rw [if_neg (by simp [hsl]; omega)]
    rw [List.take_of_length_le (by omega)] at hgood hN
    have hok : ¬ NewBad n c rooms := by
      intro hb
      rcases hb with h | h | h | h | h | ⟨x, hx, hh⟩ <;> first | omega | exact hgood x hx hh
    intro kb1 hkb1
    have fin : ∀ (u : World) (z2 : S5) (g2 : Nat → Nat) (qc2 qs2 : List Sl), NI w u w.heap.size w0.heap.size z2 (RR.new n c rooms) g2 qc2 qs2 → kb1 u := fun u z2 g2 qc2 qs2 hN2 => hkb1 u (hN2.retD fun u' hr hf => h hok _ u' hr hf)
    have hD : NI w w10.drew w.heap.size w0.heap.size z' ⟨List.replicate n.toNat (-1), List.replicate c.toNat [], rooms, [], []⟩ g qc [] :=
      { hN with own := hN.own.frame (Fr.drew (fun _ => False) w10) (fun _ h => h.elim), dst := hN.dst.drew, res := hN.res.drew, fr := fun D => (hN.fr D).trans (Fr.drew D w10) (fun _ _ h => h) (fun _ _ h => h) }
    have htn : ((s.l : Nat) : Int).toNat = rooms.length := by omega
    clear hkb1 hN
    refine ⟨fun _ => True, trivial, ?_, ?_⟩
    · refine xr_make (cs := List.replicate rooms.length (.slice none 0 0)) T51 rfl (by omega) (Int.le_refl _) (by omega) (by omega) (by simp [hsl]) (fun i hi => by simp [hsl] at hi; simp [hi, Nat.mod_one]) fun w22 ho22 hf22 _ => ⟨_, _, _, rfl, trivial, ?_, ?_⟩
      · refine xr_make (cs := ints (List.replicate rooms.length 0)) T29 rfl (by omega) (Int.le_refl _) (by omega) (by omega) (by simp [hsl]) (fun i hi => by simp [hsl] at hi; simp [ints, hi, Nat.mod_one]) fun w23 ho23 hf23 _ => ⟨_, _, _, rfl, trivial, ?_⟩
        have hp22 := hD.own.partS (s' := ⟨some ⟨w10.drew.heap.size, 0, none⟩, ((s.l : Nat) : Int).toNat, ((s.l : Nat) : Int).toNat⟩) (k := rooms.length) (hf22 _) (ho22.mono (fun b _ hb => .inr (Nat.le_of_eq hb.symm)))
        have hp23 := hp22.partT (s' := ⟨some ⟨w22.heap.size, 0, none⟩, ((s.l : Nat) : Int).toNat, ((s.l : Nat) : Int).toNat⟩) (xs' := List.replicate rooms.length 0) (hf23 _) (ho23.mono (fun b _ hb => .inr (Nat.le_of_eq hb.symm)))
        have e22 := (hf22 (fun _ => False)).size
        have hd := (hf23 (fun _ => False)).blk ((hf22 (fun _ => False)).blk hD.dst (fun h => h)) (fun h => h)
        refine storeP_blk hd (by simp [S5.cells, p1]) fun w24 hb24 hf24 hs24 => ⟨trivial, ?_⟩
        refine storeP_blk hb24 (by simp [S5.cells, p1]) fun w25 hb25 hf25 hs25 => ?_
        exact fin _ _ _ _ _ (hD.turn ((hf22 _).trans (hf23 _) (fun _ _ h => h) (fun _ _ h => h)) (fun b hb => by rw [retag_old (by omega), retag_old hb]) hp23 hb25 (hf24.trans hf25 (fun _ _ h => h) (fun _ _ h => h)))
      · have hp22 := hD.own.partS (s' := ⟨some ⟨w10.drew.heap.size, 0, none⟩, ((s.l : Nat) : Int).toNat, ((s.l : Nat) : Int).toNat⟩) (k := rooms.length) (hf22 _) (ho22.mono (fun b _ hb => .inr (Nat.le_of_eq hb.symm)))
        refine storeP_blk ((hf22 (fun _ => False)).blk hD.dst (fun h => h)) (by simp [S5.cells, p1]) fun w26 hb26 hf26 hs26 => ⟨trivial, ?_⟩
        have hN26 := hD.turn (hf22 _) (fun b hb => retag_old hb) hp22 hb26 hf26
        refine xr_make (cs := ints (List.replicate rooms.length 0)) T29 rfl (by omega) (Int.le_refl _) (by omega) (by omega) (by simp [hsl]) (fun i hi => by simp [hsl] at hi; simp [ints, hi, Nat.mod_one]) fun w27 ho27 hf27 _ => ⟨_, _, _, rfl, trivial, ?_⟩
        have hp27 := hN26.own.partT (s' := ⟨some ⟨w26.heap.size, 0, none⟩, ((s.l : Nat) : Int).toNat, ((s.l : Nat) : Int).toNat⟩) (xs' := List.replicate rooms.length 0) (hf27 _) (ho27.mono (fun b _ hb => .inr (Nat.le_of_eq hb.symm)))
        refine storeP_blk ((hf27 (fun _ => False)).blk hN26.dst (fun h => h)) (by simp [S5.cells, p1]) fun w28 hb28 hf28 hs28 => ?_
        exact fin _ _ _ _ _ (hN26.turn (hf27 _) (fun b hb => retag_old hb) hp27 hb28 hf28)
    · refine xr_make (cs := ints (List.replicate rooms.length 0)) T29 rfl (by omega) (Int.le_refl _) (by omega) (by omega) (by simp [hsl]) (fun i hi => by simp [hsl] at hi; simp [ints, hi, Nat.mod_one]) fun w29 ho29 hf29 _ => ⟨_, _, _, rfl, trivial, ?_⟩
      refine xr_make (cs := List.replicate rooms.length (.slice none 0 0)) T51 rfl (by omega) (Int.le_refl _) (by omega) (by omega) (by simp [hsl]) (fun i hi => by simp [hsl] at hi; simp [hi, Nat.mod_one]) fun w30 ho30 hf30 _ => ⟨_, _, _, rfl, trivial, ?_⟩
      have hp29 := hD.own.partT (s' := ⟨some ⟨w10.drew.heap.size, 0, none⟩, ((s.l : Nat) : Int).toNat, ((s.l : Nat) : Int).toNat⟩) (xs' := List.replicate rooms.length 0) (hf29 _) (ho29.mono (fun b _ hb => .inr (Nat.le_of_eq hb.symm)))
      have hp30 := hp29.partS (s' := ⟨some ⟨w29.heap.size, 0, none⟩, ((s.l : Nat) : Int).toNat, ((s.l : Nat) : Int).toNat⟩) (k := rooms.length) (hf30 _) (ho30.mono (fun b _ hb => .inr (Nat.le_of_eq hb.symm)))
      have e29 := (hf29 (fun _ => False)).size
      have hd := (hf30 (fun _ => False)).blk ((hf29 (fun _ => False)).blk hD.dst (fun h => h)) (fun h => h)
      refine storeP_blk hd (by simp [S5.cells, p1]) fun w31 hb31 hf31 hs31 => ⟨trivial, ?_⟩
      refine storeP_blk hb31 (by simp [S5.cells, p1]) fun w32 hb32 hf32 hs32 => ?_
      exact fin _ _ _ _ _ (hD.turn ((hf29 _).trans (hf30 _) (fun _ _ h => h) (fun _ _ h => h)) (fun b hb => by rw [retag_old (by omega), retag_old hb]) hp30 hb32 (hf31.trans hf32 (fun _ _ h => h) (fun _ _ h => h)))
end
end Go.Proofs.Ythegnnifbgikmaa
