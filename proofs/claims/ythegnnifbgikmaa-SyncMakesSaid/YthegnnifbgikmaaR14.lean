/- The sync seat: the parts of a state in the making. -/
import Derived.Test.YthegnnifbgikmaaR13
set_option linter.unusedVariables false
set_option linter.unusedSimpArgs false
namespace Go.Proofs.Ythegnnifbgikmaa
open Go.X
section
variable {u u' : World} {z : S5} {R : RR} {g : Nat → Nat} {qc qs : List Sl}
theorem RefOwn.partO (h : RefOwn u z R g qc qs) {s' : Sl} {xs' : List Int} (hf : Fr (g · = 2) u u') (ho : OwnI u' 3 s' xs' (fun b => g b = 2 ∨ u.heap.size ≤ b)) :
    RefOwn u' { z with o := s' } { R with owners := xs' } (retag g u.heap.size u'.heap.size 2) qc qs where
  o := own_new hf ho
  c := Own.retag h.c hf (fun b hb e => by omega)
  r := Own.retag h.r hf (fun b hb e => by omega)
  s := Own.retag h.s hf (fun b hb e => by omega)
  t := Own.retag h.t hf (fun b hb e => by omega)
  nc := h.nc
  ns := h.ns
  ci := fun i q xs hq hx => Own.retag (h.ci i q xs hq hx) hf (fun b hb e => by omega)
  si := fun i q xs hq hx => Own.retag (h.si i q xs hq hx) hf (fun b hb e => by omega)
  sup := fun b hb => retag_sup hf.size hb
theorem RefOwn.partR (h : RefOwn u z R g qc qs) {s' : Sl} {xs' : List Int} (hf : Fr (g · = 4) u u') (ho : OwnI u' 3 s' xs' (fun b => g b = 4 ∨ u.heap.size ≤ b)) :
    RefOwn u' { z with r := s' } { R with rooms := xs' } (retag g u.heap.size u'.heap.size 4) qc qs where
  r := own_new hf ho
  o := Own.retag h.o hf (fun b hb e => by omega)
  c := Own.retag h.c hf (fun b hb e => by omega)
  s := Own.retag h.s hf (fun b hb e => by omega)
  t := Own.retag h.t hf (fun b hb e => by omega)
  nc := h.nc
  ns := h.ns
  ci := fun i q xs hq hx => Own.retag (h.ci i q xs hq hx) hf (fun b hb e => by omega)
  si := fun i q xs hq hx => Own.retag (h.si i q xs hq hx) hf (fun b hb e => by omega)
  sup := fun b hb => retag_sup hf.size hb
theorem RefOwn.partT (h : RefOwn u z R g qc qs) {s' : Sl} {xs' : List Int} (hf : Fr (g · = 6) u u') (ho : OwnI u' 3 s' xs' (fun b => g b = 6 ∨ u.heap.size ≤ b)) :
    RefOwn u' { z with t := s' } { R with taken := xs' } (retag g u.heap.size u'.heap.size 6) qc qs where
  t := own_new hf ho
  o := Own.retag h.o hf (fun b hb e => by omega)
  c := Own.retag h.c hf (fun b hb e => by omega)
  r := Own.retag h.r hf (fun b hb e => by omega)
  s := Own.retag h.s hf (fun b hb e => by omega)
  nc := h.nc
  ns := h.ns
  ci := fun i q xs hq hx => Own.retag (h.ci i q xs hq hx) hf (fun b hb e => by omega)
  si := fun i q xs hq hx => Own.retag (h.si i q xs hq hx) hf (fun b hb e => by omega)
  sup := fun b hb => retag_sup hf.size hb
theorem RefOwn.partC (h : RefOwn u z R g qc qs) {s' : Sl} {k : Nat} (hf : Fr (g · = 3) u u') (ho : Own u' 1 29 s'.a s'.l s'.c (List.replicate k (.slice none 0 0)) (fun b => g b = 3 ∨ u.heap.size ≤ b)) :
    RefOwn u' { z with c := s' } { R with conds := List.replicate k [] } (retag g u.heap.size u'.heap.size 3) (List.replicate k ⟨none, 0, 0⟩) qs where
  c := by
    have e : (List.replicate k (⟨none, 0, 0⟩ : Sl)).map Sl.v = List.replicate k (.slice none 0 0) := by simp [Sl.v]
    rw [e]
    exact ho.mono (fun b hb hh => by
      show Go.Proofs.Ythegnnifbgikmaa.retag g _ _ _ b = 3
      rcases Nat.lt_or_ge b u.heap.size with h | h
      · rw [retag_old h]; rcases hh with hh | hh; exact hh; omega
      · rw [retag_new h hb])
  o := Own.retag h.o hf (fun b hb e => by omega)
  r := Own.retag h.r hf (fun b hb e => by omega)
  s := Own.retag h.s hf (fun b hb e => by omega)
  t := Own.retag h.t hf (fun b hb e => by omega)
  nc := by simp
  ns := h.ns
  ci := fun i q xs hq hx => by
    rw [List.getElem?_replicate] at hq hx
    split at hq
    · injection hq with hq; subst hq
      rw [if_pos (by assumption)] at hx
      injection hx with hx; subst hx
      exact Own.none _ _ _ _
    · cases hq
  si := fun i q xs hq hx => Own.retag (h.si i q xs hq hx) hf (fun b hb e => by omega)
  sup := fun b hb => retag_sup hf.size hb
theorem RefOwn.partS (h : RefOwn u z R g qc qs) {s' : Sl} {k : Nat} (hf : Fr (g · = 5) u u') (ho : Own u' 1 28 s'.a s'.l s'.c (List.replicate k (.slice none 0 0)) (fun b => g b = 5 ∨ u.heap.size ≤ b)) :
    RefOwn u' { z with s := s' } { R with sent := List.replicate k [] } (retag g u.heap.size u'.heap.size 5) qc (List.replicate k ⟨none, 0, 0⟩) where
  s := by
    have e : (List.replicate k (⟨none, 0, 0⟩ : Sl)).map Sl.v = List.replicate k (.slice none 0 0) := by simp [Sl.v]
    rw [e]
    exact ho.mono (fun b hb hh => by
      show Go.Proofs.Ythegnnifbgikmaa.retag g _ _ _ b = 5
      rcases Nat.lt_or_ge b u.heap.size with h | h
      · rw [retag_old h]; rcases hh with hh | hh; exact hh; omega
      · rw [retag_new h hb])
  o := Own.retag h.o hf (fun b hb e => by omega)
  c := Own.retag h.c hf (fun b hb e => by omega)
  r := Own.retag h.r hf (fun b hb e => by omega)
  t := Own.retag h.t hf (fun b hb e => by omega)
  ns := by simp
  nc := h.nc
  si := fun i q xs hq hx => by
    rw [List.getElem?_replicate] at hq hx
    split at hq
    · injection hq with hq; subst hq
      rw [if_pos (by assumption)] at hx
      injection hx with hx; subst hx
      exact Own.none _ _ _ _
    · cases hq
  ci := fun i q xs hq hx => Own.retag (h.ci i q xs hq hx) hf (fun b hb e => by omega)
  sup := fun b hb => retag_sup hf.size hb
end
section
variable {w u : World} {rb d : Nat} {z' : S5} {R' : RR} {g : Nat → Nat} {qc qs : List Sl}
theorem NI.retD (h : NI w u rb d z' R' g qc qs)
    {Q : Option Addr → Nat → Nat → Option Addr → Nat → Nat → Option Addr → Nat → Nat → Option Addr → Nat → Nat → Option Addr → Nat → Nat → World → Prop}
    (hQ : ∀ u', RefAt u' z' R' (fun b => w.heap.size ≤ b) → (∀ D, Fr D w u') → Q z'.o.a z'.o.l z'.o.c z'.c.a z'.c.l z'.c.c z'.r.a z'.r.l z'.r.c z'.s.a z'.s.l z'.s.c z'.t.a z'.t.l z'.t.c u') :
    ∃ (a5 : Option Addr) (l5 : Nat) (c5 : Nat) (a6 : Option Addr) (l6 : Nat) (c6 : Nat) (a7 : Option Addr) (l7 : Nat) (c7 : Nat) (a8 : Option Addr) (l8 : Nat) (c8 : Nat) (a9 : Option Addr) (l9 : Nat) (c9 : Nat),
      cellsAt u ⟨d, 0, none⟩ 0 [.slice a5 l5 c5, .slice a6 l6 c6, .slice a7 l7 c7, .slice a8 l8 c8, .slice a9 l9 c9] ∧
      storesAt ⟨rb, 0, none⟩ 0 [.slice a5 l5 c5, .slice a6 l6 c6, .slice a7 l7 c7, .slice a8 l8 c8, .slice a9 l9 c9] u fun w3 =>
        ∃ (a10 : Option Addr) (l10 : Nat) (c10 : Nat) (a11 : Option Addr) (l11 : Nat) (c11 : Nat) (a12 : Option Addr) (l12 : Nat) (c12 : Nat) (a13 : Option Addr) (l13 : Nat) (c13 : Nat) (a14 : Option Addr) (l14 : Nat) (c14 : Nat),
          cellsAt w3 ⟨rb, 0, none⟩ 0 [.slice a10 l10 c10, .slice a11 l11 c11, .slice a12 l12 c12, .slice a13 l13 c13, .slice a14 l14 c14] ∧ Q a10 l10 c10 a11 l11 c11 a12 l12 c12 a13 l13 c13 a14 l14 c14 w3 :=
  ⟨z'.o.a, z'.o.l, z'.o.c, z'.c.a, z'.c.l, z'.c.c, z'.r.a, z'.r.l, z'.r.c, z'.s.a, z'.s.l, z'.s.c, z'.t.a, z'.t.l, z'.t.c, cellsAt_self h.dst, storesAt_self h.res rfl fun w3 hb3 hf3 hs3 =>
    ⟨z'.o.a, z'.o.l, z'.o.c, z'.c.a, z'.c.l, z'.c.c, z'.r.a, z'.r.l, z'.r.c, z'.s.a, z'.s.l, z'.s.c, z'.t.a, z'.t.l, z'.t.c, cellsAt_self hb3, hQ w3 (by
      have h1 := h.own.frame hf3 (fun b e => by subst e; have := h.rz; omega)
      refine h1.at_.mono fun b hb hg => ?_
      rcases Nat.lt_or_ge b w.heap.size with h4 | h4
      · exact absurd (h.old b h4) hg
      · exact h4) (fun D => (h.fr D).trans hf3 (fun _ _ h => h) (fun b hb e => by have := h.rw_; omega))⟩⟩
end
end Go.Proofs.Ythegnnifbgikmaa
