/- The sync seat: what the document's calls share: the boxes, the copy, one part of it set. -/
import Derived.Test.YthegnnifbgikmaaR4
import Derived.Test.YthegnnifbgikmaaG
set_option linter.unusedVariables false
set_option linter.unusedSimpArgs false
namespace Go.Proofs.Ythegnnifbgikmaa
open Go.X

structure RB (w u : World) (pb rb : Nat) (z : S5) (R : RR) (G : Nat → Prop) : Prop where
  box : Blk u pb z.cells 53
  res : Blk u rb zero5 53
  pw : w.heap.size ≤ pb
  rw_ : w.heap.size ≤ rb
  ne : pb ≠ rb
  ref : RefAt u z R G
  gl : ∀ b, G b → b < w.heap.size
  fr : ∀ D, Fr D w u
theorem RB.frame {w u u' : World} {pb rb : Nat} {z : S5} {R : RR} {G : Nat → Prop} (h : RB w u pb rb z R G) {D : Nat → Prop} (hf : Fr D u u') (hd : ∀ b, D b → w.heap.size ≤ b ∧ b ≠ pb ∧ b ≠ rb) : RB w u' pb rb z R G where
  box := hf.blk h.box (fun e => (hd _ e).2.1 rfl)
  res := hf.blk h.res (fun e => (hd _ e).2.2 rfl)
  pw := h.pw
  rw_ := h.rw_
  ne := h.ne
  ref := h.ref.frame hf (fun b hb e => by have := h.gl b hb; have := (hd b e).1; omega)
  gl := h.gl
  fr := fun D' => (h.fr D').trans hf (fun _ _ h => h) (fun b hb e => by have := (hd b e).1; omega)
theorem RB.drew {w u : World} {pb rb : Nat} {z : S5} {R : RR} {G : Nat → Prop} (h : RB w u pb rb z R G) : RB w u.drew pb rb z R G := h.frame (Fr.drew (fun _ => False) u) (fun _ h => h.elim)
theorem RB.start {w : World} {z : S5} {R : RR} {G : Nat → Prop} (h : RefAt w z R G) {w0 w1 : World} (hb0 : Blk w0 w.heap.size z.cells 53) (hf0 : ∀ D, Fr D w w0) (hs0 : w0.heap.size = w.heap.size + 1) (hb1 : Blk w1 w0.heap.size zero5 53) (hf1 : ∀ D, Fr D w0 w1) :
    RB w w1 w.heap.size w0.heap.size z R (fun b => G b ∧ b < w.heap.size) where
  box := (hf1 (fun _ => False)).blk hb0 (fun h => h)
  res := hb1
  pw := Nat.le_refl _
  rw_ := by omega
  ne := by omega
  ref := (h.mono (G' := fun b => G b ∧ b < w.heap.size) (fun b hb hg => ⟨hg, hb⟩)).frame ((hf0 (fun _ => False)).trans (hf1 (fun _ => False)) (fun _ _ h => h) (fun _ _ h => h)) (fun _ _ h => h)
  gl := fun b hb => hb.2
  fr := fun D => (hf0 D).trans (hf1 D) (fun _ _ h => h) (fun _ _ h => h)
/-- the state that a call is handed, and its result's box -/
theorem RB.enter {w : World} {z : S5} {R : RR} {G : Nat → Prop} (h : RefAt w z R G) :
    RB w ((w.alloc (.cells z.cells.toArray 53)).alloc (.cells #[.slice none 0 0, .slice none 0 0, .slice none 0 0, .slice none 0 0, .slice none 0 0] 53)) w.heap.size (w.alloc (.cells z.cells.toArray 53)).heap.size z R (fun b => G b ∧ b < w.heap.size) :=
  RB.start h (Blk.new w _ _) (fun D => Fr.alloc _ _ _) (by simp) (Blk.new _ _ _) (fun D => Fr.alloc _ _ _)
/-- back with what lies in box d -/
theorem RB.retD {w u : World} {pb rb : Nat} {z : S5} {R : RR} {G : Nat → Prop} (h : RB w u pb rb z R G) {d : Nat} {z' : S5} (hd : Blk u d z'.cells 53)
    {Q : Option Addr → Nat → Nat → Option Addr → Nat → Nat → Option Addr → Nat → Nat → Option Addr → Nat → Nat → Option Addr → Nat → Nat → World → Prop}
    (hQ : ∀ u', Fr (fun b => b = rb) u u' → Q z'.o.a z'.o.l z'.o.c z'.c.a z'.c.l z'.c.c z'.r.a z'.r.l z'.r.c z'.s.a z'.s.l z'.s.c z'.t.a z'.t.l z'.t.c u') :
    ∃ (a5 : Option Addr) (l5 : Nat) (c5 : Nat) (a6 : Option Addr) (l6 : Nat) (c6 : Nat) (a7 : Option Addr) (l7 : Nat) (c7 : Nat) (a8 : Option Addr) (l8 : Nat) (c8 : Nat) (a9 : Option Addr) (l9 : Nat) (c9 : Nat),
      cellsAt u ⟨d, 0, none⟩ 0 [.slice a5 l5 c5, .slice a6 l6 c6, .slice a7 l7 c7, .slice a8 l8 c8, .slice a9 l9 c9] ∧
      storesAt ⟨rb, 0, none⟩ 0 [.slice a5 l5 c5, .slice a6 l6 c6, .slice a7 l7 c7, .slice a8 l8 c8, .slice a9 l9 c9] u fun w3 =>
        ∃ (a10 : Option Addr) (l10 : Nat) (c10 : Nat) (a11 : Option Addr) (l11 : Nat) (c11 : Nat) (a12 : Option Addr) (l12 : Nat) (c12 : Nat) (a13 : Option Addr) (l13 : Nat) (c13 : Nat) (a14 : Option Addr) (l14 : Nat) (c14 : Nat),
          cellsAt w3 ⟨rb, 0, none⟩ 0 [.slice a10 l10 c10, .slice a11 l11 c11, .slice a12 l12 c12, .slice a13 l13 c13, .slice a14 l14 c14] ∧ Q a10 l10 c10 a11 l11 c11 a12 l12 c12 a13 l13 c13 a14 l14 c14 w3 :=
  ⟨z'.o.a, z'.o.l, z'.o.c, z'.c.a, z'.c.l, z'.c.c, z'.r.a, z'.r.l, z'.r.c, z'.s.a, z'.s.l, z'.s.c, z'.t.a, z'.t.l, z'.t.c, cellsAt_self hd, storesAt_self h.res rfl fun w3 hb3 hf3 hs3 =>
    ⟨z'.o.a, z'.o.l, z'.o.c, z'.c.a, z'.c.l, z'.c.c, z'.r.a, z'.r.l, z'.r.c, z'.s.a, z'.s.l, z'.s.c, z'.t.a, z'.t.l, z'.t.c, cellsAt_self hb3, hQ w3 hf3⟩⟩
/-- back with the state as it came -/
theorem RB.ret {w u u' : World} {pb rb : Nat} {z : S5} {R : RR} {G : Nat → Prop} (h : RB w u pb rb z R G) (hf : Fr (fun b => b = rb) u u') : RefAt u' z R G ∧ ∀ D, Fr D w u' :=
  ⟨h.ref.frame hf (fun b hb e => by have := h.gl b hb; have := h.rw_; omega), fun D => (h.fr D).trans hf (fun _ _ h => h) (fun b hb e => by have := h.rw_; omega)⟩

/-- a copy in box d, some part of it turned -/
structure CB (w u : World) (pb rb d : Nat) (z : S5) (R : RR) (G : Nat → Prop) (zc : S5) (R' : RR) (g : Nat → Nat) (qc qs : List Sl) : Prop where
  base : RB w u pb rb z R G
  own : RefOwn u zc R' g qc qs
  dst : Blk u d zc.cells 53
  dz : g d = 0
  pz : g pb = 0
  rz : g rb = 0
  old : ∀ b, b < w.heap.size → g b = 0
  dw : w.heap.size ≤ d
  dp : d ≠ pb
  dr : d ≠ rb
theorem RB.copied {w u w7 w9 : World} {pb rb : Nat} {z : S5} {R : RR} {G : Nat → Prop} (h : RB w u pb rb z R G) {zc : S5} {g : Nat → Nat} {qc qs : List Sl} (hown : RefOwn w7 zc R g qc qs) (hold : ∀ b, b < u.heap.size → g b = 0) (hfr : ∀ D, Fr D u w7)
    (hb9 : Blk w9 w7.heap.size zc.cells 53) (hf9 : ∀ D, Fr D w7 w9) : CB w w9 pb rb w7.heap.size z R G zc R g qc qs := by
  have e1 := (h.fr (fun _ => False)).size
  have e2 := (hfr (fun _ => False)).size
  have e3 := h.box.lt
  have e4 := h.res.lt
  have hf : ∀ D, Fr D u w9 := fun D => (hfr D).trans (hf9 D) (fun _ _ h => h) (fun _ _ h => h)
  exact { base := h.frame (hf (fun _ => False)) (fun _ h => h.elim), own := hown.frame (hf9 (fun _ => False)) (fun _ h => h.elim), dst := hb9
          dz := hown.sup _ (Nat.le_refl _), pz := hold _ e3, rz := hold _ e4, old := fun b hb => hold b (by omega), dw := by omega, dp := by omega, dr := by omega }
theorem CB.drew {w u : World} {pb rb d : Nat} {z : S5} {R : RR} {G : Nat → Prop} {zc : S5} {R' : RR} {g : Nat → Nat} {qc qs : List Sl} (h : CB w u pb rb d z R G zc R' g qc qs) : CB w u.drew pb rb d z R G zc R' g qc qs :=
  { h with base := h.base.drew, own := h.own.frame (Fr.drew (fun _ => False) u) (fun _ h => h.elim), dst := h.dst.drew }
/-- what the result is told of -/
theorem CB.ret {w u u' : World} {pb rb d : Nat} {z : S5} {R : RR} {G : Nat → Prop} {zc : S5} {R' : RR} {g : Nat → Nat} {qc qs : List Sl} (h : CB w u pb rb d z R G zc R' g qc qs) (hf : Fr (fun b => b = rb) u u') :
    RefAt u' zc R' (fun b => w.heap.size ≤ b) ∧ ∀ D, Fr D w u' := by
  refine ⟨?_, (h.base.ret hf).2⟩
  have := h.own.frame hf (fun b e => by subst e; have := h.rz; omega)
  refine this.at_.mono fun b hb hg => ?_
  rcases Nat.lt_or_ge b w.heap.size with h4 | h4
  · exact absurd (h.old b h4) hg
  · exact h4
/-- the parts' blocks turn: the boxes stay -/
theorem CB.turn {w u u' : World} {pb rb d : Nat} {z : S5} {R : RR} {G : Nat → Prop} {zc : S5} {R' R2 : RR} {g g' : Nat → Nat} {qc qs qc' qs' : List Sl} (h : CB w u pb rb d z R G zc R' g qc qs) (hf : Fr (fun b => g b ≠ 0) u u')
    (hg : ∀ b, b < u.heap.size → g' b = g b) (hown : RefOwn u' zc R2 g' qc' qs') : CB w u' pb rb d z R G zc R2 g' qc' qs' := by
  have e1 := (h.base.fr (fun _ => False)).size
  have hgw : ∀ b, g b ≠ 0 → w.heap.size ≤ b := fun b hb => by
    rcases Nat.lt_or_ge b w.heap.size with h4 | h4
    · exact absurd (h.old b h4) hb
    · exact h4
  exact { base := h.base.frame hf (fun b hb => ⟨hgw b hb, fun e => by subst e; exact hb h.pz, fun e => by subst e; exact hb h.rz⟩), own := hown, dst := hf.blk h.dst (fun e => e h.dz)
          dz := by rw [hg _ h.dst.lt]; exact h.dz, pz := by rw [hg _ h.base.box.lt]; exact h.pz, rz := by rw [hg _ h.base.res.lt]; exact h.rz
          old := fun b hb => by rw [hg b (by omega)]; exact h.old b hb, dw := h.dw, dp := h.dp, dr := h.dr }

section
variable {u : World} {z : S5} {R : RR} {g : Nat → Nat} {qc qs : List Sl}
theorem RefOwn.setO (h : RefOwn u z R g qc qs) {i : Nat} {x : Int} (hi : i < R.owners.length) {p : Addr} (hp : z.o.a = some p) {Q : World → Prop}
    (hQ : ∀ u', RefOwn u' z { R with owners := R.owners.set i x } g qc qs → Fr (fun b => g b ≠ 0) u u' → u'.heap.size = u.heap.size → Q u') : storeP u (p.add i) (.int .i64 x) Q := by
  obtain ⟨b, o, B, rfl, hg, hb, hfit, hv⟩ := Own.at_ h.o hp
  have hl := h.o.len
  have hle := h.o.2.1
  rw [add_lit]
  refine storeP_blk hb (by omega) fun u' hb' hf hs => hQ u' ?_ (hf.mono (fun k _ e => by subst e; omega)) hs
  exact { o := by
            unfold OwnI; rw [ints_set]
            obtain ⟨b2, o2, B2, hp2, hg2, hb2, hlt2, hset⟩ := Own.set (w' := u') (v := .int .i64 x) h.o (i := i) (by simpa using hi) hp
            cases hp2
            have : B2 = B := by have := hb2.symm.trans hb; simpa using this
            subst this
            exact hset hb'
          c := Own.frame h.c hf (fun k hk e => by subst e; omega), r := Own.frame h.r hf (fun k hk e => by subst e; omega), s := Own.frame h.s hf (fun k hk e => by subst e; omega), t := Own.frame h.t hf (fun k hk e => by subst e; omega)
          nc := h.nc, ns := h.ns, ci := fun i q xs hq hx => Own.frame (h.ci i q xs hq hx) hf (fun k hk e => by subst e; omega), si := fun i q xs hq hx => Own.frame (h.si i q xs hq hx) hf (fun k hk e => by subst e; omega)
          sup := fun k hk => h.sup k (by omega) }
theorem RefOwn.setT (h : RefOwn u z R g qc qs) {i : Nat} {x : Int} (hi : i < R.taken.length) {p : Addr} (hp : z.t.a = some p) {Q : World → Prop}
    (hQ : ∀ u', RefOwn u' z { R with taken := R.taken.set i x } g qc qs → Fr (fun b => g b ≠ 0) u u' → u'.heap.size = u.heap.size → Q u') : storeP u (p.add i) (.int .i64 x) Q := by
  obtain ⟨b, o, B, rfl, hg, hb, hfit, hv⟩ := Own.at_ h.t hp
  have hl := h.t.len
  have hle := h.t.2.1
  rw [add_lit]
  refine storeP_blk hb (by omega) fun u' hb' hf hs => hQ u' ?_ (hf.mono (fun k _ e => by subst e; omega)) hs
  exact { t := by
            unfold OwnI; rw [ints_set]
            obtain ⟨b2, o2, B2, hp2, hg2, hb2, hlt2, hset⟩ := Own.set (w' := u') (v := .int .i64 x) h.t (i := i) (by simpa using hi) hp
            cases hp2
            have : B2 = B := by have := hb2.symm.trans hb; simpa using this
            subst this
            exact hset hb'
          c := Own.frame h.c hf (fun k hk e => by subst e; omega), r := Own.frame h.r hf (fun k hk e => by subst e; omega), s := Own.frame h.s hf (fun k hk e => by subst e; omega), o := Own.frame h.o hf (fun k hk e => by subst e; omega)
          nc := h.nc, ns := h.ns, ci := fun i q xs hq hx => Own.frame (h.ci i q xs hq hx) hf (fun k hk e => by subst e; omega), si := fun i q xs hq hx => Own.frame (h.si i q xs hq hx) hf (fun k hk e => by subst e; omega)
          sup := fun k hk => h.sup k (by omega) }
end
end Go.Proofs.Ythegnnifbgikmaa
