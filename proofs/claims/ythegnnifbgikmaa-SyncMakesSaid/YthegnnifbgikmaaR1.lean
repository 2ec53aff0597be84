/- The sync seat: the document's states, as they lie in memory. -/
import Derived.Test.YthegnnifbgikmaaS8
set_option linter.unusedVariables false
set_option linter.unusedSimpArgs false
namespace Go.Proofs.Ythegnnifbgikmaa
open Go.X

/-- the document's state -/
structure RR where
  owners : List Int
  conds : List (List Int)
  rooms : List Int
  sent : List (List Int)
  taken : List Int
/-- its five slices -/
structure S5 where
  o : Sl
  c : Sl
  r : Sl
  s : Sl
  t : Sl
def S5.cells (s : S5) : List Value := [s.o.v, s.c.v, s.r.v, s.s.v, s.t.v]
def S5.v (s : S5) : Value := .agg #[s.o.v, s.c.v, s.r.v, s.s.v, s.t.v]

/-- a slice of numbers that reads -/
def RdI (w : World) (s : Sl) (xs : List Int) (G : Nat → Prop) : Prop := Rd w s.a (ints xs) G ∧ s.l = xs.length ∧ s.l ≤ s.c
theorem OwnI_rdI {w : World} {t : TypeId} {s : Sl} {xs : List Int} {G : Nat → Prop} (h : OwnI w t s xs G) : RdI w s xs G := ⟨h.rd, h.len, h.2.1⟩
/-- a slice of slices of numbers that reads -/
def RdL (w : World) (s : Sl) (xss : List (List Int)) (G : Nat → Prop) : Prop :=
  ∃ qs : List Sl, Rd w s.a (qs.map Sl.v) G ∧ s.l = qs.length ∧ qs.length = xss.length ∧ ∀ (i : Nat) (q : Sl) (xs : List Int), qs[i]? = some q → xss[i]? = some xs → RdI w q xs G
structure RefAt (w : World) (z : S5) (R : RR) (G : Nat → Prop) : Prop where
  o : RdI w z.o R.owners G
  c : RdL w z.c R.conds G
  r : RdI w z.r R.rooms G
  s : RdL w z.s R.sent G
  t : RdI w z.t R.taken G
theorem RdI.frame {D G : Nat → Prop} {w w' : World} {s : Sl} {xs : List Int} (h : RdI w s xs G) (hf : Fr D w w') (hd : ∀ b, G b → ¬ D b) : RdI w' s xs G := ⟨h.1.frame hf hd, h.2⟩
theorem RdI.mono {G G' : Nat → Prop} {w : World} {s : Sl} {xs : List Int} (h : RdI w s xs G) (hd : ∀ b, b < w.heap.size → G b → G' b) : RdI w s xs G' := ⟨h.1.mono hd, h.2⟩
theorem RdL.frame {D G : Nat → Prop} {w w' : World} {s : Sl} {xs : List (List Int)} (h : RdL w s xs G) (hf : Fr D w w') (hd : ∀ b, G b → ¬ D b) : RdL w' s xs G := by
  obtain ⟨qs, h1, h2, h3, h4⟩ := h
  exact ⟨qs, h1.frame hf hd, h2, h3, fun i q xs hq hx => (h4 i q xs hq hx).frame hf hd⟩
theorem RdL.mono {G G' : Nat → Prop} {w : World} {s : Sl} {xs : List (List Int)} (h : RdL w s xs G) (hd : ∀ b, b < w.heap.size → G b → G' b) : RdL w s xs G' := by
  obtain ⟨qs, h1, h2, h3, h4⟩ := h
  exact ⟨qs, h1.mono hd, h2, h3, fun i q xs hq hx => (h4 i q xs hq hx).mono hd⟩
theorem RefAt.frame {D G : Nat → Prop} {w w' : World} {s : S5} {R : RR} (h : RefAt w s R G) (hf : Fr D w w') (hd : ∀ b, G b → ¬ D b) : RefAt w' s R G :=
  ⟨h.o.frame hf hd, h.c.frame hf hd, h.r.frame hf hd, h.s.frame hf hd, h.t.frame hf hd⟩
theorem RefAt.mono {G G' : Nat → Prop} {w : World} {s : S5} {R : RR} (h : RefAt w s R G) (hd : ∀ b, b < w.heap.size → G b → G' b) : RefAt w s R G' :=
  ⟨h.o.mono hd, h.c.mono hd, h.r.mono hd, h.s.mono hd, h.t.mono hd⟩
theorem RdL.len {G : Nat → Prop} {w : World} {s : Sl} {xss : List (List Int)} (h : RdL w s xss G) : s.l = xss.length := by
  obtain ⟨qs, h1, h2, h3, h4⟩ := h; omega
theorem RdL.nth {G : Nat → Prop} {w : World} {s : Sl} {xss : List (List Int)} (h : RdL w s xss G) {i : Nat} {xs : List Int} (hx : xss[i]? = some xs) :
    ∃ p q, s.a = some p ∧ w.cell? (p.add i) = some (Sl.v q) ∧ RdI w q xs G := by
  obtain ⟨qs, h1, h2, h3, h4⟩ := h
  have hi : i < qs.length := by have := (List.getElem?_eq_some_iff.1 hx).1; omega
  obtain ⟨p, hp, -, hc⟩ := h1.isSome (i := i) (v := (qs[i]).v) (by simp [hi])
  exact ⟨p, qs[i], hp, hc, h4 i _ _ (List.getElem?_eq_getElem hi) hx⟩
theorem RdI.nth {G : Nat → Prop} {w : World} {s : Sl} {xs : List Int} (h : RdI w s xs G) {i : Nat} (hi : i < xs.length) : ∃ p, s.a = some p ∧ w.cell? (p.add i) = some (.int .i64 xs[i]) := by
  obtain ⟨p, hp, -, hc⟩ := h.1.isSome (ints_get_iff hi)
  exact ⟨p, hp, hc⟩

/-- a state whose slices are owned, each in blocks of its own -/
structure RefOwn (w : World) (z : S5) (R : RR) (g : Nat → Nat) (qc qs : List Sl) : Prop where
  o : OwnI w 3 z.o R.owners (g · = 2)
  c : Own w 1 29 z.c.a z.c.l z.c.c (qc.map Sl.v) (g · = 3)
  r : OwnI w 3 z.r R.rooms (g · = 4)
  s : Own w 1 28 z.s.a z.s.l z.s.c (qs.map Sl.v) (g · = 5)
  t : OwnI w 3 z.t R.taken (g · = 6)
  nc : qc.length = R.conds.length
  ns : qs.length = R.sent.length
  ci : ∀ (i : Nat) (q : Sl) (xs : List Int), qc[i]? = some q → R.conds[i]? = some xs → OwnI w 3 q xs (g · = 7 + 2 * i)
  si : ∀ (i : Nat) (q : Sl) (xs : List Int), qs[i]? = some q → R.sent[i]? = some xs → OwnI w 2 q xs (g · = 8 + 2 * i)
  sup : ∀ b, w.heap.size ≤ b → g b = 0
theorem RefOwn.at_ {w : World} {s : S5} {R : RR} {g : Nat → Nat} {qc qs : List Sl} (h : RefOwn w s R g qc qs) : RefAt w s R (g · ≠ 0) := by
  refine ⟨(OwnI_rdI h.o).mono (fun b _ hb => by omega), ⟨qc, h.c.rd.mono (fun b _ hb => by omega), by have := h.c.1; simpa using this.symm, h.nc, fun i q xs hq hx => (OwnI_rdI (h.ci i q xs hq hx)).mono (fun b _ hb => by omega)⟩,
    (OwnI_rdI h.r).mono (fun b _ hb => by omega), ⟨qs, h.s.rd.mono (fun b _ hb => by omega), by have := h.s.1; simpa using this.symm, h.ns, fun i q xs hq hx => (OwnI_rdI (h.si i q xs hq hx)).mono (fun b _ hb => by omega)⟩, (OwnI_rdI h.t).mono (fun b _ hb => by omega)⟩
theorem RefOwn.frame {w w' : World} {s : S5} {R : RR} {g : Nat → Nat} {qc qs : List Sl} (h : RefOwn w s R g qc qs) {D : Nat → Prop} (hf : Fr D w w') (hd : ∀ b, D b → g b < 2) : RefOwn w' s R g qc qs where
  o := Own.frame h.o hf (fun b hb e => by have := hd _ e; omega)
  c := Own.frame h.c hf (fun b hb e => by have := hd _ e; omega)
  r := Own.frame h.r hf (fun b hb e => by have := hd _ e; omega)
  s := Own.frame h.s hf (fun b hb e => by have := hd _ e; omega)
  t := Own.frame h.t hf (fun b hb e => by have := hd _ e; omega)
  nc := h.nc
  ns := h.ns
  ci := fun i q xs hq hx => Own.frame (h.ci i q xs hq hx) hf (fun b hb e => by have := hd _ e; omega)
  si := fun i q xs hq hx => Own.frame (h.si i q xs hq hx) hf (fun b hb e => by have := hd _ e; omega)
  sup := fun b hb => h.sup b (Nat.le_trans hf.size hb)

/-! ### the five cells of a state in a block -/
theorem cellsAt_blk {w : World} {b o : Nat} {B : List Value} {t : TypeId} (hb : Blk w b B t) : ∀ (vs : List Value) (i : Nat), (∀ j, j < vs.length → B[o + (i + j)]? = vs[j]?) → cellsAt w ⟨b, o, none⟩ i vs
  | [], _, _ => trivial
  | v :: r, i, h => ⟨by rw [add_lit, hb.cell]; simpa using h 0 (by simp), cellsAt_blk hb r (i + 1) fun j hj => by have := h (j + 1) (by simpa using hj); rw [show i + (j + 1) = i + 1 + j from by omega] at this; simpa using this⟩
theorem cellsAt_self {w : World} {b : Nat} {B : List Value} {t : TypeId} (hb : Blk w b B t) : cellsAt w ⟨b, 0, none⟩ 0 B := cellsAt_blk hb B 0 (fun j _ => by simp)
theorem storesAt_self {w : World} {b : Nat} {B vs : List Value} {t : TypeId} {K : World → Prop} (hb : Blk w b B t) (hl : vs.length = B.length) (h : ∀ w', Blk w' b vs t → Fr (fun x => x = b) w w' → w'.heap.size = w.heap.size → K w') : storesAt ⟨b, 0, none⟩ 0 vs w K :=
  storesAt_blk vs 0 w B hb (by omega) fun w' hb' => h w' (by
    rw [show B.take (0 + 0) ++ vs ++ B.drop (0 + 0 + vs.length) = vs from by simp [hl]] at hb'
    exact hb')
end Go.Proofs.Ythegnnifbgikmaa
