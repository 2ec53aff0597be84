/- The sync seat: a state made anew by both; a script of calls played. -/
import Derived.Test.YthegnnifbgikmaaU4
import Derived.Test.YthegnnifbgikmaaS10
set_option linter.unusedVariables false
set_option linter.unusedSimpArgs false
namespace Go.Proofs.Ythegnnifbgikmaa
open Go.X

/-- a slice of calls reads -/
def ActsL (w : World) (a : Option Addr) (xs : List Act) : Prop := ∀ (i : Nat) (x : Act), xs[i]? = some x → ∃ p, a = some p ∧ cellsAt w (p.add (i * 4)) 0 x.cells
theorem Acts.list {w : World} {a : Option Addr} : ∀ {n : Nat}, Acts w a n → ∃ xs : List Act, xs.length = n ∧ ActsL w a xs
  | 0, h => ⟨[], rfl, fun i x hx => by simp at hx⟩
  | n + 1, h => by
    obtain ⟨xs, hl, hx⟩ := Acts.list (n := n) (fun i hi => h i (by omega))
    obtain ⟨p, x, y, z, v, hp, hc⟩ := h n (by omega)
    refine ⟨xs ++ [⟨x, y, z, v⟩], by simp [hl], fun i a hi => ?_⟩
    by_cases hlt : i < xs.length
    · rw [List.getElem?_append_left hlt] at hi; exact hx i a hi
    · rw [List.getElem?_append_right (by omega)] at hi
      have : i = n := by
        have := (List.getElem?_eq_some_iff.1 hi).1
        simp at this; omega
      subst this
      simp [hl] at hi
      subst hi
      exact ⟨p, hp, hc⟩
theorem ActsL.at_ {w0 w : World} {a : Option Addr} {xs : List Act} (h : ActsL w0 a xs) (hf : ∀ D, Fr D w0 w) {i : Nat} (hi : i < xs.length) : ∃ p, a = some p ∧ cellsAt w (p.add (i * 4)) 0 (xs[i]).cells := by
  obtain ⟨p, hp, hc⟩ := h i xs[i] (List.getElem?_eq_getElem hi)
  exact ⟨p, hp, cellsAt_fr (hf (fun _ => False)) (fun h => h) _ _ hc⟩

theorem new_toSS (m c : Int) (rooms : List Int) : (RR.new m c rooms).toSS = SS.new m c rooms := by
  unfold RR.toSS SS.new
  congr 1
  apply List.ext_getElem?
  intro i
  simp only [RR.chans, RR.new, List.getElem?_map]
  rcases Nat.lt_or_ge i rooms.length with h | h
  · rw [List.getElem?_range h, List.getElem?_eq_getElem h]
    simp only [Option.map_some, RR.values, RR.sentAt, RR.takenAt, RR.roomAt, Int.toNat_natCast]
    simp [List.getElem?_replicate, h]
  · rw [List.getElem?_eq_none (by simpa using h), List.getElem?_eq_none (by simpa using h)]; rfl
theorem new_good {m c : Int} {rooms : List Int} (h : ¬ NewBad m c rooms) : (RR.new m c rooms).good 0 := by
  have hx : ∀ r ∈ rooms, 1 ≤ r ∧ r ≤ 16 := fun r hr => by
    have : ¬ (r < 1 ∨ r > 16) := fun e => h (.inr (.inr (.inr (.inr (.inr ⟨r, hr, e⟩)))))
    omega
  have h1 : ¬ (m < 0 ∨ c < 0 ∨ m > 64 ∨ c > 64 ∨ rooms.length > 64) := fun e => h (by unfold NewBad; omega)
  exact {
    ol := by simp [RR.new]; omega
    cl := by simp [RR.new]; omega
    rl := by simp only [RR.new]; omega
    sl := by simp [RR.new]
    tl := by simp [RR.new]
    own := fun x hx => by simp [RR.new] at hx; omega
    cd := fun xs hx => by simp [RR.new] at hx; rw [hx.2]; simp
    rm := hx
    st := fun xs hx => by simp [RR.new] at hx; rw [hx.2]; simp
    tk := fun q hq => by
      have hq : q < rooms.length := hq
      simp only [RR.takenAt, RR.new, Int.toNat_natCast, List.getElem?_replicate, hq, if_true, Option.getD_some]
      omega }
section
variable {w : World} {K : Value → World → Prop} {KP : List PanicEntry → World → Prop} {pb : Nat} {z : S5} {R : RR} {L Γ : List Assn}
theorem D12 (hs : Sep w L) {s : Sl} {rooms : List Int} {G : Nat → Prop} (hr : RdI w s rooms G) (hn : rooms.length ≤ 1000000000) {m c : Int}
    (hbad : NewBad m c rooms → K (.tuple #[.pointer none, .int .i64 2]) w)
    (h : ¬ NewBad m c rooms → ∀ pb w', Sep w' (SyncA pb (RR.new m c rooms).toSS :: L) → (∀ D, Fr D w w') → K (.tuple #[.pointer (some ⟨pb, 0, none⟩), .int .i64 0]) w') :
    XCP Try.prog 12 [.int .i64 m, .int .i64 c, s.v] w K KP := by
  rw [new_toSS] at h
  refine C12 hr.1 hr.2.1 hn hbad fun hg pb g w' hs' hold hf => h hg pb w' (hs.add hf ⟨g, hs', fun b hb => ?_⟩) hf
  rcases Nat.lt_or_ge b w.heap.size with h1 | h1
  · exact absurd (hold b h1) hb
  · exact h1
theorem D25 (hs : Sep w L) {s : Sl} {rooms : List Int} {G : Nat → Prop} (hr : RdI w s rooms G) {m c : Int}
    (hbad : NewBad m c rooms → ∀ z' w', Sep w' L → (∀ D, Fr D w w') → K (.tuple #[S5.v z', .int .i64 2]) w')
    (h : ¬ NewBad m c rooms → ∀ z' w', Sep w' (pers [RefA z' (RR.new m c rooms)] :: L) → (∀ D, Fr D w w') → K (.tuple #[S5.v z', .int .i64 0]) w') :
    XCP Try.prog 25 [.int .i64 m, .int .i64 c, s.v] w K KP :=
  C25 hr (fun hb z' w' hf => hbad hb z' w' (hs.ext hf) hf) fun hg z' w' hz hf => h hg z' w' (hs.add (A := RefA z' _) hf hz).pers1 hf

/-- a form's cells -/
def formCells (m c : Int) (s : Sl) : List Value := [.int .i64 m, .int .i64 c, s.v]
theorem D23 (hs : Sep w L) {s q : Sl} {rooms : List Int} {G : Nat → Prop} (hr : RdI w s rooms G) {m c : Int}
    (hbad : (NewBad m c rooms ∨ q.l > 100) → ∀ w', Sep w' L → K (.bool false) w')
    (h : ¬ (NewBad m c rooms ∨ q.l > 100) → ∀ w', Sep w' L → K (.bool true) w') :
    XCP Try.prog 23 [.agg #[.int .i64 m, .int .i64 c, s.v], q.v] w K KP := by
  show XCP Try.prog 23 [.agg #[.int .i64 m, .int .i64 c, .slice s.a s.l s.c], .slice q.a q.l q.c] w K KP
  apply E23; unfold F23
  intro w0 p
  have hf0 : ∀ D, Fr D w w0 := fun D => Fr.alloc D w _
  replace hs : Sep w0 (bx w.heap.size (formCells m c s) 48 :: L) := hs.box _ _
  clear_value w0
  refine ⟨_, hs.bx0.ld rfl, _, hs.bx0.ld rfl, _, _, _, hs.bx0.ld rfl, ?_⟩
  have hr0 : RdI w0 s rooms (fun b => G b ∧ b < w.heap.size) := (hr.mono (fun b hb hg => ⟨hg, hb⟩)).frame (hf0 (fun _ => False)) (fun _ _ h => h)
  refine D25 (s := s) hs hr0 (fun hb z' w1 hs hf => ?_) (fun hg z' w1 hs hf => ?_)
  · refine ⟨_, _, _, _, _, _, _, _, _, _, _, _, _, _, _, _, rfl, ?_⟩
    intro w2 p1
    replace hs : Sep w2 (bx w1.heap.size zero5 53 :: _) := hs.box _ _
    clear_value w2
    refine hs.fill (vs := z'.cells) rfl fun w3 _ hs => ?_
    rw [show (((2 : Int) == 0) && decide (((q.l : Nat) : Int) ≤ 100)) = false from rfl]
    exact hbad (.inl hb) w3 hs.tail.tail
  · refine ⟨_, _, _, _, _, _, _, _, _, _, _, _, _, _, _, _, rfl, ?_⟩
    intro w2 p1
    replace hs : Sep w2 (bx w1.heap.size zero5 53 :: _) := hs.box _ _
    clear_value w2
    refine hs.fill (vs := z'.cells) rfl fun w3 _ hs => ?_
    by_cases hq : q.l > 100
    · rw [show (((0 : Int) == 0) && decide (((q.l : Nat) : Int) ≤ 100)) = false from by simp; omega]
      exact hbad (.inr hq) w3 hs.tail.tail.tail
    · rw [show (((0 : Int) == 0) && decide (((q.l : Nat) : Int) ≤ 100)) = true from by simp; omega]
      exact h (by rintro (h | h); exact hg h; exact hq h) w3 hs.tail.tail.tail

def RR.acts (R : RR) (xs : List Act) : RR := xs.foldl RR.act R
theorem good_acts : ∀ {xs : List Act} {R : RR} {n : Nat}, R.good n → (R.acts xs).good (n + xs.length)
  | [], R, n, h => h
  | x :: xs, R, n, h => by
    have := good_acts (xs := xs) (good_act h x)
    show ((R.act x).acts xs).good _
    rw [show n + (x :: xs).length = n + 1 + xs.length from by simp; omega]
    exact this
theorem acts_step {R : RR} {xs : List Act} {i : Nat} (h : i < xs.length) : R.acts (xs.take (i + 1)) = (R.acts (xs.take i)).act xs[i] := by
  unfold RR.acts
  rw [List.take_add_one, List.getElem?_eq_getElem h, List.foldl_append]; rfl

theorem D24 {w0 : World} (hs : Sep w (oldA w0 :: L)) {s q : Sl} {rooms : List Int} {G : Nat → Prop} (hr : RdI w0 s rooms G) {xs : List Act} (hA : ActsL w0 q.a xs) (hql : q.l = xs.length) (hx : xs.length ≤ 100) {m c : Int} (hg : ¬ NewBad m c rooms)
    (h : ∀ pb z' w', Sep w' (pers [RefA z' ((RR.new m c rooms).acts xs)] :: SyncA pb ((RR.new m c rooms).acts xs).toSS :: oldA w0 :: L) → K (.tuple #[.pointer (some ⟨pb, 0, none⟩), S5.v z', .bool true]) w') :
    XCP Try.prog 24 [.agg #[.int .i64 m, .int .i64 c, s.v], q.v] w K KP := by
  show XCP Try.prog 24 [.agg #[.int .i64 m, .int .i64 c, .slice s.a s.l s.c], .slice q.a q.l q.c] w K KP
  apply E24; unfold F24
  intro w1 p w2 p1
  replace hs : Sep w2 (bx w1.heap.size zero5 53 :: bx w.heap.size (formCells m c s) 48 :: oldA w0 :: L) := (hs.box _ _).box _ _
  clear_value w1 w2
  have hrl : rooms.length ≤ 64 := by
    rcases Nat.lt_or_ge 64 rooms.length with h | h
    · exact absurd (.inr (.inr (.inr (.inr (.inl h))))) hg
    · exact h
  have old : ∀ {u : World}, (∀ D, Fr D w0 u) → RdI u s rooms (fun b => G b ∧ b < w0.heap.size) := fun {u} hf => (hr.mono (fun b hb hg => ⟨hg, hb⟩)).frame (hf (fun _ => False)) (fun _ _ h => h)
  refine ⟨_, hs.bx1.ld rfl, _, hs.bx1.ld rfl, _, _, _, hs.bx1.ld rfl, ?_⟩
  refine D12 (s := s) hs (old (hs.old 2 rfl)) (by omega) (fun hb => absurd hb hg) fun _ pb w3 hs hf3 => ⟨_, _, rfl, ?_⟩
  refine ⟨_, hs.bx2.ld rfl, _, hs.bx2.ld rfl, _, _, _, hs.bx2.ld rfl, ?_⟩
  refine D25 (s := s) hs (old (hs.old 3 rfl)) (fun hb => absurd hb hg) fun _ z0 w4 hs hf4 => ⟨_, _, _, _, _, _, _, _, _, _, _, _, _, _, _, _, rfl, ?_⟩
  intro w5 p2
  replace hs : Sep w5 (bx w4.heap.size zero5 53 :: _) := hs.box _ _
  clear_value w5
  refine hs.fill (vs := z0.cells) rfl fun w6 _ hs => C14 ⟨_, rfl, ?_⟩
  -- the loop
  refine ⟨fun b i u => b = true ∧ 0 ≤ i ∧ i ≤ xs.length ∧ ∃ z1, Sep u (pers [RefA z1 ((RR.new m c rooms).acts (xs.take i.toNat))] :: SyncA pb ((RR.new m c rooms).acts (xs.take i.toNat)).toSS :: bx w4.heap.size z1.cells 53 :: bx w1.heap.size zero5 53 :: bx w.heap.size (formCells m c s) 48 :: oldA w0 :: L),
    fun b i u => xs.length - i.toNat, ⟨rfl, by omega, by omega, z0, hs.back2⟩, ?_⟩
  rintro b i u ⟨rfl, h0, h1, z1, hs⟩
  have hgd : ((RR.new m c rooms).acts (xs.take i.toNat)).good 100 := (good_acts (xs := xs.take i.toNat) (new_good hg)).mono (by simp; omega)
  by_cases hi : i < xs.length
  · rw [if_pos (by simp; omega)]
    have hit : i.toNat < xs.length := by omega
    replace hs := hs.drew
    obtain ⟨pa, hpa, hc⟩ := hA.at_ (hs.old 5 rfl) hit
    refine ⟨fun y => Blk y w4.heap.size z1.cells 53 ∧ cellsAt y (pa.add (i.toNat * 4)) 0 (xs[i.toNat]).cells, ⟨hs.bx2, hc⟩, ?_⟩
    refine ⟨_, _, _, _, _, _, _, _, _, _, _, _, _, _, _, fun y hy => Blk.lds (V := z1.cells) hy.1, ?_⟩
    rw [hpa, xptr_some]
    refine ⟨h0, by omega, _, _, _, _, fun y hy => hy.2, ?_⟩
    refine D26 (z := z1) (x := xs[i.toNat]) hs hgd (by omega) fun z2 w8 hs => ⟨_, _, _, _, _, _, _, _, _, _, _, _, _, _, _, _, rfl, fun _ => True, trivial, ?_⟩
    refine hs.fill2 (vs := z2.cells) rfl fun w9 _ hs => ⟨fun _ => True, trivial, ?_⟩
    rw [wi (by omega) (by omega)]
    have e : (i + 1).toNat = i.toNat + 1 := by omega
    refine ⟨⟨rfl, by omega, by omega, z2, ?_⟩, by show xs.length - (i + 1).toNat < xs.length - i.toNat; omega⟩
    rw [e, acts_step hit]
    exact hs
  · rw [if_neg (by simp; omega)]
    rw [List.take_of_length_le (by omega)] at hs hgd
    intro kb hkb
    replace hs := hs.drew
    refine ⟨fun y => Blk y w4.heap.size z1.cells 53, hs.bx2, ?_⟩
    refine ⟨_, _, _, _, _, _, _, _, _, _, _, _, _, _, _, fun y hy => Blk.lds (V := z1.cells) hy, ?_⟩
    rw [if_pos rfl]
    refine ⟨_, _, _, _, _, _, _, _, _, _, _, _, _, _, _, fun y hy => Blk.lds (V := z1.cells) hy, ?_⟩
    refine D27 (z := z1) hs hgd (by omega) fun w8 hs => ⟨_, rfl, hs.bx2, ?_⟩
    refine hs.fill3 (vs := z1.cells) rfl fun w9 _ hs => ⟨hs.bx2, hkb _ _ _ ?_⟩
    refine ⟨_, _, _, _, _, _, _, _, _, _, _, _, _, _, _, hs.bx3.lds, ?_⟩
    exact h pb z1 w9 hs.to2.tail.to2.tail.to2.tail
end
end Go.Proofs.Ythegnnifbgikmaa
