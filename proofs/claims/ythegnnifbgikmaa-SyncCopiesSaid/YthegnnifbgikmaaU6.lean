/- The sync seat: the laws of plays, locks, channels, asks, conditions. -/
import Derived.Test.YthegnnifbgikmaaU5
set_option linter.unusedVariables false
set_option linter.unusedSimpArgs false
namespace Go.Proofs.Ythegnnifbgikmaa
open Go.X
section
variable {w : World} {K : Value → World → Prop} {KP : List PanicEntry → World → Prop} {L Γ : List Assn}
theorem fr_old {w0 w u : World} (hf : ∀ D, Fr D w0 w) (hf' : ∀ D, Fr D w u) : ∀ D, Fr D w0 u := fun D => (hf D).trans (hf' D) (fun _ _ h => h) (fun _ _ h => h)
theorem rdI_old {w0 u : World} {s : Sl} {rooms : List Int} {G : Nat → Prop} (hr : RdI w0 s rooms G) (hf : ∀ D, Fr D w0 u) : RdI u s rooms (fun b => G b ∧ b < w0.heap.size) :=
  (hr.mono (fun b hb hg => ⟨hg, hb⟩)).frame (hf (fun _ => False)) (fun _ _ h => h)

theorem L4 {s q : Sl} {rooms : List Int} {G : Nat → Prop} {xs : List Act} {m c : Int} (hr : RdI w s rooms G) (hA : ActsL w q.a xs) (hql : q.l = xs.length)
    (h : ∀ w', (∀ D, Fr D w w') → K (.bool true) w') : XCP Try.prog 4 [.agg #[.int .i64 m, .int .i64 c, s.v], q.v] w K KP := by
  show XCP Try.prog 4 [.agg #[.int .i64 m, .int .i64 c, .slice s.a s.l s.c], .slice q.a q.l q.c] w K KP
  apply E4; unfold F4
  intro w0 p
  have hs : Sep w0 (bx w.heap.size (formCells m c s) 48 :: [oldA w]) := (Sep.begin w).box _ _
  clear_value w0
  refine ⟨_, _, _, _, _, hs.bx0.lds, ?_⟩
  refine D23 (s := s) (q := q) hs (rdI_old hr (hs.old 1 rfl)) (fun hb w1 hs => ⟨_, rfl, ?_⟩) (fun hg w1 hs => ⟨_, rfl, ?_⟩)
  · rw [if_pos (by decide)]
    exact C11 fun w2 hf => ⟨_, rfl, h w2 (fr_old (hs.old 1 rfl) hf)⟩
  · rw [if_neg (by decide)]
    refine ⟨_, _, _, _, _, hs.bx0.lds, ?_⟩
    refine D24 (s := s) (q := q) hs.to1 hr hA hql (by omega) (fun hb => hg (.inl hb)) fun pb z' w2 hs => ⟨_, _, _, _, _, _, _, _, _, _, _, _, _, _, _, _, _, rfl, ?_⟩
    intro w3 p1
    replace hs : Sep w3 (bx w2.heap.size zero5 53 :: _) := hs.box _ _
    clear_value w3
    refine hs.fill (vs := z'.cells) rfl fun w4 _ hs => ?_
    intro kb hkb
    rw [if_pos rfl]
    exact C11 fun w5 hf => ⟨_, rfl, hkb _ _ (h w5 (fr_old (hs.old 3 rfl) hf))⟩

/-- what there is by any number -/
theorem L7 {s q : Sl} {rooms : List Int} {G : Nat → Prop} {xs : List Act} {m c n : Int} (hr : RdI w s rooms G) (hA : ActsL w q.a xs) (hql : q.l = xs.length)
    (h : ∀ w', (∀ D, Fr D w w') → K (.bool true) w') : XCP Try.prog 7 [.agg #[.int .i64 m, .int .i64 c, s.v], q.v, .int .i64 n] w K KP := by
  show XCP Try.prog 7 [.agg #[.int .i64 m, .int .i64 c, .slice s.a s.l s.c], .slice q.a q.l q.c, .int .i64 n] w K KP
  apply E7; unfold F7
  intro w0 p
  have hs : Sep w0 (bx w.heap.size (formCells m c s) 48 :: [oldA w]) := (Sep.begin w).box _ _
  clear_value w0
  refine ⟨_, _, _, _, _, hs.bx0.lds, ?_⟩
  refine D23 (s := s) (q := q) hs (rdI_old hr (hs.old 1 rfl)) (fun hb w1 hs => ⟨_, rfl, ?_⟩) (fun hg w1 hs => ⟨_, rfl, ?_⟩)
  · rw [if_pos (by decide)]
    exact C11 fun w2 hf => ⟨_, rfl, h w2 (fr_old (hs.old 1 rfl) hf)⟩
  rw [if_neg (by decide)]
  refine ⟨_, _, _, _, _, hs.bx0.lds, ?_⟩
  have hgd0 : ¬ NewBad m c rooms := fun hb => hg (.inl hb)
  refine D24 (s := s) (q := q) hs.to1 hr hA hql (by omega) hgd0 fun pb z' w2 hs => ⟨_, _, _, _, _, _, _, _, _, _, _, _, _, _, _, _, _, rfl, ?_⟩
  have hgd : ((RR.new m c rooms).acts xs).good 100 := (good_acts (xs := xs) (new_good hgd0)).mono (by omega)
  generalize (RR.new m c rooms).acts xs = R at hs hgd
  intro w3 p1
  replace hs : Sep w3 (bx w2.heap.size zero5 53 :: _) := hs.box _ _
  clear_value w3
  refine hs.fill (vs := z'.cells) rfl fun w4 _ hs => ?_
  obtain ⟨_, g, hS, _⟩ := hs.at2
  obtain ⟨_, hR⟩ := hs.to1.known 0 rfl
  have hR : RefAt w4 z' R _ := hR
  have lo := hR.o.2.1
  have lc := hR.c.len
  have lr := hR.r.2.1
  have hcl : R.toSS.chans.length = R.rooms.length := R.chans_length
  refine C20 hS ⟨_, _, rfl, ?_⟩
  refine C21 hS hgd.fine (by omega) fun s1 w5 ho1 hf5 => ⟨_, _, _, _, rfl, ?_⟩
  replace hs := hs.ext hf5
  obtain ⟨_, g5, hS, _⟩ := hs.at2
  refine C28 hS hgd.fine (by omega) fun s2 w6 ho2 hf6 => ⟨_, _, _, _, rfl, ?_⟩
  replace hs := hs.ext hf6
  obtain ⟨_, g6, hS, _⟩ := hs.at2
  refine C29 hS ⟨_, _, rfl, ?_⟩
  refine C14 ⟨_, rfl, ?_⟩
  have e1 := ho1.len
  have e2 := ho2.len
  have fin : ∀ u, (∀ D, Fr D w6 u) → K (.bool true) u := fun u hf => h u (fr_old (hs.old 3 rfl) hf)
  have a1 : ((R.toSS.owner n).2 = 4 ↔ n < 0 ∨ n ≥ z'.o.l) ∧ ((R.toSS.owner n).2 = 0 ∨ (R.toSS.owner n).1 = 0) := by
    unfold SS.owner
    rw [lo]
    split
    · rename_i hh; exact ⟨⟨fun _ => hh, fun _ => rfl⟩, .inr rfl⟩
    · rename_i hh; exact ⟨⟨fun e => absurd (show (0 : Int) = 4 from e) (by decide), fun e => absurd e hh⟩, .inl rfl⟩
  have a2 : ((R.toSS.waits n).2 = 4 ↔ n < 0 ∨ n ≥ z'.c.l) ∧ ((R.toSS.waits n).2 = 0 ∨ s1.l = 0) := by
    rw [e1]
    unfold SS.waits
    rw [lc]
    split
    · rename_i hh; exact ⟨⟨fun _ => hh, fun _ => rfl⟩, .inr rfl⟩
    · rename_i hh; exact ⟨⟨fun e => absurd (show (0 : Int) = 4 from e) (by decide), fun e => absurd e hh⟩, .inl rfl⟩
  have a3 : ((R.toSS.vals n).2 = 4 ↔ n < 0 ∨ n ≥ z'.r.l) ∧ ((R.toSS.vals n).2 = 0 ∨ s2.l = 0 ∧ (R.toSS.rooms n).1 = 0) ∧ (R.toSS.vals n).2 = (R.toSS.rooms n).2 := by
    rw [e2]
    unfold SS.vals SS.rooms
    rw [lr, hcl]
    split
    · rename_i hh; exact ⟨⟨fun _ => hh, fun _ => rfl⟩, .inr ⟨rfl, rfl⟩, rfl⟩
    · rename_i hh; exact ⟨⟨fun e => absurd (show (0 : Int) = 4 from e) (by decide), fun e => absurd e hh⟩, .inl rfl, rfl⟩
  generalize R.toSS.owner n = r1 at a1 ⊢
  generalize R.toSS.waits n = r2 at a2 ⊢
  generalize R.toSS.vals n = r3 at a3 ⊢
  generalize R.toSS.rooms n = r4 at a3 ⊢
  obtain ⟨a1, b1⟩ := a1
  obtain ⟨a2, b2⟩ := a2
  obtain ⟨a3, b3, b4⟩ := a3
  intro kb hkb
  have test : ∀ {f : Bool → World → Prop} {k : Int} {x : Prop} [Decidable x], (k = 4 ↔ n < 0 ∨ x) → f (!((k == 4) == (decide (n < 0) || decide x))) w6 = f false w6 := by
    intro f k x _ he
    have : (k == 4) = (decide (n < 0) || decide x) := by
      rw [Bool.eq_iff_iff]; simpa using he
    rw [this]; simp
  -- three tests of numbers
  have go3 : kb (decide (n < 0) || decide (n ≥ ((z'.o.l : Nat) : Int))) w6 := by
    refine hkb _ _ ?_
    intro kb1 hkb1
    have k1 : (r1.2 == 4) = (decide (n < 0) || decide (n ≥ ((z'.o.l : Nat) : Int))) := by rw [Bool.eq_iff_iff]; simpa using a1
    rw [if_neg (by rw [k1]; simp)]
    refine C14 ⟨_, rfl, ?_⟩
    intro kb9 hkb9
    have k2 : (r2.2 == 4) = (decide (n < 0) || decide (n ≥ ((z'.c.l : Nat) : Int))) := by rw [Bool.eq_iff_iff]; simpa using a2
    have k3 : (r3.2 == 4) = (decide (n < 0) || decide (n ≥ ((z'.r.l : Nat) : Int))) := by rw [Bool.eq_iff_iff]; simpa using a3
    have go2 : kb1 false w6 := by
      refine hkb1 _ _ ?_
      intro kb2 hkb2
      rw [if_neg (by simp)]
      refine C14 ⟨_, rfl, ?_⟩
      intro kb8 hkb8
      have go1 : kb2 false w6 := by
        refine hkb2 _ _ ?_
        intro kb3 hkb3
        rw [if_neg (by simp)]
        refine C14 ⟨_, rfl, C14 ⟨_, rfl, hkb3 _ _ ?_⟩⟩
        rw [if_neg (by simp [b4])]
        intro kb4 hkb4
        rw [if_pos rfl]
        refine C14 ⟨_, rfl, hkb4 _ _ ?_⟩
        intro kb5 hkb5
        rw [if_pos (by simpa using b1)]
        refine C14 ⟨_, rfl, hkb5 _ _ ?_⟩
        intro kb6 hkb6
        rw [if_pos (by simp; omega)]
        refine C14 ⟨_, rfl, hkb6 _ _ ?_⟩
        intro kb7 hkb7
        rw [if_pos (by simp; omega)]
        exact C11 fun u hf => ⟨_, rfl, hkb7 _ _ (fin u hf)⟩
      have k3' : kb8 (decide (n < 0) || decide (n ≥ ((z'.r.l : Nat) : Int))) w6 := hkb8 _ _ (by rw [k3]; simpa using go1)
      by_cases hn : n < 0
      · rw [if_pos (by simpa using hn)]; simpa [hn] using k3'
      · rw [if_neg (by simpa using hn)]
        exact ⟨_, _, _, hs.bx0.ld rfl, by simpa [hn] using k3'⟩
    have k2' : kb9 (decide (n < 0) || decide (n ≥ ((z'.c.l : Nat) : Int))) w6 := hkb9 _ _ (by rw [k2]; simpa using go2)
    by_cases hn : n < 0
    · rw [if_pos (by simpa using hn)]; simpa [hn] using k2'
    · rw [if_neg (by simpa using hn)]
      exact ⟨_, _, _, hs.bx0.ld rfl, by simpa [hn] using k2'⟩
  by_cases hn : n < 0
  · rw [if_pos (by simpa using hn)]; simpa [hn] using go3
  · rw [if_neg (by simpa using hn)]
    exact ⟨_, _, _, hs.bx0.ld rfl, by simpa [hn] using go3⟩
end
end Go.Proofs.Ythegnnifbgikmaa
