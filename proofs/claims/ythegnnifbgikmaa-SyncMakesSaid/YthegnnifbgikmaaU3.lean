/- The sync seat: act: a call by both. -/
import Derived.Test.YthegnnifbgikmaaU2
set_option linter.unusedVariables false
set_option linter.unusedSimpArgs false
namespace Go.Proofs.Ythegnnifbgikmaa
open Go.X
section
variable {w : World} {K : Value → World → Prop} {KP : List PanicEntry → World → Prop} {pb : Nat} {z : S5} {R : RR} {L Γ : List Assn}

theorem max0 (n : Int) : (if (0 : Int) > n then 0 else n) = max n 0 := by split <;> omega

theorem D26 {x : Act} {n : Nat} (hs : Sep w (pers (RefA z R :: Γ) :: SyncA pb R.toSS :: L)) (hg : R.good n) (hn : n ≤ 100000)
    (h : ∀ z' w', Sep w' (pers (RefA z' (R.act x) :: Γ) :: SyncA pb (R.act x).toSS :: L) → K (.tuple #[S5.v z', .bool true]) w') :
    XCP Try.prog 26 [.pointer (some ⟨pb, 0, none⟩), z.v, x.v] w K KP := by
  show XCP Try.prog 26 [.pointer (some ⟨pb, 0, none⟩), .agg #[.slice z.o.a z.o.l z.o.c, .slice z.c.a z.c.l z.c.c, .slice z.r.a z.r.l z.r.c, .slice z.s.a z.s.l z.s.c, .slice z.t.a z.t.l z.t.c], .agg #[.int .i64 x.what, .int .i64 x.n, .int .i64 x.thread, .int .i64 x.value]] w K KP
  apply E26; unfold F26
  intro w0 p w1 p1 w2 p2
  replace hs : Sep w2 (bx w1.heap.size zero5 53 :: bx w0.heap.size x.cells 31 :: bx w.heap.size z.cells 53 :: pers (RefA z R :: Γ) :: SyncA pb R.toSS :: L) := ((hs.box _ _).box _ _).box _ _
  clear_value w0 w1 w2
  replace hs := hs.to3
  have hfine := hg.fine
  have hcl := hg.cl
  refine ⟨_, hs.bx2.ld rfl, ?_⟩
  by_cases h0 : x.what = 0
  · have ea : R.act x = (R.lock x.n x.thread).1 := by unfold RR.act; rw [if_pos h0]
    rw [ea] at h
    rw [if_pos (by simpa using h0)]
    refine ⟨_, _, _, _, _, _, _, _, _, _, _, _, _, _, _, hs.bx3.lds, _, hs.bx2.ld rfl, _, hs.bx2.ld rfl, ?_⟩
    refine D50 (z := z) hs hg (by omega) fun z' w3 hs => ⟨_, _, _, _, _, _, _, _, _, _, _, _, _, _, _, _, _, rfl, ?_⟩
    intro w4 p3
    replace hs : Sep w4 (bx w3.heap.size zero5 53 :: _) := hs.box _ _
    clear_value w4
    refine hs.fill (vs := z'.cells) rfl fun w5 _ hs => ⟨_, hs.bx3.ld rfl, _, hs.bx3.ld rfl, ?_⟩
    refine D13 hs.to5 fun w6 hs => ⟨_, _, rfl, ?_⟩
    rw [lock_eq hg] at hs ⊢
    replace hs := hs.back5
    intro kb hkb
    replace hs := hs.drew
    refine ⟨fun u => Blk u w3.heap.size z'.cells 53, hs.bx0, ?_⟩
    refine ⟨_, _, _, _, _, _, _, _, _, _, _, _, _, _, _, fun u hu => Blk.lds (V := z'.cells) hu, ?_⟩
    rw [if_pos (by simp)]
    refine C14 ⟨_, rfl, hs.bx0, ?_⟩
    refine hs.fill2 (vs := z'.cells) rfl fun w7 _ hs => ⟨hs.bx0, hkb _ _ ⟨_, _, _, _, _, _, _, _, _, _, _, _, _, _, _, hs.bx2.lds, ?_⟩⟩
    simp only [beq_self_eq_true]
    exact h z' _ (hs.tail.rid1.rid1.rid1)
  rw [if_neg (by simpa using h0)]
  by_cases h1 : x.what = 1
  · have ea : R.act x = (R.unlock x.n x.thread).1 := by unfold RR.act; rw [if_neg h0, if_pos h1]
    rw [ea] at h
    rw [if_pos (by simpa using h1)]
    refine ⟨_, _, _, _, _, _, _, _, _, _, _, _, _, _, _, hs.bx3.lds, _, hs.bx2.ld rfl, _, hs.bx2.ld rfl, ?_⟩
    refine D51 (z := z) hs hg (by omega) fun z' w3 hs => ⟨_, _, _, _, _, _, _, _, _, _, _, _, _, _, _, _, rfl, ?_⟩
    intro w4 p3
    replace hs : Sep w4 (bx w3.heap.size zero5 53 :: _) := hs.box _ _
    clear_value w4
    refine hs.fill (vs := z'.cells) rfl fun w5 _ hs => ?_
    replace hs := hs.drew
    refine ⟨fun u => Blk u w3.heap.size z'.cells 53 ∧ Blk u w0.heap.size x.cells 31, ⟨hs.bx0, hs.bx3⟩, ?_⟩
    refine ⟨_, _, _, _, _, _, _, _, _, _, _, _, _, _, _, fun u hu => Blk.lds (V := z'.cells) hu.1, _, fun u hu => hu.2.ld rfl, _, fun u hu => hu.2.ld rfl, ?_⟩
    refine D15 hs.to5 fun w6 hs => ⟨_, rfl, ?_⟩
    rw [unlock_eq] at hs ⊢
    replace hs := hs.back5
    refine ⟨⟨hs.bx0, hs.bx3⟩, C14 ⟨_, rfl, ⟨hs.bx0, hs.bx3⟩, ?_⟩⟩
    refine hs.fill2 (vs := z'.cells) rfl fun w7 _ hs => ⟨⟨hs.bx0, hs.bx3⟩, _, _, _, _, _, _, _, _, _, _, _, _, _, _, _, hs.bx2.lds, ?_⟩
    simp only [beq_self_eq_true]
    exact h z' _ hs.tail.rid1.rid1.rid1
  rw [if_neg (by simpa using h1)]
  by_cases h2 : x.what = 2
  · have ea : R.act x = (R.wait x.n x.thread).1 := by unfold RR.act; rw [if_neg h0, if_neg h1, if_pos h2]
    rw [ea] at h
    rw [if_pos (by simpa using h2)]
    refine ⟨_, _, _, _, _, _, _, _, _, _, _, _, _, _, _, hs.bx3.lds, _, hs.bx2.ld rfl, _, hs.bx2.ld rfl, ?_⟩
    refine D52 (z := z) hs hg (by omega) fun z' w3 hs => ⟨_, _, _, _, _, _, _, _, _, _, _, _, _, _, _, _, rfl, ?_⟩
    intro w4 p3
    replace hs : Sep w4 (bx w3.heap.size zero5 53 :: _) := hs.box _ _
    clear_value w4
    refine hs.fill (vs := z'.cells) rfl fun w5 _ hs => ?_
    replace hs := hs.drew
    refine ⟨fun u => Blk u w3.heap.size z'.cells 53 ∧ Blk u w0.heap.size x.cells 31, ⟨hs.bx0, hs.bx3⟩, ?_⟩
    refine ⟨_, _, _, _, _, _, _, _, _, _, _, _, _, _, _, fun u hu => Blk.lds (V := z'.cells) hu.1, _, fun u hu => hu.2.ld rfl, _, fun u hu => hu.2.ld rfl, ?_⟩
    refine D16 hs.to5 hfine (by omega) (by show R.conds.length ≤ 1000; omega) fun w6 hs => ⟨_, rfl, ?_⟩
    rw [wait_eq] at hs ⊢
    replace hs := hs.back5
    refine ⟨⟨hs.bx0, hs.bx3⟩, C14 ⟨_, rfl, ⟨hs.bx0, hs.bx3⟩, ?_⟩⟩
    refine hs.fill2 (vs := z'.cells) rfl fun w7 _ hs => ⟨⟨hs.bx0, hs.bx3⟩, _, _, _, _, _, _, _, _, _, _, _, _, _, _, _, hs.bx2.lds, ?_⟩
    simp only [beq_self_eq_true]
    exact h z' _ hs.tail.rid1.rid1.rid1
  rw [if_neg (by simpa using h2)]
  by_cases h3 : x.what = 3
  · have ea : R.act x = (R.signal x.n).1 := by unfold RR.act; rw [if_neg h0, if_neg h1, if_neg h2, if_pos h3]
    rw [ea] at h
    rw [if_pos (by simpa using h3)]
    refine ⟨_, _, _, _, _, _, _, _, _, _, _, _, _, _, _, hs.bx3.lds, _, hs.bx2.ld rfl, ?_⟩
    refine D53 (z := z) hs hg (by omega) fun z' w3 hs => ⟨_, _, _, _, _, _, _, _, _, _, _, _, _, _, _, _, _, rfl, ?_⟩
    intro w4 p3
    replace hs : Sep w4 (bx w3.heap.size zero5 53 :: _) := hs.box _ _
    clear_value w4
    refine hs.fill (vs := z'.cells) rfl fun w5 _ hs => ⟨_, hs.bx3.ld rfl, ?_⟩
    refine D17 hs.to5 fun w6 hs => ⟨_, _, _, rfl, ?_⟩
    rw [signal_eq hg] at hs ⊢
    replace hs := hs.back5
    intro kb hkb
    replace hs := hs.drew
    refine ⟨fun u => Blk u w3.heap.size z'.cells 53, hs.bx0, ?_⟩
    refine ⟨_, _, _, _, _, _, _, _, _, _, _, _, _, _, _, fun u hu => Blk.lds (V := z'.cells) hu, ?_⟩
    rw [if_pos (by simp), if_pos (by rw [max0]; simp)]
    refine C14 ⟨_, rfl, hs.bx0, ?_⟩
    refine hs.fill2 (vs := z'.cells) rfl fun w7 _ hs => ⟨hs.bx0, hkb _ _ ⟨_, _, _, _, _, _, _, _, _, _, _, _, _, _, _, hs.bx2.lds, ?_⟩⟩
    simp only [beq_self_eq_true]
    exact h z' _ hs.tail.rid1.rid1.rid1
  rw [if_neg (by simpa using h3)]
  by_cases h4 : x.what = 4
  · have ea : R.act x = (R.all x.n).1 := by unfold RR.act; rw [if_neg h0, if_neg h1, if_neg h2, if_neg h3, if_pos h4]
    rw [ea] at h
    rw [if_pos (by simpa using h4)]
    refine ⟨_, _, _, _, _, _, _, _, _, _, _, _, _, _, _, hs.bx3.lds, _, hs.bx2.ld rfl, ?_⟩
    refine D54 (z := z) hs hg (by omega) fun z' q w3 hs => ⟨_, _, _, _, _, _, _, _, _, _, _, _, _, _, _, _, _, _, _, rfl, ?_⟩
    intro w4 p3
    replace hs : Sep w4 (bx w3.heap.size zero5 53 :: _) := hs.box _ _
    clear_value w4
    refine hs.fill (vs := z'.cells) rfl fun w5 _ hs => ⟨_, hs.bx3.ld rfl, ?_⟩
    refine D30 hs.to5 fun s w6 hs hq => ⟨_, _, _, _, rfl, ?_⟩
    rw [all_eq] at hs hq ⊢
    replace hs := hs.back5
    intro kb hkb
    obtain ⟨G1, hq1⟩ := hq
    have hq2 : RdI w6.drew s _ (fun b => G1 b ∧ b < w6.heap.size) := (hq1.mono (fun b hb hg => ⟨hg, hb⟩)).frame (Fr.drew (fun _ => False) w6) (fun _ _ h => h)
    replace hs := hs.drew
    refine ⟨fun u => Blk u w3.heap.size z'.cells 53, hs.bx0, ?_⟩
    refine ⟨_, _, _, _, _, _, _, _, _, _, _, _, _, _, _, fun u hu => Blk.lds (V := z'.cells) hu, ?_⟩
    obtain ⟨G2, hq3⟩ := hs.to1.known 1 rfl
    have hq3 : RdI _ q _ G2 := hq3
    refine C22 (s1 := s) (s2 := q) hq2.1 hq2.2.1 hq3.1 hq3.2.1 ?_ fun w7 hf7 => ⟨_, rfl, ?_⟩
    · have := hg.cd
      unfold RR.all
      split
      · simp
      · have := (hg.cd _ (getD_mem (l := R.conds) (i := x.n.toNat) (d := []) (by omega))).1
        show List.length ((R.conds[x.n.toNat]?).getD []) ≤ _; omega
    replace hs := hs.ext hf7
    refine ⟨hs.bx0, ?_⟩
    rw [if_pos (by simp)]
    refine C14 ⟨_, rfl, hs.bx0, ?_⟩
    refine hs.fill2 (vs := z'.cells) rfl fun w7 _ hs => ⟨hs.bx0, hkb _ _ ⟨_, _, _, _, _, _, _, _, _, _, _, _, _, _, _, hs.bx2.lds, ?_⟩⟩
    simp only [beq_self_eq_true]
    exact h z' _ hs.tail.rid1.rid1.rid1.drop1
  rw [if_neg (by simpa using h4)]
  by_cases h5 : x.what = 5
  · have ea : R.act x = (R.send x.n x.value).1 := by unfold RR.act; rw [if_neg h0, if_neg h1, if_neg h2, if_neg h3, if_neg h4, if_pos h5]
    rw [ea] at h
    rw [if_pos (by simpa using h5)]
    refine ⟨_, _, _, _, _, _, _, _, _, _, _, _, _, _, _, hs.bx3.lds, _, hs.bx2.ld rfl, _, hs.bx2.ld rfl, ?_⟩
    refine D55 (z := z) hs hg (by omega) fun z' w3 hs => ⟨_, _, _, _, _, _, _, _, _, _, _, _, _, _, _, _, _, rfl, ?_⟩
    intro w4 p3
    replace hs : Sep w4 (bx w3.heap.size zero5 53 :: _) := hs.box _ _
    clear_value w4
    refine hs.fill (vs := z'.cells) rfl fun w5 _ hs => ⟨_, hs.bx3.ld rfl, _, hs.bx3.ld rfl, ?_⟩
    refine D18 hs.to5 hfine (by omega) fun w6 hs => ⟨_, _, _, rfl, ?_⟩
    rw [send_eq hg] at hs ⊢
    replace hs := hs.back5
    intro kb hkb
    replace hs := hs.drew
    refine ⟨fun u => Blk u w3.heap.size z'.cells 53, hs.bx0, ?_⟩
    refine ⟨_, _, _, _, _, _, _, _, _, _, _, _, _, _, _, fun u hu => Blk.lds (V := z'.cells) hu, ?_⟩
    rw [if_pos (by simp), if_pos (by rw [max0]; simp)]
    refine C14 ⟨_, rfl, hs.bx0, ?_⟩
    refine hs.fill2 (vs := z'.cells) rfl fun w7 _ hs => ⟨hs.bx0, hkb _ _ ⟨_, _, _, _, _, _, _, _, _, _, _, _, _, _, _, hs.bx2.lds, ?_⟩⟩
    simp only [beq_self_eq_true]
    exact h z' _ hs.tail.rid1.rid1.rid1
  rw [if_neg (by simpa using h5)]
  · have ea : R.act x = (R.recv x.n).1 := by unfold RR.act; rw [if_neg h0, if_neg h1, if_neg h2, if_neg h3, if_neg h4, if_neg h5]
    rw [ea] at h
    refine ⟨_, _, _, _, _, _, _, _, _, _, _, _, _, _, _, hs.bx3.lds, _, hs.bx2.ld rfl, ?_⟩
    refine D56 (z := z) hs hg (by omega) fun z' w3 hs => ⟨_, _, _, _, _, _, _, _, _, _, _, _, _, _, _, _, _, _, rfl, ?_⟩
    intro w4 p3
    replace hs : Sep w4 (bx w3.heap.size zero5 53 :: _) := hs.box _ _
    clear_value w4
    refine hs.fill (vs := z'.cells) rfl fun w5 _ hs => ⟨_, hs.bx3.ld rfl, ?_⟩
    refine D19 hs.to5 hfine (by omega) fun w6 hs => ⟨_, _, _, _, rfl, ?_⟩
    rw [recv_eq hg] at hs ⊢
    replace hs := hs.back5
    intro kb hkb
    replace hs := hs.drew
    refine ⟨fun u => Blk u w3.heap.size z'.cells 53, hs.bx0, ?_⟩
    refine ⟨_, _, _, _, _, _, _, _, _, _, _, _, _, _, _, fun u hu => Blk.lds (V := z'.cells) hu, ?_⟩
    rw [if_pos (by simp), if_pos (by simp), if_pos (by rw [max0]; simp)]
    refine C14 ⟨_, rfl, hs.bx0, ?_⟩
    refine hs.fill2 (vs := z'.cells) rfl fun w7 _ hs => ⟨hs.bx0, hkb _ _ ⟨_, _, _, _, _, _, _, _, _, _, _, _, _, _, _, hs.bx2.lds, ?_⟩⟩
    simp only [beq_self_eq_true]
    exact h z' _ hs.tail.rid1.rid1.rid1
end
end Go.Proofs.Ythegnnifbgikmaa
