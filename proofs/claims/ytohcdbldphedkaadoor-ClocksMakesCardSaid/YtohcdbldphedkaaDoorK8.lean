/- The clocks seat: the document's watch. -/
import Derived.Test.YtohcdbldphedkaaDoorK7
set_option linter.unusedVariables false
set_option linter.unusedSimpArgs false
namespace Go.Proofs.YtohcdbldphedkaaDoor
open Go.X
/-- the document's watch, read -/
def rwA (rt rp : Sl) (ts ps : List Ck) : Assn where
  p := fun w G => SlR ckR w G rt ts ∧ SlR ckR w G rp ps
  frame := fun h hf hd => ⟨h.1.frame hf hd, h.2.frame hf hd⟩
  mono := fun h hm => ⟨h.1.mono hm, h.2.mono hm⟩
def rwV (rt rp : Sl) : Value := .agg #[rt.v, rp.v]
def slA (s : Sl) (xs : List Ck) : Assn where
  p := fun w G => SlR ckR w G s xs
  frame := fun h hf hd => h.frame hf hd
  mono := fun h hm => h.mono hm
theorem growAt {w : World} {L Γ : List Assn} {A : Assn} (h : Sep w L) (k : Nat) (hk : L[k]? = some (pers Γ)) (i : Nat) (hA : Γ[i]? = some A) : ∃ G, A.p w G ∧ ∀ (w' : World) (A' : Assn), Ex w w' → A'.p w' (fun b => G b ∨ w.heap.size ≤ b) → Sep w' (L.set k (pers (A' :: Γ))) := by
  obtain ⟨G, hG, hr⟩ := (h.front k hk).grow i hA
  exact ⟨G, hG, fun w' A' he hA' => (hr w' A' he hA').back k hk⟩
theorem thF_err {ts : List Ck} {n : Int} (h : (thF ts n).2 ≠ 0) : thF ts n = (ck0, 4) := by
  unfold thF at h ⊢
  by_cases hn : 0 ≤ n ∧ n < ts.length
  · rw [if_pos hn] at h; exact absurd rfl h
  · rw [if_neg hn]
theorem tk_err {c : Ck} {t : Int} (h : (tk c t).2 ≠ 0) : (tk c t).1 = ck0 := by
  unfold tk at h ⊢
  by_cases h1 : c.ok = true
  · rw [if_pos h1] at h ⊢
    by_cases h2 : t < 0 ∨ t ≥ 8 ∨ c.get t.toNat = 4611686018427387904
    · rw [if_pos h2]
    · rw [if_neg h2] at h; exact absurd rfl h
  · rw [if_neg h1]
/-- a call's lists, and what it tells -/
def moT (k t n : Int) (ts ps : List Ck) : List Ck := if k = 0 then mvT false true n t ts ps else if k = 1 then mvT true false t n ts ps else if k = 2 then mvT true true n t ts ps else mvT true true t n ts ps
def moP (k t n : Int) (ts ps : List Ck) : List Ck := if k = 0 then mvP false true n t ts ps else if k = 1 then mvP true false t n ts ps else if k = 2 then mvP true true n t ts ps else mvP true true t n ts ps
def moE (k t n : Int) (ts ps : List Ck) : Int := if k = 0 then mvE false true n t ts ps else if k = 1 then mvE true false t n ts ps else if k = 2 then mvE true true n t ts ps else mvE true true t n ts ps
/-- not both there -/
def moB (k t n : Int) (ts ps : List Ck) : Bool := (!inB ts t || (decide (k ≤ 1) && !inB ps n)) || (decide (k ≥ 2) && !inB ts n)
theorem mo_bad {k t n : Int} {ts ps : List Ck} (hk : 0 ≤ k ∧ k ≤ 3) (h : moB k t n ts ps = true) : moT k t n ts ps = ts ∧ moP k t n ts ps = ps ∧ moE k t n ts ps = 4 := by
  have hk : k = 0 ∨ k = 1 ∨ k = 2 ∨ k = 3 := by omega
  unfold moB at h
  unfold moT moP moE mvT mvP mvE pk
  rcases hk with rfl | rfl | rfl | rfl <;> cases h1 : inB ts t <;> cases h2 : inB ps n <;> cases h3 : inB ts n <;> simp_all
section
variable {w : World} {K : Value → World → Prop} {KP : List PanicEntry → World → Prop} {rt rp : Sl} {ts ps : List Ck} {L : List Assn} {G : Nat → Prop}
theorem rw_old {u : World} (h : (rwA rt rp ts ps).p w G) (he : Ex w u) : (rwA rt rp ts ps).p u (fun b => G b ∨ w.heap.size ≤ b) := by
  refine (rwA rt rp ts ps).mono ((rwA rt rp ts ps).frame ((rwA rt rp ts ps).mono (G' := fun b => G b ∧ b < w.heap.size) h fun b hb hg => ⟨hg, hb⟩) (he fun _ => False) fun _ _ h => h) fun b _ hb => .inl hb.1
theorem C27bad {n m : Int} (hb : mkB n m = true) (hK : ∀ u, Ex w u → K (.tuple #[rwV ⟨none, 0, 0⟩ ⟨none, 0, 0⟩, .int .i64 2]) u) : XCP Tryd.prog 27 [.int .i64 n, .int .i64 m] w K KP := by
  refine E27 ?_
  unfold F27
  intro w0 p
  have hs : Sep w0 (bx w.heap.size [.slice none 0 0, .slice none 0 0] 41 :: [oldA w]) := (Sep.begin w).box _ _
  clear_value w0
  unfold mkB at hb
  rw [if_pos hb]
  exact hs.fill (vs := [.slice none 0 0, .slice none 0 0]) rfl fun w1 _ hs => ⟨_, _, _, _, _, _, hs.bx0.lds, hK _ (hs.ex 1 rfl)⟩
theorem C27 {n m : Int} (hb : mkB n m = false) (hs : Sep w L) (hK : ∀ rt rp u, Sep u (rwA rt rp (zs n) (zs m) :: L) → K (.tuple #[rwV rt rp, .int .i64 0]) u) : XCP Tryd.prog 27 [.int .i64 n, .int .i64 m] w K KP := by
  refine E27 ?_
  unfold F27
  intro w0 p
  have hs0 : Sep w0 (bx w.heap.size [.slice none 0 0, .slice none 0 0] 41 :: L) := hs.box _ _
  clear_value w0
  unfold mkB at hb
  rw [if_neg (by rw [hb]; decide)]
  simp only [Bool.or_eq_false_iff, decide_eq_false_iff_not] at hb
  have l1 : (zs n).length = n.toNat := by simp
  have l2 : (zs m).length = m.toNat := by simp
  intro kb hkb
  have hmg : ∀ u (a c : Sl), Sep u (row 8 23 a (cks (zs n)) :: row 8 23 c (cks (zs m)) :: L) → Sep u (rwA a c (zs n) (zs m) :: L) := fun u a c h => Sep.merge h fun w G H hA hB => by
    have hA : Own w 8 23 a.a a.l a.c (cks (zs n)) G := hA
    have hB : Own w 8 23 c.a c.l c.c (cks (zs m)) H := hB
    exact ⟨(SlR.of_cks hA).mono fun _ _ h => .inl h, (SlR.of_cks hB).mono fun _ _ h => .inr h⟩
  refine ⟨fun _ => True, trivial, ?_⟩
  intro w3
  have hs3 : Sep w3 _ := hs0.drew
  clear_value w3
  constructor
  · refine Sep.make T39 rfl hs3 (by omega) (Int.le_refl _) (by omega) (by omega) (cs := cks (zs n)) (by rw [cks_length, l1]) (zeros_at _) fun a u2 hl2 hs2 _ => ⟨_, _, _, rfl, trivial, ?_⟩
    refine Sep.make T39 rfl hs2 (by omega) (Int.le_refl _) (by omega) (by omega) (cs := cks (zs m)) (by rw [cks_length, l2]) (zeros_at _) fun c u3 hl3 hs3 _ => ⟨_, _, _, rfl, trivial, ?_⟩
    refine (hs3.front 2 rfl).fill (vs := [a.v, c.v]) rfl fun w6 _ hs6 => ⟨fun _ => True, trivial, hkb _ _ ⟨_, _, _, _, _, _, hs6.bx0.lds, hK a c _ (hmg _ _ _ hs6.tail.to1)⟩⟩
  · refine Sep.make T39 rfl hs3 (by omega) (Int.le_refl _) (by omega) (by omega) (cs := cks (zs m)) (by rw [cks_length, l2]) (zeros_at _) fun c u2 hl2 hs2 _ => ⟨_, _, _, rfl, trivial, ?_⟩
    refine Sep.make T39 rfl hs2 (by omega) (Int.le_refl _) (by omega) (by omega) (cs := cks (zs n)) (by rw [cks_length, l1]) (zeros_at _) fun a u3 hl3 hs3 _ => ⟨_, _, _, rfl, trivial, ?_⟩
    refine (hs3.front 2 rfl).fill (vs := [a.v, c.v]) rfl fun w6 _ hs6 => ⟨fun _ => True, trivial, hkb _ _ ⟨_, _, _, _, _, _, hs6.bx0.lds, hK a c _ (hmg _ _ _ hs6.tail)⟩⟩
theorem C49 {s : Sl} {xs : List Ck} {n : Int} (h : SlR ckR w G s xs) (hK : K (.bool (inB xs n)) w) : XCP Tryd.prog 49 [s.v, .int .i64 n] w K KP := by
  show XCP Tryd.prog 49 [.slice s.a s.l s.c, .int .i64 n] w K KP
  refine E49 ?_
  unfold F49
  rw [h.len]
  exact hK
theorem C50 {s : Sl} {xs : List Ck} {n : Int} {c : Ck} (h : SlR ckR w G s xs) (hl : xs.length ≤ 1000000) (h0 : 0 ≤ n) (h1 : n < xs.length) (hK : ∀ s' u, Ex w u → SlR ckR u (fun b => w.heap.size ≤ b) s' (xs.set n.toNat c) → K s'.v u) :
    XCP Tryd.prog 50 [s.v, .int .i64 n, c.v] w K KP := by
  show XCP Tryd.prog 50 [.slice s.a s.l s.c, .int .i64 n, c.v] w K KP
  refine E50 ?_
  unfold F50
  intro w0 p
  have hs : Sep w0 (bx w.heap.size c.cells 23 :: [oldA w]) := (Sep.begin w).box _ _
  clear_value w0
  have hln := h.len
  refine Sep.build (cs := []) T39 rfl hs rfl rfl (by decide) fun s1 u1 hl1 hs1 e1 => ⟨_, _, _, rfl, ?_⟩
  have hx1 := SlR.cks (h.ex (hs1.ex 2 rfl))
  refine Sep.append T39 rfl hs1 hx1 (by rw [cks_length, hln]) (cks_one _) (by omega) (by omega) fun s2 u2 hl2 hc2 hs2 => ⟨_, _, _, rfl, ?_⟩
  rw [List.nil_append] at hs2
  refine ⟨_, _, _, _, _, _, _, _, hs2.bx1.lds, ?_⟩
  obtain ⟨Gx, hr, -, -⟩ := hs2.rowRd
  obtain ⟨q, hq, -, -⟩ := hr.isSome (i := 0) (List.getElem?_eq_getElem (show 0 < (cks xs).length by rw [cks_length]; omega))
  rw [hq, xptr_some]
  refine ⟨h0, by omega, hs2.rowFillAt 0 rfl (vs := c.cells) (by show n.toNat * 8 + 8 ≤ _; rw [cks_length]; omega) hq fun w3 _ hs3 => ?_⟩
  rw [cks_setL _ _ _ (by omega)] at hs3
  rw [← hq]
  have hf := hs3.fresh 0 2 rfl rfl (by decide)
  have hf : Own w3 8 23 s2.a s2.l s2.c (cks (xs.set n.toNat c)) (fun b => w.heap.size ≤ b) := hf
  exact hK s2 _ (hs3.ex 2 rfl) (SlR.of_cks hf)
theorem C28 {n : Int} (h : (rwA rt rp ts ps).p w G) (hl : ts.length ≤ 1000000) (hK : ∀ rt' u, Ex w u → (rwA rt' rp (stT ts n) ps).p u (fun b => G b ∨ w.heap.size ≤ b) → K (.tuple #[rwV rt' rp, (stC ts n).v, .int .i64 (stE ts n)]) u) :
    XCP Tryd.prog 28 [rwV rt rp, .int .i64 n] w K KP := by
  show XCP Tryd.prog 28 [.agg #[.slice rt.a rt.l rt.c, .slice rp.a rp.l rp.c], .int .i64 n] w K KP
  refine E28 ?_
  unfold F28
  intro w0 p w1 p1 w2 p2
  have hs : Sep w2 (bx w1.heap.size ck0.cells 23 :: bx w0.heap.size [.slice none 0 0, .slice none 0 0] 41 :: bx w.heap.size [rt.v, rp.v] 41 :: [oldA w]) := (((Sep.begin w).box _ _).box _ _).box _ _
  clear_value w2
  refine ⟨rt.a, rt.l, rt.c, hs.bx2.ld rfl, ?_⟩
  have e2 := hs.ex 3 rfl
  refine C49 (s := rt) (h.1.ex e2) ⟨_, rfl, ?_⟩
  by_cases hin : 0 ≤ n ∧ n < ts.length
  rotate_left
  · have hb : inB ts n = false := by cases hx : inB ts n with | false => rfl | true => exact absurd (inB_iff.1 hx) hin
    rw [hb, if_pos (by decide)]
    have eF : thF ts n = (ck0, 4) := by unfold thF; rw [if_neg hin]
    have eE : stE ts n = 4 := by unfold stE; rw [eF]; rfl
    have eC : stC ts n = ck0 := by unfold stC; rw [eF]; rfl
    have eT : stT ts n = ts := by unfold stT; rw [eE]; rfl
    rw [eE, eC, eT] at hK
    refine ⟨rt.a, rt.l, rt.c, rp.a, rp.l, rp.c, hs.bx2.lds, hs.fill1 (vs := [rt.v, rp.v]) rfl fun w4 _ h4 => h4.fill (vs := ck0.cells) rfl fun w5 _ h5 => ⟨rt.a, rt.l, rt.c, rp.a, rp.l, rp.c, h5.bx1.lds, _, _, _, _, _, _, _, _, h5.bx0.lds, ?_⟩⟩
    exact hK rt _ (h5.ex 3 rfl) (rw_old h (h5.ex 3 rfl))
  · rw [inB_iff.2 hin, if_neg (by decide)]
    have eF := thF_yes hin.1 hin.2
    have eE : stE ts n = (tk (ts[n.toNat]'(by omega)) n).2 := by unfold stE; rw [eF, if_pos rfl]
    have eC : stC ts n = (tk (ts[n.toNat]'(by omega)) n).1 := by unfold stC; rw [eF, if_pos rfl]
    obtain ⟨q, row, hq, hr, hc⟩ := (h.1.ex e2).nth (i := n.toNat) (List.getElem?_eq_getElem (show n.toNat < ts.length by omega)) (by decide)
    have hr : row = _ := hr
    subst hr
    have hlt := h.1.len
    refine ⟨rt.a, rt.l, rt.c, hs.bx2.ld rfl, ?_⟩
    rw [hq, xptr_some]
    refine ⟨hin.1, by omega, _, _, _, _, _, _, _, _, hc, ?_⟩
    refine C13 (c := ts[n.toNat]'(by omega)) (t := n) fun u6 e6 => ?_
    rw [← eE, ← eC]
    refine ⟨_, _, _, _, _, _, _, _, _, rfl, ?_⟩
    intro w7 p4
    have h7 : Sep w7 (bx u6.heap.size ck0.cells 23 :: _) := (hs.ext e6).box _ _
    clear_value w7
    refine h7.fill (vs := (stC ts n).cells) rfl fun w8 _ h8 => ?_
    by_cases hz : stE ts n = 0
    rotate_left
    · rw [if_pos (by simpa using hz)]
      have e0 : stC ts n = ck0 := by rw [eC]; exact tk_err (by rw [← eE]; exact hz)
      have eT : stT ts n = ts := by unfold stT; rw [if_neg hz]
      rw [eT, e0] at hK
      refine ⟨rt.a, rt.l, rt.c, rp.a, rp.l, rp.c, h8.bx3.lds, h8.tail.fill1 (vs := [rt.v, rp.v]) rfl fun w9 _ h9 => h9.fill (vs := ck0.cells) rfl fun w10 _ h10 => ⟨rt.a, rt.l, rt.c, rp.a, rp.l, rp.c, h10.bx1.lds, _, _, _, _, _, _, _, _, h10.bx0.lds, ?_⟩⟩
      exact hK rt _ (h10.ex 3 rfl) (rw_old h (h10.ex 3 rfl))
    · rw [if_neg (by simpa using hz)]
      have eT : stT ts n = ts.set n.toNat (stC ts n) := by unfold stT; rw [if_pos hz]
      rw [hz] at hK
      refine ⟨rt.a, rt.l, rt.c, h8.bx3.ld rfl, _, _, _, _, _, _, _, _, h8.bx0.lds, ?_⟩
      refine C50 (s := rt) (c := stC ts n) (h.1.ex (h8.ex 4 rfl)) hl hin.1 hin.2 fun s' u11 e11 hs' => ⟨_, _, _, rfl, ?_⟩
      rw [← eT] at hs'
      have h11 : Sep u11 (slA s' (stT ts n) :: _) := h8.add (A := slA s' (stT ts n)) e11 hs'
      refine h11.putAt 4 rfl (o := 0) (Nat.zero_lt_succ _) fun w12 _ h12 => ?_
      replace h12 : Sep w12 (slA s' (stT ts n) :: bx u6.heap.size (stC ts n).cells 23 :: bx w1.heap.size ck0.cells 23 :: bx w0.heap.size [.slice none 0 0, .slice none 0 0] 41 :: bx w.heap.size [s'.v, rp.v] 41 :: [oldA w]) := h12
      refine ⟨fun x => Blk x w.heap.size [s'.v, rp.v] 41 ∧ Blk x u6.heap.size (stC ts n).cells 23, ⟨h12.drew.bx4, h12.drew.bx1⟩, ?_⟩
      intro w13
      have h13 : Sep w13 _ := h12.drew
      clear_value w13
      refine ⟨s'.a, s'.l, s'.c, rp.a, rp.l, rp.c, fun x hx => hx.1.lds, _, _, _, _, _, _, _, _, fun x hx => hx.2.lds, ?_⟩
      refine (h13.front 3 rfl).fill (vs := [s'.v, rp.v]) rfl fun w16 _ h16 => ⟨⟨h16.bx4, h16.bx2⟩, ?_⟩
      refine (h16.front 3 rfl).fill (vs := (stC ts n).cells) rfl fun w17 _ h17 => ⟨fun _ => True, trivial, s'.a, s'.l, s'.c, rp.a, rp.l, rp.c, h17.bx1.lds, _, _, _, _, _, _, _, _, h17.bx0.lds, ?_⟩
      have hf : SlR ckR w17 (fun b => w.heap.size ≤ b) s' (stT ts n) := h17.fresh 2 5 rfl rfl (by decide)
      have ho := rw_old h (h17.ex 5 rfl)
      exact hK s' _ (h17.ex 5 rfl) ⟨hf.mono fun _ _ hb => .inr hb, ho.2⟩
theorem C51 {k t n : Int} (hk : 0 ≤ k ∧ k ≤ 3) (h : (rwA rt rp ts ps).p w G) (hlt : ts.length ≤ 1000000) (hlp : ps.length ≤ 1000000)
    (hK : ∀ rt' rp' u, Ex w u → (rwA rt' rp' (moT k t n ts ps) (moP k t n ts ps)).p u (fun b => G b ∨ w.heap.size ≤ b) → K (.tuple #[rwV rt' rp', .int .i64 (moE k t n ts ps)]) u) :
    XCP Tryd.prog 51 [rwV rt rp, .int .i64 k, .int .i64 t, .int .i64 n] w K KP := by
  show XCP Tryd.prog 51 [.agg #[.slice rt.a rt.l rt.c, .slice rp.a rp.l rp.c], .int .i64 k, .int .i64 t, .int .i64 n] w K KP
  refine E51 ?_
  unfold F51
  intro w0 p w1 p1
  have hs : Sep w1 (bx w0.heap.size [.slice none 0 0, .slice none 0 0] 41 :: bx w.heap.size [rt.v, rp.v] 41 :: [oldA w]) := ((Sep.begin w).box _ _).box _ _
  clear_value w1
  refine ⟨rt.a, rt.l, rt.c, hs.bx1.ld rfl, ?_⟩
  refine C49 (s := rt) (h.1.ex (hs.ex 2 rfl)) ⟨_, rfl, ?_⟩
  refine or_join (b := !inB ts t) (c := decide (k ≤ 1) && !inB ps n) (fun kb hkb => ?_) fun u2 e2 => ?_
  · refine and_join (c := !inB ps n) (fun kb' hk' => ⟨rp.a, rp.l, rp.c, hs.bx1.ld rfl, C49 (s := rp) (h.2.ex (hs.ex 2 rfl)) ⟨_, rfl, hk' _ (Ex.refl _)⟩⟩) fun u hu => hkb u hu
  have h2 := hs.ext e2
  refine or_join (c := decide (k ≥ 2) && !inB ts n) (fun kb hkb => ?_) fun w4 e4' => ?_
  · refine and_join (c := !inB ts n) (fun kb' hk' => ⟨rt.a, rt.l, rt.c, h2.bx1.ld rfl, C49 (s := rt) (h.1.ex (h2.ex 2 rfl)) ⟨_, rfl, hk' _ (Ex.refl _)⟩⟩) fun u hu => hkb u hu
  have h4 := h2.ext e4'
  show if moB k t n ts ps = true then _ else _
  have e4 := h4.ex 2 rfl
  by_cases hb : moB k t n ts ps = true
  · rw [if_pos hb]
    obtain ⟨eT, eP, eE⟩ := mo_bad hk hb
    rw [eT, eP, eE] at hK
    refine ⟨rt.a, rt.l, rt.c, rp.a, rp.l, rp.c, h4.bx1.lds, h4.fill (vs := [rt.v, rp.v]) rfl fun w5 _ h5 => ⟨rt.a, rt.l, rt.c, rp.a, rp.l, rp.c, h5.bx0.lds, hK rt rp _ (h5.ex 2 rfl) (rw_old h (h5.ex 2 rfl))⟩⟩
  rw [if_neg hb]
  intro kb2 hkb2
  have hk' : k = 0 ∨ k = 1 ∨ k = 2 ∨ k = 3 := by omega
  clear hk
  rcases hk' with rfl | rfl | rfl | rfl
  · have hin : inB ts t = true ∧ inB ps n = true := by
      unfold moB at hb
      cases h1 : inB ts t <;> cases h2 : inB ps n <;> simp_all
    have ht := inB_iff.1 hin.1
    have hn := inB_iff.1 hin.2
    have eT : moT 0 t n ts ps = ts := by unfold moT mvT pk; simp [hin.1, hin.2]
    have eP : moP 0 t n ts ps = joinAt ps ts n t := by unfold moP mvP pk; simp [hin.1, hin.2]
    have eE : moE 0 t n ts ps = 0 := by unfold moE mvE pk; simp [hin.1, hin.2]
    rw [eT, eP, eE] at hK
    rw [if_pos (by decide)]
    refine ⟨fun x => Ex w4 x, Ex.drew w4, ?_⟩
    intro w8
    have e8 : Ex w4 w8 := Ex.drew w4
    have h8 : Sep w8 _ := h4.drew
    clear_value w8
    refine ⟨rp.a, rp.l, rp.c, fun x hx => (hx.blk h4.bx1).ld rfl, rp.a, rp.l, rp.c, fun x hx => (hx.blk h4.bx1).ld rfl, ?_⟩
    obtain ⟨q1, row1, hq1, hr1, hc1⟩ := (h.2.ex e4).nth (i := n.toNat) (List.getElem?_eq_getElem (show n.toNat < ps.length by omega)) (by decide)
    have hr1 : row1 = _ := hr1
    subst hr1
    have hl1 := h.2.len
    rw [hq1, xptr_some]
    refine ⟨by omega, by omega, _, _, _, _, _, _, _, _, fun x hx => hx.cells hc1, rt.a, rt.l, rt.c, fun x hx => (hx.blk h4.bx1).ld rfl, ?_⟩
    obtain ⟨q2, row2, hq2, hr2, hc2⟩ := (h.1.ex e4).nth (i := t.toNat) (List.getElem?_eq_getElem (show t.toNat < ts.length by omega)) (by decide)
    have hr2 : row2 = _ := hr2
    subst hr2
    have hl2 := h.1.len
    rw [hq2, xptr_some]
    refine ⟨by omega, by omega, _, _, _, _, _, _, _, _, fun x hx => hx.cells hc2, ?_⟩
    refine C23 (a := ps[n.toNat]'(by omega)) (b := ts[t.toNat]'(by omega)) fun w14 e14 => ⟨_, _, _, _, _, _, _, _, rfl, e8.trans e14, ?_⟩
    have h14 := h8.ext e14
    rw [← hq1]
    refine C50 (s := rp) (xs := ps) (n := n) (c := jn (ps[n.toNat]'(by omega)) (ts[t.toNat]'(by omega))) (h.2.ex (h14.ex 2 rfl)) (by omega) (by omega) (by omega) fun s' u15 e15 hs' => ⟨_, _, _, rfl, fun _ => True, trivial, ?_⟩
    have ej : ps.set n.toNat (jn (ps[n.toNat]'(by omega)) (ts[t.toNat]'(by omega))) = joinAt ps ts n t := by
      unfold joinAt
      rw [List.getD_eq_getElem?_getD, List.getElem?_eq_getElem (show n.toNat < ps.length by omega), List.getD_eq_getElem?_getD, List.getElem?_eq_getElem (show t.toNat < ts.length by omega)]; rfl
    rw [ej] at hs'
    have h15 : Sep u15 (slA s' (joinAt ps ts n t) :: _) := h14.add (A := slA s' _) e15 hs'
    refine h15.putAt 2 rfl (o := 1) (by simp) fun w16 _ h16 => ?_
    replace h16 : Sep w16 (slA s' (joinAt ps ts n t) :: bx w0.heap.size [.slice none 0 0, .slice none 0 0] 41 :: bx w.heap.size [rt.v, s'.v] 41 :: [oldA w]) := h16
    refine hkb2 _ ?_
    refine ⟨rt.a, rt.l, rt.c, s'.a, s'.l, s'.c, h16.bx2.lds, h16.fill1 (vs := [rt.v, s'.v]) rfl fun w7 _ h7 => ⟨rt.a, rt.l, rt.c, s'.a, s'.l, s'.c, h7.bx1.lds, ?_⟩⟩
    have hf : SlR ckR w7 (fun b => w.heap.size ≤ b) s' (joinAt ps ts n t) := h7.fresh 0 3 rfl rfl (by decide)
    have ho := rw_old h (h7.ex 3 rfl)
    exact hK rt s' _ (h7.ex 3 rfl) ⟨ho.1, hf.mono fun _ _ hb => .inr hb⟩
  · have hin : inB ts t = true ∧ inB ps n = true := by
      unfold moB at hb
      cases h1 : inB ts t <;> cases h2 : inB ps n <;> simp_all
    have ht := inB_iff.1 hin.1
    have hn := inB_iff.1 hin.2
    have eT : moT 1 t n ts ps = joinAt ts ps t n := by unfold moT mvT pk; simp [hin.1, hin.2]
    have eP : moP 1 t n ts ps = ps := by unfold moP mvP pk; simp [hin.1, hin.2]
    have eE : moE 1 t n ts ps = 0 := by unfold moE mvE pk; simp [hin.1, hin.2]
    rw [eT, eP, eE] at hK
    rw [if_neg (by decide), if_pos (by decide)]
    refine ⟨fun x => Ex w4 x, Ex.drew w4, ?_⟩
    intro w8
    have e8 : Ex w4 w8 := Ex.drew w4
    have h8 : Sep w8 _ := h4.drew
    clear_value w8
    refine ⟨rt.a, rt.l, rt.c, fun x hx => (hx.blk h4.bx1).ld rfl, rt.a, rt.l, rt.c, fun x hx => (hx.blk h4.bx1).ld rfl, ?_⟩
    obtain ⟨q1, row1, hq1, hr1, hc1⟩ := (h.1.ex e4).nth (i := t.toNat) (List.getElem?_eq_getElem (show t.toNat < ts.length by omega)) (by decide)
    have hr1 : row1 = _ := hr1
    subst hr1
    have hl1 := h.1.len
    rw [hq1, xptr_some]
    refine ⟨by omega, by omega, _, _, _, _, _, _, _, _, fun x hx => hx.cells hc1, rp.a, rp.l, rp.c, fun x hx => (hx.blk h4.bx1).ld rfl, ?_⟩
    obtain ⟨q2, row2, hq2, hr2, hc2⟩ := (h.2.ex e4).nth (i := n.toNat) (List.getElem?_eq_getElem (show n.toNat < ps.length by omega)) (by decide)
    have hr2 : row2 = _ := hr2
    subst hr2
    have hl2 := h.2.len
    rw [hq2, xptr_some]
    refine ⟨by omega, by omega, _, _, _, _, _, _, _, _, fun x hx => hx.cells hc2, ?_⟩
    refine C23 (a := ts[t.toNat]'(by omega)) (b := ps[n.toNat]'(by omega)) fun w14 e14 => ⟨_, _, _, _, _, _, _, _, rfl, e8.trans e14, ?_⟩
    have h14 := h8.ext e14
    rw [← hq1]
    refine C50 (s := rt) (xs := ts) (n := t) (c := jn (ts[t.toNat]'(by omega)) (ps[n.toNat]'(by omega))) (h.1.ex (h14.ex 2 rfl)) (by omega) (by omega) (by omega) fun s' u15 e15 hs' => ⟨_, _, _, rfl, fun _ => True, trivial, ?_⟩
    have ej : ts.set t.toNat (jn (ts[t.toNat]'(by omega)) (ps[n.toNat]'(by omega))) = joinAt ts ps t n := by
      unfold joinAt
      rw [List.getD_eq_getElem?_getD, List.getElem?_eq_getElem (show t.toNat < ts.length by omega), List.getD_eq_getElem?_getD, List.getElem?_eq_getElem (show n.toNat < ps.length by omega)]; rfl
    rw [ej] at hs'
    have h15 : Sep u15 (slA s' (joinAt ts ps t n) :: _) := h14.add (A := slA s' _) e15 hs'
    refine h15.putAt 2 rfl (o := 0) (by simp) fun w16 _ h16 => ?_
    replace h16 : Sep w16 (slA s' (joinAt ts ps t n) :: bx w0.heap.size [.slice none 0 0, .slice none 0 0] 41 :: bx w.heap.size [s'.v, rp.v] 41 :: [oldA w]) := h16
    refine hkb2 _ ?_
    refine ⟨s'.a, s'.l, s'.c, rp.a, rp.l, rp.c, h16.bx2.lds, h16.fill1 (vs := [s'.v, rp.v]) rfl fun w7 _ h7 => ⟨s'.a, s'.l, s'.c, rp.a, rp.l, rp.c, h7.bx1.lds, ?_⟩⟩
    have hf : SlR ckR w7 (fun b => w.heap.size ≤ b) s' (joinAt ts ps t n) := h7.fresh 0 3 rfl rfl (by decide)
    have ho := rw_old h (h7.ex 3 rfl)
    exact hK s' rp _ (h7.ex 3 rfl) ⟨hf.mono fun _ _ hb => .inr hb, ho.2⟩
  · have hin : inB ts t = true ∧ inB ts n = true := by
      unfold moB at hb
      cases h1 : inB ts t <;> cases h2 : inB ts n <;> simp_all
    have ht := inB_iff.1 hin.1
    have hn := inB_iff.1 hin.2
    have eT : moT 2 t n ts ps = joinAt ts ts n t := by unfold moT mvT pk; simp [hin.1, hin.2]
    have eP : moP 2 t n ts ps = ps := by unfold moP mvP pk; simp [hin.1, hin.2]
    have eE : moE 2 t n ts ps = 0 := by unfold moE mvE pk; simp [hin.1, hin.2]
    rw [eT, eP, eE] at hK
    rw [if_neg (by decide), if_neg (by decide), if_pos (by decide)]
    refine ⟨fun x => Ex w4 x, Ex.drew w4, ?_⟩
    intro w8
    have e8 : Ex w4 w8 := Ex.drew w4
    have h8 : Sep w8 _ := h4.drew
    clear_value w8
    refine ⟨rt.a, rt.l, rt.c, fun x hx => (hx.blk h4.bx1).ld rfl, rt.a, rt.l, rt.c, fun x hx => (hx.blk h4.bx1).ld rfl, ?_⟩
    obtain ⟨q1, row1, hq1, hr1, hc1⟩ := (h.1.ex e4).nth (i := n.toNat) (List.getElem?_eq_getElem (show n.toNat < ts.length by omega)) (by decide)
    have hr1 : row1 = _ := hr1
    subst hr1
    have hl1 := h.1.len
    rw [hq1, xptr_some]
    refine ⟨by omega, by omega, _, _, _, _, _, _, _, _, fun x hx => hx.cells hc1, rt.a, rt.l, rt.c, fun x hx => (hx.blk h4.bx1).ld rfl, ?_⟩
    obtain ⟨q2, row2, hq2, hr2, hc2⟩ := (h.1.ex e4).nth (i := t.toNat) (List.getElem?_eq_getElem (show t.toNat < ts.length by omega)) (by decide)
    have hr2 : row2 = _ := hr2
    subst hr2
    have hl2 := h.1.len
    rw [hq2, xptr_some]
    refine ⟨by omega, by omega, _, _, _, _, _, _, _, _, fun x hx => hx.cells hc2, ?_⟩
    refine C23 (a := ts[n.toNat]'(by omega)) (b := ts[t.toNat]'(by omega)) fun w14 e14 => ⟨_, _, _, _, _, _, _, _, rfl, e8.trans e14, ?_⟩
    have h14 := h8.ext e14
    rw [← hq1]
    refine C50 (s := rt) (xs := ts) (n := n) (c := jn (ts[n.toNat]'(by omega)) (ts[t.toNat]'(by omega))) (h.1.ex (h14.ex 2 rfl)) (by omega) (by omega) (by omega) fun s' u15 e15 hs' => ⟨_, _, _, rfl, fun _ => True, trivial, ?_⟩
    have ej : ts.set n.toNat (jn (ts[n.toNat]'(by omega)) (ts[t.toNat]'(by omega))) = joinAt ts ts n t := by
      unfold joinAt
      rw [List.getD_eq_getElem?_getD, List.getElem?_eq_getElem (show n.toNat < ts.length by omega), List.getD_eq_getElem?_getD, List.getElem?_eq_getElem (show t.toNat < ts.length by omega)]; rfl
    rw [ej] at hs'
    have h15 : Sep u15 (slA s' (joinAt ts ts n t) :: _) := h14.add (A := slA s' _) e15 hs'
    refine h15.putAt 2 rfl (o := 0) (by simp) fun w16 _ h16 => ?_
    replace h16 : Sep w16 (slA s' (joinAt ts ts n t) :: bx w0.heap.size [.slice none 0 0, .slice none 0 0] 41 :: bx w.heap.size [s'.v, rp.v] 41 :: [oldA w]) := h16
    refine hkb2 _ ?_
    refine ⟨s'.a, s'.l, s'.c, rp.a, rp.l, rp.c, h16.bx2.lds, h16.fill1 (vs := [s'.v, rp.v]) rfl fun w7 _ h7 => ⟨s'.a, s'.l, s'.c, rp.a, rp.l, rp.c, h7.bx1.lds, ?_⟩⟩
    have hf : SlR ckR w7 (fun b => w.heap.size ≤ b) s' (joinAt ts ts n t) := h7.fresh 0 3 rfl rfl (by decide)
    have ho := rw_old h (h7.ex 3 rfl)
    exact hK s' rp _ (h7.ex 3 rfl) ⟨hf.mono fun _ _ hb => .inr hb, ho.2⟩
  · have hin : inB ts t = true ∧ inB ts n = true := by
      unfold moB at hb
      cases h1 : inB ts t <;> cases h2 : inB ts n <;> simp_all
    have ht := inB_iff.1 hin.1
    have hn := inB_iff.1 hin.2
    have eT : moT 3 t n ts ps = joinAt ts ts t n := by unfold moT mvT pk; simp [hin.1, hin.2]
    have eP : moP 3 t n ts ps = ps := by unfold moP mvP pk; simp [hin.1, hin.2]
    have eE : moE 3 t n ts ps = 0 := by unfold moE mvE pk; simp [hin.1, hin.2]
    rw [eT, eP, eE] at hK
    rw [if_neg (by decide), if_neg (by decide), if_neg (by decide)]
    refine ⟨fun x => Ex w4 x, Ex.drew w4, ?_⟩
    intro w8
    have e8 : Ex w4 w8 := Ex.drew w4
    have h8 : Sep w8 _ := h4.drew
    clear_value w8
    refine ⟨rt.a, rt.l, rt.c, fun x hx => (hx.blk h4.bx1).ld rfl, rt.a, rt.l, rt.c, fun x hx => (hx.blk h4.bx1).ld rfl, ?_⟩
    obtain ⟨q1, row1, hq1, hr1, hc1⟩ := (h.1.ex e4).nth (i := t.toNat) (List.getElem?_eq_getElem (show t.toNat < ts.length by omega)) (by decide)
    have hr1 : row1 = _ := hr1
    subst hr1
    have hl1 := h.1.len
    rw [hq1, xptr_some]
    refine ⟨by omega, by omega, _, _, _, _, _, _, _, _, fun x hx => hx.cells hc1, rt.a, rt.l, rt.c, fun x hx => (hx.blk h4.bx1).ld rfl, ?_⟩
    obtain ⟨q2, row2, hq2, hr2, hc2⟩ := (h.1.ex e4).nth (i := n.toNat) (List.getElem?_eq_getElem (show n.toNat < ts.length by omega)) (by decide)
    have hr2 : row2 = _ := hr2
    subst hr2
    have hl2 := h.1.len
    rw [hq2, xptr_some]
    refine ⟨by omega, by omega, _, _, _, _, _, _, _, _, fun x hx => hx.cells hc2, ?_⟩
    refine C23 (a := ts[t.toNat]'(by omega)) (b := ts[n.toNat]'(by omega)) fun w14 e14 => ⟨_, _, _, _, _, _, _, _, rfl, e8.trans e14, ?_⟩
    have h14 := h8.ext e14
    rw [← hq1]
    refine C50 (s := rt) (xs := ts) (n := t) (c := jn (ts[t.toNat]'(by omega)) (ts[n.toNat]'(by omega))) (h.1.ex (h14.ex 2 rfl)) (by omega) (by omega) (by omega) fun s' u15 e15 hs' => ⟨_, _, _, rfl, fun _ => True, trivial, ?_⟩
    have ej : ts.set t.toNat (jn (ts[t.toNat]'(by omega)) (ts[n.toNat]'(by omega))) = joinAt ts ts t n := by
      unfold joinAt
      rw [List.getD_eq_getElem?_getD, List.getElem?_eq_getElem (show t.toNat < ts.length by omega), List.getD_eq_getElem?_getD, List.getElem?_eq_getElem (show n.toNat < ts.length by omega)]; rfl
    rw [ej] at hs'
    have h15 : Sep u15 (slA s' (joinAt ts ts t n) :: _) := h14.add (A := slA s' _) e15 hs'
    refine h15.putAt 2 rfl (o := 0) (by simp) fun w16 _ h16 => ?_
    replace h16 : Sep w16 (slA s' (joinAt ts ts t n) :: bx w0.heap.size [.slice none 0 0, .slice none 0 0] 41 :: bx w.heap.size [s'.v, rp.v] 41 :: [oldA w]) := h16
    refine hkb2 _ ?_
    refine ⟨s'.a, s'.l, s'.c, rp.a, rp.l, rp.c, h16.bx2.lds, h16.fill1 (vs := [s'.v, rp.v]) rfl fun w7 _ h7 => ⟨s'.a, s'.l, s'.c, rp.a, rp.l, rp.c, h7.bx1.lds, ?_⟩⟩
    have hf : SlR ckR w7 (fun b => w.heap.size ≤ b) s' (joinAt ts ts t n) := h7.fresh 0 3 rfl rfl (by decide)
    have ho := rw_old h (h7.ex 3 rfl)
    exact hK s' rp _ (h7.ex 3 rfl) ⟨hf.mono fun _ _ hb => .inr hb, ho.2⟩
end
end Go.Proofs.YtohcdbldphedkaaDoor
