/- The sync seat: Wait, which ranges over a function. -/
import Derived.Test.YthegnnifbgikmaaS4
set_option linter.unusedVariables false
set_option linter.unusedSimpArgs false
namespace Go.Proofs.Ythegnnifbgikmaa
open Go.X
section
variable {w : World} {K : Value → World → Prop} {KP : List PanicEntry → World → Prop} {pb : Nat} {S : SS} {g : Nat → Nat}

theorem flat_at {α : Type} : ∀ {L : List (List α)} {i : Nat} {xs : List α}, L[i]? = some xs → L.flatten = (L.take i).flatten ++ xs ++ (L.drop (i + 1)).flatten
  | x :: L, 0, xs, h => by simp at h; subst h; simp
  | x :: L, i + 1, xs, h => by
    simp only [List.getElem?_cons_succ] at h
    simp [flat_at h]

/-- the threads that wait, one behind the other -/
theorem C72 {l : Nat} {bx : Nat} {ow cd ch : Sl} {qs hs : List Sl} {J : List Int → World → Prop} {R : World → Prop} (hlen : S.conds.length ≤ 1000000000) (hxl : ∀ xs ∈ S.conds, xs.length ≤ 1000000000)
    (hsync : ∀ d u, J d u → SyncR u pb S g ow cd ch qs hs)
    (hbox : ∀ d u, J d u → u.cell? ⟨bx, 0, none⟩ = some (.pointer (some ⟨pb, 0, none⟩)))
    (hfr : ∀ d u u', J d u → Fr (fun _ => False) u u' → J d u')
    (hy : ∀ d t rest, S.conds.flatten = d ++ t :: rest → ∀ u, J d u → ∀ K1 : Value → World → Prop, (∀ u1, J (d ++ [t]) u1 → K1 (.bool true) u1) → (∀ u1, R u1 → K1 (.bool false) u1) → XYield Try.prog l [.int .i64 t] u K1 NP)
    (h0 : J [] w) (h1 : ∀ u, J S.conds.flatten u → K (.tuple #[]) u) (h2 : ∀ u, R u → K (.tuple #[]) u) :
    XCP Try.prog 72 [.func (.yield l) #[] #[], .pointer (some ⟨bx, 0, none⟩)] w K NP := by
  apply E72; unfold F72
  have hR := hsync _ _ h0
  have hl : cd.l = S.conds.length := by have := hR.cds.1; have := hR.nq; simp at *; omega
  rw [xptr_some]
  refine ⟨_, hbox _ _ h0, ?_⟩
  simp only [xptr_some, add_lit, hR.blk.cell, Nat.zero_add]
  refine ⟨cd.a, cd.l, cd.c, rfl, fun n u => 0 ≤ n ∧ n ≤ cd.l ∧ J ((S.conds.take n.toNat).flatten) u, fun n u => cd.l - n.toNat, ⟨by omega, by omega, by simpa using h0⟩, ?_⟩
  intro n u ⟨hn0, hn1, hJ⟩
  by_cases hn : n < cd.l
  · rw [if_pos (by simpa using hn)]
    have hlt : n.toNat < S.conds.length := by omega
    have hlq : n.toNat < qs.length := by rw [hR.nq]; exact hlt
    have hRu := hsync _ _ hJ
    cases hca : cd.a with
    | none => exact absurd hca (Own.ne hR.cds n.toNat (by omega))
    | some p =>
      obtain ⟨b, o, B, rfl, hg, hb, hfit, hv⟩ := Own.at_ hRu.cds hca
      have hq := hRu.q n.toNat _ _ (List.getElem?_eq_getElem hlq) (List.getElem?_eq_getElem hlt)
      have hql := hq.len
      rw [xptr_some]
      refine ⟨hn0, hn, qs[n.toNat].a, qs[n.toNat].l, qs[n.toNat].c, ?_, ?_⟩
      · refine ⟨?_, trivial⟩
        simp only [add_lit, hb.cell, Nat.add_zero, Nat.mul_one]
        exact hv n.toNat qs[n.toNat].v (by simp [hlq])
      · have hb1 : Blk (u.alloc (.cells #[.slice none 0 0] 93)) u.heap.size [.slice none 0 0] 93 := Blk.new u _ _
        have hf1 : Fr (fun _ => False) u (u.alloc (.cells #[.slice none 0 0] 93)) := Fr.alloc _ _ _
        generalize u.alloc (.cells #[.slice none 0 0] 93) = w1 at hb1 hf1 ⊢
        refine storesAt_blk _ 0 w1 _ hb1 (by simp) fun w2 hb2 hf2 hs2 => ?_
        have hf02 : Fr (fun _ => False) u w2 := hf1.trans hf2 (fun _ _ h => h) (fun b hb e => by omega)
        simp only [Nat.add_zero, hb2.cell]
        refine ⟨qs[n.toNat].a, qs[n.toNat].l, qs[n.toNat].c, rfl, fun m u1 => 0 ≤ m ∧ m ≤ qs[n.toNat].l ∧ J ((S.conds.take n.toNat).flatten ++ S.conds[n.toNat].take m.toNat) u1, fun m u1 => qs[n.toNat].l - m.toNat, ⟨by omega, by omega, by simpa using hfr _ _ _ hJ hf02⟩, ?_⟩
        intro m u1 ⟨hm0, hm1, hJ1⟩
        have hxn := hxl _ (List.getElem_mem hlt)
        by_cases hm : m < qs[n.toNat].l
        · rw [if_pos (by simpa using hm)]
          have hmt : m.toNat < S.conds[n.toNat].length := by omega
          have hq1 := (hsync _ _ hJ1).q n.toNat _ _ (List.getElem?_eq_getElem hlq) (List.getElem?_eq_getElem hlt)
          obtain ⟨p4, hp4, -, hx⟩ := hq1.rd.isSome (ints_get_iff hmt)
          rw [hp4, xptr_some]
          refine ⟨hm0, hm, _, by simpa using hx, ?_⟩
          have hsplit : S.conds.flatten = ((S.conds.take n.toNat).flatten ++ S.conds[n.toNat].take m.toNat) ++ S.conds[n.toNat][m.toNat] :: (S.conds[n.toNat].drop (m.toNat + 1) ++ (S.conds.drop (n.toNat + 1)).flatten) := by
            rw [flat_at (List.getElem?_eq_getElem hlt)]
            conv => lhs; rw [← List.take_append_drop m.toNat S.conds[n.toNat], List.drop_eq_getElem_cons hmt]
            simp only [List.append_assoc, List.cons_append]
          have htk : ((S.conds.take n.toNat).flatten ++ S.conds[n.toNat].take m.toNat) ++ [S.conds[n.toNat][m.toNat]] = (S.conds.take n.toNat).flatten ++ S.conds[n.toNat].take (m + 1).toNat := by
            rw [show (m + 1).toNat = m.toNat + 1 from by omega, List.take_add_one, List.getElem?_eq_getElem hmt, List.append_assoc]; rfl
          refine hy _ _ _ hsplit u1 hJ1 _ (fun u2 hJ2 => ⟨true, rfl, ?_⟩) (fun u2 hR2 => ⟨false, rfl, ?_⟩)
          · rw [if_neg (by decide)]
            rw [htk] at hJ2
            have hw : IntKind.wrap .i64 (m + 1) = m + 1 := wi (by omega) (by omega)
            rw [hw]
            exact ⟨⟨by omega, by omega, hJ2⟩, by show qs[n.toNat].l - (m + 1).toNat < qs[n.toNat].l - m.toNat; omega⟩
          · rw [if_pos (by decide)]
            exact h2 u2 hR2
        · rw [if_neg (by simpa using hm)]
          have hw : IntKind.wrap .i64 (n + 1) = n + 1 := wi (by omega) (by omega)
          rw [hw]
          have htk : (S.conds.take n.toNat).flatten ++ S.conds[n.toNat].take m.toNat = (S.conds.take (n + 1).toNat).flatten := by
            rw [show (n + 1).toNat = n.toNat + 1 from by omega, List.take_add_one, List.getElem?_eq_getElem hlt, List.take_of_length_le (l := S.conds[n.toNat]) (by omega), List.flatten_append]; simp
          rw [htk] at hJ1
          exact ⟨⟨by omega, by omega, hJ1⟩, by show cd.l - (n + 1).toNat < cd.l - n.toNat; omega⟩
  · rw [if_neg (by simpa using hn)]
    rw [List.take_of_length_le (by omega)] at hJ
    exact h1 u hJ

theorem SyncR.shut {w w' : World} {n : Nat} (hs0 : ShutD n w w') {ow cd ch : Sl} {qs hs : List Sl} (h : SyncR w pb S g ow cd ch qs hs) : SyncR w' pb S g ow cd ch qs hs where
  blk := h.blk.shut hs0
  tag := h.tag
  own := Own.shut hs0 h.own
  cds := Own.shut hs0 h.cds
  chs := Own.shut hs0 h.chs
  nq := h.nq
  nh := h.nh
  q := fun i s xs hs hx => Own.shut hs0 (h.q i s xs hs hx)
  h := fun i s c hs hx => Own.shut hs0 (h.h i s c hs hx)
  sup := fun b hb => h.sup b (by have := hs0.size; omega)
theorem SyncAt.shut {w w' : World} {n : Nat} (hs0 : ShutD n w w') (h : SyncAt w pb S g) : SyncAt w' pb S g := by
  obtain ⟨ow, cd, ch, qs, hs, h⟩ := h
  exact ⟨ow, cd, ch, qs, hs, h.shut hs0⟩

theorem C16 (hs : SyncAt w pb S g) {n : Nat} (hf' : S.fine n) (hn : n ≤ 1000000) (hcl : S.conds.length ≤ 1000) {m t : Int} (h : ∀ g' w', SyncAt w' pb (S.wait m t).1 g' → Ext g w g' w' → K (.int .i64 (S.wait m t).2) w') :
    XCP Try.prog 16 [.pointer (some ⟨pb, 0, none⟩), .int .i64 m, .int .i64 t] w K KP := by
  have hsup : ∀ b, w.heap.size ≤ b → g b = 0 := by obtain ⟨_, _, _, _, _, h⟩ := hs; exact h.sup
  apply E16; unfold F16
  intro KP0 KP' w0 p w1 p1
  have hb0 : Blk w0 w.heap.size [.int .i64 t] 3 := Blk.new w _ _
  have hf0 : Fr (fun _ => False) w w0 := Fr.alloc _ _ _
  have hs0 : w0.heap.size = w.heap.size + 1 := by simp [w0]
  clear_value w0
  have hb1 : Blk w1 w0.heap.size [.int .i64 0] 25 := Blk.new w0 _ _
  have hf1 : Fr (fun _ => False) w0 w1 := Fr.alloc _ _ _
  have hs1 : w1.heap.size = w0.heap.size + 1 := by simp [w1]
  clear_value w1
  have hbt : Blk w1 w.heap.size [.int .i64 t] 3 := hf1.blk hb0 (fun h => h)
  have hf : Fr (fun _ => False) w w1 := hf0.trans hf1 (fun _ _ h => h) (fun _ _ h => h)
  have hsy : SyncAt w1 pb S g := hs.frame hf (fun _ h => h.elim)
  clear hf0 hf1 hb0
  -- the ends
  have fin2 : ∀ (u : World) (g' : Nat → Nat), SyncAt u pb (S.wait m t).1 g' → Ext g w g' u → Blk u w0.heap.size [.int .i64 (S.wait m t).2] 25 →
      ∀ u', ShutD w.heap.size u u' → ∃ n : Int, u'.cell? p1 = some (.int .i64 n) ∧ K (.int .i64 n) u' := by
    intro u g' hS he hb u' hsh
    refine ⟨(S.wait m t).2, by rw [(hb.shut hsh).cell]; rfl, h g' u' (hS.shut hsh) ⟨he.old, he.fr.trans hsh.fr' (fun _ _ h => h) (fun b hb hb' => by omega)⟩⟩
  have fin : ∀ (u : World) (g' : Nat → Nat) (v : Value), SyncAt u pb (S.wait m t).1 g' → Ext g w g' u → g' w0.heap.size = 0 → Blk u w0.heap.size [v] 25 → ∀ x, x = (S.wait m t).2 →
      storeP u p1 (.int .i64 x) fun w4 => ∀ u', ShutD w.heap.size w4 u' → ∃ n : Int, u'.cell? p1 = some (.int .i64 n) ∧ K (.int .i64 n) u' := by
    intro u g' v hS he hg hb x hx
    subst hx
    refine storeP_blk hb (by simp) fun w4 hb4 hf4 hs4 => ?_
    exact fin2 w4 g' (hS.frame hf4 (fun b e => by subst e; exact hg)) ⟨he.old, he.fr.trans hf4 (fun _ _ h => h) (fun b hb e => by omega)⟩ hb4
  have hext : Ext g w g w1 := ⟨fun _ _ => rfl, hf.mono (fun _ _ h => h.elim)⟩
  have hg1 : g w0.heap.size = 0 := hsup _ (by omega)
  obtain ⟨ow, cd, ch, qs, hs', hR⟩ := hsy
  have hsy : SyncAt w1 pb S g := ⟨ow, cd, ch, qs, hs', hR⟩
  have hl : cd.l = S.conds.length := by have := hR.cds.1; have := hR.nq; simp at *; omega
  have hwait : S.wait m t = S.wait m t := rfl
  refine C40 hR.blk (Own.ne hR.cds) (fun hn => ⟨_, _, rfl, ?_⟩) (fun h0 h1 pa hpa => ⟨_, _, rfl, ?_⟩)
  · have hw : S.wait m t = (S, 4) := by unfold SS.wait; rw [if_pos (by omega)]
    intro kb hk
    rw [if_neg (by decide)]
    refine hk _ _ ?_
    rw [if_pos (by decide)]
    exact fin w1 g _ (by rw [hw]; exact hsy) hext hg1 hb1 _ (by rw [hw])
  · intro kb hk
    rw [if_pos (by decide)]
    refine ⟨t, by rw [hbt.cell]; rfl, C39 ⟨_, rfl, ?_⟩⟩
    change kb (thr t) w1
    refine hk _ _ ?_
    by_cases ht : thr t = 0
    · rw [if_neg (by simp [ht])]
      apply E42; unfold F42
      have hb6 : Blk (w1.alloc (.cells #[.pointer (some ⟨pb, 0, none⟩)] 24)) w1.heap.size [.pointer (some ⟨pb, 0, none⟩)] 24 := Blk.new w1 _ _
      have hf6 : Fr (fun _ => False) w1 (w1.alloc (.cells #[.pointer (some ⟨pb, 0, none⟩)] 24)) := Fr.alloc _ _ _
      have hs6 : (w1.alloc (.cells #[.pointer (some ⟨pb, 0, none⟩)] 24)).heap.size = w1.heap.size + 1 := by simp
      intro w6 p6
      refine ⟨_, rfl, ?_⟩
      change Blk w6 _ _ _ at hb6
      change Fr _ _ w6 at hf6
      change w6.heap.size = _ at hs6
      clear_value w6
      intro l r hlr hst hpn rule
      show XCP Try.prog 72 [.func (.yield l) #[] #[], .pointer (some ⟨w1.heap.size, 0, none⟩)] ((w6.alloc (.deferred (some []))).alloc (.loop r)) _ _
      have hf7 : Fr (fun _ => False) w6 ((w6.alloc (.deferred (some []))).alloc (.loop r)) := (Fr.alloc _ _ _).trans (Fr.alloc _ _ _) (fun _ _ h => h) (fun _ _ h => h)
      have hlp : LoopIs ((w6.alloc (.deferred (some []))).alloc (.loop r)) l r := by
        have := LoopIs.new (w6.alloc (.deferred (some []))) r
        rw [hlr]; simpa using this
      generalize (w6.alloc (.deferred (some []))).alloc (.loop r) = w7 at hf7 hlp ⊢
      have hf17 : Fr (fun _ => False) w1 w7 := hf6.trans hf7 (fun _ _ h => h) (fun _ _ h => h)
      have hlw : w.heap.size ≤ l := by omega
      have hgl : g l = 0 := hsup l hlw
      have hm : m.toNat < S.conds.length := by omega
      have hwait : S.wait m t = if t ∈ S.conds.flatten then (S, 141) else ({ S with conds := S.conds.set m.toNat ((S.conds[m.toNat]?).getD [] ++ [t]) }, 0) := by
        unfold SS.wait; rw [if_neg (by omega), if_neg (by simp [ht])]
      refine XC.mono (K := fun _ u => (t ∉ S.conds.flatten ∧ SyncR u pb S g ow cd ch qs hs' ∧ Blk u w.heap.size [.int .i64 t] 3 ∧ Blk u w0.heap.size [.int .i64 0] 25 ∧ LoopIs u l r ∧ Fr (fun _ => False) w u) ∨
          (t ∈ S.conds.flatten ∧ SyncR u pb S g ow cd ch qs hs' ∧ Blk u w0.heap.size [.int .i64 141] 25 ∧ LoopIs u l { r with state := .done, pending := some .ret } ∧ Fr (fun _ => False) w u))
        (C72 (J := fun d u => SyncR u pb S g ow cd ch qs hs' ∧ Blk u w1.heap.size [.pointer (some ⟨pb, 0, none⟩)] 24 ∧ Blk u w.heap.size [.int .i64 t] 3 ∧ Blk u w0.heap.size [.int .i64 0] 25 ∧ LoopIs u l r ∧ t ∉ d ∧ Fr (fun _ => False) w u)
          (R := fun u => t ∈ S.conds.flatten ∧ SyncR u pb S g ow cd ch qs hs' ∧ Blk u w0.heap.size [.int .i64 141] 25 ∧ LoopIs u l { r with state := .done, pending := some .ret } ∧ Fr (fun _ => False) w u)
          (by omega) (fun xs hx => by have := hf'.conds xs hx; omega) (fun d u hJ => hJ.1) (fun d u hJ => by rw [hJ.2.1.cell]; rfl) ?hfr ?hy ?h0 ?h1 ?h2) ?post
      case hfr =>
        intro d u u' ⟨j1, j2, j3, j4, j5, j6, j7⟩ hu
        exact ⟨j1.frame hu (fun _ h => h.elim), hu.blk j2 (fun h => h), hu.blk j3 (fun h => h), hu.blk j4 (fun h => h), hu.loop j5 (fun h => h), j6, j7.trans hu (fun _ _ h => h) (fun _ _ h => h)⟩
      case h0 => exact ⟨hR.frame hf17 (fun _ h => h.elim), hf7.blk hb6 (fun h => h), hf17.blk hbt (fun h => h), hf17.blk hb1 (fun h => h), hlp, by simp, hf.trans hf17 (fun _ _ h => h) (fun _ _ h => h)⟩
      case h1 =>
        intro u ⟨j1, j2, j3, j4, j5, j6, j7⟩
        exact .inl ⟨j6, j1, j3, j4, j5, j7⟩
      case h2 => intro u hu; exact .inr hu
      case hy =>
        intro d t' rest hsplit u ⟨j1, j2, j3, j4, j5, j6, j7⟩ K1 hk1 hk2
        refine rule t' u K1 j5 ⟨j5, ?_⟩
        have hfb := Fr.setLoop u l { r with state := .busy }
        have hlb := j5.setLoop { r with state := .busy }
        generalize setLoop u l { r with state := .busy } = w8 at hfb hlb ⊢
        have e3 := hfb.blk j3 (j3.ne_loop j5)
        have e2 := hfb.blk j2 (j2.ne_loop j5)
        have e4 := hfb.blk j4 (j4.ne_loop j5)
        have e1 := j1.frame hfb (fun b e => by subst e; exact hgl)
        have e7 : Fr (fun _ => False) w w8 := j7.trans hfb (fun _ _ h => h) (fun b hb e => by omega)
        refine ⟨t, by rw [e3.cell]; rfl, ?_⟩
        by_cases htt : t' = t
        · subst htt
          rw [if_pos (by simp)]
          refine storeP_blk e4 (by simp) fun w9 hb9 hf9 hs9 => ?_
          have hlb9 := hf9.loop hlb (fun e => e4.ne_loop hlb e.symm)
          refine ⟨hlb9, hk2 _ ?_⟩
          have hfc := Fr.setLoop w9 l { r with state := .done, pending := some .ret }
          refine ⟨by rw [hsplit]; simp, (e1.frame hf9 (fun b e => by subst e; exact hg1)).frame hfc (fun b e => by subst e; exact hgl), hfc.blk hb9 (hb9.ne_loop hlb9), hlb9.setLoop _, ?_⟩
          exact (e7.trans hf9 (fun _ _ h => h) (fun b hb e => by omega)).trans hfc (fun _ _ h => h) (fun b hb e => by omega)
        · rw [if_neg (by simpa using htt)]
          refine ⟨hlb, hk1 _ ?_⟩
          have hfc := Fr.setLoop w8 l r
          exact ⟨e1.frame hfc (fun b e => by subst e; exact hgl), hfc.blk e2 (e2.ne_loop hlb), hfc.blk e3 (e3.ne_loop hlb), hfc.blk e4 (e4.ne_loop hlb), hlb.setLoop r,
            by simp [j6, Ne.symm htt], e7.trans hfc (fun _ _ h => h) (fun b hb e => by omega)⟩
      case post =>
        intro _ u hu
        rcases hu with ⟨hnot, j1, j3, j4, j5, j7⟩ | ⟨hin, j1, j4, j5, j7⟩
        · left
          rw [if_neg hnot] at hwait
          refine ⟨.ready, ?_, by decide, ?_⟩
          · have : ({ r with state := .ready, pending := none } : Loop) = r := by rw [← hst, ← hpn]
            rw [this]; exact j5
          · have hfc := Fr.setLoop u l { r with state := .exhausted, pending := none }
            generalize setLoop u l { r with state := .exhausted, pending := none } = w11 at hfc ⊢
            have e3 := hfc.blk j3 (j3.ne_loop j5)
            have e4 := hfc.blk j4 (j4.ne_loop j5)
            have e1 := j1.frame hfc (fun b e => by subst e; exact hgl)
            have e7 : Fr (fun _ => False) w w11 := j7.trans hfc (fun _ _ h => h) (fun b hb e => by omega)
            have d1 : SyncR w11.drew pb S g ow cd ch qs hs' := e1.frame (Fr.drew (fun _ => False) _) (fun _ h => h.elim)
            obtain ⟨b, o, B, hpe, hg, hb, hfit, hv⟩ := Own.at_ d1.cds hpa
            subst hpe
            have hlq : m.toNat < qs.length := by rw [hR.nq]; exact hm
            have hq := d1.q m.toNat _ _ (List.getElem?_eq_getElem hlq) (List.getElem?_eq_getElem hm)
            have hc := hv m.toNat qs[m.toNat].v (by simp [hlq])
            refine ⟨fun x => x.cell? p = some (.int .i64 t), by show w11.cell? p = _; rw [e3.cell]; rfl, ?_⟩
            rw [xptr_some]
            refine ⟨t, fun x hx => hx, ?_⟩
            simp only [add_lit, Nat.add_zero]
            have hgt : g w.heap.size = 0 := hsup _ (Nat.le_refl _)
            refine C43 hb hc hq (by show ¬ g b = _; omega) (by have := hf'.conds _ (List.getElem_mem hm); omega) fun s' w14 hb14 ho14 hf14 => ⟨rfl, ?_⟩
            · have hset := d1.setCond hm hpa hb hb14 ho14 hf14 hg
              rw [List.getElem?_eq_getElem hm] at hwait
              have hp1lt : w0.heap.size < w11.drew.heap.size := e4.lt
              refine fin w14 _ (.int .i64 0) (by rw [hwait]; exact hset.1) ?_ (by rw [retag_old hp1lt]; exact hg1) ?_ _ (by rw [hwait])
              · have e7' : Ext g w g w11.drew := ⟨fun _ _ => rfl, (e7.trans (Fr.drew (fun _ => False) _) (fun _ _ h => h) (fun _ _ h => h)).mono (fun _ _ h => h.elim)⟩
                exact e7'.trans hset.2
              · exact hf14.blk (e4 : Blk w11.drew _ _ _) (fun e => by rcases e with e | e <;> first | (rw [e] at hg1; omega) | (change g _ = _ at e; omega))
        · right; left
          rw [if_pos hin] at hwait
          refine ⟨.done, j5, by decide, ?_⟩
          have hfc := Fr.setLoop u l { r with state := .exhausted, pending := some .ret }
          generalize setLoop u l { r with state := .exhausted, pending := some .ret } = w11 at hfc ⊢
          refine fin2 w11 g (by rw [hwait]; exact ⟨ow, cd, ch, qs, hs', j1.frame hfc (fun b e => by subst e; exact hgl)⟩) ⟨fun _ _ => rfl, (j7.trans hfc (fun _ _ h => h) (fun b hb e => by omega)).mono (fun _ _ h => h.elim)⟩ ?_
          rw [hwait]
          exact hfc.blk j4 (j4.ne_loop j5)
    · have hw : S.wait m t = (S, thr t) := by unfold SS.wait; rw [if_neg (by omega), if_pos ht]
      rw [if_pos (by simpa using ht)]
      exact fin w1 g _ (by rw [hw]; exact hsy) hext hg1 hb1 _ (by rw [hw])
end
end Go.Proofs.Ythegnnifbgikmaa
