/- The verify seat: VerifyTwo, walked. -/
import Derived.Test.YtnhhgadihmlabaaV21
set_option linter.unusedVariables false
set_option linter.unusedSimpArgs false
set_option maxRecDepth 10000
set_option maxHeartbeats 1000000
namespace Go.Proofs.Ytnhhgadihmlabaa
open Go.X Go.Heap
section
variable {w u w' : World} {la lb : Nat} {sa sb : Sl} {x : List (Option Value)}
theorem two_box (hJ : TwoJ w la lb sa sb x u) (h6 : x[6]? = some none) (h7 : x[7]? = some none) :
    TwoJ w la lb sa sb (x.set 6 (some (.pointer (some ⟨u.heap.size, 0, none⟩)))) (u.alloc (.cells #[.slice none 0 0, .slice none 0 0, .slice none 0 0, .int .i64 0, .int .i64 0, .slice none 0 0] 26)) := by
  obtain ⟨hl, Γ, hA, hB, hC⟩ := hJ
  refine ⟨by simp [hl], Γ, fun k' e' xs' hk' v hv => ?_, fun v hv => ?_, ?_⟩
  · have hk : 6 ≠ k' := fun e => by subst e; cases hk'
    rw [List.getElem?_set, if_neg hk] at hv
    exact hA k' e' xs' hk' v hv
  · rw [List.getElem?_set, if_neg (by decide)] at hv
    obtain ⟨t, lna, lnb, j, h1, h2, h3, h4, h5⟩ := hB v hv
    exact ⟨t, lna, lnb, j, h1, h2, h3, by rw [List.getElem?_set, if_neg (by decide)]; exact h4, by rw [List.getElem?_set, if_neg (by decide)]; exact h5⟩
  · rcases hC with ⟨_, hs⟩ | ⟨b, h6', _⟩ | ⟨b, s0, s1, s2, t, z, h6', _⟩
    · refine .inr (.inl ⟨u.heap.size, ?_, ?_, hs.box _ _⟩)
      · rw [List.getElem?_set, if_pos rfl, if_pos (by omega)]
      · rw [List.getElem?_set, if_neg (by decide)]; exact h7
    · rw [h6] at h6'; cases h6'
    · rw [h6] at h6'; cases h6'
theorem two_st {o : Option Addr} {s0 s1 s2 t : Sl} (hJ : TwoJ w la lb sa sb x u) (h0 : x[0]? = some (some s0.v)) (h1 : x[1]? = some (some s1.v)) (h2 : x[2]? = some (some s2.v)) (h5 : x[5]? = some (some t.v)) (h6 : x[6]? = some (some (.pointer o))) (h7 : x[7]? = some none) :
    xptr o fun p => storesAt p 0 [s0.v, s1.v, s2.v, .int .i64 1, .int .i64 1, t.v] u fun w' => TwoJ w la lb sa sb (x.set 7 (some undef)) w' := by
  obtain ⟨hl, Γ, hA, hB, hC⟩ := hJ
  rcases hC with ⟨h6', _⟩ | ⟨b, h6', _, hs⟩ | ⟨b, s0, s1, s2, t, z, _, h7', _⟩
  · rw [h6] at h6'; cases h6'
  · rw [h6] at h6'
    simp only [Option.some.injEq, Value.pointer.injEq] at h6'
    subst h6'
    rw [xptr_some]
    have n7 : ∀ k : Nat, k < 7 → (x.set 7 (some undef))[k]? = x[k]? := fun k hk => by rw [List.getElem?_set, if_neg (by omega)]
    refine hs.fill (vs := [s0.v, s1.v, s2.v, .int .i64 1, .int .i64 1, t.v]) rfl fun w' _ hs => ⟨by simp [hl], Γ, fun k' e' xs' hk' v hv => ?_, fun v hv => ?_, .inr (.inr ⟨b, s0, s1, s2, t, undef, ?_, ?_, ?_, ?_, ?_, ?_, hs⟩)⟩
    · have hk : k' < 7 := by match k', hk' with | 0, _ => decide | 1, _ => decide | 2, _ => decide | 3, _ => decide | 4, _ => decide
      rw [n7 k' hk] at hv
      exact hA k' e' xs' hk' v hv
    · rw [n7 5 (by decide)] at hv
      obtain ⟨t, lna, lnb, j, q1, q2, q3, q4, q5⟩ := hB v hv
      exact ⟨t, lna, lnb, j, q1, q2, q3, by rw [n7 3 (by decide)]; exact q4, by rw [n7 4 (by decide)]; exact q5⟩
    · rw [n7 6 (by decide)]; exact h6
    · rw [List.getElem?_set, if_pos rfl, if_pos (by omega)]
    · rw [n7 0 (by decide)]; exact h0
    · rw [n7 1 (by decide)]; exact h1
    · rw [n7 2 (by decide)]; exact h2
    · rw [n7 5 (by decide)]; exact h5
  · rw [h7] at h7'; cases h7'
theorem slv {s s' : Sl} (h : s.v = s'.v) : s = s' := by
  cases s; cases s'; simp only [Sl.v, Value.slice.injEq] at h; obtain ⟨rfl, rfl, rfl⟩ := h; rfl
theorem two_end {a b : List Ins} {o : Option Addr} {z : Value} (ha : SlR insR w T0 sa a) (hb : SlR insR w T0 sb b) (hJ : TwoJ w a.length b.length sa sb x u) (h6 : x[6]? = some (some (.pointer o))) (h7 : x[7]? = some (some z)) :
    ∃ (bb : Nat) (q : MdlH), o = some ⟨bb, 0, none⟩ ∧ Ex w u ∧ Blk u bb ((mod3 a b).cells q) 26 ∧ MdlP u T0 q (mod3 a b) := by
  obtain ⟨hl, Γ, hA, hB, hC⟩ := hJ
  rcases hC with ⟨h6', _⟩ | ⟨b, h6', h7', hs⟩ | ⟨bb, s0, s1, s2, t, z', h6', _, h0, h1, h2, h5, hs⟩
  · rw [h6] at h6'; cases h6'
  · rw [h7] at h7'; cases h7'
  · rw [h6] at h6'
    simp only [Option.some.injEq, Value.pointer.injEq] at h6'
    have he : Ex w u := hs.ex 2 rfl
    obtain ⟨t', lna, lnb, j, e5, htl, hj, h3, h4⟩ := hB _ h5
    obtain rfl := slv e5
    have get : ∀ k e xs, twoR a.length b.length k = some (e, xs) → ∀ s : Sl, x[k]? = some (some s.v) → SlR (.int .i64) u T0 s xs := by
      intro k e xs hk s hv
      obtain ⟨s', j', e', hj'⟩ := hA k e xs hk _ hv
      obtain rfl := slv e'
      obtain ⟨G, hG⟩ := hs.persAt' 1 rfl j' hj'
      have hG : Own u 1 e s.a s.l s.c (ints xs) G := hG
      exact SlR.of_ints (t := e) (Own.mono hG fun _ _ _ => trivial)
    obtain ⟨Gt, hGt⟩ := hs.persAt' 1 rfl j hj
    have hGt : Own u 4 39 t.a t.l t.c (thrCells sa sb lna lnb) Gt := hGt
    have r3 := get 3 3 _ rfl lna h3
    have r4 := get 4 3 _ rfl lnb h4
    refine ⟨bb, ⟨s0, s1, s2, t⟩, h6', he, hs.bx0, get 0 2 _ rfl s0 h0, get 1 3 _ rfl s1 h1, get 2 3 _ rfl s2 h2, htl, hGt.2.1, [[.string nA, .int .i64 1, sa.v, lna.v], [.string nB, .int .i64 0, sb.v, lnb.v]], rfl, hGt.rd.mono (fun _ _ _ => trivial), fun i row y hr hy => ?_⟩
    match i, hr, hy with
    | 0, hr, hy =>
      simp at hr
      have hy : (⟨nA, 1, a, List.replicate a.length 0⟩ : Cod) = y := by simpa [mod3] using hy
      subst hr; subst hy
      exact ⟨⟨sa, lna⟩, rfl, ha.old he, r3⟩
    | 1, hr, hy =>
      simp at hr
      have hy : (⟨nB, 0, b, List.replicate b.length 0⟩ : Cod) = y := by simpa [mod3] using hy
      subst hr; subst hy
      exact ⟨⟨sb, lnb⟩, rfl, hb.old he, r4⟩
    | i + 2, hr, hy => simp at hr
end
theorem small3 {a b : List Ins} (h : a.length ≤ 1000) (h' : b.length ≤ 1000) : Small (mod3 a b) := by
  intro c hc
  have : c = ⟨nA, 1, a, List.replicate a.length 0⟩ ∨ c = ⟨nB, 0, b, List.replicate b.length 0⟩ := by simpa [mod3] using hc
  rcases this with rfl | rfl
  · exact h
  · exact h'
theorem checkF_two {m : Mdl} {c d : Cod} (hok : mdlOk m = true) (h : m.threads = [c, d]) : checkF m = if (threadF m c).2 ≠ 0 then (threadF m c).2 else (threadF m d).2 := by
  unfold checkF
  rw [if_pos hok, h]
  simp only [List.map_cons, List.map_nil, firstErr]
  split
  · rfl
  · split
    · rfl
    · rename_i e; simpa using (by simpa using e : (threadF m d).2 = 0).symm
theorem depthsF_k {m : Mdl} {t : Int} {c : Cod} (hok : mdlOk m = true) (h0 : 0 ≤ t) (h : m.threads[t.toNat]? = some c) : depthsF m t = threadF m c := by
  have hlt : t.toNat < m.threads.length := (List.getElem?_eq_some_iff.1 h).1
  rw [depthsF_at hok h0 hlt]
  have := (List.getElem?_eq_some_iff.1 h).2
  rw [this]
section
variable {w : World} {K : Value → World → Prop} {KP : List PanicEntry → World → Prop}
theorem L6 {sa sb : Sl} {a b : List Ins} (ha : SlR insR w T0 sa a) (hb : SlR insR w T0 sb b) (hK : ∀ u, Ex w u → K (.bool true) u) : XCP Try.prog 6 [sa.v, sb.v] w K KP := by
  show XCP Try.prog 6 [.slice sa.a sa.l sa.c, .slice sb.a sb.l sb.c] w K KP
  refine E6 ?_
  unfold F6
  have hla := ha.len
  have hlb := hb.len
  by_cases hlen : a.length > 100 ∨ b.length > 100
  · rw [if_pos (by simp; omega)]
    exact C10 fun u hu => ⟨_, rfl, hK u hu⟩
  rw [if_neg (by simp; omega)]
  refine ⟨fun _ => True, trivial, TwoJ w a.length b.length sa sb, fun _ _ _ => trivial, ⟨rfl, [], fun k e xs hk v hv => ?_, (fun v hv => by cases hv), .inl ⟨rfl, ?_⟩⟩, ?_, ?_, ?_, ?_, ?_, ?_, ?_, ?_, ?_, ?_, ?_, ?_⟩
  · have : (List.replicate 8 (none : Option Value))[k]? = some (some v) := hv
    rw [List.getElem?_replicate] at this; split at this <;> cases this
  · exact Sep.add (A := pers []) (Sep.begin w) (Ex.drew w) (fun i A h => by simp at h)
  · intros; rename_i hJ; exact two_b (k := 0) T22 hJ rfl rfl (by omega)
  · intros; rename_i hJ; exact two_b (k := 1) T23 hJ rfl rfl (by omega)
  · intros; rename_i hJ; exact two_b (k := 2) T23 hJ rfl rfl (by omega)
  · intros; rename_i hJ; rw [hla]; exact two_m (k := 3) hJ (by omega) rfl rfl (fun _ => rfl)
  · intros; trivial
  · intros; rename_i hJ; rw [hlb]; exact two_m (k := 4) hJ (by omega) rfl rfl (fun _ => rfl)
  · intros; trivial
  · intro _ _ _ a3 l3 c3 a4 l4 c4 _ _ hJ; exact two_t (lna := ⟨a3, l3, c3⟩) (lnb := ⟨a4, l4, c4⟩) hJ rfl rfl rfl rfl
  · intros; trivial
  · intro _ _ _ _ _ _ _ hJ; exact two_box hJ rfl rfl
  · intro a0 l0 c0 a1 l1 c1 a2 l2 c2 a3 l3 c3 a4 l4 c4 a5 l5 c5 o v hJ; exact two_st (s0 := ⟨a0, l0, c0⟩) (s1 := ⟨a1, l1, c1⟩) (s2 := ⟨a2, l2, c2⟩) (t := ⟨a5, l5, c5⟩) hJ rfl rfl rfl rfl rfl rfl
  intro a0 l0 c0 a1 l1 c1 a2 l2 c2 a3 l3 c3 a4 l4 c4 a5 l5 c5 o v u hJ
  obtain ⟨bb, q, rfl, he, hbk, hq⟩ := two_end ha hb hJ rfl rfl
  clear hJ
  have hsm : mdlOk (mod3 a b) = true → Small (mod3 a b) := fun _ => small3 (by omega) (by omega)
  generalize hm : mod3 a b = m at hbk hq hsm
  have hth : m.threads = [⟨nA, 1, a, List.replicate a.length 0⟩, ⟨nB, 0, b, List.replicate b.length 0⟩] := by rw [← hm]; rfl
  simp only [xptr_some]
  refine ⟨_, _, _, _, _, _, _, _, _, _, _, _, _, _, hbk.lds, C12 hq hsm fun u1 e1 => ⟨_, rfl, ?_⟩⟩
  refine ⟨_, _, _, _, _, _, _, _, _, _, _, _, _, _, (e1.blk hbk).lds, C14 (hq.ex e1) hsm (t := 0) fun s2 u2 n2 => ⟨_, _, _, _, rfl, ?_⟩⟩
  have e2 : Ex u u2 := e1.trans n2.1
  refine ⟨_, _, _, _, _, _, _, _, _, _, _, _, _, _, (e2.blk hbk).lds, C14 (hq.ex e2) hsm (t := 1) fun s3 u3 n3 => ⟨_, _, _, _, rfl, ?_⟩⟩
  have e3 : Ex u u3 := e2.trans n3.1
  refine ⟨_, _, _, _, _, _, _, _, _, _, _, _, _, _, (e3.blk hbk).lds, C15 (hq.ex e3) fun u4 e4 => ⟨_, rfl, ?_⟩⟩
  replace e4 := e3.trans e4
  clear n2 n3
  by_cases hok : mdlOk m = true
  rotate_left
  · rw [if_pos (by rw [if_neg hok]; rfl)]
    have hR0 : depthsF m 0 = ([], 2) := depthsF_no (by simp [hok])
    have hR1 : depthsF m 1 = ([], 2) := depthsF_no (by simp [hok])
    have hC : checkF m = 2 := by unfold checkF; rw [if_neg hok]
    rw [hR0, hR1, hC]
    refine C11 ⟨_, rfl, ?_⟩
    refine and_true rfl (fun kb hk => C11 ⟨_, rfl, hk _ (Ex.refl _)⟩) fun u5 e5 => ?_
    refine and_true rfl (fun kb hk => C11 ⟨_, rfl, hk _ (Ex.refl _)⟩) fun u6 e6 => ?_
    refine and_true rfl (fun kb hk => C10 fun u7 e7 => ⟨_, rfl, hk _ e7⟩) fun u7 e7 => ?_
    exact hK u7 (he.trans (e4.trans (Ex.trans e5 (Ex.trans e6 e7))))
  rw [if_neg (by rw [if_pos hok]; decide)]
  have hR0 := depthsF_k (t := 0) hok (by decide) (by rw [hth]; rfl)
  have hR1 := depthsF_k (t := 1) hok (by decide) (by rw [hth]; rfl)
  have hC := checkF_two hok hth
  rw [hR0, hR1]
  refine C11 ⟨_, rfl, ?_⟩
  have ed := e4.trans (Ex.drew u4)
  by_cases hz : (threadF m ⟨nA, 1, a, List.replicate a.length 0⟩).2 = 0
  · rw [if_neg (by simp [hz])]
    rw [if_neg (by simp [hz])] at hC
    intro kb hkb
    refine ⟨fun y => Ex u y, ed, ?_⟩
    rw [if_pos (by rw [hC]; simp)]
    refine ⟨_, _, _, _, _, _, _, _, _, _, _, _, _, _, fun y hy => (Ex.blk hy hbk).lds, C11 ⟨_, rfl, ed, C13 (hq.ex ed) hsm fun u5 e5 => ⟨_, rfl, ed.trans e5, ?_⟩⟩⟩
    rw [if_pos (by simp)]
    exact C10 fun u6 e6 => ⟨_, rfl, fun _ => True, trivial, hkb _ _ (hK u6 (he.trans (ed.trans (Ex.trans e5 e6))))⟩
  · rw [if_pos (by simpa using hz)]
    rw [if_pos hz] at hC
    intro kb hkb
    refine ⟨fun y => Ex u y, ed, ?_⟩
    rw [if_pos (by rw [hC]; simp)]
    refine ⟨_, _, _, _, _, _, _, _, _, _, _, _, _, _, fun y hy => (Ex.blk hy hbk).lds, C11 ⟨_, rfl, ed, C13 (hq.ex ed) hsm fun u5 e5 => ⟨_, rfl, ed.trans e5, ?_⟩⟩⟩
    rw [if_pos (by simp)]
    exact C10 fun u6 e6 => ⟨_, rfl, fun _ => True, trivial, hkb _ _ (hK u6 (he.trans (ed.trans (Ex.trans e5 e6))))⟩
end
end Go.Proofs.Ytnhhgadihmlabaa
