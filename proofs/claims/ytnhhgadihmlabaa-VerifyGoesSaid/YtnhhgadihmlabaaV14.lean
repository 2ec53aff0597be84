/- The verify seat: Check, Depths; what the laws lean on. -/
import Derived.Test.YtnhhgadihmlabaaV13
set_option linter.unusedVariables false
set_option linter.unusedSimpArgs false
set_option maxRecDepth 10000
set_option maxHeartbeats 1000000
namespace Go.Proofs.Ytnhhgadihmlabaa
open Go.X Go.Heap
def firstErr : List Int → Int
  | [] => 0
  | e :: l => if e ≠ 0 then e else firstErr l
def checkF (m : Mdl) : Int := if mdlOk m = true then firstErr (m.threads.map fun c => (threadF m c).2) else 2
def noCod : Cod := ⟨⟨#[]⟩, 0, [], []⟩
def depthsF (m : Mdl) (t : Int) : List Int × Int := if (mdlOk m && decide (0 ≤ t) && decide (t < m.threads.length)) = true then threadF m (m.threads.getD t.toNat noCod) else ([], 2)
theorem firstErr_0 (l : List Int) : firstErr (0 :: l) = firstErr l := by simp [firstErr]
theorem firstErr_zero : ∀ {l : List Int}, (∀ i, i < l.length → ∀ x, l[i]? = some x → x = 0) → firstErr l = 0
  | [], _ => rfl
  | e :: l, h => by
    have h0 := h 0 (by simp) e rfl
    subst h0
    rw [firstErr_0]
    exact firstErr_zero fun i hi x hx => h (i + 1) (by simpa using hi) x (by simpa using hx)
theorem firstErr_at : ∀ {l : List Int} {i : Nat} {e : Int}, (∀ j, j < i → ∀ x, l[j]? = some x → x = 0) → l[i]? = some e → e ≠ 0 → firstErr l = e
  | [], i, e, _, h, _ => by simp at h
  | x :: l, 0, e, _, h, he => by simp at h; subst h; simp [firstErr, he]
  | x :: l, i + 1, e, hp, h, he => by
    have h0 := hp 0 (by omega) x rfl
    subst h0
    rw [firstErr_0]
    exact firstErr_at (i := i) (fun j hj y hy => hp (j + 1) (by omega) y (by simpa using hy)) (by simpa using h) he
theorem mdl_ins {m : Mdl} (h : mdlOk m = true) {c : Cod} (hc : c ∈ m.threads) : ∀ x ∈ c.ins, insOk x = true := by
  have := List.all_eq_true.1 ((mdlOk_iff m).1 h).2.2.2.2 c hc
  exact List.all_eq_true.1 ((codOk_iff c).1 this).2.1
theorem mdl_len {m : Mdl} (h : mdlOk m = true) : m.threads.length ≤ 64 := by
  have := ((mdlOk_iff m).1 h).1
  unfold mdlBad at this
  simp only [Bool.or_eq_false_iff, decide_eq_false_iff_not] at this
  omega
section
variable {w : World} {K : Value → World → Prop} {KP : List PanicEntry → World → Prop}
/-- a module small enough -/
def Small (m : Mdl) : Prop := ∀ c ∈ m.threads, c.ins.length ≤ 1000
theorem C12 {m : Mdl} {q : MdlH} {G : Nat → Prop} (hq : MdlP w G q m) (hsm : mdlOk m = true → Small m) (h : ∀ u, Ex w u → K (.int .i64 (checkF m)) u) : XCP Try.prog 12 [m.v q] w K KP := by
  show XCP Try.prog 12 [.agg #[.slice q.sv.a q.sv.l q.sv.c, .slice q.sa.a q.sa.l q.sa.c, .slice q.sc.a q.sc.l q.sc.c, .int .i64 m.mutexes, .int .i64 m.conds, .slice q.st.a q.st.l q.st.c]] w K KP
  refine E12 ?_
  unfold F12
  intro w0 p
  have hb : Blk w0 w.heap.size (m.cells q) 26 := Blk.new w _ _
  have he : Ex w w0 := Ex.alloc w _
  clear_value w0
  refine ⟨_, _, _, _, _, _, _, _, _, _, _, _, _, _, hb.lds, C22 (hq.ex he) fun u1 e1 => ⟨_, rfl, ?_⟩⟩
  have l4 := hq.t.len
  unfold checkF at h
  by_cases hok : mdlOk m = true
  rotate_left
  · rw [if_neg hok] at h ⊢
    rw [if_pos (by decide)]
    exact h u1 (he.trans e1)
  rw [if_pos hok] at h ⊢
  rw [if_neg (by decide)]
  have hml := mdl_len hok
  refine ⟨_, _, _, (e1.blk hb).ld rfl, ?_⟩
  refine each m.threads.length (fun i => ∀ x, m.threads[i]? = some x → (threadF m x).2 = 0) (fun I μ n u hu h0 hlt hpre next => ?_) fun I μ u hu hall => ?_
  · rw [if_pos (by simp; omega)]
    have hu := e1.trans hu
    obtain ⟨p2, row, hp2, ⟨qc, hr, hqc⟩, hc2⟩ := hq.t.nth (List.getElem?_eq_getElem hlt) (by decide)
    subst hr
    rw [hp2, xptr_some]
    refine ⟨h0, by omega, _, _, _, _, _, _, _, _, (he.trans hu).cells hc2, ?_⟩
    intro w3 p3
    have hs : Sep w3 (bx u.heap.size _ 39 :: [oldA u]) := (Sep.begin u).box _ _
    clear_value w3
    refine hs.fill (vs := (m.threads[n.toNat]).cells qc) rfl fun w4 _ hs => ?_
    have e4 := hs.ex 1 rfl
    have hmem := List.getElem_mem hlt
    refine ⟨_, _, _, _, _, _, _, _, _, _, _, _, _, _, ((hu.trans e4).blk hb).lds, _, _, _, _, _, _, _, _, hs.bx0.lds, ?_⟩
    refine C23 (hq.ex (he.trans (hu.trans e4))) (hqc.ex (he.trans (hu.trans e4))) (hsm hok _ hmem) (mdl_ins hok hmem) fun s u5 hnew => ⟨_, _, _, _, rfl, ?_⟩
    by_cases hz : (threadF m m.threads[n.toNat]).2 = 0
    · rw [if_neg (by simp [hz]), wi (by omega) (by omega)]
      exact next (fun x hx => by rw [List.getElem?_eq_getElem hlt] at hx; injection hx with hx; rw [← hx]; exact hz) u5 (e4.trans hnew.1)
    · rw [if_pos (by simpa using hz)]
      have := h u5 (he.trans (hu.trans (e4.trans hnew.1)))
      rw [firstErr_at (i := n.toNat) (fun j hj x hx => ?_) (by rw [List.getElem?_map, List.getElem?_eq_getElem hlt]; rfl) hz] at this
      · exact this
      · rw [List.getElem?_map] at hx
        cases hj' : m.threads[j]? with
        | none => rw [hj'] at hx; cases hx
        | some y => rw [hj'] at hx; injection hx with hx; rw [← hx]; exact hpre j hj y hj'
  · rw [if_neg (by simp; omega)]
    have := h u (he.trans (e1.trans hu))
    rw [firstErr_zero (fun i hi x hx => ?_)] at this
    · exact this
    · rw [List.getElem?_map] at hx
      cases hj' : m.threads[i]? with
      | none => rw [hj'] at hx; cases hx
      | some y => rw [hj'] at hx; injection hx with hx; rw [← hx]; exact hall i (by simpa using hi) y hj'
theorem C13 {m : Mdl} {q : MdlH} {G : Nat → Prop} (hq : MdlP w G q m) (hsm : mdlOk m = true → Small m) (h : ∀ u, Ex w u → K (.int .i64 (checkF m)) u) : XCP Try.prog 13 [m.v q] w K KP := by
  show XCP Try.prog 13 [.agg #[.slice q.sv.a q.sv.l q.sv.c, .slice q.sa.a q.sa.l q.sa.c, .slice q.sc.a q.sc.l q.sc.c, .int .i64 m.mutexes, .int .i64 m.conds, .slice q.st.a q.st.l q.st.c]] w K KP
  refine E13 ?_
  unfold F13
  intro w0 p
  have hb : Blk w0 w.heap.size (m.cells q) 26 := Blk.new w _ _
  have he : Ex w w0 := Ex.alloc w _
  clear_value w0
  refine ⟨_, _, _, _, _, _, _, _, _, _, _, _, _, _, hb.lds, C15 (hq.ex he) fun u1 e1 => ⟨_, rfl, ?_⟩⟩
  have l4 := hq.t.len
  unfold checkF at h
  by_cases hok : mdlOk m = true
  rotate_left
  · rw [if_neg hok] at h ⊢
    rw [if_pos (by decide)]
    exact h u1 (he.trans e1)
  rw [if_pos hok] at h ⊢
  rw [if_neg (by decide)]
  have hml := mdl_len hok
  refine each m.threads.length (fun i => ∀ x, m.threads[i]? = some x → (threadF m x).2 = 0) (fun I μ n u hu h0 hlt hpre next => ?_) fun I μ u hu hall => ?_
  · have hu := e1.trans hu
    refine ⟨_, _, _, (hu.blk hb).ld rfl, ?_⟩
    rw [if_pos (by simp; omega)]
    obtain ⟨p2, row, hp2, ⟨qc, hr, hqc⟩, hc2⟩ := hq.t.nth (List.getElem?_eq_getElem hlt) (by decide)
    subst hr
    have hmem := List.getElem_mem hlt
    refine ⟨fun x => Ex u x, Ex.drew u, _, _, _, _, _, _, _, _, _, _, _, _, _, _, fun x hx => ((hu.trans hx).blk hb).lds, _, _, _, fun x hx => ((hu.trans hx).blk hb).ld rfl, ?_⟩
    rw [hp2, xptr_some]
    refine ⟨h0, by omega, _, _, _, _, _, _, _, _, fun x hx => (he.trans (hu.trans hx)).cells hc2, ?_⟩
    rw [← hp2]
    have e4 := Ex.drew u
    refine C16 (hq.ex (he.trans (hu.trans e4))) (hqc.ex (he.trans (hu.trans e4))) (hsm hok _ hmem) (mdl_ins hok hmem) fun s u5 hnew => ⟨_, _, _, _, rfl, fun _ => True, trivial, ?_⟩
    by_cases hz : (threadF m m.threads[n.toNat]).2 = 0
    · rw [if_neg (by simp [hz]), wi (by omega) (by omega)]
      exact next (fun x hx => by rw [List.getElem?_eq_getElem hlt] at hx; injection hx with hx; rw [← hx]; exact hz) u5 (e4.trans hnew.1)
    · rw [if_pos (by simpa using hz)]
      have := h u5 (he.trans (hu.trans (e4.trans hnew.1)))
      rw [firstErr_at (i := n.toNat) (fun j hj x hx => ?_) (by rw [List.getElem?_map, List.getElem?_eq_getElem hlt]; rfl) hz] at this
      · exact this
      · rw [List.getElem?_map] at hx
        cases hj' : m.threads[j]? with
        | none => rw [hj'] at hx; cases hx
        | some y => rw [hj'] at hx; injection hx with hx; rw [← hx]; exact hpre j hj y hj'
  · have hu := e1.trans hu
    refine ⟨_, _, _, (hu.blk hb).ld rfl, ?_⟩
    rw [if_neg (by simp; omega)]
    have := h u (he.trans hu)
    rw [firstErr_zero (fun i hi x hx => ?_)] at this
    · exact this
    · rw [List.getElem?_map] at hx
      cases hj' : m.threads[i]? with
      | none => rw [hj'] at hx; cases hx
      | some y => rw [hj'] at hx; injection hx with hx; rw [← hx]; exact hall i (by simpa using hi) y hj'
theorem C14 {m : Mdl} {q : MdlH} {G : Nat → Prop} (hq : MdlP w G q m) (hsm : mdlOk m = true → Small m) {t : Int} (h : ∀ s u, NewI w u s (depthsF m t).1 → K (.tuple #[s.v, .int .i64 (depthsF m t).2]) u) : XCP Try.prog 14 [m.v q, .int .i64 t] w K KP := by
  show XCP Try.prog 14 [.agg #[.slice q.sv.a q.sv.l q.sv.c, .slice q.sa.a q.sa.l q.sa.c, .slice q.sc.a q.sc.l q.sc.c, .int .i64 m.mutexes, .int .i64 m.conds, .slice q.st.a q.st.l q.st.c], .int .i64 t] w K KP
  refine E14 ?_
  unfold F14
  intro w0 p
  have hb : Blk w0 w.heap.size (m.cells q) 26 := Blk.new w _ _
  have he : Ex w w0 := Ex.alloc w _
  clear_value w0
  refine ⟨_, _, _, _, _, _, _, _, _, _, _, _, _, _, hb.lds, C22 (hq.ex he) fun u1 e1 => ⟨_, rfl, ?_⟩⟩
  have l4 := hq.t.len
  have hE : ∀ u, Ex w u → depthsF m t = ([], 2) → K (.tuple #[.slice none 0 0, .int .i64 2]) u := by
    intro u hu hR
    have := h ⟨none, 0, 0⟩ u ⟨hu, by rw [hR]; exact ⟨rfl, Nat.le_refl _, .inl ⟨rfl, rfl⟩⟩⟩
    rw [hR] at this; exact this
  intro kb hkb
  have go : ∀ b, b = !(mdlOk m && decide (0 ≤ t) && decide (t < m.threads.length)) → kb b u1 := by
    intro b hbe
    refine hkb _ _ ?_
    cases hx : (mdlOk m && decide (0 ≤ t) && decide (t < m.threads.length)) with
    | false =>
      rw [hx] at hbe; subst hbe
      rw [if_pos (by decide)]
      exact hE u1 (he.trans e1) (by unfold depthsF; rw [if_neg (by rw [hx]; decide)])
    | true =>
      rw [hx] at hbe; subst hbe
      rw [if_neg (by decide)]
      have hx' := hx
      simp only [Bool.and_eq_true, decide_eq_true_eq] at hx'
      obtain ⟨⟨hok, ht0⟩, htl⟩ := hx'
      have hlt : t.toNat < m.threads.length := by omega
      have hR : depthsF m t = threadF m m.threads[t.toNat] := by
        unfold depthsF; rw [if_pos hx, List.getD_eq_getElem?_getD, List.getElem?_eq_getElem hlt]; rfl
      obtain ⟨p2, row, hp2, ⟨qc, hr, hqc⟩, hc2⟩ := hq.t.nth (List.getElem?_eq_getElem hlt) (by decide)
      subst hr
      have hmem := List.getElem_mem hlt
      refine ⟨fun x => Ex u1 x, Ex.drew u1, _, _, _, _, _, _, _, _, _, _, _, _, _, _, fun x hx => ((e1.trans hx).blk hb).lds, _, _, _, fun x hx => ((e1.trans hx).blk hb).ld rfl, ?_⟩
      rw [hp2, xptr_some]
      refine ⟨ht0, by omega, _, _, _, _, _, _, _, _, fun x hx => (he.trans (e1.trans hx)).cells hc2, ?_⟩
      rw [← hp2]
      have e4 := e1.trans (Ex.drew u1)
      refine C23 (hq.ex (he.trans e4)) (hqc.ex (he.trans e4)) (hsm hok _ hmem) (mdl_ins hok hmem) fun s u5 hnew => ⟨_, _, _, _, rfl, fun _ => True, trivial, ?_⟩
      have := h s u5 ⟨he.trans (e4.trans hnew.1), ?_⟩
      · rw [hR] at this; exact this
      · rw [hR]; exact Own.mono hnew.2 fun b hb' h1 => Nat.le_trans (he.trans e4).size h1
  clear hkb
  cases hok : mdlOk m with
  | false =>
    rw [if_pos (by simp)]
    exact go _ (by rw [hok]; rfl)
  | true =>
    rw [hok] at go
    by_cases ht0 : t < 0
    · rw [if_pos (by simp [ht0])]
      exact go _ (by rw [show decide (0 ≤ t) = false from by simpa using ht0]; rfl)
    · rw [if_neg (by simp; omega)]
      refine ⟨_, _, _, (e1.blk hb).ld rfl, go _ ?_⟩
      rw [show decide (0 ≤ t) = true from by simp; omega, l4, Bool.true_and, Bool.true_and, Bool.eq_iff_iff]
      simp
/-- are two lists the same? -/
theorem C17 {s s' : Sl} {xs ys : List Int} {G G' : Nat → Prop} (h1 : SlR (.int .i64) w G s xs) (h2 : SlR (.int .i64) w G' s' ys) (hn : xs.length ≤ 1000000) (h : ∀ u, Ex w u → K (.bool (decide (xs = ys))) u) : XCP Try.prog 17 [s.v, s'.v] w K KP := by
  show XCP Try.prog 17 [.slice s.a s.l s.c, .slice s'.a s'.l s'.c] w K KP
  refine E17 ?_
  unfold F17
  have l1 := h1.len
  have l2 := h2.len
  have hno : ∀ u, Ex w u → xs ≠ ys → K (.bool false) u := fun u hu e => by have := h u hu; rwa [show decide (xs = ys) = false from by simpa using e] at this
  by_cases hl : xs.length = ys.length
  rotate_left
  · rw [if_pos (by simp; omega)]
    exact hno w (Ex.refl w) fun e => hl (by rw [e])
  rw [if_neg (by simp; omega)]
  refine each xs.length (fun i => ∀ x y, xs[i]? = some x → ys[i]? = some y → x = y) (fun I μ n u hu h0 hlt hpre next => ?_) fun I μ u hu hall => ?_
  · rw [if_pos (by simp; omega)]
    obtain ⟨p1, hp1, hc1⟩ := h1.int hlt
    obtain ⟨p2, hp2, hc2⟩ := h2.int (show n.toNat < ys.length by omega)
    refine ⟨fun x => Ex u x, Ex.drew u, ?_⟩
    rw [hp1, hp2]
    simp only [xptr_some]
    refine ⟨h0, by omega, _, fun x hx => by rw [Nat.mul_one]; exact (hu.trans hx).cell hc1, h0, by omega, _, fun x hx => by rw [Nat.mul_one]; exact (hu.trans hx).cell hc2, ?_⟩
    by_cases e : xs[n.toNat] = ys[n.toNat]'(by omega)
    · rw [if_neg (by simp [e]), wi (by omega) (by omega)]
      exact next (fun x y hx hy => by
        rw [List.getElem?_eq_getElem hlt] at hx; rw [List.getElem?_eq_getElem (show n.toNat < ys.length by omega)] at hy
        injection hx with hx; injection hy with hy; rw [← hx, ← hy]; exact e) _ (Ex.drew u)
    · rw [if_pos (by simpa using e)]
      exact hno _ (hu.trans (Ex.drew u)) fun e' => e (by subst e'; rfl)
  · rw [if_neg (by simp; omega)]
    have he : xs = ys := List.ext_getElem hl fun i h1 h2 => hall i h1 _ _ (List.getElem?_eq_getElem h1) (List.getElem?_eq_getElem h2)
    have := h u hu
    rwa [show decide (xs = ys) = true from by simpa using he] at this
/-- is a module no more than is worked out here? -/
theorem C9 {m : Mdl} {q : MdlH} {G : Nat → Prop} (hq : MdlP w G q m) (ht : m.threads.length ≤ 9223372036854775807)
    (h : ∀ u b, Ex w u → (b = true → mdlOk m = true → Small m) → K (.bool b) u) : XCP Try.prog 9 [m.v q] w K KP := by
  show XCP Try.prog 9 [.agg #[.slice q.sv.a q.sv.l q.sv.c, .slice q.sa.a q.sa.l q.sa.c, .slice q.sc.a q.sc.l q.sc.c, .int .i64 m.mutexes, .int .i64 m.conds, .slice q.st.a q.st.l q.st.c]] w K KP
  refine E9 ?_
  unfold F9
  intro w0 p
  have hb : Blk w0 w.heap.size (m.cells q) 26 := Blk.new w _ _
  have he : Ex w w0 := Ex.alloc w _
  clear_value w0
  have l1 := hq.v.len
  have l2 := hq.a.len
  have l3 := hq.c.len
  have l4 := hq.t.len
  refine ⟨_, _, _, hb.ld rfl, _, _, _, hb.ld rfl, _, _, _, hb.ld rfl, ?_⟩
  have hw : ∀ z : Int, -9223372036854775808 ≤ IntKind.wrap .i64 z ∧ IntKind.wrap .i64 z ≤ 9223372036854775807 := fun z => by rw [IntKind.wrap_i64]; omega
  have hst : mdlOk m = true → 0 ≤ IntKind.wrap .i64 (IntKind.wrap .i64 ((q.sv.l : Int) + (q.sa.l : Int)) + (q.sc.l : Int)) := by
    intro hok
    have hbad := ((mdlOk_iff m).1 hok).1
    unfold mdlBad at hbad
    simp only [Bool.or_eq_false_iff, decide_eq_false_iff_not] at hbad
    rw [show IntKind.wrap .i64 ((q.sv.l : Int) + (q.sa.l : Int)) = (q.sv.l : Int) + (q.sa.l : Int) from wi (by omega) (by omega), wi (by omega) (by omega)]
    omega
  have hn := hw (IntKind.wrap .i64 ((q.sv.l : Int) + (q.sa.l : Int)) + (q.sc.l : Int))
  generalize IntKind.wrap .i64 (IntKind.wrap .i64 ((q.sv.l : Int) + (q.sa.l : Int)) + (q.sc.l : Int)) = n0 at hst hn ⊢
  clear hw
  refine ⟨fun n i u => -9223372036854775808 ≤ n ∧ n ≤ 9223372036854775807 ∧ 0 ≤ i ∧ i ≤ m.threads.length ∧ Ex w0 u ∧ (mdlOk m = true → 0 ≤ n ∧ ∀ j, j < i.toNat → ∀ x, m.threads[j]? = some x → n ≤ 1000 → x.ins.length ≤ 1000), fun n i u => m.threads.length - i.toNat, ⟨hn.1, hn.2, by omega, by omega, Ex.refl _, fun hok => ⟨hst hok, fun j hj => by omega⟩⟩, ?_⟩
  rintro n i u ⟨hn0, hn1, hi0, hi1, hu, hpre⟩
  refine ⟨_, _, _, (hu.blk hb).ld rfl, ?_⟩
  by_cases hgo : i < m.threads.length ∧ n ≤ 1000
  · obtain ⟨hil, hnl⟩ := hgo
    rw [if_pos (by simp; omega)]
    have hlt : i.toNat < m.threads.length := by omega
    obtain ⟨p2, row, hp2, ⟨qc, hr, hqc⟩, hc2⟩ := hq.t.nth (List.getElem?_eq_getElem hlt) (by decide)
    subst hr
    have l5 := hqc.1.len
    have hcl : ∀ x, Ex u x → cellsAt x (p2.add (i.toNat * 4)) 0 ((m.threads[i.toNat]).cells qc) := fun x hx => (he.trans (hu.trans hx)).cells hc2
    refine ⟨fun x => Ex u x, Ex.drew u, _, _, _, fun x hx => ((hu.trans hx).blk hb).ld rfl, ?_⟩
    simp only [hp2, xptr_some]
    refine ⟨hi0, by omega, _, fun x hx => (hcl x hx).1, _, _, _, fun x hx => ((hu.trans hx).blk hb).ld rfl, ?_⟩
    simp only [hp2, xptr_some]
    refine ⟨hi0, by omega, _, _, _, fun x hx => (hcl x hx).2.2.1, _, _, _, fun x hx => ((hu.trans hx).blk hb).ld rfl, ?_⟩
    simp only [hp2, xptr_some]
    refine ⟨hi0, by omega, _, _, _, fun x hx => (hcl x hx).2.2.2.1, ?_⟩
    have hmin : ∀ z : Nat, 0 ≤ (if (1001 : Int) < (z : Int) then 1001 else (z : Int)) ∧ (if (1001 : Int) < (z : Int) then 1001 else (z : Int)) ≤ 1001 ∧ ((if (1001 : Int) < (z : Int) then 1001 else (z : Int)) ≤ 1000 → (z : Int) ≤ 1000) := by
      intro z; split <;> omega
    have m1 := hmin (ByteArray.size (m.threads[i.toNat]).name)
    have m2 := hmin qc.si.l
    have m3 := hmin qc.sl.l
    generalize (if (1001 : Int) < ((ByteArray.size (m.threads[i.toNat]).name : Nat) : Int) then (1001 : Int) else ((ByteArray.size (m.threads[i.toNat]).name : Nat) : Int)) = z1 at m1 ⊢
    generalize (if (1001 : Int) < (qc.si.l : Int) then (1001 : Int) else (qc.si.l : Int)) = z2 at m2 ⊢
    generalize (if (1001 : Int) < (qc.sl.l : Int) then (1001 : Int) else (qc.sl.l : Int)) = z3 at m3 ⊢
    rw [show IntKind.wrap .i64 (n + 10) = n + 10 from wi (by omega) (by omega), show IntKind.wrap .i64 (n + 10 + z1) = n + 10 + z1 from wi (by omega) (by omega), show IntKind.wrap .i64 (n + 10 + z1 + z2) = n + 10 + z1 + z2 from wi (by omega) (by omega), show IntKind.wrap .i64 (n + 10 + z1 + z2 + z3) = n + 10 + z1 + z2 + z3 from wi (by omega) (by omega), show IntKind.wrap .i64 (i + 1) = i + 1 from wi (by omega) (by omega)]
    refine ⟨⟨by omega, by omega, by omega, by omega, hu.trans (Ex.drew u), fun hok => ⟨by have := (hpre hok).1; omega, fun j hj x hx hle => ?_⟩⟩, by show m.threads.length - (i + 1).toNat < m.threads.length - i.toNat; omega⟩
    by_cases e : j = i.toNat
    · subst e
      rw [List.getElem?_eq_getElem hlt] at hx; injection hx with hx; subst hx
      have := (hpre hok).1
      omega
    · exact (hpre hok).2 j (by omega) x hx (by omega)
  · rw [if_neg (by simp; omega)]
    refine h u _ (he.trans hu) fun hb hok => ?_
    have hb : n ≤ 1000 := by simpa using hb
    intro x hx
    obtain ⟨j, hj, rfl⟩ := List.getElem_of_mem hx
    exact (hpre hok).2 j (by omega) _ (List.getElem?_eq_getElem hj) hb
/-! modules made -/
theorem T37 : SlT Try.prog 37 50 4 32 [.int .i64 0, .int .i64 0, .int .i64 0, .int .i64 0] := ⟨by kernel_rfl, by kernel_rfl⟩
theorem T24 : SlT Try.prog 24 39 4 72 [.string ByteArray.empty, .int .i64 0, .slice none 0 0, .slice none 0 0] := ⟨by kernel_rfl, by kernel_rfl⟩
theorem SlR.of_ins {w : World} {s : Sl} {l : List Ins} {G : Nat → Prop} (h : Rd w s.a (l.map Ins.cells).flatten G) (hl : s.l = l.length) (hc : s.l ≤ s.c) : SlR insR w G s l := by
  refine ⟨hl, hc, l.map Ins.cells, by simp, h, fun i row x hr hx => ?_⟩
  rw [List.getElem?_map, hx] at hr
  injection hr with hr
  exact hr.symm
def tName : ByteArray := ⟨#[116]⟩
def mod1 (l : List Ins) : Mdl := ⟨[], [], [], 0, 0, [⟨tName, 0, l, List.replicate l.length 0⟩]⟩
theorem C21 {s : Sl} {l : List Ins} {G : Nat → Prop} (hl : SlR insR w G s l) (hn : l.length ≤ 1000000) (h : ∀ u q, Ex w u → MdlP u T0 q (mod1 l) → K ((mod1 l).v q) u) : XCP Try.prog 21 [s.v] w K KP := by
  show XCP Try.prog 21 [.slice s.a s.l s.c] w K KP
  refine E21 ?_
  unfold F21
  intro w0 p
  have hs : Sep w0 (bx w.heap.size _ 26 :: [oldA w]) := (Sep.begin w).box _ _
  clear_value w0
  have hll := hl.len
  refine Sep.make (cs := ints (List.replicate s.l 0)) T23 rfl hs (by omega) (Int.le_refl _) (by omega) (by omega) (by simp) (fun i hi => by simp at hi; simp [ints, hi, Nat.mod_one]) fun ln w2 hln hs _ => ⟨_, _, _, rfl, ?_⟩
  refine Sep.build (cs := [.string tName, .int .i64 0, s.v, ln.v]) T24 rfl hs rfl rfl (by decide) fun t w3 htl hs _ => ⟨_, _, _, rfl, ?_⟩
  have hs := hs.to2
  refine hs.fill (vs := [.slice none 0 0, .slice none 0 0, .slice none 0 0, .int .i64 0, .int .i64 0, t.v]) rfl fun w4 _ hs => ⟨_, _, _, _, _, _, _, _, _, _, _, _, _, _, hs.bx0.lds, ?_⟩
  have hex := hs.ex 3 rfl
  obtain ⟨G1, hr1, hc1, -⟩ := hs.to1.rowRd
  obtain ⟨G2, hr2, hc2, -⟩ := hs.to2.rowRd
  refine h w4 ⟨⟨none, 0, 0⟩, ⟨none, 0, 0⟩, ⟨none, 0, 0⟩, t⟩ hex ⟨SlR.nil _ _, SlR.nil _ _, SlR.nil _ _, htl, by omega, [[.string tName, .int .i64 0, s.v, ln.v]], rfl, hr1.mono (fun _ _ _ => trivial), fun i row x hr hx => ?_⟩
  cases i with
  | succ i => simp at hr
  | zero =>
    simp at hr hx
    subst hr
    have hx : (⟨tName, 0, l, List.replicate l.length 0⟩ : Cod) = x := by simpa [mod1] using hx
    subst hx
    refine ⟨⟨s, ln⟩, rfl, hl.old hex, ?_⟩
    refine (SlR.of_ints (t := 3) (G := T0) ?_)
    obtain ⟨G3, hG3⟩ := hs.at2
    have hG3 : Own w4 1 3 ln.a ln.l ln.c (ints (List.replicate s.l 0)) G3 := hG3
    rw [hll] at hG3
    exact Own.mono hG3 fun _ _ _ => trivial
end
end Go.Proofs.Ytnhhgadihmlabaa
