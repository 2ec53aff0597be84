/- The verify seat: Check, Depths; what the laws lean on. -/
import Derived.Test.YtahcpjgaogghiaaGreatV13
set_option linter.unusedVariables false
set_option linter.unusedSimpArgs false
set_option maxRecDepth 10000
set_option maxHeartbeats 1000000
namespace Go.Proofs.YtahcpjgaogghiaaGreat
open Go.X Go.Heap
def firstErr : List Int → Int
  | [] => 0
  | e :: l => if e ≠ 0 then e else firstErr l
def checkF (m : Mdl) : Int := if mdlOk m = true then firstErr (m.threads.map fun c => (threadF m c).2) else 2
def noCod : Cod := ⟨⟨#[]⟩, 0, [], []⟩
def depthsF (m : Mdl) (t : Int) : List Int × Int := if (mdlOk m && decide (0 ≤ t) && decide (t < m.threads.length)) = true then threadF m (m.threads.getD t.toNat noCod) else ([], 2)
theorem firstErr_0 (l : List Int) : firstErr (0 :: l) = firstErr l := by simp [firstErr]
theorem firstErr_zero : ∀ {l : List Int}, (∀ i, i < l.length → ∀ x, l[i]? = some x → x = 0) → firstErr l = 0
  | [], _ => rfl
  | e :: l, h => by
    have h0 := h 0 (by simp) e rfl
    subst h0
    rw [firstErr_0]
    exact firstErr_zero fun i hi x hx => h (i + 1) (by simpa using hi) x (by simpa using hx)
theorem firstErr_at : ∀ {l : List Int} {i : Nat} {e : Int}, (∀ j, j < i → ∀ x, l[j]? = some x → x = 0) → l[i]? = some e → e ≠ 0 → firstErr l = e
  | [], i, e, _, h, _ => by simp at h
  | x :: l, 0, e, _, h, he => by simp at h; subst h; simp [firstErr, he]
  | x :: l, i + 1, e, hp, h, he => by
    have h0 := hp 0 (by omega) x rfl
    subst h0
    rw [firstErr_0]
    exact firstErr_at (i := i) (fun j hj y hy => hp (j + 1) (by omega) y (by simpa using hy)) (by simpa using h) he
theorem mdl_ins {m : Mdl} (h : mdlOk m = true) {c : Cod} (hc : c ∈ m.threads) : ∀ x ∈ c.ins, insOk x = true := by
  have := List.all_eq_true.1 ((mdlOk_iff m).1 h).2.2.2.2 c hc
  exact List.all_eq_true.1 ((codOk_iff c).1 this).2.1
theorem mdl_len {m : Mdl} (h : mdlOk m = true) : m.threads.length ≤ 64 := by
  have := ((mdlOk_iff m).1 h).1
  unfold mdlBad at this
  simp only [Bool.or_eq_false_iff, decide_eq_false_iff_not] at this
  omega
section
variable {w : World} {K : Value → World → Prop} {KP : List PanicEntry → World → Prop}
/-- a module small enough -/
def Small (m : Mdl) : Prop := ∀ c ∈ m.threads, c.ins.length ≤ 1000
theorem C32 {m : Mdl} {q : MdlH} {G : Nat → Prop} (hq : MdlP w G q m) (hsm : mdlOk m = true → Small m) (h : ∀ u, Ex w u → K (.int .i64 (checkF m)) u) : XCP Tryz.prog 32 [m.v q] w K KP := by
  show XCP Tryz.prog 32 [.agg #[.slice q.sv.a q.sv.l q.sv.c, .slice q.sa.a q.sa.l q.sa.c, .slice q.sc.a q.sc.l q.sc.c, .int .i64 m.mutexes, .int .i64 m.conds, .slice q.st.a q.st.l q.st.c]] w K KP
  refine E32 ?_
  unfold F32
  intro w0 p
  have hb : Blk w0 w.heap.size (m.cells q) 26 := Blk.new w _ _
  have he : Ex w w0 := Ex.alloc w _
  clear_value w0
  refine ⟨_, _, _, _, _, _, _, _, _, _, _, _, _, _, hb.lds, C54 (hq.ex he) fun u1 e1 => ⟨_, rfl, ?_⟩⟩
  have l4 := hq.t.len
  unfold checkF at h
  by_cases hok : mdlOk m = true
  rotate_left
  · rw [if_neg hok] at h ⊢
    rw [if_pos (by decide)]
    exact h u1 (he.trans e1)
  rw [if_pos hok] at h ⊢
  rw [if_neg (by decide)]
  have hml := mdl_len hok
  refine ⟨_, _, _, (e1.blk hb).ld rfl, ?_⟩
  refine each m.threads.length (fun i => ∀ x, m.threads[i]? = some x → (threadF m x).2 = 0) (fun I μ n u hu h0 hlt hpre next => ?_) fun I μ u hu hall => ?_
  · rw [if_pos (by simp; omega)]
    have hu := e1.trans hu
    obtain ⟨p2, row, hp2, ⟨qc, hr, hqc⟩, hc2⟩ := hq.t.nth (List.getElem?_eq_getElem hlt) (by decide)
    subst hr
    rw [hp2, xptr_some]
    refine ⟨h0, by omega, _, _, _, _, _, _, _, _, (he.trans hu).cells hc2, ?_⟩
    intro w3 p3
    have hs : Sep w3 (bx u.heap.size _ 46 :: [oldA u]) := (Sep.begin u).box _ _
    clear_value w3
    refine hs.fill (vs := (m.threads[n.toNat]).cells qc) rfl fun w4 _ hs => ?_
    have e4 := hs.ex 1 rfl
    have hmem := List.getElem_mem hlt
    refine ⟨_, _, _, _, _, _, _, _, _, _, _, _, _, _, ((hu.trans e4).blk hb).lds, _, _, _, _, _, _, _, _, hs.bx0.lds, ?_⟩
    refine C55 (hq.ex (he.trans (hu.trans e4))) (hqc.ex (he.trans (hu.trans e4))) (hsm hok _ hmem) (mdl_ins hok hmem) fun s u5 hnew => ⟨_, _, _, _, rfl, ?_⟩
    by_cases hz : (threadF m m.threads[n.toNat]).2 = 0
    · rw [if_neg (by simp [hz]), wi (by omega) (by omega)]
      exact next (fun x hx => by rw [List.getElem?_eq_getElem hlt] at hx; injection hx with hx; rw [← hx]; exact hz) u5 (e4.trans hnew.1)
    · rw [if_pos (by simpa using hz)]
      have := h u5 (he.trans (hu.trans (e4.trans hnew.1)))
      rw [firstErr_at (i := n.toNat) (fun j hj x hx => ?_) (by rw [List.getElem?_map, List.getElem?_eq_getElem hlt]; rfl) hz] at this
      · exact this
      · rw [List.getElem?_map] at hx
        cases hj' : m.threads[j]? with
        | none => rw [hj'] at hx; cases hx
        | some y => rw [hj'] at hx; injection hx with hx; rw [← hx]; exact hpre j hj y hj'
  · rw [if_neg (by simp; omega)]
    have := h u (he.trans (e1.trans hu))
    rw [firstErr_zero (fun i hi x hx => ?_)] at this
    · exact this
    · rw [List.getElem?_map] at hx
      cases hj' : m.threads[i]? with
      | none => rw [hj'] at hx; cases hx
      | some y => rw [hj'] at hx; injection hx with hx; rw [← hx]; exact hall i (by simpa using hi) y hj'
theorem C34 {m : Mdl} {q : MdlH} {G : Nat → Prop} (hq : MdlP w G q m) (hsm : mdlOk m = true → Small m) (h : ∀ u, Ex w u → K (.int .i64 (checkF m)) u) : XCP Tryz.prog 34 [m.v q] w K KP := by
  show XCP Tryz.prog 34 [.agg #[.slice q.sv.a q.sv.l q.sv.c, .slice q.sa.a q.sa.l q.sa.c, .slice q.sc.a q.sc.l q.sc.c, .int .i64 m.mutexes, .int .i64 m.conds, .slice q.st.a q.st.l q.st.c]] w K KP
  refine E34 ?_
  unfold F34
  intro w0 p
  have hb : Blk w0 w.heap.size (m.cells q) 26 := Blk.new w _ _
  have he : Ex w w0 := Ex.alloc w _
  clear_value w0
  refine ⟨_, _, _, _, _, _, _, _, _, _, _, _, _, _, hb.lds, C56 (hq.ex he) fun u1 e1 => ⟨_, rfl, ?_⟩⟩
  have l4 := hq.t.len
  unfold checkF at h
  by_cases hok : mdlOk m = true
  rotate_left
  · rw [if_neg hok] at h ⊢
    rw [if_pos (by decide)]
    exact h u1 (he.trans e1)
  rw [if_pos hok] at h ⊢
  rw [if_neg (by decide)]
  have hml := mdl_len hok
  refine each m.threads.length (fun i => ∀ x, m.threads[i]? = some x → (threadF m x).2 = 0) (fun I μ n u hu h0 hlt hpre next => ?_) fun I μ u hu hall => ?_
  · have hu := e1.trans hu
    refine ⟨_, _, _, (hu.blk hb).ld rfl, ?_⟩
    rw [if_pos (by simp; omega)]
    obtain ⟨p2, row, hp2, ⟨qc, hr, hqc⟩, hc2⟩ := hq.t.nth (List.getElem?_eq_getElem hlt) (by decide)
    subst hr
    have hmem := List.getElem_mem hlt
    refine ⟨fun x => Ex u x, Ex.drew u, _, _, _, _, _, _, _, _, _, _, _, _, _, _, fun x hx => ((hu.trans hx).blk hb).lds, _, _, _, fun x hx => ((hu.trans hx).blk hb).ld rfl, ?_⟩
    rw [hp2, xptr_some]
    refine ⟨h0, by omega, _, _, _, _, _, _, _, _, fun x hx => (he.trans (hu.trans hx)).cells hc2, ?_⟩
    rw [← hp2]
    have e4 := Ex.drew u
    refine C15 (hq.ex (he.trans (hu.trans e4))) (hqc.ex (he.trans (hu.trans e4))) (hsm hok _ hmem) (mdl_ins hok hmem) fun s u5 hnew => ⟨_, _, _, _, rfl, fun _ => True, trivial, ?_⟩
    by_cases hz : (threadF m m.threads[n.toNat]).2 = 0
    · rw [if_neg (by simp [hz]), wi (by omega) (by omega)]
      exact next (fun x hx => by rw [List.getElem?_eq_getElem hlt] at hx; injection hx with hx; rw [← hx]; exact hz) u5 (e4.trans hnew.1)
    · rw [if_pos (by simpa using hz)]
      have := h u5 (he.trans (hu.trans (e4.trans hnew.1)))
      rw [firstErr_at (i := n.toNat) (fun j hj x hx => ?_) (by rw [List.getElem?_map, List.getElem?_eq_getElem hlt]; rfl) hz] at this
      · exact this
      · rw [List.getElem?_map] at hx
        cases hj' : m.threads[j]? with
        | none => rw [hj'] at hx; cases hx
        | some y => rw [hj'] at hx; injection hx with hx; rw [← hx]; exact hpre j hj y hj'
  · have hu := e1.trans hu
    refine ⟨_, _, _, (hu.blk hb).ld rfl, ?_⟩
    rw [if_neg (by simp; omega)]
    have := h u (he.trans hu)
    rw [firstErr_zero (fun i hi x hx => ?_)] at this
    · exact this
    · rw [List.getElem?_map] at hx
      cases hj' : m.threads[i]? with
      | none => rw [hj'] at hx; cases hx
      | some y => rw [hj'] at hx; injection hx with hx; rw [← hx]; exact hall i (by simpa using hi) y hj'
theorem C57 {m : Mdl} {q : MdlH} {G : Nat → Prop} (hq : MdlP w G q m) (hsm : mdlOk m = true → Small m) {t : Int} (h : ∀ s u, NewI w u s (depthsF m t).1 → K (.tuple #[s.v, .int .i64 (depthsF m t).2]) u) : XCP Tryz.prog 57 [m.v q, .int .i64 t] w K KP := by
  show XCP Tryz.prog 57 [.agg #[.slice q.sv.a q.sv.l q.sv.c, .slice q.sa.a q.sa.l q.sa.c, .slice q.sc.a q.sc.l q.sc.c, .int .i64 m.mutexes, .int .i64 m.conds, .slice q.st.a q.st.l q.st.c], .int .i64 t] w K KP
  refine E57 ?_
  unfold F57
  intro w0 p
  have hb : Blk w0 w.heap.size (m.cells q) 26 := Blk.new w _ _
  have he : Ex w w0 := Ex.alloc w _
  clear_value w0
  refine ⟨_, _, _, _, _, _, _, _, _, _, _, _, _, _, hb.lds, C54 (hq.ex he) fun u1 e1 => ⟨_, rfl, ?_⟩⟩
  have l4 := hq.t.len
  have hE : ∀ u, Ex w u → depthsF m t = ([], 2) → K (.tuple #[.slice none 0 0, .int .i64 2]) u := by
    intro u hu hR
    have := h ⟨none, 0, 0⟩ u ⟨hu, by rw [hR]; exact ⟨rfl, Nat.le_refl _, .inl ⟨rfl, rfl⟩⟩⟩
    rw [hR] at this; exact this
  intro kb hkb
  have go : ∀ b, b = !(mdlOk m && decide (0 ≤ t) && decide (t < m.threads.length)) → kb b u1 := by
    intro b hbe
    refine hkb _ _ ?_
    cases hx : (mdlOk m && decide (0 ≤ t) && decide (t < m.threads.length)) with
    | false =>
      rw [hx] at hbe; subst hbe
      rw [if_pos (by decide)]
      exact hE u1 (he.trans e1) (by unfold depthsF; rw [if_neg (by rw [hx]; decide)])
    | true =>
      rw [hx] at hbe; subst hbe
      rw [if_neg (by decide)]
      have hx' := hx
      simp only [Bool.and_eq_true, decide_eq_true_eq] at hx'
      obtain ⟨⟨hok, ht0⟩, htl⟩ := hx'
      have hlt : t.toNat < m.threads.length := by omega
      have hR : depthsF m t = threadF m m.threads[t.toNat] := by
        unfold depthsF; rw [if_pos hx, List.getD_eq_getElem?_getD, List.getElem?_eq_getElem hlt]; rfl
      obtain ⟨p2, row, hp2, ⟨qc, hr, hqc⟩, hc2⟩ := hq.t.nth (List.getElem?_eq_getElem hlt) (by decide)
      subst hr
      have hmem := List.getElem_mem hlt
      refine ⟨fun x => Ex u1 x, Ex.drew u1, _, _, _, _, _, _, _, _, _, _, _, _, _, _, fun x hx => ((e1.trans hx).blk hb).lds, _, _, _, fun x hx => ((e1.trans hx).blk hb).ld rfl, ?_⟩
      rw [hp2, xptr_some]
      refine ⟨ht0, by omega, _, _, _, _, _, _, _, _, fun x hx => (he.trans (e1.trans hx)).cells hc2, ?_⟩
      rw [← hp2]
      have e4 := e1.trans (Ex.drew u1)
      refine C55 (hq.ex (he.trans e4)) (hqc.ex (he.trans e4)) (hsm hok _ hmem) (mdl_ins hok hmem) fun s u5 hnew => ⟨_, _, _, _, rfl, fun _ => True, trivial, ?_⟩
      have := h s u5 ⟨he.trans (e4.trans hnew.1), ?_⟩
      · rw [hR] at this; exact this
      · rw [hR]; exact Own.mono hnew.2 fun b hb' h1 => Nat.le_trans (he.trans e4).size h1
  clear hkb
  cases hok : mdlOk m with
  | false =>
    rw [if_pos (by simp)]
    exact go _ (by rw [hok]; rfl)
  | true =>
    rw [hok] at go
    by_cases ht0 : t < 0
    · rw [if_pos (by simp [ht0])]
      exact go _ (by rw [show decide (0 ≤ t) = false from by simpa using ht0]; rfl)
    · rw [if_neg (by simp; omega)]
      refine ⟨_, _, _, (e1.blk hb).ld rfl, go _ ?_⟩
      rw [show decide (0 ≤ t) = true from by simp; omega, l4, Bool.true_and, Bool.true_and, Bool.eq_iff_iff]
      simp
/-! modules made -/
theorem T44 : SlT Tryz.prog 44 52 4 32 [.int .i64 0, .int .i64 0, .int .i64 0, .int .i64 0] := ⟨by kernel_rfl, by kernel_rfl⟩
theorem T24 : SlT Tryz.prog 24 46 4 72 [.string ByteArray.empty, .int .i64 0, .slice none 0 0, .slice none 0 0] := ⟨by kernel_rfl, by kernel_rfl⟩
theorem SlR.of_ins {w : World} {s : Sl} {l : List Ins} {G : Nat → Prop} (h : Rd w s.a (l.map Ins.cells).flatten G) (hl : s.l = l.length) (hc : s.l ≤ s.c) : SlR insR w G s l := by
  refine ⟨hl, hc, l.map Ins.cells, by simp, h, fun i row x hr hx => ?_⟩
  rw [List.getElem?_map, hx] at hr
  injection hr with hr
  exact hr.symm
def tName : ByteArray := ⟨#[116]⟩
def mod1 (l : List Ins) : Mdl := ⟨[], [], [], 0, 0, [⟨tName, 0, l, List.replicate l.length 0⟩]⟩
end
end Go.Proofs.YtahcpjgaogghiaaGreat
