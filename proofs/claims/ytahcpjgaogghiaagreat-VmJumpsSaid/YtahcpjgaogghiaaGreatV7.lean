/- The verify seat: is there what an instruction names? -/
import Derived.Test.YtahcpjgaogghiaaGreatV6
set_option linter.unusedVariables false
set_option linter.unusedSimpArgs false
set_option maxRecDepth 10000
namespace Go.Proofs.YtahcpjgaogghiaaGreat
open Go.X
/-- what an instruction of a code must be -/
def decK (m : Mdl) (c : Cod) (key : Int) (i : Ins) : Bool :=
  if (key == 2 || key == 5) = true then decide (i.a < m.vars.length)
  else if (key == 3 || key == 6) = true then decide (i.a < c.locals)
  else if (key == 4 || key == 7) = true then decide (i.a < m.arrays.length)
  else if ((key == 19 || key == 20) || key == 21) = true then decide (i.a < c.ins.length)
  else if (key == 24 || key == 25) = true then decide (i.a < m.mutexes)
  else if (key == 26) = true then decide (i.a < m.conds) && decide (i.b < m.mutexes)
  else if (key == 27 || key == 28) = true then decide (i.a < m.conds)
  else if (key == 29 || key == 30) = true then decide (i.a < m.chans.length)
  else if (key == 31) = true then decide (i.a < m.threads.length)
  else true
def slotsB (m : Mdl) (c : Cod) (i : Ins) : Bool := decK m c i.code i
theorem or_q {b c : Bool} {w : World} {J : Bool → World → Prop} (hJ : J (b || c) w) : ∀ kb : Bool → World → Prop, (∀ (b : Bool) (w : World), J b w → kb b w) → if b = true then kb b w else kb c w := by
  intro kb hkb
  cases b with
  | true => rw [if_pos rfl]; exact hkb _ _ hJ
  | false => rw [if_neg (by decide)]; exact hkb _ _ hJ
theorem or_q3 {b c d : Bool} {w : World} {J : Bool → World → Prop} (hJ : J ((b || c) || d) w) : ∀ kb : Bool → World → Prop, (∀ (b : Bool) (w : World), J b w → kb b w) → if b = true then kb b w else if c = true then kb c w else kb d w := by
  intro kb hkb
  cases b with
  | true => rw [if_pos rfl]; exact hkb _ _ hJ
  | false =>
    rw [if_neg (by decide)]
    cases c with
    | true => rw [if_pos rfl]; exact hkb _ _ hJ
    | false => rw [if_neg (by decide)]; exact hkb _ _ hJ
section
variable {w : World} {K : Value → World → Prop} {KP : List PanicEntry → World → Prop}
theorem C29 {m : Mdl} {q : MdlH} {c : Cod} {qc : CodH} {i : Ins} {G : Nat → Prop} (hq : MdlP w G q m) {G' : Nat → Prop} (hqc : CodP w G' qc c) (h : ∀ u, Ex w u → K (.bool (slotsB m c i)) u) : XCP Tryz.prog 29 [m.v q, c.v qc, i.v] w K KP := by
  show XCP Tryz.prog 29 [.agg #[.slice q.sv.a q.sv.l q.sv.c, .slice q.sa.a q.sa.l q.sa.c, .slice q.sc.a q.sc.l q.sc.c, .int .i64 m.mutexes, .int .i64 m.conds, .slice q.st.a q.st.l q.st.c],
    .agg #[.string c.name, .int .i64 c.locals, .slice qc.si.a qc.si.l qc.si.c, .slice qc.sl.a qc.sl.l qc.sl.c], .agg #[.int .i64 i.code, .int .i64 i.a, .int .i64 i.b, .int .i64 i.num]] w K KP
  refine E29 ?_
  unfold F29
  intro w0 p w1 p1 w2 p2
  have hs : Sep w2 (bx w1.heap.size i.cells 52 :: bx w0.heap.size (c.cells qc) 46 :: bx w.heap.size (m.cells q) 26 :: [oldA w]) := (((Sep.begin w).box _ _).box _ _).box _ _
  clear_value w2
  have h := h w2 (hs.ex 3 rfl)
  have hi := hs.bx0
  have hc := hs.bx1
  have hm := hs.bx2
  have l1 := hq.v.len
  have l2 := hq.a.len
  have l3 := hq.c.len
  have l4 := hq.t.len
  have l5 := hqc.1.len
  unfold slotsB decK at h
  refine ⟨_, hi.ld rfl, or_q ?_⟩
  by_cases c1 : (i.code == 2 || i.code == 5) = true
  · rw [if_pos c1] at h ⊢
    exact ⟨_, hi.ld rfl, _, _, _, hm.ld rfl, by rw [l1]; exact h⟩
  rw [if_neg c1] at h ⊢
  refine or_q ?_
  by_cases c2 : (i.code == 3 || i.code == 6) = true
  · rw [if_pos c2] at h ⊢
    exact ⟨_, hi.ld rfl, _, hc.ld rfl, h⟩
  rw [if_neg c2] at h ⊢
  refine or_q ?_
  by_cases c3 : (i.code == 4 || i.code == 7) = true
  · rw [if_pos c3] at h ⊢
    exact ⟨_, hi.ld rfl, _, _, _, hm.ld rfl, by rw [l2]; exact h⟩
  rw [if_neg c3] at h ⊢
  refine or_q3 ?_
  by_cases c4 : ((i.code == 19 || i.code == 20) || i.code == 21) = true
  · rw [if_pos c4] at h ⊢
    exact ⟨_, hi.ld rfl, _, _, _, hc.ld rfl, by rw [l5]; exact h⟩
  rw [if_neg c4] at h ⊢
  refine or_q ?_
  by_cases c5 : (i.code == 24 || i.code == 25) = true
  · rw [if_pos c5] at h ⊢
    exact ⟨_, hi.ld rfl, _, hm.ld rfl, h⟩
  rw [if_neg c5] at h ⊢
  by_cases c6 : (i.code == 26) = true
  · rw [if_pos c6] at h ⊢
    refine ⟨_, hi.ld rfl, _, hm.ld rfl, ?_⟩
    intro kb hkb
    cases hx : decide (i.a < m.conds) with
    | true => rw [hx] at h; rw [if_pos rfl]; exact ⟨_, hi.ld rfl, _, hm.ld rfl, hkb _ _ h⟩
    | false => rw [hx] at h; rw [if_neg (by decide)]; exact hkb _ _ h
  rw [if_neg c6] at h ⊢
  refine or_q ?_
  by_cases c7 : (i.code == 27 || i.code == 28) = true
  · rw [if_pos c7] at h ⊢
    exact ⟨_, hi.ld rfl, _, hm.ld rfl, h⟩
  rw [if_neg c7] at h ⊢
  refine or_q ?_
  by_cases c8 : (i.code == 29 || i.code == 30) = true
  · rw [if_pos c8] at h ⊢
    exact ⟨_, hi.ld rfl, _, _, _, hm.ld rfl, by rw [l3]; exact h⟩
  rw [if_neg c8] at h ⊢
  by_cases c9 : (i.code == 31) = true
  · rw [if_pos c9] at h ⊢
    exact ⟨_, hi.ld rfl, _, _, _, hm.ld rfl, by rw [l4]; exact h⟩
  rw [if_neg c9] at h ⊢
  exact h
end
/-- a function value that decides, where Γ lies -/
def ClOk (Γ : List Assn) (v : Value) (f : Ins → Bool) : Prop :=
  ∀ (i : Ins) (u : World) (G : Nat → Prop) (K : Value → World → Prop) (KP : List PanicEntry → World → Prop), (pers Γ).p u G → (∀ u', Ex u u' → K (.bool (f i)) u') → XCV Tryz.prog v [i.v] u K KP
theorem ClOk.cons {Γ : List Assn} {v : Value} {f : Ins → Bool} (h : ClOk Γ v f) (A : Assn) : ClOk (A :: Γ) v f :=
  fun i u G K KP hp => h i u G K KP fun j B hB => hp (j + 1) B hB
def opT : List (Nat × Int) := [(0, 0), (1, 2), (2, 2), (1, 5), (2, 5), (1, 3), (2, 3), (1, 6), (2, 6), (1, 4), (2, 4), (1, 7), (2, 7), (1, 19), (2, 19), (1, 20), (2, 20), (1, 21), (2, 21), (1, 24), (2, 24), (1, 25), (2, 25), (2, 26), (1, 27), (2, 27), (1, 28), (2, 28), (1, 29), (2, 29), (1, 30), (2, 30), (1, 31), (2, 31)]
theorem opT_inj : ∀ k k' : Fin 34, opT[k.1]? = opT[k'.1]? → k = k' := by decide
theorem opT_lt {k : Nat} {e : Nat × Int} (h : opT[k]? = some e) : k < 34 := (List.getElem?_eq_some_iff.1 h).1
theorem opT_inj' {k k' : Nat} {e : Nat × Int} (h : opT[k]? = some e) (h' : opT[k']? = some e) : k = k' := by
  have := opT_inj ⟨k, opT_lt h⟩ ⟨k', opT_lt h'⟩ (h.trans h'.symm)
  injection this
abbrev dI : TypeDesc := .int .i64
theorem M78 : Tryz.prog.underlying 192 = some (.map 50 190) := by kernel_rfl
theorem M44 : Tryz.prog.underlying 50 = some dI := by kernel_rfl
/-- how far the map has come -/
def ThereJ (w : World) (m : Mdl) (c : Cod) (q : MdlH) (qc : CodH) (pm pc : Nat) (x : List (Option Value)) (u : World) : Prop :=
  x.length = 34 ∧ ∃ Γ : List Assn, (∃ j : Nat, Γ[j]? = some (bx pm (m.cells q) 26)) ∧ (∃ j : Nat, Γ[j]? = some (bx pc (c.cells qc) 46)) ∧
    (∀ (j : Nat) (key : Int), opT[j]? = some (1, key) → ∀ v, x[j]? = some (some v) → ClOk Γ v (decK m c key)) ∧
    ((x[0]? = some none ∧ Sep u [pers Γ, oldA w] ∧ ∀ (k : Nat) (key : Int), opT[k]? = some (2, key) → x[k]? = some none) ∨
     ∃ r f, x[0]? = some (some (.map (some r))) ∧ Sep u [mpA r dI f, pers Γ, oldA w] ∧
       (∀ (k : Nat) (key : Int), opT[k]? = some (2, key) → (x[k]? = some none → f (.int .i64 key) = none) ∧ ∀ z, x[k]? = some (some z) → ∃ v, f (.int .i64 key) = some v ∧ ClOk Γ v (decK m c key)) ∧
       ∀ key : Int, (∀ k : Nat, opT[k]? ≠ some (2, key)) → f (.int .i64 key) = none)
section
variable {w u : World} {KP : List PanicEntry → World → Prop} {m : Mdl} {c : Cod} {q : MdlH} {qc : CodH} {pm pc : Nat} {x : List (Option Value)}
theorem mkStep (hJ : ThereJ w m c q qc pm pc x u) (h0 : x[0]? = some none) : XRun Tryz.prog (Instr.makeMap 192 none) u fun v w' => ∃ r : Option Nat, v = .map r ∧ ThereJ w m c q qc pm pc (x.set 0 (some (.map r))) w' := by
  obtain ⟨hl, Γ, g1, g2, hA, ⟨-, hs, hi⟩ | ⟨r, f, h1, -⟩⟩ := hJ
  · refine Sep.makeMap (d := dI) hs fun r w' hs _ => ⟨_, rfl, by simp [hl], Γ, g1, g2, fun j key hj v hv => ?_, .inr ⟨r, _, ?_, hs, fun k key hk => ?_, fun _ _ => rfl⟩⟩
    · rw [List.getElem?_set] at hv
      split at hv
      · rename_i e; subst e; cases hj
      · exact hA j key hj v hv
    · rw [List.getElem?_set, if_pos rfl, if_pos (by omega)]
    · have hne : 0 ≠ k := fun e => by subst e; cases hk
      refine ⟨fun _ => rfl, fun z hz => ?_⟩
      rw [List.getElem?_set, if_neg hne, hi k key hk] at hz
      cases hz
  · rw [h0] at h1; cases h1
theorem C140 {n : Int} {K : Value → World → Prop} (h : ∀ b u', Ex u u' → Blk u' b [.int .i64 n] 3 → u.heap.size ≤ b → K (.func (.func 141) #[] #[.pointer (some ⟨b, 0, none⟩)]) u') : XCP Tryz.prog 140 [.int .i64 n] u K KP := by
  refine E140 ?_
  unfold F140
  exact h _ _ (Ex.alloc u _) (Blk.new u _ _) (Nat.le_refl _)
theorem cl61 {Γ : List Assn} {b : Nat} {n : Int} {f : Ins → Bool} (h : ∃ j : Nat, Γ[j]? = some (bx b [.int .i64 n] 3)) (hf : ∀ i : Ins, f i = decide (i.a < n)) : ClOk Γ (.func (.func 141) #[] #[.pointer (some ⟨b, 0, none⟩)]) f := by
  intro i u G K KP hp hk
  obtain ⟨j, hj⟩ := h
  have hb : Blk u b [.int .i64 n] 3 := (hp j _ hj).1
  show XCP Tryz.prog 141 [.agg #[.int .i64 i.code, .int .i64 i.a, .int .i64 i.b, .int .i64 i.num], .pointer (some ⟨b, 0, none⟩)] u K KP
  refine E141 ?_
  unfold F141
  intro w0 p
  have hb0 : Blk w0 u.heap.size i.cells 52 := Blk.new u _ _
  have he : Ex u w0 := Ex.alloc u _
  clear_value w0
  refine ⟨_, hb0.ld rfl, ?_⟩
  rw [xptr_some]
  refine ⟨_, (he.blk hb).ld' rfl, ?_⟩
  rw [← hf i]
  exact hk w0 he
theorem wait_ok {Γ : List Assn} (h : ∃ j : Nat, Γ[j]? = some (bx pm (m.cells q) 26)) : ClOk Γ (.func (.func 142) #[] #[.pointer (some ⟨pm, 0, none⟩)]) (decK m c 26) := by
  intro i u G K KP hp hk
  obtain ⟨j, hj⟩ := h
  have hb : Blk u pm (m.cells q) 26 := (hp j _ hj).1
  show XCP Tryz.prog 142 [.agg #[.int .i64 i.code, .int .i64 i.a, .int .i64 i.b, .int .i64 i.num], .pointer (some ⟨pm, 0, none⟩)] u K KP
  refine E142 ?_
  unfold F142
  intro w0 p
  have hb0 : Blk w0 u.heap.size i.cells 52 := Blk.new u _ _
  have he : Ex u w0 := Ex.alloc u _
  clear_value w0
  have hb := he.blk hb
  refine ⟨_, hb0.ld rfl, ?_⟩
  rw [xptr_some]
  refine ⟨_, hb.ld rfl, ?_⟩
  intro kb hkb
  have hk : K (.bool (decide (i.a < m.conds) && decide (i.b < m.mutexes))) w0 := hk w0 he
  cases hx : decide (i.a < m.conds) with
  | true => rw [hx] at hk; rw [if_pos rfl]; refine ⟨_, hb0.ld rfl, ?_⟩; rw [xptr_some]; exact ⟨_, hb.ld rfl, hkb _ _ hk⟩
  | false => rw [hx] at hk; rw [if_neg (by decide)]; exact hkb _ _ hk
theorem clStep {j : Nat} {key n : Int} (hJ : ThereJ w m c q qc pm pc x u) (hj : opT[j]? = some (1, key)) (hd : ∀ i : Ins, decK m c key i = decide (i.a < n)) :
    XCP Tryz.prog 140 [.int .i64 n] u (fun v1 w' => ∃ v2 : Value, v1 = v2 ∧ ThereJ w m c q qc pm pc (x.set j (some v2)) w') KP := by
  obtain ⟨hl, Γ, ⟨j1, g1⟩, ⟨j2, g2⟩, hA, hM⟩ := hJ
  refine C140 fun b u' he hb hn => ⟨_, rfl, by simp [hl], bx b [.int .i64 n] 3 :: Γ, ⟨j1 + 1, g1⟩, ⟨j2 + 1, g2⟩, fun j' key' hj' v hv => ?_, ?_⟩
  · rw [List.getElem?_set] at hv
    split at hv
    · rename_i e; subst e
      rw [hj] at hj'; cases hj'
      split at hv
      · simp only [Option.some.injEq] at hv; subst hv
        exact cl61 ⟨0, rfl⟩ hd
      · cases hv
    · exact (hA j' key' hj' v hv).cons _
  · have hne : ∀ (k : Nat) (key' : Int), opT[k]? = some (2, key') → j ≠ k := fun k key' hk e => by subst e; rw [hj] at hk; cases hk
    have hj0 : j ≠ 0 := fun e => by subst e; cases hj
    rcases hM with ⟨h0, hs, hi⟩ | ⟨r, f, h0, hs, hi, hn'⟩
    · refine .inl ⟨by rw [List.getElem?_set, if_neg hj0]; exact h0, ?_, fun k key' hk => by rw [List.getElem?_set, if_neg (hne k key' hk)]; exact hi k key' hk⟩
      exact (Sep.add (A := bx b [.int .i64 n] 3) hs he ⟨hb, hn⟩).keep
    · refine .inr ⟨r, f, by rw [List.getElem?_set, if_neg hj0]; exact h0, ?_, fun k key' hk => ?_, hn'⟩
      · have hs := Sep.add (A := bx b [.int .i64 n] 3) hs he ⟨hb, hn⟩
        exact hs.to2.to1.keep.to1
      · rw [List.getElem?_set, if_neg (hne k key' hk)]
        obtain ⟨a1, a2⟩ := hi k key' hk
        exact ⟨a1, fun z hz => by obtain ⟨v, hv, ho⟩ := a2 z hz; exact ⟨v, hv, ho.cons _⟩⟩
theorem insStep {k : Nat} {key : Int} {r1 : Option Nat} {v : Value} (hJ : ThereJ w m c q qc pm pc x u) (hk : opT[k]? = some (2, key)) (h0 : x[0]? = some (some (.map r1))) (hx : x[k]? = some none)
    (hv : ∀ Γ : List Assn, (∃ j : Nat, Γ[j]? = some (bx pm (m.cells q) 26)) → (∃ j : Nat, Γ[j]? = some (bx pc (c.cells qc) 46)) → (∀ (j : Nat) (key : Int), opT[j]? = some (1, key) → ∀ v, x[j]? = some (some v) → ClOk Γ v (decK m c key)) → ClOk Γ v (decK m c key)) :
    XRunU Tryz.prog (Instr.mapUpdate 192 (.map r1) (.int .i64 key) v) u fun w' => ThereJ w m c q qc pm pc (x.set k (some undef)) w' := by
  classical
  obtain ⟨hl, Γ, g1, g2, hA, ⟨h0', -⟩ | ⟨r, f, h0', hs, hi, hn⟩⟩ := hJ
  · rw [h0] at h0'; cases h0'
  · rw [h0] at h0'; simp only [Option.some.injEq, Value.map.injEq] at h0'; subst h0'
    refine Sep.mapUpdate (f' := fun z => if z = .int .i64 key then some v else f z) M78 M44 (by rfl) hs (by simp) (fun z hz => by simp [hz]) fun w' hs => ?_
    have hk0 : k ≠ 0 := fun e => by subst e; cases hk
    refine ⟨by simp [hl], Γ, g1, g2, fun j key' hj v' hv' => ?_, .inr ⟨r, _, by rw [List.getElem?_set, if_neg hk0]; exact h0, hs, fun k' key' hk' => ?_, fun key' hkey' => ?_⟩⟩
    · rw [List.getElem?_set] at hv'
      split at hv'
      · rename_i e; subst e; rw [hk] at hj; cases hj
      · exact hA j key' hj v' hv'
    · by_cases e : k = k'
      · subst e
        rw [hk] at hk'; cases hk'
        rw [List.getElem?_set, if_pos rfl, if_pos (by have := opT_lt hk; omega)]
        exact ⟨fun h => by simp at h, fun z _ => ⟨v, by simp, hv Γ g1 g2 hA⟩⟩
      · have hne : key' ≠ key := fun e' => by subst e'; exact e (opT_inj' hk hk')
        rw [List.getElem?_set, if_neg e]
        have hne' : (Value.int .i64 key' = Value.int .i64 key) = False := by simp [hne]
        simp only [hne', if_false]
        exact hi k' key' hk'
    · have hne : key' ≠ key := fun e' => by subst e'; exact hkey' k hk
      have hne' : (Value.int .i64 key' = Value.int .i64 key) = False := by simp [hne]
      simp only [hne', if_false]
      exact hn key' hkey'
theorem ThereJ.blks (h : ThereJ w m c q qc pm pc x u) : Blk u pm (m.cells q) 26 ∧ Blk u pc (c.cells qc) 46 := by
  obtain ⟨-, Γ, ⟨j1, g1⟩, ⟨j2, g2⟩, -, ⟨-, hs, -⟩ | ⟨r, f, -, hs, -⟩⟩ := h
  · obtain ⟨G, hG⟩ := hs.at0; exact ⟨(hG j1 _ g1).1, (hG j2 _ g2).1⟩
  · obtain ⟨G, hG⟩ := hs.at1; exact ⟨(hG j1 _ g1).1, (hG j2 _ g2).1⟩
/-- the map says of each instruction whether there is what it names -/
def ThereF (Γ : List Assn) (f : Value → Option Value) (m : Mdl) (c : Cod) : Prop :=
  ∀ key : Int, (f (.int .i64 key) = none → ∀ i : Ins, decK m c key i = true) ∧ ∀ v, f (.int .i64 key) = some v → ClOk Γ v (decK m c key)
theorem dec_other {key : Int} (h : ∀ k : Nat, opT[k]? ≠ some (2, key)) (i : Ins) : decK m c key i = true := by
  have n : ∀ z : Int, (∃ k : Nat, opT[k]? = some (2, z)) → (key == z) = false := by
    intro z ⟨k, hk⟩
    by_cases e : key = z
    · subst e; exact absurd hk (h k)
    · simpa using e
  unfold decK
  rw [n 2 ⟨2, rfl⟩, n 5 ⟨4, rfl⟩, n 3 ⟨6, rfl⟩, n 6 ⟨8, rfl⟩, n 4 ⟨10, rfl⟩, n 7 ⟨12, rfl⟩, n 19 ⟨14, rfl⟩, n 20 ⟨16, rfl⟩, n 21 ⟨18, rfl⟩, n 24 ⟨20, rfl⟩, n 25 ⟨22, rfl⟩, n 26 ⟨23, rfl⟩, n 27 ⟨25, rfl⟩, n 28 ⟨27, rfl⟩, n 29 ⟨29, rfl⟩, n 30 ⟨31, rfl⟩, n 31 ⟨33, rfl⟩]
  rfl
theorem thereEnd {K : Value → World → Prop} (hJ : ThereJ w m c q qc pm pc x u) {r1 : Option Nat} (h0 : x[0]? = some (some (.map r1))) (hall : ∀ k, k < 34 → ∃ z, x[k]? = some (some z))
    (h : ∀ u r f Γ, Ex w u → (pers (mpA r dI f :: Γ)).p u (fun b => w.heap.size ≤ b) → ThereF Γ f m c → K (.map (some r)) u) : K (.map r1) u := by
  obtain ⟨hl, Γ, g1, g2, hA, ⟨h0', -⟩ | ⟨r, f, h0', hs, hi, hn⟩⟩ := hJ
  · rw [h0] at h0'; cases h0'
  · rw [h0] at h0'; simp only [Option.some.injEq, Value.map.injEq] at h0'; subst h0'
    have h1 := hs.fresh 0 2 rfl rfl (by decide)
    have h2 := hs.fresh 1 2 rfl rfl (by decide)
    refine h u r f Γ (hs.ex 2 rfl) (fun j A hA => ?_) fun key => ?_
    · cases j with
      | zero => simp at hA; subst hA; exact h1
      | succ j => exact h2 j A (by simpa using hA)
    · by_cases hk : ∃ k : Nat, opT[k]? = some (2, key)
      · obtain ⟨k, hk⟩ := hk
        obtain ⟨z, hz⟩ := hall k (opT_lt hk)
        obtain ⟨v, hv, ho⟩ := (hi k key hk).2 z hz
        exact ⟨(fun e => by rw [e] at hv; cases hv), fun v' e => by rw [e] at hv; injection hv with hv; subst hv; exact ho⟩
      · have hk : ∀ k : Nat, opT[k]? ≠ some (2, key) := fun k e => hk ⟨k, e⟩
        exact ⟨fun _ i => dec_other hk i, fun v e => by rw [hn key hk] at e; cases e⟩
end
end Go.Proofs.YtahcpjgaogghiaaGreat
