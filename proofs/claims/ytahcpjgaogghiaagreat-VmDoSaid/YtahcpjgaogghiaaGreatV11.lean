/- The verify seat: the depths of a thread, as plain lists. -/
import Derived.Test.YtahcpjgaogghiaaGreatV10
import Derived.Test.YtahcpjgaogghiaaGreatX16
set_option linter.unusedVariables false
set_option linter.unusedSimpArgs false
namespace Go.Proofs.YtahcpjgaogghiaaGreat
open Go.X Go.Heap
def insAt (ins : List Ins) (a : Nat) : Ins := ins.getD a ⟨0, 0, 0, 0⟩
theorem insAt_get {ins : List Ins} {a : Nat} (h : a < ins.length) : ins[a]? = some (insAt ins a) := by
  simp [insAt, List.getD_eq_getElem?_getD, List.getElem?_eq_getElem h]
theorem insAt_mem {ins : List Ins} {a : Nat} (h : a < ins.length) : insAt ins a ∈ ins := List.mem_iff_getElem?.2 ⟨a, insAt_get h⟩
def badDepth (i : Ins) (d : Int) : Bool := decide (d < (effI i.code).1) || decide (d - (effI i.code).1 + (effI i.code).2.1 > 25)
def badMark (i : Ins) (d : Int) : Bool := (i.code == 23 || i.code == 34) && d != 0
def runsOut (ins : List Ins) (i : Ins) (a : Int) : Bool := (nexts i a).any fun n => decide (n ≥ ins.length)
def newDepth (i : Ins) (d : Int) : Int := d - (effI i.code).1 + (effI i.code).2.1
def oneF (ins : List Ins) (a : Nat) (d : Int) : Int × Int :=
  if badDepth (insAt ins a) d = true then (0, 173)
  else if badMark (insAt ins a) d = true then (0, 175)
  else if runsOut ins (insAt ins a) a = true then (0, 172)
  else (newDepth (insAt ins a) d, 0)
def clash (b : Int) (n : Int) (ds : List Int) : Bool := decide (g ds n.toNat ≥ 0) && g ds n.toNat != b
def spreadF (b : Int) : List Int → List Int → Option (List Int)
  | [], ds => some ds
  | n :: l, ds => if clash b n ds = true then none else spreadF b l (ds.set n.toNat b)
def pendB (ds : List Int) (dn : List Bool) (i : Nat) : Bool := decide (g ds i ≥ 0) && !(dn.getD i true)
def leastF (ds : List Int) (dn : List Bool) : Option Nat := (List.range ds.length).find? (pendB ds dn)
def runF (ins : List Ins) : Nat → List Int → List Bool → List Int × Int
  | 0, ds, _ => (ds, 0)
  | f + 1, ds, dn =>
    match leastF ds dn with
    | none => (ds, 0)
    | some a =>
      if (oneF ins a (g ds a)).2 ≠ 0 then ([], (oneF ins a (g ds a)).2)
      else match spreadF (oneF ins a (g ds a)).1 (nexts (insAt ins a) a) ds with
        | none => ([], 174)
        | some ds' => runF ins f ds' (dn.set a true)
def undone (dn : List Bool) : Nat := dn.count false
def firstF (n : Nat) : List Int := (List.replicate n (-1)).set 0 0
def threadF (m : Mdl) (c : Cod) : List Int × Int :=
  if c.ins.length = 0 then ([], 170)
  else if (c.ins.all (slotsB m c)) = false then ([], 171)
  else runF c.ins (undone (List.replicate c.ins.length false) + 1) (firstF c.ins.length) (List.replicate c.ins.length false)
structure TI (n : Nat) (ds : List Int) (dn : List Bool) : Prop where
  lds : ds.length = n
  ldn : dn.length = n
  lo : ∀ i, i < n → -1 ≤ g ds i ∧ g ds i ≤ 25
  dn0 : ∀ i, i < n → dn.getD i true = true → 0 ≤ g ds i
theorem g_set {ds : List Int} {i : Nat} (h : i < ds.length) (b : Int) (k : Nat) : g (ds.set i b) k = if k = i then b else g ds k := by
  unfold g
  simp only [List.getD_eq_getElem?_getD, List.getElem?_set]
  by_cases e : k = i
  · subst e; simp [h]
  · simp [e, Ne.symm e]
theorem gb_set {dn : List Bool} {i : Nat} (h : i < dn.length) (b : Bool) (k : Nat) : (dn.set i b).getD k true = if k = i then b else dn.getD k true := by
  simp only [List.getD_eq_getElem?_getD, List.getElem?_set]
  by_cases e : k = i
  · subst e; simp [h]
  · simp [e, Ne.symm e]
theorem g_ext {xs ys : List Int} (hl : xs.length = ys.length) (h : ∀ k, k < xs.length → g xs k = g ys k) : xs = ys := by
  apply List.ext_getElem hl
  intro k h1 h2
  have := h k h1
  simpa [g, List.getD_eq_getElem?_getD, List.getElem?_eq_getElem h1, List.getElem?_eq_getElem h2] using this
theorem TI.first (n : Nat) : TI n (firstF n) (List.replicate n false) := by
  have hg : ∀ i, i < n → g (firstF n) i = if i = 0 then 0 else -1 := by
    intro i hi
    rw [firstF, g_set (by simp; omega)]
    split
    · rfl
    · simp [g, List.getD_eq_getElem?_getD, List.getElem?_replicate, hi]
  refine ⟨by simp [firstF], by simp, fun i hi => ?_, fun i hi h => ?_⟩
  · rw [hg i hi]; split <;> omega
  · simp [List.getD_eq_getElem?_getD, List.getElem?_replicate, hi] at h
theorem TI.set {n : Nat} {ds : List Int} {dn : List Bool} (h : TI n ds dn) {i : Nat} (hi : i < n) {b : Int} (h0 : 0 ≤ b) (h1 : b ≤ 25) : TI n (ds.set i b) dn := by
  refine ⟨by simp [h.lds], h.ldn, fun k hk => ?_, fun k hk hd => ?_⟩
  · rw [g_set (by rw [h.lds]; exact hi)]; split
    · omega
    · exact h.lo k hk
  · rw [g_set (by rw [h.lds]; exact hi)]; split
    · exact h0
    · exact h.dn0 k hk hd
theorem TI.mark {n : Nat} {ds : List Int} {dn : List Bool} (h : TI n ds dn) {a : Nat} (ha : a < n) (h0 : 0 ≤ g ds a) : TI n ds (dn.set a true) := by
  refine ⟨h.lds, by simp [h.ldn], h.lo, fun k hk hd => ?_⟩
  rw [gb_set (by rw [h.ldn]; exact ha)] at hd
  by_cases e : k = a
  · subst e; exact h0
  · rw [if_neg e] at hd; exact h.dn0 k hk hd
theorem pendB_iff {ds : List Int} {dn : List Bool} {i : Nat} : pendB ds dn i = true ↔ 0 ≤ g ds i ∧ dn.getD i true = false := by
  unfold pendB; simp
theorem leastF_some {ds : List Int} {dn : List Bool} {a : Nat} (ha : a < ds.length) (hp : pendB ds dn a = true) (hl : ∀ j, j < a → pendB ds dn j = false) : leastF ds dn = some a := by
  unfold leastF
  rw [List.find?_range_eq_some]
  exact ⟨hp, by simpa using ha, fun j hj => by simp [hl j hj]⟩
theorem leastF_none {ds : List Int} {dn : List Bool} (hl : ∀ j, j < ds.length → pendB ds dn j = false) : leastF ds dn = none := by
  unfold leastF
  rw [List.find?_eq_none]
  intro x hx
  rw [hl x (by simpa using hx)]; decide
theorem undone_mark {dn : List Bool} {a : Nat} (ha : a < dn.length) (h : dn.getD a true = false) : undone (dn.set a true) + 1 = undone dn := by
  unfold undone
  rw [List.getD_eq_getElem?_getD, List.getElem?_eq_getElem ha, Option.getD_some] at h
  rw [List.count_set ha, h]
  have : 0 < dn.count false := List.count_pos_iff.2 (h ▸ List.getElem_mem ha)
  simp; omega
theorem runF_none {ins : List Ins} {f : Nat} {ds : List Int} {dn : List Bool} (h : leastF ds dn = none) : runF ins (f + 1) ds dn = (ds, 0) := by
  rw [runF, h]
theorem runF_err {ins : List Ins} {f : Nat} {ds : List Int} {dn : List Bool} {a : Nat} (h : leastF ds dn = some a) (he : (oneF ins a (g ds a)).2 ≠ 0) : runF ins (f + 1) ds dn = ([], (oneF ins a (g ds a)).2) := by
  rw [runF, h]; simp only []; rw [if_pos he]
theorem runF_clash {ins : List Ins} {f : Nat} {ds : List Int} {dn : List Bool} {a : Nat} (h : leastF ds dn = some a) (he : (oneF ins a (g ds a)).2 = 0) (hs : spreadF (oneF ins a (g ds a)).1 (nexts (insAt ins a) a) ds = none) : runF ins (f + 1) ds dn = ([], 174) := by
  rw [runF, h]; simp only []; rw [if_neg (by simp [he]), hs]
theorem runF_step {ins : List Ins} {ds ds' : List Int} {dn : List Bool} {a : Nat} (h : leastF ds dn = some a) (ha : a < dn.length) (hd : dn.getD a true = false) (he : (oneF ins a (g ds a)).2 = 0) (hs : spreadF (oneF ins a (g ds a)).1 (nexts (insAt ins a) a) ds = some ds') :
    runF ins (undone dn + 1) ds dn = runF ins (undone (dn.set a true) + 1) ds' (dn.set a true) := by
  rw [undone_mark ha hd]
  conv => lhs; rw [runF, h]
  simp only []; rw [if_neg (by simp [he]), hs]
theorem oneF_ok {ins : List Ins} {a : Nat} {d : Int} (h : (oneF ins a d).2 = 0) : badDepth (insAt ins a) d = false ∧ badMark (insAt ins a) d = false ∧ runsOut ins (insAt ins a) a = false ∧ (oneF ins a d).1 = newDepth (insAt ins a) d := by
  unfold oneF at h ⊢
  cases h1 : badDepth (insAt ins a) d <;> rw [h1] at h <;> simp at h
  cases h2 : badMark (insAt ins a) d <;> rw [h2] at h <;> simp at h
  cases h3 : runsOut ins (insAt ins a) a <;> rw [h3] at h <;> simp at h
  simp
theorem newDepth_ok {i : Ins} {d : Int} (h : badDepth i d = false) : 0 ≤ newDepth i d ∧ newDepth i d ≤ 25 := by
  unfold badDepth at h
  have := eff_small i.code
  unfold newDepth
  simp at h
  omega
theorem spread_app (b : Int) : ∀ (l l' : List Int) (ds : List Int), spreadF b (l ++ l') ds = (spreadF b l ds).bind (spreadF b l')
  | [], l', ds => rfl
  | n :: l, l', ds => by
    simp only [List.cons_append, spreadF]
    split
    · rfl
    · exact spread_app b l l' _
/-- the heap holds the places that are still to be looked at -/
def Pend (n : Nat) (ds : List Int) (dn : List Bool) (ys : List Int) : Prop :=
  ys.Nodup ∧ ∀ x : Int, x ∈ ys ↔ ∃ i : Nat, x = i ∧ i < n ∧ pendB ds dn i = true
theorem Pend.len {n : Nat} {ds : List Int} {dn : List Bool} {ys : List Int} (h : Pend n ds dn ys) : ys.length ≤ n := by
  have hsub : ∀ x ∈ ys, x ∈ (List.range n).map (fun i : Nat => (i : Int)) := by
    intro x hx
    obtain ⟨i, rfl, hi, -⟩ := (h.2 x).1 hx
    exact List.mem_map.2 ⟨i, by simpa using hi, rfl⟩
  have := List.Nodup.length_le_of_subset h.1 hsub
  simpa using this
theorem Pend.perm {n : Nat} {ds : List Int} {dn : List Bool} {ys zs : List Int} (h : Pend n ds dn ys) (hp : zs.Perm ys) : Pend n ds dn zs :=
  ⟨hp.nodup_iff.2 h.1, fun x => by rw [hp.mem_iff]; exact h.2 x⟩
theorem Pend.empty {n : Nat} {ds : List Int} {dn : List Bool} (h : Pend n ds dn []) (hl : ds.length = n) : leastF ds dn = none := by
  refine leastF_none fun j hj => ?_
  cases hp : pendB ds dn j with
  | false => rfl
  | true => have := (h.2 j).2 ⟨j, rfl, by omega, hp⟩; simp at this
theorem Pend.pop {n : Nat} {ds : List Int} {dn : List Bool} {x : Int} {ys zs : List Int} (h : Pend n ds dn ys) (hl : ds.length = n) (hln : dn.length = n) (hp : (x :: zs).Perm ys) (hmin : ∀ y ∈ ys, x ≤ y) :
    ∃ a : Nat, x = a ∧ a < n ∧ 0 ≤ g ds a ∧ dn.getD a true = false ∧ leastF ds dn = some a ∧ Pend n ds (dn.set a true) zs := by
  have h2 := h.perm hp
  obtain ⟨a, rfl, ha, hpa⟩ := (h2.2 x).1 (by simp)
  obtain ⟨p1, p2⟩ := pendB_iff.1 hpa
  refine ⟨a, rfl, ha, p1, p2, leastF_some (by omega) hpa fun j hj => ?_, (List.nodup_cons.1 h2.1).2, fun y => ?_⟩
  · cases hpj : pendB ds dn j with
    | false => rfl
    | true => have := hmin j ((h.2 j).2 ⟨j, rfl, by omega, hpj⟩); omega
  · have hn := (List.nodup_cons.1 h2.1).1
    have hset : ∀ i, pendB ds (dn.set a true) i = true ↔ pendB ds dn i = true ∧ i ≠ a := by
      intro i
      rw [pendB_iff, pendB_iff, gb_set (by omega)]
      by_cases e : i = a
      · simp [e]
      · simp [e]
    constructor
    · intro hy
      obtain ⟨i, rfl, hi, hpi⟩ := (h2.2 y).1 (by simp [hy])
      exact ⟨i, rfl, hi, (hset i).2 ⟨hpi, fun e => by subst e; exact hn hy⟩⟩
    · rintro ⟨i, rfl, hi, hpi⟩
      obtain ⟨q1, q2⟩ := (hset i).1 hpi
      have := (h2.2 i).2 ⟨i, rfl, hi, q1⟩
      rcases List.mem_cons.1 this with e | e
      · exact absurd (by omega) q2
      · exact e
/-- a place that was known, to which nothing else is come -/
theorem clash_same {b : Int} {n : Int} {ds : List Int} (hn : n.toNat < ds.length) (h : g ds n.toNat = b) : clash b n ds = false ∧ ds.set n.toNat b = ds := by
  refine ⟨by unfold clash; rw [h]; simp, g_ext (by simp) fun k hk => ?_⟩
  rw [g_set hn]
  split
  · rename_i e; rw [e, h]
  · rfl
theorem clash_new {b : Int} {n : Int} {ds : List Int} (h : g ds n.toNat = -1) : clash b n ds = false := by
  unfold clash; rw [h]; rfl
theorem clash_else {N : Nat} {dn : List Bool} {b : Int} {n : Int} {ds : List Int} (hT : TI N ds dn) (hn : n.toNat < N) (h1 : g ds n.toNat ≠ -1) (h2 : g ds n.toNat ≠ b) : clash b n ds = true := by
  unfold clash
  have := hT.lo _ hn
  simp [h2]; omega
theorem Pend.push {N : Nat} {ds : List Int} {dn : List Bool} {n b : Int} {ys : List Int} (h : Pend N ds dn ys) (hT : TI N ds dn) (h0 : 0 ≤ n) (hn : n.toNat < N) (h1 : g ds n.toNat = -1) (hb : 0 ≤ b) : Pend N (ds.set n.toNat b) dn (ys ++ [n]) := by
  have hset : ∀ i, i < N → (pendB (ds.set n.toNat b) dn i = true ↔ pendB ds dn i = true ∨ i = n.toNat) := by
    intro i hi
    rw [pendB_iff, pendB_iff, g_set (by rw [hT.lds]; exact hn)]
    by_cases e : i = n.toNat
    · subst e
      simp only [if_true, or_true, iff_true]
      refine ⟨hb, ?_⟩
      cases hd : dn.getD n.toNat true with
      | false => rfl
      | true => have := hT.dn0 _ hn hd; omega
    · simp [e]
  have hnot : n ∉ ys := fun hm => by
    obtain ⟨i, e, hi, hp⟩ := (h.2 n).1 hm
    have e' : i = n.toNat := by omega
    subst e'
    have := (pendB_iff.1 hp).1; omega
  refine ⟨List.nodup_append.2 ⟨h.1, by simp, fun a ha b hb => by simp at hb; subst hb; intro e; subst e; exact hnot ha⟩, fun x => ?_⟩
  rw [List.mem_append, List.mem_singleton]
  constructor
  · rintro (hx | rfl)
    · obtain ⟨i, rfl, hi, hp⟩ := (h.2 x).1 hx
      exact ⟨i, rfl, hi, (hset i hi).2 (.inl hp)⟩
    · exact ⟨x.toNat, by omega, hn, (hset _ hn).2 (.inr rfl)⟩
  · rintro ⟨i, rfl, hi, hp⟩
    rcases (hset i hi).1 hp with hp | e
    · exact .inl ((h.2 i).2 ⟨i, rfl, hi, hp⟩)
    · right; omega
theorem Pend.first {n : Nat} (hn : 0 < n) : Pend n (firstF n) (List.replicate n false) [0] := by
  refine ⟨by simp, fun x => ?_⟩
  have hg : ∀ i, i < n → g (firstF n) i = if i = 0 then 0 else -1 := by
    intro i hi
    rw [firstF, g_set (by simp; omega)]
    split
    · rfl
    · simp [g, List.getD_eq_getElem?_getD, List.getElem?_replicate, hi]
  rw [List.mem_singleton]
  constructor
  · rintro rfl
    exact ⟨0, rfl, hn, pendB_iff.2 ⟨by rw [hg 0 hn]; decide, by simp [List.getD_eq_getElem?_getD, List.getElem?_replicate, hn]⟩⟩
  · rintro ⟨i, rfl, hi, hp⟩
    have := (pendB_iff.1 hp).1
    rw [hg i hi] at this
    split at this
    · rename_i e; rw [e]; rfl
    · omega
end Go.Proofs.YtahcpjgaogghiaaGreat
