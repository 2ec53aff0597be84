/- The clocks seat: the join of two clocks; one part more. -/
import Derived.Test.YtohcdbldphedkaaDoorK2
set_option linter.unusedVariables false
set_option linter.unusedSimpArgs false
namespace Go.Proofs.YtohcdbldphedkaaDoor
open Go.X
def midJ (a b : Ck) : Nat → Ck
  | 0 => a
  | n + 1 => (midJ a b n).set n (max (a.get n) (b.get n))
theorem midJ_get (a b : Ck) : ∀ (n i : Nat), n ≤ 8 → (midJ a b n).get i = if i < n then max (a.get i) (b.get i) else a.get i
  | 0, i, _ => by rw [if_neg (by omega)]; rfl
  | n + 1, i, h => by
    rw [midJ, get_set _ (by omega), midJ_get a b n i (by omega)]
    by_cases e : i = n
    · subst e; rw [if_pos rfl, if_pos (by omega)]
    · rw [if_neg e]
      by_cases h1 : i < n
      · rw [if_pos h1, if_pos (by omega)]
      · rw [if_neg h1, if_neg (by omega)]
theorem midJ_8 (a b : Ck) : midJ a b 8 = jn a b := Ck.ext_get fun i hi => by rw [midJ_get a b 8 i (by omega), if_pos hi, jn_get a b hi]
section
variable {w : World} {K : Value → World → Prop} {KP : List PanicEntry → World → Prop}
theorem xr_ck_index {t : TypeId} (ht : Tryd.prog.underlying t = some (.array 8 2)) {c : Ck} {n : Int} (h0 : 0 ≤ n) (h1 : n < 8) (h : K (.int .i64 (c.get n.toNat)) w) : XRun Tryd.prog (Instr.index t c.v (.int .i64 n)) w K := by
  have hrun : (Instr.index t c.v (.int .i64 n)).run Tryd.prog w = .ok (.int .i64 (c.get n.toNat)) w := by
    have hp : ∀ w, (part 2 #[.int .i64 c.c0, .int .i64 c.c1, .int .i64 c.c2, .int .i64 c.c3, .int .i64 c.c4, .int .i64 c.c5, .int .i64 c.c6, .int .i64 c.c7] n.toNat).run Tryd.prog w = .ok (.int .i64 (c.get n.toNat)) w := fun w => part2 (cells_get c (by omega)) w
    simp [Instr.index, Ck.v, asIntOf, run_underlying ht, size2, h0, h1, Result.andThen, hp]
  unfold XRun; rw [hrun]; exact ⟨KeepsD.refl _, h⟩
theorem xr_ck_slice {b : Nat} {t : TypeId} (ht : Tryd.prog.underlying t = some (.array 8 2)) (h : K (.slice (some ⟨b, 0, none⟩) 8 8) w) : XRun Tryd.prog (Instr.sliceAt t (.pointer (some ⟨b, 0, none⟩)) none none none) w K := by
  have hrun : (Instr.sliceAt t (.pointer (some ⟨b, 0, none⟩)) none none none).run Tryd.prog w = .ok (.slice (some ⟨b, 0, none⟩) 8 8) w := by
    simp [Instr.sliceAt, Instr.sureAddr, Instr.sliceBounds, run_underlying ht, size2, Result.andThen]
  unfold XRun; rw [hrun]; exact ⟨KeepsD.refl _, h⟩
theorem xr_ck_sliceTo {b : Nat} {t : TypeId} (ht : Tryd.prog.underlying t = some (.array 8 2)) {n : Int} (h0 : 0 ≤ n) (h1 : n ≤ 8) (h : K (.slice (some ⟨b, 0, none⟩) n.toNat 8) w) : XRun Tryd.prog (Instr.sliceAt t (.pointer (some ⟨b, 0, none⟩)) none (some (.int .i64 n)) none) w K := by
  have hrun : (Instr.sliceAt t (.pointer (some ⟨b, 0, none⟩)) none (some (.int .i64 n)) none).run Tryd.prog w = .ok (.slice (some ⟨b, 0, none⟩) n.toNat 8) w := by
    simp [Instr.sliceAt, Instr.sureAddr, Instr.sliceBounds, Instr.sliceBound, asIntOf, h0, h1, run_underlying ht, size2, Result.andThen]
  unfold XRun; rw [hrun]; exact ⟨KeepsD.refl _, h⟩
theorem C14 {n : Int} (h : K (.int .i64 n) w) : XCP Tryd.prog 14 [.int .i64 n] w K KP := by
  refine E14 ?_
  exact h
theorem C48 {a b : Ck} (h : ∀ u, Ex w u → K (jn a b).v u) : XCP Tryd.prog 48 [a.v, b.v] w K KP := by
  refine E48 ?_
  unfold F48
  intro w0 p w1 p1 w2 p2
  have hs : Sep w2 (bx w1.heap.size ck0.cells 79 :: bx w0.heap.size b.cells 79 :: bx w.heap.size a.cells 79 :: [oldA w]) := (((Sep.begin w).box _ _).box _ _).box _ _
  clear_value w2
  refine ⟨_, _, _, _, _, _, _, _, hs.bx1.lds, ?_⟩
  refine iter 8 (fun n u => Sep u (bx w1.heap.size ck0.cells 79 :: bx w0.heap.size b.cells 79 :: bx w.heap.size (midJ a b n).cells 79 :: [oldA w])) hs (fun I μ n u hs hlt next => ?_) fun I μ u hs => ?_
  · have hg : (midJ a b n).get n = a.get n := by rw [midJ_get a b n n (by omega), if_neg (Nat.lt_irrefl n)]
    rw [if_pos (by simp; omega)]
    refine xr_ck_index (c := b) und79 (by omega) (by omega) ⟨_, rfl, by omega, by omega, _, ck_ld hs.bx2 hlt, ?_⟩
    rw [Int.toNat_natCast]
    refine xr_max (v := .int .i64 (max ((midJ a b n).get n) (b.get n))) (by simp [maxV, max2V]; split <;> omega) ⟨_, rfl, by omega, by omega, ?_⟩
    rw [Nat.mul_one, hg]
    show storeP u (Addr.add ⟨w.heap.size, 0, none⟩ n) _ _
    rw [add_lit, Nat.zero_add]
    refine hs.putAt 2 rfl (o := n) (by simp [Ck.cells]; omega) fun w6 _ hs => ?_
    rw [cells_set _ hlt] at hs
    rw [wi (by omega) (by omega)]
    exact next _ hs
  · rw [if_neg (by decide)]
    rw [midJ_8] at hs
    refine ⟨_, _, _, _, _, _, _, _, hs.bx2.lds, hs.fill (vs := (jn a b).cells) rfl fun w7 _ hs => ⟨_, _, _, _, _, _, _, _, hs.bx0.lds, h _ (hs.ex 3 rfl)⟩⟩
theorem C22 {a b : Ck} (h : ∀ u, Ex w u → K (jn a b).v u) : XCP Tryd.prog 22 [a.v, b.v] w K KP := by
  refine E22 ?_
  unfold F22
  intro w0 p w1 p1 w2 p2
  have hs : Sep w2 (bx w1.heap.size ck0.cells 23 :: bx w0.heap.size b.cells 23 :: bx w.heap.size a.cells 23 :: [oldA w]) := (((Sep.begin w).box _ _).box _ _).box _ _
  clear_value w2
  refine ⟨_, _, _, _, _, _, _, _, hs.bx2.lds, _, _, _, _, _, _, _, _, hs.bx1.lds, ?_⟩
  refine C48 (a := a) (b := b) fun u e => ⟨_, _, _, _, _, _, _, _, rfl, ?_⟩
  replace hs := hs.ext e
  exact hs.fill (vs := (jn a b).cells) rfl fun w7 _ hs => ⟨_, _, _, _, _, _, _, _, hs.bx0.lds, h _ (hs.ex 3 rfl)⟩
theorem C23 {a b : Ck} (h : ∀ u, Ex w u → K (jn a b).v u) : XCP Tryd.prog 23 [a.v, b.v] w K KP := by
  refine E23 ?_
  unfold F23
  intro w0 p w1 p1 w2 p2
  have hs : Sep w2 (bx w1.heap.size ck0.cells 23 :: bx w0.heap.size b.cells 23 :: bx w.heap.size a.cells 23 :: [oldA w]) := (((Sep.begin w).box _ _).box _ _).box _ _
  clear_value w2
  refine iter 8 (fun n u => Sep u (bx w1.heap.size ck0.cells 23 :: bx w0.heap.size b.cells 23 :: bx w.heap.size (midJ a b n).cells 23 :: [oldA w])) hs (fun I μ n u hs hlt next => ?_) fun I μ u hs => ?_
  · rw [if_pos (by simp; omega)]
    intro kb hkb
    refine ⟨fun x => Ex u x, Ex.drew u, ?_⟩
    intro w5
    have hs5 : Sep w5 _ := hs.drew
    refine ⟨by omega, by omega, _, fun x hx => ck_ld (hs.ext hx).bx1 hlt, by omega, by omega, _, fun x hx => ck_ld (hs.ext hx).bx2 hlt, ?_⟩
    clear_value w5
    have hg : (midJ a b n).get n = a.get n := by rw [midJ_get a b n n (by omega), if_neg (Nat.lt_irrefl n)]
    rw [Int.toNat_natCast, hg]
    by_cases hc : b.get n > a.get n
    · rw [if_pos (by simpa using hc)]
      refine ⟨by omega, by omega, _, ck_ld hs5.bx1 hlt, by omega, by omega, ?_⟩
      rw [Nat.mul_one]
      show storeP w5 (Addr.add ⟨w.heap.size, 0, none⟩ n) _ _
      rw [add_lit, Nat.zero_add]
      refine hs5.putAt 2 rfl (o := n) (by simp [Ck.cells]; omega) fun w6 _ hs => hkb _ ?_
      rw [cells_set _ hlt] at hs
      rw [wi (by omega) (by omega)]
      refine next _ ?_
      rw [midJ, show max (a.get n) (b.get n) = b.get n by omega]
      exact hs
    · rw [if_neg (by simpa using hc)]
      refine hkb _ ?_
      rw [wi (by omega) (by omega)]
      refine next _ ?_
      have : midJ a b (n + 1) = midJ a b n := Ck.ext_get fun i hi => by
        rw [midJ_get a b _ i (by omega), midJ_get a b _ i (by omega)]
        by_cases e : i = n
        · subst e; rw [if_pos (by omega), if_neg (by omega)]; omega
        · by_cases h1 : i < n
          · rw [if_pos h1, if_pos (by omega)]
          · rw [if_neg h1, if_neg (by omega)]
      rw [this]
      exact hs5
  · rw [if_neg (by decide)]
    rw [midJ_8] at hs
    refine ⟨_, _, _, _, _, _, _, _, hs.bx2.lds, hs.fill (vs := (jn a b).cells) rfl fun w7 _ hs => ⟨_, _, _, _, _, _, _, _, hs.bx0.lds, h _ (hs.ex 3 rfl)⟩⟩
/-- the first that is such -/
theorem C71 {s : Sl} {xs : List Int} {G : Nat → Prop} {f : Int → Bool} {fv : Value} (hx : SlR (.int .i64) w G s xs) (hl : xs.length ≤ 1000000)
    (hf : ∀ x u, Ex w u → ∀ K1 : Value → World → Prop, (∀ u1, Ex u u1 → K1 (.bool (f x)) u1) → XCV Tryd.prog fv [.int .i64 x] u K1 KP)
    (h : ∀ r u, Ex w u → (0 ≤ r ↔ ∃ x ∈ xs, f x = true) → K (.int .i64 r) u) : XCP Tryd.prog 71 [s.v, fv] w K KP := by
  show XCP Tryd.prog 71 [.slice s.a s.l s.c, fv] w K KP
  refine E71 ?_
  unfold F71
  have hln := hx.len
  refine each xs.length (fun i => ∀ x, xs[i]? = some x → f x = false) (fun I μ n u hu hlt hpre next => ?_) fun I μ u hu hall => ?_
  · rw [if_pos (by simp; omega)]
    obtain ⟨p, hp, hc⟩ := hx.int hlt
    rw [hp, xptr_some]
    refine ⟨by omega, by omega, _, by rw [Int.toNat_natCast, Nat.mul_one]; exact hu.cell hc, ?_⟩
    refine hf _ u hu _ fun u1 e1 => ⟨_, rfl, ?_⟩
    cases hb : f xs[n] with
    | true =>
      rw [if_pos rfl]
      exact h _ u1 (hu.trans e1) ⟨fun _ => ⟨_, List.getElem_mem hlt, hb⟩, fun _ => by omega⟩
    | false =>
      rw [if_neg (by decide), wi (by omega) (by omega)]
      exact next (fun x hx => by rw [List.getElem?_eq_getElem hlt] at hx; injection hx with hx; rw [← hx]; exact hb) _ e1
  · rw [if_neg (by simp; omega)]
    refine h _ u hu ⟨fun h => by omega, fun ⟨x, hm, hb⟩ => ?_⟩
    obtain ⟨i, hi, rfl⟩ := List.getElem_of_mem hm
    rw [hall i hi _ (List.getElem?_eq_getElem hi)] at hb; cases hb
theorem C42 {s : Sl} {xs : List Int} {G : Nat → Prop} (hx : SlR (.int .i64) w G s xs) (hl : xs.length ≤ 1000000) (h : ∀ u, Ex w u → K (.bool (xs.all okN)) u) : XCP Tryd.prog 42 [s.v, .func (.func 43) #[] #[]] w K KP := by
  show XCP Tryd.prog 42 [.slice s.a s.l s.c, .func (.func 43) #[] #[]] w K KP
  refine E42 ?_
  unfold F42
  show (let w0 : World := World.alloc w (.cells #[.func (.func 43) #[] #[]] 70); let p : Addr := ⟨w.heap.size, 0, none⟩; XCP Tryd.prog 64 [.slice s.a s.l s.c, .func (.func 65) #[] #[.pointer (some p)]] w0 _ KP)
  intro w0 p
  have hs : Sep w0 (bx w.heap.size [.func (.func 43) #[] #[]] 70 :: [oldA w]) := (Sep.begin w).box _ _
  clear_value w0
  refine E64 ?_
  unfold F64
  refine C71 (f := fun x => !okN x) (s := s) (hx.ex (hs.ex 1 rfl)) hl (fun x u hu K1 hk => ?_) fun r u hu hr => ⟨_, rfl, _, rfl, ?_⟩
  · show XCP Tryd.prog 65 [.int .i64 x, .pointer (some ⟨w.heap.size, 0, none⟩)] u K1 KP
    refine E65 ?_
    unfold F65
    rw [xptr_some]
    refine ⟨_, (hs.ext hu).bx0.ld' rfl, ?_⟩
    show XCP Tryd.prog 43 [.int .i64 x] u _ KP
    refine E43 ?_
    unfold F43
    exact ⟨_, rfl, hk _ (Ex.refl _)⟩
  · have := h u ((hs.ex 1 rfl).trans hu)
    have e : (!decide (r ≥ 0)) = xs.all okN := by
      cases ha : xs.all okN with
      | true =>
        have : ¬ 0 ≤ r := fun h0 => by
          obtain ⟨x, hm, hb⟩ := hr.1 h0
          have := (List.all_eq_true.1 ha) x hm
          simp [this] at hb
        simpa using this
      | false =>
        have : 0 ≤ r := hr.2 (by
          obtain ⟨x, hm, hb⟩ := List.all_eq_false.1 ha
          exact ⟨x, hm, by simpa using hb⟩)
        simpa using this
    rw [e]; exact this
theorem C44 {a : Ck} (h : ∀ u, Ex w u → K (.bool a.ok) u) : XCP Tryd.prog 44 [a.v] w K KP := by
  refine E44 ?_
  unfold F44
  intro w0 p
  have hs : Sep w0 (bx w.heap.size a.cells 23 :: [oldA w]) := (Sep.begin w).box _ _
  clear_value w0
  refine each 8 (fun i => okN (a.get i) = true) (fun I μ n u hu hlt hpre next => ?_) fun I μ u hu hall => ?_
  · rw [if_pos (by simp; omega)]
    replace hs := hs.ext hu
    refine ⟨by omega, by omega, _, ck_ld hs.bx0 hlt, ?_⟩
    rw [Int.toNat_natCast]
    refine or_join (c := decide (a.get n > 4611686018427387904)) (fun kb hk => ⟨by omega, by omega, _, ck_ld hs.bx0 hlt, hk _ (Ex.refl _)⟩) fun u1 e1 => ?_
    cases hb : okN (a.get n) with
    | true =>
      rw [if_neg (by unfold okN at hb; simp at hb ⊢; omega), wi (by omega) (by omega)]
      exact next hb _ e1
    | false =>
      rw [if_pos (by unfold okN at hb; simp at hb ⊢; omega)]
      have := h u1 ((hs.ex 1 rfl).trans e1)
      rwa [show a.ok = false from by
        cases ho : a.ok with
        | false => rfl
        | true => rw [(ok_iff a).1 ho n hlt] at hb; cases hb] at this
  · rw [if_neg (by decide)]
    have := h u ((hs.ex 1 rfl).trans hu)
    rwa [show a.ok = true from (ok_iff a).2 hall] at this
theorem tk_no {c : Ck} {t : Int} (h : c.ok = false) : tk c t = (ck0, 2) := by unfold tk; rw [if_neg (by rw [h]; decide)]
theorem tk_range {c : Ck} {t : Int} (h : c.ok = true) (h2 : (t < 0 ∨ t ≥ 8) ∨ c.get t.toNat = 4611686018427387904) : tk c t = (ck0, 4) := by
  unfold tk; rw [if_pos h, if_pos (by rcases h2 with (h | h) | h; exact .inl h; exact .inr (.inl h); exact .inr (.inr h))]
theorem tk_yes {c : Ck} {t : Int} (h : c.ok = true) (h0 : 0 ≤ t) (h8 : t < 8) (h2 : c.get t.toNat ≠ 4611686018427387904) : tk c t = (c.set t.toNat (c.get t.toNat + 1), 0) := by
  unfold tk; rw [if_pos h, if_neg (by rintro (h | h | h); omega; omega; exact h2 h)]
theorem all_l (c : Ck) : c.l.all okN = c.ok := rfl
theorem ck_ints (c : Ck) : ints c.l = c.cells := rfl
theorem SlR.of_blk {c : Ck} {b : Nat} {t : TypeId} (h : Blk w b c.cells t) : SlR (.int .i64) w TG ⟨some ⟨b, 0, none⟩, 8, 8⟩ c.l := by
  refine SlR.of_ints (t := t) ⟨rfl, Nat.le_refl _, .inr ⟨b, 0, c.cells, rfl, trivial, h, (show 0 + 8 * 1 ≤ 8 by decide), fun i v hv => ?_⟩⟩
  rw [Nat.zero_add, ← ck_ints]; exact hv
theorem C12 {c : Ck} {t : Int} (h : ∀ u, Ex w u → K (.tuple #[(tk c t).1.v, .int .i64 (tk c t).2]) u) : XCP Tryd.prog 12 [c.v, .int .i64 t] w K KP := by
  refine E12 ?_
  unfold F12
  intro w0 p w1 p1
  have hs : Sep w1 (bx w0.heap.size ck0.cells 23 :: bx w.heap.size c.cells 23 :: [oldA w]) := ((Sep.begin w).box _ _).box _ _
  clear_value w1
  refine xr_ck_slice und23 ⟨_, _, _, rfl, ?_⟩
  refine C42 (s := ⟨some ⟨w.heap.size, 0, none⟩, 8, 8⟩) (xs := c.l) (SlR.of_blk hs.bx1) (show 8 ≤ 1000000 by decide) fun u1 e1 => ⟨_, rfl, ?_⟩
  replace hs := hs.ext e1
  rw [all_l]
  cases hok : c.ok with
  | false =>
    rw [if_pos (by decide)]
    rw [tk_no hok] at h
    exact hs.fill (vs := ck0.cells) rfl fun w4 _ hs => ⟨_, _, _, _, _, _, _, _, hs.bx0.lds, h _ (hs.ex 2 rfl)⟩
  | true =>
    rw [if_neg (by decide)]
    intro kb hkb
    have hbad : ∀ u, Ex u1 u → ((t < 0 ∨ t ≥ 8) ∨ c.get t.toNat = 4611686018427387904) → kb true u := fun u e hr => by
      rw [tk_range hok hr] at h
      refine hkb _ _ ?_
      rw [if_pos rfl]
      exact (hs.ext e).fill (vs := ck0.cells) rfl fun w4 _ hs => ⟨_, _, _, _, _, _, _, _, hs.bx0.lds, h _ (hs.ex 2 rfl)⟩
    by_cases ht : t < 0 ∨ t ≥ 8
    · rw [if_pos (by simpa using ht)]
      exact hbad _ (Ex.refl _) (.inl ht)
    · rw [if_neg (by simpa using ht)]
      have h0 : 0 ≤ t := by omega
      have h8 : t < 8 := by omega
      have hn : t.toNat < 8 := by omega
      refine ⟨h0, by omega, _, ck_ld hs.bx1 hn, ?_⟩
      by_cases hm : c.get t.toNat = 4611686018427387904
      · rw [show (c.get t.toNat == 4611686018427387904) = true from by simpa using hm]
        exact hbad _ (Ex.refl _) (.inr hm)
      · rw [show (c.get t.toNat == 4611686018427387904) = false from by simpa using hm]
        refine hkb _ _ ?_
        rw [if_neg (by decide)]
        refine ⟨h0, by omega, _, ck_ld hs.bx1 hn, h0, by omega, ?_⟩
        have hb := (ok_iff c).1 hok _ hn
        unfold okN at hb
        simp only [Bool.and_eq_true, decide_eq_true_eq] at hb
        rw [tk_yes hok h0 h8 hm] at h
        rw [wi (by omega) (by omega), Nat.mul_one]
        show storeP u1 (Addr.add ⟨w.heap.size, 0, none⟩ t.toNat) _ _
        rw [add_lit, Nat.zero_add]
        refine hs.putAt 1 rfl (o := t.toNat) (by simp [Ck.cells]; omega) fun w6 _ hs => ?_
        rw [cells_set _ hn] at hs
        exact ⟨_, _, _, _, _, _, _, _, hs.bx1.lds, hs.fill (vs := (c.set t.toNat (c.get t.toNat + 1)).cells) rfl fun w7 _ hs => ⟨_, _, _, _, _, _, _, _, hs.bx0.lds, h _ (hs.ex 2 rfl)⟩⟩
theorem C13 {c : Ck} {t : Int} (h : ∀ u, Ex w u → K (.tuple #[(tk c t).1.v, .int .i64 (tk c t).2]) u) : XCP Tryd.prog 13 [c.v, .int .i64 t] w K KP := by
  refine E13 ?_
  unfold F13
  intro w0 p w1 p1
  have hs : Sep w1 (bx w0.heap.size ck0.cells 23 :: bx w.heap.size c.cells 23 :: [oldA w]) := ((Sep.begin w).box _ _).box _ _
  clear_value w1
  refine ⟨_, _, _, _, _, _, _, _, hs.bx1.lds, ?_⟩
  refine C44 (a := c) fun u1 e1 => ⟨_, rfl, ?_⟩
  replace hs := hs.ext e1
  cases hok : c.ok with
  | false =>
    rw [if_pos (by decide)]
    rw [tk_no hok] at h
    exact hs.fill (vs := ck0.cells) rfl fun w4 _ hs => ⟨_, _, _, _, _, _, _, _, hs.bx0.lds, h _ (hs.ex 2 rfl)⟩
  | true =>
    rw [if_neg (by decide)]
    intro kb hkb
    have hbad : ∀ u, Ex u1 u → ((t < 0 ∨ t ≥ 8) ∨ c.get t.toNat = 4611686018427387904) → kb true u := fun u e hr => by
      rw [tk_range hok hr] at h
      refine hkb _ _ ?_
      rw [if_pos rfl]
      exact (hs.ext e).fill (vs := ck0.cells) rfl fun w4 _ hs => ⟨_, _, _, _, _, _, _, _, hs.bx0.lds, h _ (hs.ex 2 rfl)⟩
    by_cases ht : t < 0 ∨ t ≥ 8
    · rw [if_pos (by simpa using ht)]
      exact hbad _ (Ex.refl _) (.inl ht)
    · rw [if_neg (by simpa using ht)]
      have h0 : 0 ≤ t := by omega
      have h8 : t < 8 := by omega
      have hn : t.toNat < 8 := by omega
      refine ⟨h0, by omega, _, ck_ld hs.bx1 hn, ?_⟩
      by_cases hm : c.get t.toNat = 4611686018427387904
      · rw [show (c.get t.toNat == 4611686018427387904) = true from by simpa using hm]
        exact hbad _ (Ex.refl _) (.inr hm)
      · rw [show (c.get t.toNat == 4611686018427387904) = false from by simpa using hm]
        refine hkb _ _ ?_
        rw [if_neg (by decide)]
        refine ⟨h0, by omega, _, ck_ld hs.bx1 hn, h0, by omega, ?_⟩
        have hb := (ok_iff c).1 hok _ hn
        unfold okN at hb
        simp only [Bool.and_eq_true, decide_eq_true_eq] at hb
        rw [tk_yes hok h0 h8 hm] at h
        rw [wi (by omega) (by omega), Nat.mul_one]
        show storeP u1 (Addr.add ⟨w.heap.size, 0, none⟩ t.toNat) _ _
        rw [add_lit, Nat.zero_add]
        refine hs.putAt 1 rfl (o := t.toNat) (by simp [Ck.cells]; omega) fun w6 _ hs => ?_
        rw [cells_set _ hn] at hs
        exact ⟨_, _, _, _, _, _, _, _, hs.bx1.lds, hs.fill (vs := (c.set t.toNat (c.get t.toNat + 1)).cells) rfl fun w7 _ hs => ⟨_, _, _, _, _, _, _, _, hs.bx0.lds, h _ (hs.ex 2 rfl)⟩⟩
end
end Go.Proofs.YtohcdbldphedkaaDoor
