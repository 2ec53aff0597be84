/- The vm seat: what the document's layer 5 makes of an expression of two numbers. -/
import Derived.Test.YtahcpjgaogghiaaGreatMB
/- The vm seat: what the document's layer 5 makes of an expression of two numbers. -/
set_option linter.unusedVariables false
set_option linter.unusedSimpArgs false
set_option maxRecDepth 10000
set_option maxHeartbeats 400000
namespace Go.Proofs.YtahcpjgaogghiaaGreat
open Go.X Go.Heap
theorem T139 : SlT Tryz.prog 139 65 3 24 [.int .i64 0, .bool false, .int .i64 0] := ⟨by kernel_rfl, by kernel_rfl⟩
theorem T136 : SlT Tryz.prog 136 138 7 80 [.int .i64 0, .int .i64 0, .string ByteArray.empty, .int .i64 0, .bool false, .int .i64 0, .slice none 0 0] := ⟨by kernel_rfl, by kernel_rfl⟩
section
variable {w : World} {K : Value → World → Prop} {KP : List PanicEntry → World → Prop}
theorem appNil {L : List Assn} {s : Sl} (hw : Sep w (row 3 65 s [] :: L)) (hl : s.l = 0) (h : ∀ s' u, s'.l = 0 → Sep u (row 3 65 s' [] :: L) → K s'.v u) : XRun Tryz.prog (Builtin.append_ #[139, 139] 139 (List.toArray [.slice s.a s.l s.c, .slice none 0 0])) w K := by
  refine Sep.append T139 rfl hw (x := nilSl) (X := T0) (xs := []) (.inl rfl) rfl (fun u hu => by cases hu) ?_ ?_ fun s' u h1 h2 h3 => ?_
  · show (s.l + 0) * 24 ≤ _; omega
  · show s.l + 0 ≤ _; omega
  · exact h s' u (by have : s'.l = s.l + 0 := h1; omega) h3
theorem C68b {c a b : Int} {sA : Sl} {pA : Addr} (hc : 10 ≤ c ∧ c ≤ 18) (ha : valB a = true) (hb : valB b = true) (hA : sA.a = some pA) (hAl : sA.l = 2)
    (hA0 : ∀ z, Ex w z → cellsAt z (pA.add (Int.toNat 0 * 7)) 0 (exC 1 a 0 nilSl)) (hA1 : ∀ z, Ex w z → cellsAt z (pA.add (Int.toNat 1 * 7)) 0 (exC 1 b 0 nilSl))
    (h : ∀ (s : Sl) u, Ex w u → K (.agg #[.int .i64 (pairE (twoF c a b)).1, .int .i64 (pairE (twoF c a b)).2, s.v]) u) : XCP Tryz.prog 68 [.agg stZ.toArray, .agg (exC 6 0 (c - 7) sA).toArray, nilS] w K KP := by
  refine E68 ?_
  unfold F68
  intro w0 p w1 p1 w2 p2
  have hs : Sep w2 (bx w1.heap.size [i0, i0, nilS] 141 :: bx w0.heap.size (exC 6 0 (c - 7) sA) 138 :: bx w.heap.size stZ 149 :: [oldA w]) := (((Sep.begin w).box _ _).box _ _).box _ _
  clear_value w2
  refine ⟨_, hs.bx1.ld rfl, ?_⟩
  rw [if_neg (by decide), if_neg (by decide)]
  intro kb hkb
  have e2 : Ex w w2 := hs.ex 3 rfl
  have hkb' : ∀ r1 z, Sep z (bx r1 [.int .i64 a, i0, nilS] 141 :: bx w1.heap.size [i0, i0, nilS] 141 :: bx w0.heap.size (exC 6 0 (c - 7) sA) 138 :: bx w.heap.size stZ 149 :: [oldA w]) → kb (some ⟨r1, 0, none⟩) z := by
    intro r1 z hz
    refine hkb _ _ ?_
    rw [xptr_some]
    refine ⟨_, hz.bx0.ld rfl, ?_⟩
    rw [if_neg (by decide)]
    refine ⟨_, hz.bx2.ld rfl, ?_⟩
    rw [if_neg (by decide), if_neg (by decide), if_neg (by decide)]
    refine ⟨c - 7, hz.bx2.ld rfl, ?_⟩
    intro kb1 hk1
    rw [if_neg (by simp; omega)]
    refine hk1 _ _ ?_
    intro kb2 hk2
    rw [if_neg (by decide)]
    intro kb4 hk4
    rw [if_neg (by simp; omega)]
    refine hk4 _ _ (hk2 _ _ ?_)
    rw [if_neg (by decide)]
    intro kb3 hk3
    have hkb3' : ∀ r2 y, Sep y (bx r2 [.int .i64 b, i0, nilS] 141 :: bx r1 [.int .i64 a, i0, nilS] 141 :: bx w1.heap.size [i0, i0, nilS] 141 :: bx w0.heap.size (exC 6 0 (c - 7) sA) 138 :: bx w.heap.size stZ 149 :: [oldA w]) → kb3 (some ⟨r2, 0, none⟩) y := by
      intro r2 y hy
      refine hk3 _ _ ?_
      refine ⟨fun v => Blk v r1 [.int .i64 a, i0, nilS] 141 ∧ Blk v r2 [.int .i64 b, i0, nilS] 141, ⟨hy.drew.bx1, hy.drew.bx0⟩, ?_⟩
      rw [xptr_some]
      refine ⟨_, _, _, fun v hv => hv.1.ld rfl, ?_⟩
      rw [xptr_some]
      refine ⟨_, _, _, fun v hv => hv.2.ld rfl, ?_⟩
      have hy1 := hy.drew.add (A := row 3 65 nilSl []) (fun D => Fr.refl D _) (Own.none _ 3 65 _)
      refine appNil (s := nilSl) hy1 rfl fun s1 u1 l1 hs1 => ⟨_, _, _, rfl, ⟨hs1.bx2, hs1.bx1⟩, ?_⟩
      refine appNil (s := s1) hs1 l1 fun s2 u2 l2 hs2 => ⟨_, _, _, rfl, fun _ => True, trivial, ?_⟩
      rw [xptr_some]
      show storeP u2 ⟨r2, 2, none⟩ _ _
      refine hs2.putAt 1 rfl (o := 2) (by simp) fun u3 _ hs3 => ?_
      rw [xptr_some]
      have hs3 : Sep u3 (row 3 65 s2 [] :: bx r2 [.int .i64 b, i0, s2.v] 141 :: bx r1 [.int .i64 a, i0, nilS] 141 :: bx w1.heap.size [i0, i0, nilS] 141 :: bx w0.heap.size (exC 6 0 (c - 7) sA) 138 :: bx w.heap.size stZ 149 :: [oldA w]) := hs3
      refine ⟨_, hs3.bx1.ld rfl, ?_⟩
      rw [if_neg (by decide), if_neg (by simp; omega), xptr_some]
      refine ⟨_, hs3.bx2.ld rfl, ?_⟩
      rw [xptr_some]
      refine ⟨_, hs3.bx1.ld rfl, ?_⟩
      refine C114 hc ha hb ⟨_, _, rfl, ?_⟩
      rw [xptr_some]
      refine ⟨_, _, _, hs3.bx1.ld rfl, ?_⟩
      refine Sep.fillAt hs3 3 rfl (vs := [.int .i64 (pairE (twoF c a b)).1, .int .i64 (pairE (twoF c a b)).2, s2.v]) rfl fun u4 _ hs4 => ?_
      exact ⟨_, _, _, _, _, (hs4.blkAt 3 rfl).lds, h _ u4 (hs4.ex 6 rfl)⟩
    have ez : Ex w z := hz.ex 4 rfl
    refine ⟨fun v => Ex z v, Ex.drew z, ?_⟩
    refine ⟨_, _, _, _, _, _, _, _, _, _, _, _, _, _, _, _, _, _, _, _, _, _, _, _, _, _, _, _, _, _, _, _, _, _, _, _, _, _, _, _, _, _, _, _, _, _, _, _, _, _, _, _, _, fun v hv => (hv.blk hz.bx3).lds, ?_⟩
    refine ⟨_, _, _, fun v hv => (hv.blk hz.bx2).ld (o := 6) rfl, ?_⟩
    rw [hA, xptr_some]
    refine ⟨by omega, by rw [hAl]; decide, ?_⟩
    refine ⟨_, _, _, _, _, _, _, _, _, fun v hv => hA1 v (ez.trans hv), ?_, ?_⟩
    · refine C68n fun u hu => ⟨_, _, _, _, _, rfl, (Ex.drew z).trans hu, ?_⟩
      intro w59 p30
      have hy : Sep w59 (bx u.heap.size [i0, i0, nilS] 141 :: _) := (hz.ext ((Ex.drew z).trans hu)).box _ _
      have e59 : Ex z w59 := ((Ex.drew z).trans hu).trans (Ex.alloc u _)
      clear_value w59
      refine ⟨e59, ?_⟩
      exact hy.fill (vs := [.int .i64 b, i0, nilS]) rfl fun w60 _ hy => hkb3' _ _ hy
    · intro w61 p31
      have hy : Sep w61 (bx z.drew.heap.size [i0, i0, nilS] 141 :: _) := hz.drew.box _ _
      have e61 : Ex z w61 := (Ex.drew z).trans (Ex.alloc z.drew _)
      clear_value w61
      refine ⟨e61, C68n fun u hu => ⟨_, _, _, _, _, rfl, e61.trans hu, ?_⟩⟩
      exact (hy.ext hu).fill (vs := [.int .i64 b, i0, nilS]) rfl fun w60 _ hy => hkb3' _ _ hy
  refine ⟨fun v => Ex w2 v, Ex.drew w2, ?_⟩
  refine ⟨_, _, _, _, _, _, _, _, _, _, _, _, _, _, _, _, _, _, _, _, _, _, _, _, _, _, _, _, _, _, _, _, _, _, _, _, _, _, _, _, _, _, _, _, _, _, _, _, _, _, _, _, _, fun v hv => (hv.blk hs.bx2).lds, ?_⟩
  refine ⟨_, _, _, fun v hv => (hv.blk hs.bx1).ld (o := 6) rfl, ?_⟩
  rw [hA, xptr_some]
  refine ⟨by omega, by rw [hAl]; decide, ?_⟩
  refine ⟨_, _, _, _, _, _, _, _, _, fun v hv => hA0 v (e2.trans hv), ?_, ?_⟩
  · refine C68n fun u hu => ⟨_, _, _, _, _, rfl, (Ex.drew w2).trans hu, ?_⟩
    intro w59 p30
    have hy : Sep w59 (bx u.heap.size [i0, i0, nilS] 141 :: _) := (hs.ext ((Ex.drew w2).trans hu)).box _ _
    have e59 : Ex w2 w59 := ((Ex.drew w2).trans hu).trans (Ex.alloc u _)
    clear_value w59
    refine ⟨e59, ?_⟩
    exact hy.fill (vs := [.int .i64 a, i0, nilS]) rfl fun w60 _ hy => hkb' _ _ hy
  · intro w61 p31
    have hy : Sep w61 (bx w2.drew.heap.size [i0, i0, nilS] 141 :: _) := hs.drew.box _ _
    have e61 : Ex w2 w61 := (Ex.drew w2).trans (Ex.alloc w2.drew _)
    clear_value w61
    refine ⟨e61, C68n fun u hu => ⟨_, _, _, _, _, rfl, e61.trans hu, ?_⟩⟩
    exact (hy.ext hu).fill (vs := [.int .i64 a, i0, nilS]) rfl fun w60 _ hy => hkb' _ _ hy
theorem C46 {c a b : Int} (hc : 10 ≤ c ∧ c ≤ 18) (ha : valB a = true) (hb : valB b = true) (h : ∀ u, Ex w u → K (.tuple #[.int .i64 (pairE (twoF c a b)).1, .int .i64 (pairE (twoF c a b)).2]) u) : XCP Tryz.prog 46 [.int .i64 c, .int .i64 a, .int .i64 b] w K KP := by
  refine E46 ?_
  unfold F46
  refine Sep.build (cs := exC 1 a 0 nilSl ++ exC 1 b 0 nilSl) T136 rfl (Sep.begin w) rfl rfl (by decide) fun sA w0 hl hs he => ⟨_, _, _, rfl, ?_⟩
  intro w1 p
  have hs1 : Sep w1 (bx w0.heap.size (exC 0 0 0 nilSl) 138 :: _) := hs.box _ _
  clear_value w1
  rw [wi (by omega) (by omega)]
  refine hs1.fill (vs := exC 6 0 (c - 7) sA) rfl fun w2 _ hs2 => ?_
  obtain ⟨G, hr, -, -⟩ := hs2.rowAt 1 rfl
  obtain ⟨pA, hpA, -, -⟩ := hr.isSome (i := 0) (v := .int .i64 1) rfl
  have e2 : Ex w w2 := hs2.ex 2 rfl
  have hcell : ∀ z, Ex w2 z → ∀ j v, (exC 1 a 0 nilSl ++ exC 1 b 0 nilSl)[j]? = some v → z.cell? (pA.add j) = some v := by
    intro z hz j v hv
    obtain ⟨p', hp', _, hc'⟩ := hr.isSome hv
    rw [hpA] at hp'; cases hp'
    exact hz.cell hc'
  refine ⟨_, _, _, _, _, _, _, _, _, hs2.bx0.lds, ?_⟩
  refine C68b (sA := sA) (pA := pA) hc ha hb hpA hl (fun z hz => cellsAt_of fun j v hv => ?_) (fun z hz => cellsAt_of fun j v hv => ?_) fun s u hu => ?_
  · rw [Nat.zero_add, addr_add]
    refine hcell z hz _ v ?_
    rw [show Int.toNat 0 * 7 + j = j by simp, List.getElem?_append_left (List.getElem?_eq_some_iff.1 hv).1]; exact hv
  · rw [Nat.zero_add, addr_add]
    refine hcell z hz _ v ?_
    rw [show Int.toNat 1 * 7 + j = 7 + j by rfl, List.getElem?_append_right (by show 7 ≤ _; omega)]
    rw [show 7 + j - (exC 1 a 0 nilSl).length = j by show 7 + j - 7 = j; omega]; exact hv
  · refine ⟨_, _, _, _, _, rfl, ?_⟩
    intro w4 p1
    have hs4 : Sep w4 (bx u.heap.size [i0, i0, nilS] 141 :: [oldA u]) := (Sep.begin u).box _ _
    clear_value w4
    refine hs4.fill (vs := [.int .i64 (pairE (twoF c a b)).1, .int .i64 (pairE (twoF c a b)).2, s.v]) rfl fun w5 _ hs5 => ?_
    have hB := hs5.drew.bx0
    refine ⟨fun z => Blk z u.heap.size [.int .i64 (pairE (twoF c a b)).1, .int .i64 (pairE (twoF c a b)).2, s.v] 141, hB, ?_⟩
    exact ⟨_, fun z hz => hz.ld rfl, _, fun z hz => hz.ld rfl, h _ (e2.trans (hu.trans (hs5.drew.ex 1 rfl)))⟩
end
end Go.Proofs.YtahcpjgaogghiaaGreat
/- The vm seat: small functions of the document's layer 9. -/
set_option linter.unusedVariables false
set_option linter.unusedSimpArgs false
set_option maxRecDepth 10000
set_option maxHeartbeats 1000000
namespace Go.Proofs.YtahcpjgaogghiaaGreat
open Go.X Go.Heap
theorem Rd.take {w : World} {a : Option Addr} {cs : List Value} {G : Nat → Prop} (h : Rd w a cs G) (n : Nat) : Rd w a (cs.take n) G := by
  rcases h with rfl | ⟨p, ha, hg, hc⟩
  · exact .inl (by simp)
  · refine .inr ⟨p, ha, hg, fun i v hv => hc i v ?_⟩
    rw [List.getElem?_take] at hv
    split at hv
    · exact hv
    · cases hv
section
variable {w : World} {K : Value → World → Prop} {KP : List PanicEntry → World → Prop}
theorem takeS {L : List Assn} {s : Sl} {xs : List Int} {G : Nat → Prop} (hw : Sep w L) (hs : ReadsI w G s xs) {n : Nat} (hn : n ≤ xs.length) (hx : xs.length ≤ 1000000)
    (h : ∀ s' u, Sep u (row 1 2 s' (ints (xs.take n)) :: L) → K s'.v u) : XRun Tryz.prog (Builtin.append_ #[22, 22] 22 (List.toArray [.slice none 0 0, .slice s.a n s.c])) w K := by
  have hw1 := hw.add (A := row 1 2 nilSl []) (fun D => Fr.refl D _) (Own.none _ 1 2 _)
  have hr := Rd.take (SlR.rdI hs) n
  rw [show (ints xs).take n = ints (xs.take n) by simp [ints, List.map_take]] at hr
  refine Sep.append (s := nilSl) T22 rfl hw1 (x := ⟨s.a, n, s.c⟩) hr ?_ (ints_one _) ?_ ?_ fun s' u h1 h2 h3 => ?_
  · show (ints (xs.take n)).length = n * 1; simp; omega
  · show (0 + n) * 8 ≤ _; omega
  · show 0 + n ≤ _; omega
  · rw [List.nil_append] at h3; exact h s' u h3
theorem D44 {f : Frm} {qf : FrmH} {G : Nat → Prop} {k : Nat} (hf : FrmP w G qf f) (hk : k ≤ f.stack.length) (hx : f.stack.length ≤ 1000000)
    (h : ∀ s' u, Sep u (row 1 2 s' (ints (f.stack.take (f.stack.length - k))) :: [oldA w]) → K s'.v u) : XCP Tryz.prog 44 [f.v qf, .int .i64 k] w K KP := by
  show XCP Tryz.prog 44 [.agg #[.int .i64 f.code, .int .i64 f.pc, .slice qf.sl.a qf.sl.l qf.sl.c, .slice qf.ss.a qf.ss.l qf.ss.c], .int .i64 k] w K KP
  refine E44 ?_
  unfold F44
  intro w0 p
  have hs : Sep w0 (bx w.heap.size (f.cells qf) 28 :: [oldA w]) := (Sep.begin w).box _ _
  clear_value w0
  have ls := hf.s.len
  have hlc := hf.s.2.1
  refine ⟨_, _, _, hs.bx0.ld rfl, _, _, _, hs.bx0.ld rfl, ?_⟩
  have e : IntKind.wrap .i64 ((qf.ss.l : Int) - k) = ((f.stack.length - k : Nat) : Int) := by rw [wi (by omega) (by omega)]; omega
  rw [e]
  refine ⟨by omega, by omega, ?_⟩
  rw [Int.toNat_natCast]
  exact takeS hs (hf.s.old (hs.ex 1 rfl)) (by omega) hx fun s' u hu => ⟨_, _, _, rfl, h s' u (hu.dropAt 1 rfl)⟩
theorem D41 {f : Frm} {qf : FrmH} {G : Nat → Prop} {k : Nat} {v : Int} (hf : FrmP w G qf f) (hk : k ≤ f.stack.length) (hx : f.stack.length ≤ 1000000)
    (h : ∀ s' u, Sep u (row 1 2 s' (ints (f.stack.take (f.stack.length - k) ++ [v])) :: [oldA w]) → K s'.v u) : XCP Tryz.prog 41 [f.v qf, .int .i64 k, .int .i64 v] w K KP := by
  show XCP Tryz.prog 41 [.agg #[.int .i64 f.code, .int .i64 f.pc, .slice qf.sl.a qf.sl.l qf.sl.c, .slice qf.ss.a qf.ss.l qf.ss.c], .int .i64 k, .int .i64 v] w K KP
  refine E41 ?_
  unfold F41
  intro w0 p
  have hs : Sep w0 (bx w.heap.size (f.cells qf) 28 :: [oldA w]) := (Sep.begin w).box _ _
  clear_value w0
  refine ⟨_, _, _, _, _, _, _, _, hs.bx0.lds, ?_⟩
  refine D44 (hf.ex (hs.ex 1 rfl)) hk hx fun s1 u1 hs1 => ⟨_, _, _, rfl, ?_⟩
  have hl1 : s1.l = f.stack.length - k := by
    obtain ⟨_, _, _, hl⟩ := hs1.rowRd
    simp at hl; omega
  have hj := Sep.joins (M := [row 1 2 s1 (ints (f.stack.take (f.stack.length - k)))]) hs hs1
  refine Sep.build (cs := ints [v]) T22 rfl hj rfl rfl (by decide) fun s2 u2 l2 hs2 he2 => ⟨_, _, _, rfl, ?_⟩
  obtain ⟨G2, hr2, -, -⟩ := hs2.rowRd
  refine Sep.append T22 rfl hs2.tail (x := s2) hr2 (by simp [l2]) (ints_one _) (by omega) (by omega) fun s3 u3 l3 c3 hs3 => ⟨_, _, _, rfl, ?_⟩
  rw [← ints_append] at hs3
  exact h s3 u3 (hs3.dropAt 1 rfl)
theorem D43 {f : Frm} {qf : FrmH} {t : Int} (h : ∀ u, Ex w u → K (.tuple #[f.v qf, (trapDid t).v]) u) : XCP Tryz.prog 43 [f.v qf, .int .i64 t] w K KP := by
  show XCP Tryz.prog 43 [.agg #[.int .i64 f.code, .int .i64 f.pc, .slice qf.sl.a qf.sl.l qf.sl.c, .slice qf.ss.a qf.ss.l qf.ss.c], .int .i64 t] w K KP
  refine E43 ?_
  unfold F43
  intro w0 p w1 p1 w2 p2
  have hs : Sep w2 (bx w1.heap.size noDid.cells 68 :: bx w0.heap.size (noFrm.cells noFrmH) 28 :: bx w.heap.size (f.cells qf) 28 :: [oldA w]) := (((Sep.begin w).box _ _).box _ _).box _ _
  clear_value w2
  refine ⟨_, _, _, _, _, _, _, _, hs.bx2.lds, ?_⟩
  refine Sep.fillAt hs 1 rfl (vs := f.cells qf) rfl fun w3 _ hs => ?_
  refine Sep.fillAt hs 0 rfl (vs := (trapDid t).cells) rfl fun w4 _ hs => ?_
  exact ⟨_, _, _, _, _, _, _, _, (hs.blkAt 1 rfl).lds, _, _, _, _, _, _, _, _, _, _, (hs.blkAt 0 rfl).lds, h w4 (hs.ex 3 rfl)⟩
theorem C42 {u0 : World} {m : Mdl} {q : MdlH} {sC : Sl} {cs : List Int} {a i : Int} (hF : Fit u0 q m sC cs) (hw : Ex u0 w) (h0 : 0 ≤ a) (ha : a < m.arrays.length) (hi : valB i = true)
    (h : ∀ u, Ex w u → K (.int .i64 (if inArr m a i = true then cellN m a i else -1)) u) : XCP Tryz.prog 42 [m.v q, .int .i64 a, .int .i64 i] w K KP := by
  show XCP Tryz.prog 42 [.agg #[.slice q.sv.a q.sv.l q.sv.c, .slice q.sa.a q.sa.l q.sa.c, .slice q.sc.a q.sc.l q.sc.c, .int .i64 m.mutexes, .int .i64 m.conds, .slice q.st.a q.st.l q.st.c], .int .i64 a, .int .i64 i] w K KP
  refine E42 ?_
  unfold F42
  intro w0 p
  have hs : Sep w0 (bx w.heap.size (m.cells q) 26 :: [oldA w]) := (Sep.begin w).box _ _
  have hM : Blk w0 w.heap.size (m.cells q) 26 := hs.bx0
  have e0 : Ex w w0 := hs.ex 1 rfl
  clear hs
  clear_value w0
  have hi' := val_iff.1 hi
  have hat : a.toNat < m.arrays.length := by omega
  have hla := hF.mp.a.len
  have hlv := hF.mp.v.len
  refine or_join (c := decide (i ≥ m.arrays[a.toNat])) (fun kb hk => ?_) fun u1 e1 => ?_
  · refine ⟨_, _, _, hM.ld rfl, ?_⟩
    obtain ⟨p1, hp1, hc⟩ := (hF.mp.a.old (hw.trans e0)).int hat
    rw [hp1, xptr_some]
    exact ⟨h0, by omega, _, by simpa using hc, hk _ (Ex.refl _)⟩
  have hin : (decide (i < 0) || decide (i ≥ m.arrays[a.toNat])) = !inArr m a i := by
    rw [inArr, getD_get hat, Bool.eq_iff_iff]
    simp
  show if (decide (i < 0) || decide (i ≥ m.arrays[a.toNat])) = true then _ else _
  rw [hin]
  by_cases hia : inArr m a i = true
  rotate_left
  · rw [if_neg hia] at h
    rw [Bool.not_eq_true] at hia
    rw [hia, if_pos (by rfl)]
    exact h u1 (e0.trans e1)
  rw [if_pos hia] at h
  rw [hia, if_neg (by decide)]
  refine ⟨_, _, _, (e1.blk hM).ld rfl, ?_⟩
  have hvl := hF.vl
  have hal := hF.al
  refine ⟨fun n4 n5 u => ∃ k : Nat, n5 = k ∧ k ≤ a.toNat ∧ n4 = m.vars.length + (m.arrays.take k).sum ∧ Ex w0 u, fun _ n5 _ => a.toNat - n5.toNat, ⟨0, rfl, Nat.zero_le _, by rw [hlv]; simp, e1⟩, ?_⟩
  rintro n4 n5 u ⟨k, rfl, hk, rfl, hu⟩
  have hb := sum_take_le hF.av k
  by_cases hlt : k < a.toNat
  · rw [if_pos (by simp; omega)]
    refine ⟨_, _, _, (hu.blk hM).ld rfl, ?_⟩
    obtain ⟨p1, hp1, hc⟩ := (hF.mp.a.old (hw.trans (e0.trans hu))).int (i := k) (by omega)
    rw [hp1, xptr_some]
    have hv := hF.av m.arrays[k] (List.getElem_mem _)
    refine ⟨by omega, by omega, _, by simpa using hc, ?_⟩
    rw [wi (by omega) (by omega), wi (by omega) (by omega)]
    refine ⟨⟨k + 1, rfl, hlt, by rw [sum_take_add _ k (by omega)]; omega, hu⟩, ?_⟩
    show a.toNat - ((k : Int) + 1).toNat < a.toNat - ((k : Int)).toNat
    omega
  · rw [if_neg (by simp; omega)]
    have e : k = a.toNat := by omega
    subst e
    have hb := sum_take_le hF.av a.toNat
    rw [wi (by omega) (by omega)]
    have := h u (e0.trans hu)
    unfold cellN at this
    rwa [show (m.vars.length : Int) + (m.arrays.take a.toNat).sum + i = m.vars.length + i + (m.arrays.take a.toNat).sum by omega]
end
end Go.Proofs.YtahcpjgaogghiaaGreat
/- The vm seat: instructions that lead elsewhere, as the document says. -/
set_option linter.unusedVariables false
set_option linter.unusedSimpArgs false
set_option maxRecDepth 10000
set_option maxHeartbeats 400000
namespace Go.Proofs.YtahcpjgaogghiaaGreat
open Go.X Go.Heap
section
variable {w : World} {K : Value → World → Prop} {KP : List PanicEntry → World → Prop}
/-- a frame and what was done are handed back -/
theorem retK {L : List Assn} {z : World} {b4 b5 : Nat} {V4 V5 : List Value} {F : Frm} {q : FrmH} {D : DidV} (hz : Sep z (bx b5 V5 68 :: bx b4 V4 28 :: L)) (h4 : V4.length = 4) (h5 : V5.length = 10)
    (h : ∀ u, Sep u (bx b5 D.cells 68 :: bx b4 (F.cells q) 28 :: L) → K (.tuple #[F.v q, D.v]) u) :
    storesAt ⟨b4, 0, none⟩ 0 (F.cells q) z fun w10 => storesAt ⟨b5, 0, none⟩ 0 D.cells w10 fun w11 => ∃ (n14 : Int) (n15 : Int) (a11 : Option Addr) (l11 c11 : Nat) (a12 : Option Addr) (l12 c12 : Nat), cellsAt w11 ⟨b4, 0, none⟩ 0 [(.int .i64 n14), (.int .i64 n15), (.slice a11 l11 c11), (.slice a12 l12 c12)] ∧ ∃ (n16 : Int) (n17 : Int) (b : Bool) (n18 : Int) (n19 : Int) (n20 : Int) (n21 : Int) (n22 : Int) (n23 : Int) (n24 : Int), cellsAt w11 ⟨b5, 0, none⟩ 0 [(.int .i64 n16), (.int .i64 n17), (.bool b), (.int .i64 n18), (.int .i64 n19), (.int .i64 n20), (.int .i64 n21), (.int .i64 n22), (.int .i64 n23), (.int .i64 n24)] ∧ K (.tuple #[(.agg #[(.int .i64 n14), (.int .i64 n15), (.slice a11 l11 c11), (.slice a12 l12 c12)]), (.agg #[(.int .i64 n16), (.int .i64 n17), (.bool b), (.int .i64 n18), (.int .i64 n19), (.int .i64 n20), (.int .i64 n21), (.int .i64 n22), (.int .i64 n23), (.int .i64 n24)])]) w11 := by
  refine Sep.fillAt hz 1 rfl (by rw [h4]; rfl) fun u1 _ hs1 => ?_
  refine Sep.fillAt hs1 0 rfl (by rw [h5]; rfl) fun u2 _ hs2 => ?_
  exact ⟨_, _, _, _, _, _, _, _, (hs2.blkAt 1 rfl).lds, _, _, _, _, _, _, _, _, _, _, (hs2.blkAt 0 rfl).lds, h u2 hs2⟩
theorem retS {L : List Assn} {z : World} {b4 b5 : Nat} {V4 V5 : List Value} {F : Frm} {q : FrmH} {D : DidV} {S : World → Prop} (hz : Sep z (bx b5 V5 68 :: bx b4 V4 28 :: L)) (h4 : V4.length = 4) (h5 : V5.length = 10)
    (hS : ∀ u, Sep u (bx b5 V5 68 :: bx b4 (F.cells q) 28 :: L) → S u)
    (h : ∀ u, Sep u (bx b5 D.cells 68 :: bx b4 (F.cells q) 28 :: L) → K (.tuple #[F.v q, D.v]) u) :
    storesAt ⟨b4, 0, none⟩ 0 (F.cells q) z fun w10 => S w10 ∧ storesAt ⟨b5, 0, none⟩ 0 D.cells w10 fun w11 => ∃ (n14 : Int) (n15 : Int) (a11 : Option Addr) (l11 c11 : Nat) (a12 : Option Addr) (l12 c12 : Nat), cellsAt w11 ⟨b4, 0, none⟩ 0 [(.int .i64 n14), (.int .i64 n15), (.slice a11 l11 c11), (.slice a12 l12 c12)] ∧ ∃ (n16 : Int) (n17 : Int) (b : Bool) (n18 : Int) (n19 : Int) (n20 : Int) (n21 : Int) (n22 : Int) (n23 : Int) (n24 : Int), cellsAt w11 ⟨b5, 0, none⟩ 0 [(.int .i64 n16), (.int .i64 n17), (.bool b), (.int .i64 n18), (.int .i64 n19), (.int .i64 n20), (.int .i64 n21), (.int .i64 n22), (.int .i64 n23), (.int .i64 n24)] ∧ K (.tuple #[(.agg #[(.int .i64 n14), (.int .i64 n15), (.slice a11 l11 c11), (.slice a12 l12 c12)]), (.agg #[(.int .i64 n16), (.int .i64 n17), (.bool b), (.int .i64 n18), (.int .i64 n19), (.int .i64 n20), (.int .i64 n21), (.int .i64 n22), (.int .i64 n23), (.int .i64 n24)])]) w11 := by
  refine Sep.fillAt hz 1 rfl (by rw [h4]; rfl) fun u1 _ hs1 => ⟨hS u1 hs1, ?_⟩
  refine Sep.fillAt hs1 0 rfl (by rw [h5]; rfl) fun u2 _ hs2 => ?_
  exact ⟨_, _, _, _, _, _, _, _, (hs2.blkAt 1 rfl).lds, _, _, _, _, _, _, _, _, _, _, (hs2.blkAt 0 rfl).lds, h u2 hs2⟩
theorem FrmP.l' {w u : World} {G0 : Nat → Prop} {q : FrmH} {f : Frm} (hf : FrmP w G0 q f) (e : Ex w u) : ReadsI u (fun b => G0 b ∨ w.heap.size ≤ b) q.sl f.locals :=
  (SlR.frame hf.l (e (fun _ => False)) (fun _ _ h => h)).mono fun _ _ h => .inl h
theorem FrmP.s' {w u : World} {G0 : Nat → Prop} {q : FrmH} {f : Frm} (hf : FrmP w G0 q f) (e : Ex w u) : ReadsI u (fun b => G0 b ∨ w.heap.size ≤ b) q.ss f.stack :=
  (SlR.frame hf.s (e (fun _ => False)) (fun _ _ h => h)).mono fun _ _ h => .inl h
theorem Sep.rowReads' {w w0 : World} {G0 : Nat → Prop} {L : List Assn} (h : Sep w L) (i j : Nat) {t : TypeId} {s : Sl} {xs : List Int} (hi : L[i]? = some (row 1 t s (ints xs))) (hj : L[j]? = some (oldA w0)) (hij : i ≠ j) : ReadsI w (fun b => G0 b ∨ w0.heap.size ≤ b) s xs := by
  have hG : Own w 1 t s.a s.l s.c (ints xs) (fun b => w0.heap.size ≤ b) := h.fresh i j hi hj hij
  exact (SlR.of_ints hG).mono fun _ _ h => .inr h
theorem C47 {m : Mdl} {q : MdlH} {f : Frm} {qf : FrmH} {i : Ins} {cs : List Int} {G0 : Nat → Prop} (hf : FrmP w G0 qf f) (hS : StepFit m f.locals f.stack i) (hc : 19 ≤ i.code)
    (h : ∀ q' u, Ex w u → FrmP u (fun b => G0 b ∨ w.heap.size ≤ b) q' (outF f (doesF m cs i f.stack f.locals (f.pc + 1) plain)).1 → K (.tuple #[(outF f (doesF m cs i f.stack f.locals (f.pc + 1) plain)).1.v q', (outF f (doesF m cs i f.stack f.locals (f.pc + 1) plain)).2.v]) u) :
    XCP Tryz.prog 47 [m.v q, f.v qf, Frm.v ⟨f.code, f.pc + 1, f.locals, f.stack⟩ qf, i.v, .int .i64 (lastI f.stack)] w K KP := by
  show XCP Tryz.prog 47 [.agg #[.slice q.sv.a q.sv.l q.sv.c, .slice q.sa.a q.sa.l q.sa.c, .slice q.sc.a q.sc.l q.sc.c, .int .i64 m.mutexes, .int .i64 m.conds, .slice q.st.a q.st.l q.st.c], .agg #[.int .i64 f.code, .int .i64 f.pc, .slice qf.sl.a qf.sl.l qf.sl.c, .slice qf.ss.a qf.ss.l qf.ss.c],
    .agg #[.int .i64 f.code, .int .i64 (f.pc + 1), .slice qf.sl.a qf.sl.l qf.sl.c, .slice qf.ss.a qf.ss.l qf.ss.c], .agg #[.int .i64 i.code, .int .i64 i.a, .int .i64 i.b, .int .i64 i.num], .int .i64 (lastI f.stack)] w K KP
  have hA := insOk_code hS.ok
  have hsl := hS.sl
  have htk := hS.tk
  have ls := hf.s.len
  have hlc := hf.s.2.1
  have pre : doesF m cs i f.stack f.locals (f.pc + 1) plain = (if i.code = 19 then .ok f.stack f.locals i.a plain
    else if i.code = 20 then .ok f.stack.dropLast f.locals (if (lastI f.stack == 0) = true then i.a else f.pc + 1) plain
    else if i.code = 21 then .ok f.stack.dropLast f.locals (if (lastI f.stack != 0) = true then i.a else f.pc + 1) plain
    else if i.code = 22 then .ok (f.stack.dropLast ++ [truI (lastI f.stack != 0)]) f.locals (f.pc + 1) plain
    else if i.code = 23 then .ok f.stack f.locals (f.pc + 1) ⟨3, 0, false, 0, noIns, i.a, 0⟩
    else if i.code = 33 then .ok f.stack.dropLast f.locals (f.pc + 1) ⟨6, 0, false, 0, noIns, lastI f.stack, 0⟩
    else if i.code = 34 then .ok f.stack f.locals (f.pc + 1 - 1) ⟨4, 0, false, 0, noIns, 0, 0⟩
    else if i.code = 29 then .ok f.stack.dropLast f.locals (f.pc + 1) ⟨5, 0, false, 0, i, lastI f.stack, 0⟩
    else .ok f.stack f.locals (f.pc + 1) ⟨5, 0, false, 0, i, 0, 0⟩) := by
    rw [doesF, if_neg (by omega), if_neg (by omega), if_neg (by omega), if_neg (by omega), if_neg (by omega)]
  rw [pre] at h
  clear pre
  refine E47 ?_
  unfold F47
  intro w0 p w1 p1 w2 p2 w3 p3 w4 p4 w5 p5
  have hs : Sep w5 (bx w4.heap.size noDid.cells 68 :: bx w3.heap.size (noFrm.cells noFrmH) 28 :: bx w2.heap.size i.cells 52 :: bx w1.heap.size (Frm.cells ⟨f.code, f.pc + 1, f.locals, f.stack⟩ qf) 28 :: bx w0.heap.size (f.cells qf) 28 :: bx w.heap.size (m.cells q) 26 :: [oldA w]) := ((((((Sep.begin w).box _ _).box _ _).box _ _).box _ _).box _ _).box _ _
  clear_value w5
  refine ⟨fun z => Blk z w2.heap.size i.cells 52 ∧ Blk z w0.heap.size (f.cells qf) 28, ⟨hs.drew.blkAt 2 rfl, hs.drew.blkAt 4 rfl⟩, ?_⟩
  refine ⟨_, fun z hz => hz.1.ld rfl, _, _, _, fun z hz => hz.2.ld rfl, ?_⟩
  replace hs := hs.drew
  intro kb hkb
  have hKb : ∀ (o' : Frm) (qo : FrmH) (L : List Assn) (z : World), Sep z (bx w4.heap.size noDid.cells 68 :: bx w3.heap.size (noFrm.cells noFrmH) 28 :: bx w2.heap.size i.cells 52 :: bx w1.heap.size (o'.cells qo) 28 :: bx w0.heap.size (f.cells qf) 28 :: bx w.heap.size (m.cells q) 26 :: oldA w :: L) →
      (∀ u, Sep u (bx w4.heap.size plain.cells 68 :: bx w3.heap.size (o'.cells qo) 28 :: bx w2.heap.size i.cells 52 :: bx w1.heap.size (o'.cells qo) 28 :: bx w0.heap.size (f.cells qf) 28 :: bx w.heap.size (m.cells q) 26 :: oldA w :: L) → K (.tuple #[o'.v qo, plain.v]) u) → kb z := by
    intro o' qo L z hz hk
    refine hkb z ⟨_, _, _, _, _, _, _, _, (hz.blkAt 3 rfl).lds, ?_⟩
    exact retK (F := o') (q := qo) (D := plain) hz rfl rfl hk
  clear hkb
  by_cases h19 : i.code = 19
  · rw [if_pos (by simp [h19])]
    rw [if_pos h19] at h
    refine ⟨_, (hs.blkAt 2 rfl).ld rfl, ?_⟩
    show storeP _ ⟨w1.heap.size, 1, none⟩ _ _
    refine hs.putAt 3 rfl (o := 1) (by simp [Frm.cells]) fun u1 _ hs1 => ?_
    exact hKb ⟨f.code, i.a, f.locals, f.stack⟩ qf [] u1 hs1 fun u hu => h qf u (hu.ex 6 rfl) ⟨hf.l' (hu.ex 6 rfl), hf.s' (hu.ex 6 rfl)⟩
  rw [if_neg (by simpa using h19)]
  rw [if_neg h19] at h
  have hB : ∀ n : Nat, 1 ≤ f.stack.length → IntKind.wrap .i64 ((qf.ss.l : Int) - 1) = ((f.stack.length - 1 : Nat) : Int) := fun n hn => by rw [wi (by omega) (by omega)]; omega
  have hdl : f.stack.take (f.stack.length - 1) = f.stack.dropLast := (List.dropLast_eq_take ..).symm
  intro kb1 hk1
  have hsel : kb1 (i.code == 20 || i.code == 21) w5.drew → (if (i.code == 20) = true then kb1 (i.code == 20) w5.drew else kb1 (i.code == 21) w5.drew) := by
    intro hh
    by_cases h20 : i.code = 20
    · rw [if_pos (by simp [h20])]; simpa [h20] using hh
    · rw [if_neg (by simpa using h20)]
      rwa [show (i.code == 20) = false by simpa using h20, Bool.false_or] at hh
  refine hsel (hk1 _ _ ?_)
  clear hsel hk1
  by_cases h201 : (i.code == 20 || i.code == 21) = true
  · rw [if_pos h201]
    have h201 : i.code = 20 ∨ i.code = 21 := by simpa using h201
    have h1 : 1 ≤ f.stack.length := by
      have : (effI i.code).1 = 1 := by rcases h201 with e | e <;> (rw [e]; rfl)
      omega
    refine ⟨_, _, _, (hs.blkAt 4 rfl).ld rfl, ?_⟩
    rw [hB 0 h1]
    refine ⟨by omega, by omega, ?_⟩
    rw [Int.toNat_natCast]
    refine takeS hs (hf.s.old (hs.ex 6 rfl)) (by omega) (by omega) fun s1 u1 hs1 => ⟨_, _, _, rfl, ?_⟩
    rw [hdl] at hs1
    show storeP _ ⟨w1.heap.size, 3, none⟩ _ _
    refine hs1.putAt 4 rfl (o := 3) (by simp [Frm.cells]) fun u2 _ hs2 => ?_
    have hs2 := hs2.toEnd
    have hcond : (((lastI f.stack == 0) == (i.code == 20)) = true) ↔ (if i.code = 20 then (lastI f.stack == 0) = true else (lastI f.stack != 0) = true) := by
      rcases h201 with e | e
      · rw [if_pos e, e]; simp
      · rw [if_neg (by omega), e]; simp
    have hres : ∀ pc', (pc' = if ((lastI f.stack == 0) == (i.code == 20)) = true then i.a else f.pc + 1) → ∀ u, Sep u (bx w4.heap.size plain.cells 68 :: bx w3.heap.size (Frm.cells ⟨f.code, pc', f.locals, f.stack.dropLast⟩ ⟨qf.sl, s1⟩) 28 :: bx w2.heap.size i.cells 52 :: bx w1.heap.size (Frm.cells ⟨f.code, pc', f.locals, f.stack.dropLast⟩ ⟨qf.sl, s1⟩) 28 :: bx w0.heap.size (f.cells qf) 28 :: bx w.heap.size (m.cells q) 26 :: oldA w :: [row 1 2 s1 (ints f.stack.dropLast)]) →
        K (.tuple #[Frm.v ⟨f.code, pc', f.locals, f.stack.dropLast⟩ ⟨qf.sl, s1⟩, plain.v]) u := by
      intro pc' hpc u hu
      have hr := Sep.rowReads' (G0 := G0) hu 7 6 rfl rfl (by decide)
      have hx := h ⟨qf.sl, s1⟩ u (hu.ex 6 rfl)
      rcases h201 with e | e
      · rw [if_pos e] at hx
        have e2 : pc' = if (lastI f.stack == 0) = true then i.a else f.pc + 1 := by rw [hpc, e]; simp
        rw [← e2] at hx
        exact hx ⟨hf.l' (hu.ex 6 rfl), hr⟩
      · rw [if_neg (by omega), if_pos e] at hx
        have e2 : pc' = if (lastI f.stack != 0) = true then i.a else f.pc + 1 := by rw [hpc, e]; simp
        rw [← e2] at hx
        exact hx ⟨hf.l' (hu.ex 6 rfl), hr⟩
    by_cases hj : ((lastI f.stack == 0) == (i.code == 20)) = true
    · rw [if_pos hj]
      refine ⟨_, (hs2.blkAt 2 rfl).ld rfl, ?_⟩
      show storeP _ ⟨w1.heap.size, 1, none⟩ _ _
      refine hs2.putAt 3 rfl (o := 1) (by simp [Frm.cells]) fun u3 _ hs3 => ?_
      exact hKb ⟨f.code, i.a, f.locals, f.stack.dropLast⟩ ⟨qf.sl, s1⟩ [row 1 2 s1 (ints f.stack.dropLast)] u3 hs3 (hres _ (by rw [if_pos hj]))
    · rw [if_neg hj]
      exact hKb ⟨f.code, f.pc + 1, f.locals, f.stack.dropLast⟩ ⟨qf.sl, s1⟩ [row 1 2 s1 (ints f.stack.dropLast)] u2 hs2 (hres _ (by rw [if_neg hj]))
  rw [if_neg h201]
  have h201 : ¬(i.code = 20) ∧ ¬(i.code = 21) := by simpa using h201
  rw [if_neg h201.1, if_neg h201.2] at h
  by_cases h22 : i.code = 22
  · rw [if_pos (by simp [h22])]
    rw [if_pos h22] at h
    have h1 : 1 ≤ f.stack.length := by
      have : (effI i.code).1 = 1 := by rw [h22]; rfl
      omega
    refine ⟨_, _, _, (hs.blkAt 4 rfl).ld rfl, ?_⟩
    rw [hB 0 h1]
    refine ⟨by omega, by omega, ?_⟩
    rw [Int.toNat_natCast]
    refine takeS hs (hf.s.old (hs.ex 6 rfl)) (by omega) (by omega) fun s1 u1 hs1 => ⟨_, _, _, rfl, ?_⟩
    rw [hdl] at hs1
    have hl1 : s1.l = f.stack.length - 1 := by
      obtain ⟨_, _, _, hl⟩ := hs1.rowRd
      simp at hl; omega
    refine C45 ⟨_, rfl, ?_⟩
    refine Sep.build (cs := ints [truI (lastI f.stack != 0)]) T22 rfl hs1 rfl rfl (by decide) fun s2 u2 l2 hs2 he2 => ⟨_, _, _, rfl, ?_⟩
    obtain ⟨G2, hr2, -, -⟩ := hs2.rowRd
    refine Sep.append (s := s1) T22 rfl hs2.tail (x := s2) hr2 (by simp [l2]) (ints_one _) (by omega) (by omega) fun s3 u3 l3 c3 hs3 => ⟨_, _, _, rfl, ?_⟩
    rw [← ints_append] at hs3
    show storeP _ ⟨w1.heap.size, 3, none⟩ _ _
    refine hs3.putAt 4 rfl (o := 3) (by simp [Frm.cells]) fun u4 _ hs4 => ?_
    refine hKb ⟨f.code, f.pc + 1, f.locals, f.stack.dropLast ++ [truI (lastI f.stack != 0)]⟩ ⟨qf.sl, s3⟩ [row 1 2 s3 (ints (f.stack.dropLast ++ [truI (lastI f.stack != 0)]))] u4 hs4.toEnd fun u hu => ?_
    exact h ⟨qf.sl, s3⟩ u (hu.ex 6 rfl) ⟨hf.l' (hu.ex 6 rfl), Sep.rowReads' (G0 := G0) hu 7 6 rfl rfl (by decide)⟩
  rw [if_neg (by simpa using h22)]
  rw [if_neg h22] at h
  clear hKb hB
  by_cases h23 : i.code = 23
  · rw [if_pos (by simp [h23])]
    rw [if_pos h23] at h
    refine ⟨fun z => Blk z w1.heap.size (Frm.cells ⟨f.code, f.pc + 1, f.locals, f.stack⟩ qf) 28 ∧ Blk z w2.heap.size i.cells 52, ⟨hs.drew.blkAt 3 rfl, hs.drew.blkAt 2 rfl⟩, ?_⟩
    refine ⟨_, _, _, _, _, _, _, _, fun z hz => hz.1.lds, _, fun z hz => hz.2.ld rfl, ?_⟩
    refine retS (F := ⟨f.code, f.pc + 1, f.locals, f.stack⟩) (q := qf) (D := ⟨3, 0, false, 0, noIns, i.a, 0⟩) hs.drew rfl rfl (fun u hu => ⟨hu.blkAt 3 rfl, hu.blkAt 2 rfl⟩) fun u hu => ?_
    exact h qf u (hu.ex 6 rfl) ⟨hf.l' (hu.ex 6 rfl), hf.s' (hu.ex 6 rfl)⟩
  rw [if_neg (by simpa using h23)]
  rw [if_neg h23] at h
  by_cases h33 : i.code = 33
  · rw [if_pos (by simp [h33])]
    rw [if_pos h33] at h
    have h1 : 1 ≤ f.stack.length := by
      have : (effI i.code).1 = 1 := by rw [h33]; rfl
      omega
    have e1 : IntKind.wrap .i64 ((qf.ss.l : Int) - 1) = ((f.stack.length - 1 : Nat) : Int) := by rw [wi (by omega) (by omega)]; omega
    refine ⟨_, _, _, (hs.blkAt 4 rfl).ld rfl, ?_⟩
    rw [e1]
    refine ⟨by omega, by omega, ?_⟩
    rw [Int.toNat_natCast]
    refine takeS hs (hf.s.old (hs.ex 6 rfl)) (by omega) (by omega) fun s1 u1 hs1 => ⟨_, _, _, rfl, ?_⟩
    rw [hdl] at hs1
    show storeP _ ⟨w1.heap.size, 3, none⟩ _ _
    refine hs1.putAt 4 rfl (o := 3) (by simp [Frm.cells]) fun u2 _ hs2 => ?_
    have hs2 := hs2.toEnd
    refine ⟨_, _, _, _, _, _, _, _, (hs2.blkAt 3 rfl).lds, ?_⟩
    refine retK (F := ⟨f.code, f.pc + 1, f.locals, f.stack.dropLast⟩) (q := ⟨qf.sl, s1⟩) (D := ⟨6, 0, false, 0, noIns, lastI f.stack, 0⟩) hs2 rfl rfl fun u hu => ?_
    exact h ⟨qf.sl, s1⟩ u (hu.ex 6 rfl) ⟨hf.l' (hu.ex 6 rfl), Sep.rowReads' (G0 := G0) hu 7 6 rfl rfl (by decide)⟩
  rw [if_neg (by simpa using h33)]
  rw [if_neg h33] at h
  by_cases h34 : i.code = 34
  · rw [if_pos (by simp [h34])]
    rw [if_pos h34, show f.pc + 1 - 1 = f.pc by omega] at h
    refine ⟨_, _, _, _, _, _, _, _, (hs.blkAt 4 rfl).lds, ?_⟩
    refine retK (F := f) (q := qf) (D := ⟨4, 0, false, 0, noIns, 0, 0⟩) hs rfl rfl fun u hu => ?_
    exact h qf u (hu.ex 6 rfl) ⟨hf.l' (hu.ex 6 rfl), hf.s' (hu.ex 6 rfl)⟩
  rw [if_neg (by simpa using h34)]
  rw [if_neg h34] at h
  by_cases h29 : i.code = 29
  · rw [if_pos (by simp [h29])]
    rw [if_pos h29] at h
    have h1 : 1 ≤ f.stack.length := by
      have : (effI i.code).1 = 1 := by rw [h29]; rfl
      omega
    have e1 : IntKind.wrap .i64 ((qf.ss.l : Int) - 1) = ((f.stack.length - 1 : Nat) : Int) := by rw [wi (by omega) (by omega)]; omega
    refine ⟨_, _, _, (hs.blkAt 4 rfl).ld rfl, ?_⟩
    rw [e1]
    refine ⟨by omega, by omega, ?_⟩
    rw [Int.toNat_natCast]
    refine takeS hs (hf.s.old (hs.ex 6 rfl)) (by omega) (by omega) fun s1 u1 hs1 => ⟨_, _, _, rfl, ?_⟩
    rw [hdl] at hs1
    show storeP _ ⟨w1.heap.size, 3, none⟩ _ _
    refine hs1.putAt 4 rfl (o := 3) (by simp [Frm.cells]) fun u2 _ hs2 => ?_
    have hs2 := hs2.toEnd
    refine ⟨fun z => Blk z w1.heap.size (Frm.cells ⟨f.code, f.pc + 1, f.locals, f.stack.dropLast⟩ ⟨qf.sl, s1⟩) 28 ∧ Blk z w2.heap.size i.cells 52, ⟨hs2.drew.blkAt 3 rfl, hs2.drew.blkAt 2 rfl⟩, ?_⟩
    refine ⟨_, _, _, _, _, _, _, _, fun z hz => hz.1.lds, _, _, _, _, fun z hz => hz.2.lds, ?_⟩
    refine retS (F := ⟨f.code, f.pc + 1, f.locals, f.stack.dropLast⟩) (q := ⟨qf.sl, s1⟩) (D := ⟨5, 0, false, 0, i, lastI f.stack, 0⟩) hs2.drew rfl rfl (fun u hu => ⟨hu.blkAt 3 rfl, hu.blkAt 2 rfl⟩) fun u hu => ?_
    exact h ⟨qf.sl, s1⟩ u (hu.ex 6 rfl) ⟨hf.l' (hu.ex 6 rfl), Sep.rowReads' (G0 := G0) hu 7 6 rfl rfl (by decide)⟩
  rw [if_neg (by simpa using h29)]
  rw [if_neg h29] at h
  intro kb2 hk2
  have hk : kb2 true w5.drew := by
    refine hk2 _ _ ?_
    rw [if_pos rfl]
    refine ⟨fun z => Blk z w1.heap.size (Frm.cells ⟨f.code, f.pc + 1, f.locals, f.stack⟩ qf) 28 ∧ Blk z w2.heap.size i.cells 52, ⟨hs.drew.blkAt 3 rfl, hs.drew.blkAt 2 rfl⟩, ?_⟩
    refine ⟨_, _, _, _, _, _, _, _, fun z hz => hz.1.lds, _, _, _, _, fun z hz => hz.2.lds, ?_⟩
    refine retS (F := ⟨f.code, f.pc + 1, f.locals, f.stack⟩) (q := qf) (D := ⟨5, 0, false, 0, i, 0, 0⟩) hs.drew rfl rfl (fun u hu => ⟨hu.blkAt 3 rfl, hu.blkAt 2 rfl⟩) fun u hu => ?_
    exact h qf u (hu.ex 6 rfl) ⟨hf.l' (hu.ex 6 rfl), hf.s' (hu.ex 6 rfl)⟩
  have hcs : i.code = 24 ∨ i.code = 25 ∨ i.code = 26 ∨ i.code = 27 ∨ i.code = 28 ∨ i.code = 30 ∨ i.code = 31 ∨ i.code = 32 := by omega
  rcases hcs with e | e | e | e | e | e | e | e <;> (rw [e]; exact hk)
end
end Go.Proofs.YtahcpjgaogghiaaGreat
/- The vm seat: an instruction done, as the document says. -/
set_option linter.unusedVariables false
set_option linter.unusedSimpArgs false
set_option maxRecDepth 10000
set_option maxHeartbeats 8000000
namespace Go.Proofs.YtahcpjgaogghiaaGreat
open Go.X Go.Heap
theorem xptr_of {a : Option Addr} {p : Addr} {k : Addr → Prop} (h : a = some p) (hk : k p) : xptr a k := by subst h; exact hk
/-- a frame that reads, as a part -/
def frmA (q : FrmH) (f : Frm) : Assn where
  p := fun w G => FrmP w G q f
  frame := fun h hf hd => ⟨SlR.frame h.l hf hd, SlR.frame h.s hf hd⟩
  mono := fun h hm => ⟨SlR.mono h.l hm, SlR.mono h.s hm⟩
/-- what reads from what is old or new is kept with what is old -/
theorem Sep.gain {w u w0 : World} {L : List Assn} (h : Sep w L) (i : Nat) (hi : L[i]? = some (oldA w0)) (e : Ex w u) {A : Assn} (hA : A.p u (fun b => b < w0.heap.size ∨ w.heap.size ≤ b)) : Sep u (L.set i (pers [oldA w0, A])) := by
  obtain ⟨G, hG, ho, hr⟩ := (h.front i hi).use
  have ho' : w0.heap.size ≤ w.heap.size ∧ ∀ b, b < w0.heap.size → G b ∧ w.heap[b]? = w0.heap[b]? := ho
  refine (hr u (pers [oldA w0, A]) (e G) ?_).back i hi
  intro j C hC
  match j, hC with
  | 0, hC => simp at hC; subst hC; exact (oldA w0).mono ((oldA w0).frame (D := fun _ => False) ho (e _) (fun _ _ h => h)) (fun b _ hb => .inl hb)
  | 1, hC =>
    simp at hC; subst hC
    exact A.mono hA fun b _ hb => by
      rcases hb with hb | hb
      · exact .inl (ho'.2 b hb).1
      · exact .inr hb
  | j + 2, hC => simp at hC
section
variable {w : World} {K : Value → World → Prop} {KP : List PanicEntry → World → Prop}
theorem C25 {m : Mdl} {q : MdlH} {f : Frm} {qf : FrmH} {sc : Sl} {cs : List Int} (hF : Fit w q m sc cs) (hf : FrmP w T0 qf f) (hc0 : 0 ≤ f.code) (hct : f.code.toNat < m.threads.length) (hp0 : 0 ≤ f.pc) (hpl : f.pc.toNat < (codF m f).ins.length)
    (hpm : (codF m f).ins.length ≤ 1000) (hS : StepFit m f.locals f.stack (insF m f)) (hb1 : f.locals.length ≤ 1000000)
    (h : ∀ q' u, Ex w u → FrmP u T0 q' (doF m f cs).1 → K (.tuple #[(doF m f cs).1.v q', (doF m f cs).2.v]) u) : XCP Tryz.prog 25 [m.v q, f.v qf, sc.v] w K KP := by
  show XCP Tryz.prog 25 [.agg #[.slice q.sv.a q.sv.l q.sv.c, .slice q.sa.a q.sa.l q.sa.c, .slice q.sc.a q.sc.l q.sc.c, .int .i64 m.mutexes, .int .i64 m.conds, .slice q.st.a q.st.l q.st.c], .agg #[.int .i64 f.code, .int .i64 f.pc, .slice qf.sl.a qf.sl.l qf.sl.c, .slice qf.ss.a qf.ss.l qf.ss.c], .slice sc.a sc.l sc.c] w K KP
  refine E25 ?_
  unfold F25
  intro w0 p w1 p1 w2 p2 w3 p3
  have hs : Sep w3 (bx w2.heap.size noDid.cells 68 :: bx w1.heap.size (noFrm.cells noFrmH) 28 :: bx w0.heap.size (f.cells qf) 28 :: bx w.heap.size (m.cells q) 26 :: [oldA w]) := ((((Sep.begin w).box _ _).box _ _).box _ _).box _ _
  clear_value w3
  have hq := hF.mp
  obtain ⟨pt, qc, hpt, hcod⟩ := codP_at (f := f) hq hct
  obtain ⟨pi, hpi, hins⟩ := insP_at (hcod w (Ex.refl w)).1 hpl
  have lt := hq.t.len
  have li := (hcod w (Ex.refl w)).1.1.len
  refine ⟨fun z => Blk z w.heap.size (m.cells q) 26 ∧ Blk z w0.heap.size (f.cells qf) 28 ∧ Ex w z, ⟨(hs.drew.blkAt 3 rfl), (hs.drew.blkAt 2 rfl), hs.drew.ex 4 rfl⟩, ?_⟩
  refine ⟨_, _, _, fun z hz => hz.1.ld rfl, _, fun z hz => hz.2.1.ld rfl, ?_⟩
  rw [hpt, xptr_some]
  refine ⟨hc0, by omega, _, _, _, fun z hz => cellsAt_ix (hcod z hz.2.2).2 (j := 2) rfl, _, fun z hz => hz.2.1.ld rfl, ?_⟩
  rw [hpi, xptr_some]
  refine ⟨hp0, by omega, _, _, _, _, fun z hz => hins z hz.2.2, ?_⟩
  intro w10 p6
  have hs10 : Sep w10 (bx w3.drew.heap.size noIns.cells 52 :: _) := hs.drew.box _ _
  clear_value w10
  refine ⟨⟨hs10.blkAt 4 rfl, hs10.blkAt 3 rfl, hs10.ex 5 rfl⟩, ?_⟩
  refine hs10.fill (vs := (insF m f).cells) rfl fun w11 _ hs11 => ?_
  refine ⟨_, _, _, _, _, _, _, _, (hs11.blkAt 3 rfl).lds, ?_⟩
  intro w12 p7
  have hs12 : Sep w12 (bx w11.heap.size (noFrm.cells noFrmH) 28 :: _) := hs11.box _ _
  clear_value w12
  refine hs12.fill (vs := f.cells qf) rfl fun w13 _ hs13 => ?_
  refine ⟨f.pc, hs13.bx0.ld (o := 1) rfl, ?_⟩
  rw [wi (by omega) (by omega)]
  show storeP _ ⟨w11.heap.size, 1, none⟩ _ _
  refine hs13.putAt 0 rfl (o := 1) (by simp [Frm.cells]) fun w14 _ hs14 => ?_
  have hs14 : Sep w14 (bx w11.heap.size (Frm.cells ⟨f.code, f.pc + 1, f.locals, f.stack⟩ qf) 28 :: bx w3.drew.heap.size (insF m f).cells 52 :: bx w2.heap.size noDid.cells 68 :: bx w1.heap.size (noFrm.cells noFrmH) 28 :: bx w0.heap.size (f.cells qf) 28 :: bx w.heap.size (m.cells q) 26 :: [oldA w]) := hs14
  refine ⟨fun z => Sep z (bx w11.heap.size (Frm.cells ⟨f.code, f.pc + 1, f.locals, f.stack⟩ qf) 28 :: bx w3.drew.heap.size (insF m f).cells 52 :: bx w2.heap.size noDid.cells 68 :: bx w1.heap.size (noFrm.cells noFrmH) 28 :: bx w0.heap.size (f.cells qf) 28 :: bx w.heap.size (m.cells q) 26 :: [oldA w]), hs14.drew, ?_⟩
  refine ⟨_, fun z hz => (hz.blkAt 1 rfl).ld rfl, _, _, _, fun z hz => (hz.blkAt 4 rfl).ld rfl, ?_⟩
  intro w18 p8
  have hs18 : Sep w18 (bx w14.drew.heap.size noDid.cells 68 :: _) := hs14.drew.box _ _
  clear_value w18
  refine hs18.fill (vs := plain.cells) rfl fun w19 _ hs19 => ?_
  have hs := hs19.pick (L' := bx w2.heap.size noDid.cells 68 :: bx w1.heap.size (noFrm.cells noFrmH) 28 :: bx w14.drew.heap.size plain.cells 68 :: bx w11.heap.size (Frm.cells ⟨f.code, f.pc + 1, f.locals, f.stack⟩ qf) 28 :: bx w3.drew.heap.size (insF m f).cells 52 :: bx w0.heap.size (f.cells qf) 28 :: bx w.heap.size (m.cells q) 26 :: [oldA w]) [3, 4, 0, 1, 2, 5, 6, 7] rfl rfl
  clear hs19 hs18 hs14 hs13 hs12 hs11 hs10
  have hR : ∀ st' lo' pc' did', doesF m cs (insF m f) f.stack f.locals (f.pc + 1) plain = .ok st' lo' pc' did' → ∀ q' u, Ex w u → FrmP u T0 q' ⟨f.code, pc', lo', st'⟩ → K (.tuple #[Frm.v ⟨f.code, pc', lo', st'⟩ q', did'.v]) u := by
    intro st' lo' pc' did' e q' u h1 h2
    have hd : doF m f cs = (⟨f.code, pc', lo', st'⟩, did') := by unfold doF; rw [e]; rfl
    have := h q' u h1 (by rw [hd]; exact h2)
    rwa [hd] at this
  have hT : ∀ t, doesF m cs (insF m f) f.stack f.locals (f.pc + 1) plain = .trap t → ∀ q' u, Ex w u → FrmP u T0 q' f → K (.tuple #[f.v q', (trapDid t).v]) u := by
    intro t e q' u h1 h2
    have hd : doF m f cs = (f, trapDid t) := by unfold doF; rw [e]; rfl
    have := h q' u h1 (by rw [hd]; exact h2)
    rwa [hd] at this
  have ls := hf.s.len
  have hsl := hS.sl
  have hA := insOk_code hS.ok
  have htk := hS.tk
  generalize hi : insF m f = i at *
  have key : ∀ z, Sep z (bx w2.heap.size noDid.cells 68 :: bx w1.heap.size (noFrm.cells noFrmH) 28 :: bx w14.drew.heap.size plain.cells 68 :: bx w11.heap.size (Frm.cells ⟨f.code, f.pc + 1, f.locals, f.stack⟩ qf) 28 :: bx w3.drew.heap.size i.cells 52 :: bx w0.heap.size (f.cells qf) 28 :: bx w.heap.size (m.cells q) 26 :: [oldA w]) → True := fun _ _ => trivial
  clear key
  intro kb hkb
  have hkb := hkb (lastI f.stack) w19
  have hsel : kb (lastI f.stack) w19 → (if (decide ((↑qf.ss.l : Int) > 0)) = true then (∃ (a131 : Option Addr) (l131 c131 : Nat), World.cell? w19 (Addr.add p1 3) = some (.slice a131 l131 c131) ∧ xptr a131 fun p16 => (0 : Int) ≤ (IntKind.wrap .i64 ((↑qf.ss.l : Int) - 1)) ∧ (IntKind.wrap .i64 ((↑qf.ss.l : Int) - 1)) < (↑l131 : Int) ∧ ∃ (n372 : Int), World.cell? w19 (Addr.add p16 (Int.toNat (IntKind.wrap .i64 ((↑qf.ss.l : Int) - 1)) * 1)) = some (.int .i64 n372) ∧ kb n372 w19) else (kb 0 w19)) := by
    intro hh
    by_cases h0 : f.stack.length = 0
    · rw [if_neg (by simp; omega)]
      rwa [show lastI f.stack = 0 by rw [List.length_eq_zero_iff.1 h0]; rfl] at hh
    · rw [if_pos (by simp; omega)]
      refine ⟨_, _, _, (hs.blkAt 5 rfl).ld rfl, ?_⟩
      obtain ⟨pq, hpq, hcell⟩ := SlR.atI hf.s (k := f.stack.length - 1) (by omega)
      rw [hpq, xptr_some, wi (by omega) (by omega)]
      have e : ((qf.ss.l : Int) - 1).toNat = f.stack.length - 1 := by omega
      refine ⟨by omega, by omega, _, by rw [e, Nat.mul_one]; exact hcell w19 (hs.ex 7 rfl), ?_⟩
      have : f.stack[f.stack.length - 1] = lastI f.stack := by
        rw [lastI, List.getLastD_eq_getLast?, List.getLast?_eq_getElem?, List.getElem?_eq_getElem (by omega)]; rfl
      rw [this]; exact hh
  refine hsel (hkb ?_)
  clear hsel hkb
  intro kb1 hk1
  have hk1 := hk1 (lastI f.stack.dropLast) w19
  have hsel : kb1 (lastI f.stack.dropLast) w19 → (if (decide ((↑qf.ss.l : Int) > 1)) = true then (∃ (a131 : Option Addr) (l131 c131 : Nat), World.cell? w19 (Addr.add p1 3) = some (.slice a131 l131 c131) ∧ xptr a131 fun p16 => (0 : Int) ≤ (IntKind.wrap .i64 ((↑qf.ss.l : Int) - 2)) ∧ (IntKind.wrap .i64 ((↑qf.ss.l : Int) - 2)) < (↑l131 : Int) ∧ ∃ (n372 : Int), World.cell? w19 (Addr.add p16 (Int.toNat (IntKind.wrap .i64 ((↑qf.ss.l : Int) - 2)) * 1)) = some (.int .i64 n372) ∧ kb1 n372 w19) else (kb1 0 w19)) := by
    intro hh
    by_cases h0 : f.stack.length ≤ 1
    · rw [if_neg (by simp; omega)]
      have : f.stack.dropLast = [] := List.length_eq_zero_iff.1 (by simp; omega)
      rwa [show lastI f.stack.dropLast = 0 by rw [this]; rfl] at hh
    · rw [if_pos (by simp; omega)]
      refine ⟨_, _, _, (hs.blkAt 5 rfl).ld rfl, ?_⟩
      obtain ⟨pq, hpq, hcell⟩ := SlR.atI hf.s (k := f.stack.length - 2) (by omega)
      rw [hpq, xptr_some, wi (by omega) (by omega)]
      have e : ((qf.ss.l : Int) - 2).toNat = f.stack.length - 2 := by omega
      refine ⟨by omega, by omega, _, by rw [e, Nat.mul_one]; exact hcell w19 (hs.ex 7 rfl), ?_⟩
      have : f.stack[f.stack.length - 2] = lastI f.stack.dropLast := by
        rw [lastI, List.getLastD_eq_getLast?, List.getLast?_eq_getElem?, List.getElem?_dropLast, if_pos (by simp; omega), List.getElem?_eq_getElem (by simp; omega)]
        simp only [List.length_dropLast, Option.getD_some]
        congr 1
      rw [this]; exact hh
  refine hsel (hk1 ?_)
  clear hsel hk1
  have hE := hs.ex 7 rfl
  have put : ∀ (k : Nat) (v : Int) (did : DidV), k ≤ f.stack.length → doesF m cs i f.stack f.locals (f.pc + 1) plain = .ok (f.stack.take (f.stack.length - k) ++ [v]) f.locals (f.pc + 1) did → True := fun _ _ _ _ _ => trivial
  clear put
  by_cases h1 : i.code = 1
  · rw [if_pos (by simp [h1])]
    have hd : doesF m cs i f.stack f.locals (f.pc + 1) plain = .ok (f.stack ++ [i.num]) f.locals (f.pc + 1) plain := by rw [doesF, if_pos h1]
    refine ⟨_, _, _, _, _, _, _, _, (hs.blkAt 5 rfl).lds, _, (hs.blkAt 4 rfl).ld (o := 3) rfl, ?_⟩
    refine D41 (k := 0) (hf.ex hE) (by omega) (by omega) fun s1 u1 hs1 => ⟨_, _, _, rfl, ?_⟩
    have hj := (Sep.joins (M := [row 1 2 s1 (ints (f.stack.take (f.stack.length - 0) ++ [i.num]))]) hs hs1).toEnd
    rw [Nat.sub_zero, List.take_length] at hj
    show storeP _ ⟨w11.heap.size, 3, none⟩ _ _
    refine hj.putAt 3 rfl (o := 3) (by simp [Frm.cells]) fun u2 _ hs2 => ?_
    refine ⟨fun z => Blk z w11.heap.size (Frm.cells ⟨f.code, f.pc + 1, f.locals, f.stack ++ [i.num]⟩ ⟨qf.sl, s1⟩) 28 ∧ Blk z w14.drew.heap.size plain.cells 68, ⟨hs2.drew.blkAt 3 rfl, hs2.drew.blkAt 2 rfl⟩, ?_⟩
    refine ⟨_, _, _, _, _, _, _, _, fun z hz => hz.1.lds, _, _, _, _, _, _, _, _, _, _, fun z hz => hz.2.lds, ?_⟩
    refine retS (F := ⟨f.code, f.pc + 1, f.locals, f.stack ++ [i.num]⟩) (q := ⟨qf.sl, s1⟩) (D := plain) hs2.drew rfl rfl (fun u hu => ⟨hu.blkAt 3 rfl, hu.blkAt 2 rfl⟩) fun u hu => ?_
    exact hR _ _ _ _ hd ⟨qf.sl, s1⟩ u (hu.ex 7 rfl) ⟨(hf.ex (hu.ex 7 rfl)).l, Sep.rowReads hu 8 rfl⟩
  rw [if_neg (by simpa using h1)]
  have hcl := hF.cl
  have hsum := sum_bound hF.av
  unfold countF at hcl
  have lsc := hF.cp.len
  by_cases h2 : i.code = 2
  · rw [if_pos (by simp [h2])]
    have ha := hS.k2 (.inl h2)
    obtain ⟨pc, hpc, hcell⟩ := SlR.atI hF.cp (k := i.a.toNat) (by omega)
    have hd : doesF m cs i f.stack f.locals (f.pc + 1) plain = .ok (f.stack ++ [cs[i.a.toNat]]) f.locals (f.pc + 1) (access i.a false cs[i.a.toNat]) := by
      rw [doesF, if_neg h1, if_pos (by omega), memF, if_pos h2, getD_get (by omega)]
    refine ⟨fun z => Blk z w0.heap.size (f.cells qf) 28 ∧ Blk z w3.drew.heap.size i.cells 52 ∧ Ex w z, ⟨hs.drew.blkAt 5 rfl, hs.drew.blkAt 4 rfl, hs.drew.ex 7 rfl⟩, ?_⟩
    refine ⟨_, _, _, _, _, _, _, _, fun z hz => hz.1.lds, _, fun z hz => hz.2.1.ld rfl, ?_⟩
    rw [hpc, xptr_some]
    refine ⟨hA.2.2.1, by omega, cs[i.a.toNat], fun z hz => by simpa using hcell z hz.2.2, ?_⟩
    refine D41 (k := 0) (v := cs[i.a.toNat]) (hf.ex (hs.drew.ex 7 rfl)) (by omega) (by omega) fun s1 u1 hs1 => ⟨_, _, _, rfl, fun _ => True, trivial, ?_⟩
    have hj := (Sep.joins (M := [row 1 2 s1 (ints (f.stack.take (f.stack.length - 0) ++ [cs[i.a.toNat]]))]) hs.drew hs1).toEnd
    rw [Nat.sub_zero, List.take_length] at hj
    show storeP _ ⟨w11.heap.size, 3, none⟩ _ _
    refine hj.putAt 3 rfl (o := 3) (by simp [Frm.cells]) fun u2 _ hs2 => ?_
    refine ⟨fun z => Blk z w11.heap.size (Frm.cells ⟨f.code, f.pc + 1, f.locals, f.stack ++ [cs[i.a.toNat]]⟩ ⟨qf.sl, s1⟩) 28 ∧ Blk z w3.drew.heap.size i.cells 52 ∧ Ex w z, ⟨hs2.drew.blkAt 3 rfl, hs2.drew.blkAt 4 rfl, hs2.drew.ex 7 rfl⟩, ?_⟩
    refine ⟨_, _, _, _, _, _, _, _, fun z hz => hz.1.lds, _, fun z hz => hz.2.1.ld rfl, _, fun z hz => hz.2.1.ld rfl, ?_⟩
    rw [xptr_some]
    refine ⟨hA.2.2.1, by omega, cs[i.a.toNat], fun z hz => by simpa using hcell z hz.2.2, ?_⟩
    refine retS (F := ⟨f.code, f.pc + 1, f.locals, f.stack ++ [cs[i.a.toNat]]⟩) (q := ⟨qf.sl, s1⟩) (D := access i.a false cs[i.a.toNat]) hs2.drew rfl rfl (fun u hu => ⟨hu.blkAt 3 rfl, hu.blkAt 4 rfl, hu.ex 7 rfl⟩) fun u hu => ?_
    exact hR _ _ _ _ hd ⟨qf.sl, s1⟩ u (hu.ex 7 rfl) ⟨(hf.ex (hu.ex 7 rfl)).l, Sep.rowReads hu 8 rfl⟩
  rw [if_neg (by simpa using h2)]
  by_cases h3 : i.code = 3
  · rw [if_pos (by simp [h3])]
    have ha := hS.k3 (.inl h3)
    have ll := hf.l.len
    obtain ⟨pc, hpc, hcell⟩ := SlR.atI hf.l (k := i.a.toNat) (by omega)
    have hd : doesF m cs i f.stack f.locals (f.pc + 1) plain = .ok (f.stack ++ [f.locals[i.a.toNat]]) f.locals (f.pc + 1) plain := by
      rw [doesF, if_neg h1, if_pos (by omega), memF, if_neg h2, if_pos h3, getD_get (by omega)]
    refine ⟨fun z => Blk z w0.heap.size (f.cells qf) 28 ∧ Blk z w3.drew.heap.size i.cells 52 ∧ Ex w z, ⟨hs.drew.blkAt 5 rfl, hs.drew.blkAt 4 rfl, hs.drew.ex 7 rfl⟩, ?_⟩
    refine ⟨_, _, _, _, _, _, _, _, fun z hz => hz.1.lds, _, _, _, fun z hz => hz.1.ld (o := 2) rfl, _, fun z hz => hz.2.1.ld rfl, ?_⟩
    refine xptr_of hpc ?_
    refine ⟨hA.2.2.1, by omega, f.locals[i.a.toNat], fun z hz => by simpa using hcell z hz.2.2, ?_⟩
    refine D41 (k := 0) (v := f.locals[i.a.toNat]) (f := f) (qf := qf) (hf.ex (hs.drew.ex 7 rfl)) (by omega) (by omega) fun s1 u1 hs1 => ⟨_, _, _, rfl, fun _ => True, trivial, ?_⟩
    have hj := (Sep.joins (M := [row 1 2 s1 (ints (f.stack.take (f.stack.length - 0) ++ [f.locals[i.a.toNat]]))]) hs.drew hs1).toEnd
    rw [Nat.sub_zero, List.take_length] at hj
    show storeP _ ⟨w11.heap.size, 3, none⟩ _ _
    refine hj.putAt 3 rfl (o := 3) (by simp [Frm.cells]) fun u2 _ hs2 => ?_
    refine ⟨fun z => Blk z w11.heap.size (Frm.cells ⟨f.code, f.pc + 1, f.locals, f.stack ++ [f.locals[i.a.toNat]]⟩ ⟨qf.sl, s1⟩) 28 ∧ Blk z w14.drew.heap.size plain.cells 68, ⟨hs2.drew.blkAt 3 rfl, hs2.drew.blkAt 2 rfl⟩, ?_⟩
    refine ⟨_, _, _, _, _, _, _, _, fun z hz => hz.1.lds, _, _, _, _, _, _, _, _, _, _, fun z hz => hz.2.lds, ?_⟩
    refine retS (F := ⟨f.code, f.pc + 1, f.locals, f.stack ++ [f.locals[i.a.toNat]]⟩) (q := ⟨qf.sl, s1⟩) (D := plain) hs2.drew rfl rfl (fun u hu => ⟨hu.blkAt 3 rfl, hu.blkAt 2 rfl⟩) fun u hu => ?_
    exact hR _ _ _ _ hd ⟨qf.sl, s1⟩ u (hu.ex 7 rfl) ⟨(hf.ex (hu.ex 7 rfl)).l, Sep.rowReads hu 8 rfl⟩
  rw [if_neg (by simpa using h3)]
  by_cases h4 : i.code = 4
  · rw [if_pos (by simp [h4])]
    have ha := hS.k4 (.inl h4)
    rw [h4] at htk
    have htk : (1 : Int) ≤ f.stack.length := htk
    have hv := hS.vs _ (lastI_mem (l := f.stack) (by omega))
    have hdm : doesF m cs i f.stack f.locals (f.pc + 1) plain = memF m cs i f.stack f.locals (f.pc + 1) plain := by rw [doesF, if_neg h1, if_pos (by omega)]
    refine ⟨_, _, _, _, _, _, _, _, _, _, _, _, _, _, (hs.blkAt 6 rfl).lds, _, (hs.blkAt 4 rfl).ld (o := 1) rfl, ?_⟩
    refine C42 (u0 := w) (a := i.a) (i := lastI f.stack) hF hE hA.2.2.1 ha hv fun u0 e0 => ⟨_, rfl, ?_⟩
    have hs0 := hs.ext e0
    by_cases hin : inArr m i.a (lastI f.stack) = true
    rotate_left
    · have hd : doesF m cs i f.stack f.locals (f.pc + 1) plain = .trap 3 := by rw [hdm, memF, if_neg h2, if_neg h3, if_pos h4, if_neg hin]
      rw [if_neg hin, if_pos (by decide)]
      refine ⟨_, _, _, _, _, _, _, _, (hs0.blkAt 5 rfl).lds, ?_⟩
      refine D43 (f := f) (qf := qf) (t := 3) fun u1 e1 => ⟨_, _, _, _, _, _, _, _, _, _, _, _, _, _, _, _, _, _, rfl, ?_⟩
      refine retK (F := f) (q := qf) (D := trapDid 3) (hs0.ext e1) rfl rfl fun u hu => ?_
      exact hT 3 hd qf u (hu.ex 7 rfl) (hf.ex (hu.ex 7 rfl))
    obtain ⟨hn0, hn1⟩ := cellN_lt hF hA.2.2.1 ha hin
    obtain ⟨pc, hpc, hcell⟩ := SlR.atI hF.cp (k := (cellN m i.a (lastI f.stack)).toNat) (by omega)
    have hd : doesF m cs i f.stack f.locals (f.pc + 1) plain = .ok (f.stack.dropLast ++ [cs[(cellN m i.a (lastI f.stack)).toNat]]) f.locals (f.pc + 1) (access (cellN m i.a (lastI f.stack)) false cs[(cellN m i.a (lastI f.stack)).toNat]) := by
      rw [hdm, memF, if_neg h2, if_neg h3, if_pos h4, if_pos hin, getD_get (by omega)]
    rw [if_pos hin, if_neg (by simp; omega)]
    refine ⟨fun z => Blk z w0.heap.size (f.cells qf) 28 ∧ Ex w z, ⟨hs0.drew.blkAt 5 rfl, hs0.drew.ex 7 rfl⟩, ?_⟩
    refine ⟨_, _, _, _, _, _, _, _, fun z hz => hz.1.lds, ?_⟩
    refine xptr_of hpc ?_
    refine ⟨hn0, by omega, cs[(cellN m i.a (lastI f.stack)).toNat], fun z hz => by simpa using hcell z hz.2, ?_⟩
    refine D41 (k := 1) (v := cs[(cellN m i.a (lastI f.stack)).toNat]) (hf.ex (hs0.drew.ex 7 rfl)) (by omega) (by omega) fun s1 u1 hs1 => ⟨_, _, _, rfl, fun _ => True, trivial, ?_⟩
    have hj := (Sep.joins (M := [row 1 2 s1 (ints (f.stack.take (f.stack.length - 1) ++ [cs[(cellN m i.a (lastI f.stack)).toNat]]))]) hs0.drew hs1).toEnd
    rw [← List.dropLast_eq_take] at hj
    show storeP _ ⟨w11.heap.size, 3, none⟩ _ _
    refine hj.putAt 3 rfl (o := 3) (by simp [Frm.cells]) fun u2 _ hs2 => ?_
    refine ⟨fun z => Blk z w11.heap.size (Frm.cells ⟨f.code, f.pc + 1, f.locals, f.stack.dropLast ++ [cs[(cellN m i.a (lastI f.stack)).toNat]]⟩ ⟨qf.sl, s1⟩) 28 ∧ Ex w z, ⟨hs2.drew.blkAt 3 rfl, hs2.drew.ex 7 rfl⟩, ?_⟩
    refine ⟨_, _, _, _, _, _, _, _, fun z hz => hz.1.lds, ?_⟩
    refine xptr_of hpc ?_
    refine ⟨hn0, by omega, cs[(cellN m i.a (lastI f.stack)).toNat], fun z hz => by simpa using hcell z hz.2, ?_⟩
    refine retS (F := ⟨f.code, f.pc + 1, f.locals, f.stack.dropLast ++ [cs[(cellN m i.a (lastI f.stack)).toNat]]⟩) (q := ⟨qf.sl, s1⟩) (D := access (cellN m i.a (lastI f.stack)) false cs[(cellN m i.a (lastI f.stack)).toNat]) hs2.drew rfl rfl (fun u hu => ⟨hu.blkAt 3 rfl, hu.ex 7 rfl⟩) fun u hu => ?_
    exact hR _ _ _ _ hd ⟨qf.sl, s1⟩ u (hu.ex 7 rfl) ⟨(hf.ex (hu.ex 7 rfl)).l, Sep.rowReads hu 8 rfl⟩
  rw [if_neg (by simpa using h4)]
  by_cases h5 : i.code = 5
  · rw [if_pos (by simp [h5])]
    rw [h5] at htk
    have htk : (1 : Int) ≤ f.stack.length := htk
    have hd : doesF m cs i f.stack f.locals (f.pc + 1) plain = .ok f.stack.dropLast f.locals (f.pc + 1) (access i.a true (lastI f.stack)) := by rw [doesF, if_neg h1, if_pos (by omega), memF, if_neg h2, if_neg h3, if_neg h4, if_pos h5]
    refine ⟨_, _, _, _, _, _, _, _, (hs.blkAt 5 rfl).lds, ?_⟩
    refine D44 (f := f) (qf := qf) (k := 1) (hf.ex hE) (by omega) (by omega) fun s1 u1 hs1 => ⟨_, _, _, rfl, ?_⟩
    have hj := (Sep.joins (M := [row 1 2 s1 (ints (f.stack.take (f.stack.length - 1)))]) hs hs1).toEnd
    rw [← List.dropLast_eq_take] at hj
    show storeP _ ⟨w11.heap.size, 3, none⟩ _ _
    refine hj.putAt 3 rfl (o := 3) (by simp [Frm.cells]) fun u2 _ hs2 => ?_
    refine ⟨fun z => Blk z w11.heap.size (Frm.cells ⟨f.code, f.pc + 1, f.locals, f.stack.dropLast⟩ ⟨qf.sl, s1⟩) 28 ∧ Blk z w3.drew.heap.size i.cells 52, ⟨hs2.drew.blkAt 3 rfl, hs2.drew.blkAt 4 rfl⟩, ?_⟩
    refine ⟨_, _, _, _, _, _, _, _, fun z hz => hz.1.lds, _, fun z hz => hz.2.ld rfl, ?_⟩
    refine retS (F := ⟨f.code, f.pc + 1, f.locals, f.stack.dropLast⟩) (q := ⟨qf.sl, s1⟩) (D := access i.a true (lastI f.stack)) hs2.drew rfl rfl (fun u hu => ⟨hu.blkAt 3 rfl, hu.blkAt 4 rfl⟩) fun u hu => ?_
    exact hR _ _ _ _ hd ⟨qf.sl, s1⟩ u (hu.ex 7 rfl) ⟨(hf.ex (hu.ex 7 rfl)).l, Sep.rowReads hu 8 rfl⟩
  rw [if_neg (by simpa using h5)]
  by_cases h6 : i.code = 6
  · rw [if_pos (by simp [h6])]
    have ha := hS.k3 (.inr h6)
    have ll := hf.l.len
    rw [h6] at htk
    have htk : (1 : Int) ≤ f.stack.length := htk
    have hd : doesF m cs i f.stack f.locals (f.pc + 1) plain = .ok f.stack.dropLast (f.locals.set i.a.toNat (lastI f.stack)) (f.pc + 1) plain := by rw [doesF, if_neg h1, if_pos (by omega), memF, if_neg h2, if_neg h3, if_neg h4, if_neg h5, if_pos h6]
    refine ⟨_, _, _, _, _, _, _, _, (hs.blkAt 5 rfl).lds, ?_⟩
    refine D44 (f := f) (qf := qf) (k := 1) (hf.ex hE) (by omega) (by omega) fun s1 u1 hs1 => ⟨_, _, _, rfl, ?_⟩
    have hj := (Sep.joins (M := [row 1 2 s1 (ints (f.stack.take (f.stack.length - 1)))]) hs hs1).toEnd
    rw [← List.dropLast_eq_take] at hj
    show storeP _ ⟨w11.heap.size, 3, none⟩ _ _
    refine hj.putAt 3 rfl (o := 3) (by simp [Frm.cells]) fun u2 _ hs2 => ?_
    refine ⟨_, _, _, (hs2.blkAt 5 rfl).ld (o := 2) rfl, ?_⟩
    refine takeS (s := qf.sl) (n := qf.sl.l) hs2 ((hf.ex (hs2.ex 7 rfl)).l) (by omega) (by omega) fun s2 u3 hs3 => ⟨_, _, _, rfl, ?_⟩
    rw [ll, List.take_length] at hs3
    have hs3 := hs3.toEnd
    show storeP _ ⟨w11.heap.size, 2, none⟩ _ _
    refine hs3.putAt 3 rfl (o := 2) (by simp [Frm.cells]) fun u4 _ hs4 => ?_
    refine ⟨_, _, _, (hs4.blkAt 3 rfl).ld (o := 2) rfl, _, (hs4.blkAt 4 rfl).ld (o := 1) rfl, ?_⟩
    obtain ⟨ps, hps, -⟩ := hs4.rowCellAt 9 rfl (ints_get (List.getElem?_eq_getElem (l := f.locals) (i := i.a.toNat) (by omega)))
    obtain ⟨_, _, _, hl2⟩ := hs4.rowAt 9 rfl
    have hl2 : f.locals.length = s2.l := by simpa using hl2
    refine xptr_of hps ?_
    refine ⟨hA.2.2.1, by omega, ?_⟩
    rw [Nat.mul_one]
    refine hs4.rowPutAt 9 rfl (by simp; omega) hps fun u5 _ hs5 => ?_
    rw [← ints_set] at hs5
    refine ⟨fun z => Blk z w11.heap.size (Frm.cells ⟨f.code, f.pc + 1, f.locals.set i.a.toNat (lastI f.stack), f.stack.dropLast⟩ ⟨s2, s1⟩) 28 ∧ Blk z w14.drew.heap.size plain.cells 68, ⟨hs5.drew.blkAt 3 rfl, hs5.drew.blkAt 2 rfl⟩, ?_⟩
    refine ⟨_, _, _, _, _, _, _, _, fun z hz => hz.1.lds, _, _, _, _, _, _, _, _, _, _, fun z hz => hz.2.lds, ?_⟩
    refine retS (F := ⟨f.code, f.pc + 1, f.locals.set i.a.toNat (lastI f.stack), f.stack.dropLast⟩) (q := ⟨s2, s1⟩) (D := plain) hs5.drew rfl rfl (fun u hu => ⟨hu.blkAt 3 rfl, hu.blkAt 2 rfl⟩) fun u hu => ?_
    exact hR _ _ _ _ hd ⟨s2, s1⟩ u (hu.ex 7 rfl) ⟨Sep.rowReads hu 9 rfl, Sep.rowReads hu 8 rfl⟩
  rw [if_neg (by simpa using h6)]
  by_cases h7 : i.code = 7
  · rw [if_pos (by simp [h7])]
    have ha := hS.k4 (.inr h7)
    rw [h7] at htk
    have htk : (2 : Int) ≤ f.stack.length := htk
    have hv := hS.vs _ (List.dropLast_subset _ (lastI_mem (l := f.stack.dropLast) (by simp; omega)))
    have hdm : doesF m cs i f.stack f.locals (f.pc + 1) plain = memF m cs i f.stack f.locals (f.pc + 1) plain := by rw [doesF, if_neg h1, if_pos (by omega)]
    refine ⟨_, _, _, _, _, _, _, _, _, _, _, _, _, _, (hs.blkAt 6 rfl).lds, _, (hs.blkAt 4 rfl).ld (o := 1) rfl, ?_⟩
    refine C42 (u0 := w) (a := i.a) (i := lastI f.stack.dropLast) hF hE hA.2.2.1 ha hv fun u0 e0 => ⟨_, rfl, ?_⟩
    have hs0 := hs.ext e0
    by_cases hin : inArr m i.a (lastI f.stack.dropLast) = true
    rotate_left
    · have hd : doesF m cs i f.stack f.locals (f.pc + 1) plain = .trap 3 := by rw [hdm, memF, if_neg h2, if_neg h3, if_neg h4, if_neg h5, if_neg h6, if_pos h7, if_neg hin]
      rw [if_neg hin, if_pos (by decide)]
      refine ⟨_, _, _, _, _, _, _, _, (hs0.blkAt 5 rfl).lds, ?_⟩
      refine D43 (f := f) (qf := qf) (t := 3) fun u1 e1 => ⟨_, _, _, _, _, _, _, _, _, _, _, _, _, _, _, _, _, _, rfl, ?_⟩
      refine retK (F := f) (q := qf) (D := trapDid 3) (hs0.ext e1) rfl rfl fun u hu => ?_
      exact hT 3 hd qf u (hu.ex 7 rfl) (hf.ex (hu.ex 7 rfl))
    obtain ⟨hn0, hn1⟩ := cellN_lt hF hA.2.2.1 ha hin
    have hd : doesF m cs i f.stack f.locals (f.pc + 1) plain = .ok f.stack.dropLast.dropLast f.locals (f.pc + 1) (access (cellN m i.a (lastI f.stack.dropLast)) true (lastI f.stack)) := by
      rw [hdm, memF, if_neg h2, if_neg h3, if_neg h4, if_neg h5, if_neg h6, if_pos h7, if_pos hin]
    have htd : f.stack.take (f.stack.length - 2) = f.stack.dropLast.dropLast := by
      rw [List.dropLast_eq_take, List.dropLast_eq_take, List.take_take, List.length_take]
      congr 1; omega
    rw [if_pos hin, if_neg (by simp; omega)]
    refine ⟨_, _, _, _, _, _, _, _, (hs0.blkAt 5 rfl).lds, ?_⟩
    refine D44 (f := f) (qf := qf) (k := 2) (hf.ex (hs0.ex 7 rfl)) (by omega) (by omega) fun s1 u1 hs1 => ⟨_, _, _, rfl, ?_⟩
    have hj := (Sep.joins (M := [row 1 2 s1 (ints (f.stack.take (f.stack.length - 2)))]) hs0 hs1).toEnd
    rw [htd] at hj
    show storeP _ ⟨w11.heap.size, 3, none⟩ _ _
    refine hj.putAt 3 rfl (o := 3) (by simp [Frm.cells]) fun u2 _ hs2 => ?_
    refine ⟨_, _, _, _, _, _, _, _, (hs2.blkAt 3 rfl).lds, ?_⟩
    refine retK (F := ⟨f.code, f.pc + 1, f.locals, f.stack.dropLast.dropLast⟩) (q := ⟨qf.sl, s1⟩) (D := access (cellN m i.a (lastI f.stack.dropLast)) true (lastI f.stack)) hs2 rfl rfl fun u hu => ?_
    exact hR _ _ _ _ hd ⟨qf.sl, s1⟩ u (hu.ex 7 rfl) ⟨(hf.ex (hu.ex 7 rfl)).l, Sep.rowReads hu 8 rfl⟩
  rw [if_neg (by simpa using h7)]
  have h27 : ¬(2 ≤ i.code ∧ i.code ≤ 7) := by omega
  by_cases h8 : i.code = 8
  · rw [if_pos (by simp [h8])]
    rw [h8] at htk
    have htk : (1 : Int) ≤ f.stack.length := htk
    have hv := val_iff.1 (hS.vs _ (lastI_mem (l := f.stack) (by omega)))
    have hdm : doesF m cs i f.stack f.locals (f.pc + 1) plain = resE (madeE (-lastI f.stack)) f.stack.dropLast f.locals (f.pc + 1) plain := by rw [doesF, if_neg h1, if_neg h27, if_pos h8]
    rw [wi (by omega) (by omega), Int.zero_sub]
    refine C27 ⟨_, rfl, ?_⟩
    by_cases hb : valB (-lastI f.stack) = true
    rotate_left
    · have hd : doesF m cs i f.stack f.locals (f.pc + 1) plain = .trap 2 := by rw [hdm, madeE, if_neg hb]; rfl
      rw [Bool.not_eq_true] at hb
      rw [hb, if_pos (by rfl)]
      refine ⟨_, _, _, _, _, _, _, _, (hs.blkAt 5 rfl).lds, ?_⟩
      refine D43 (f := f) (qf := qf) (t := 2) fun u1 e1 => ⟨_, _, _, _, _, _, _, _, _, _, _, _, _, _, _, _, _, _, rfl, ?_⟩
      refine retK (F := f) (q := qf) (D := trapDid 2) (hs.ext e1) rfl rfl fun u hu => ?_
      exact hT 2 hd qf u (hu.ex 7 rfl) (hf.ex (hu.ex 7 rfl))
    have hd : doesF m cs i f.stack f.locals (f.pc + 1) plain = .ok (f.stack.dropLast ++ [-lastI f.stack]) f.locals (f.pc + 1) plain := by rw [hdm, madeE, if_pos hb]; rfl
    rw [hb, if_neg (by decide)]
    refine ⟨_, _, _, _, _, _, _, _, (hs.blkAt 5 rfl).lds, ?_⟩
    refine D41 (k := 1) (v := -lastI f.stack) (hf.ex hE) (by omega) (by omega) fun s1 u1 hs1 => ⟨_, _, _, rfl, ?_⟩
    have hj := (Sep.joins (M := [row 1 2 s1 (ints (f.stack.take (f.stack.length - 1) ++ [-lastI f.stack]))]) hs hs1).toEnd
    rw [← List.dropLast_eq_take] at hj
    show storeP _ ⟨w11.heap.size, 3, none⟩ _ _
    refine hj.putAt 3 rfl (o := 3) (by simp [Frm.cells]) fun u2 _ hs2 => ?_
    refine ⟨fun z => Blk z w11.heap.size (Frm.cells ⟨f.code, f.pc + 1, f.locals, f.stack.dropLast ++ [-lastI f.stack]⟩ ⟨qf.sl, s1⟩) 28 ∧ Blk z w14.drew.heap.size plain.cells 68, ⟨hs2.drew.blkAt 3 rfl, hs2.drew.blkAt 2 rfl⟩, ?_⟩
    refine ⟨_, _, _, _, _, _, _, _, fun z hz => hz.1.lds, _, _, _, _, _, _, _, _, _, _, fun z hz => hz.2.lds, ?_⟩
    refine retS (F := ⟨f.code, f.pc + 1, f.locals, f.stack.dropLast ++ [-lastI f.stack]⟩) (q := ⟨qf.sl, s1⟩) (D := plain) hs2.drew rfl rfl (fun u hu => ⟨hu.blkAt 3 rfl, hu.blkAt 2 rfl⟩) fun u hu => ?_
    exact hR _ _ _ _ hd ⟨qf.sl, s1⟩ u (hu.ex 7 rfl) ⟨(hf.ex (hu.ex 7 rfl)).l, Sep.rowReads hu 8 rfl⟩
  rw [if_neg (by simpa using h8)]
  by_cases h9 : i.code = 9
  · rw [if_pos (by simp [h9])]
    rw [h9] at htk
    have htk : (1 : Int) ≤ f.stack.length := htk
    have hd : doesF m cs i f.stack f.locals (f.pc + 1) plain = .ok (f.stack.dropLast ++ [truI (lastI f.stack == 0)]) f.locals (f.pc + 1) plain := by rw [doesF, if_neg h1, if_neg h27, if_neg h8, if_pos h9]
    refine ⟨fun z => Blk z w0.heap.size (f.cells qf) 28, hs.drew.blkAt 5 rfl, ?_⟩
    refine ⟨_, _, _, _, _, _, _, _, fun z hz => hz.lds, ?_⟩
    refine C45 ⟨_, rfl, hs.drew.blkAt 5 rfl, ?_⟩
    refine D41 (k := 1) (v := truI (lastI f.stack == 0)) (hf.ex (hs.drew.ex 7 rfl)) (by omega) (by omega) fun s1 u1 hs1 => ⟨_, _, _, rfl, fun _ => True, trivial, ?_⟩
    have hj := (Sep.joins (M := [row 1 2 s1 (ints (f.stack.take (f.stack.length - 1) ++ [truI (lastI f.stack == 0)]))]) hs.drew hs1).toEnd
    rw [← List.dropLast_eq_take] at hj
    show storeP _ ⟨w11.heap.size, 3, none⟩ _ _
    refine hj.putAt 3 rfl (o := 3) (by simp [Frm.cells]) fun u2 _ hs2 => ?_
    refine ⟨fun z => Blk z w11.heap.size (Frm.cells ⟨f.code, f.pc + 1, f.locals, f.stack.dropLast ++ [truI (lastI f.stack == 0)]⟩ ⟨qf.sl, s1⟩) 28 ∧ Blk z w14.drew.heap.size plain.cells 68, ⟨hs2.drew.blkAt 3 rfl, hs2.drew.blkAt 2 rfl⟩, ?_⟩
    refine ⟨_, _, _, _, _, _, _, _, fun z hz => hz.1.lds, _, _, _, _, _, _, _, _, _, _, fun z hz => hz.2.lds, ?_⟩
    refine retS (F := ⟨f.code, f.pc + 1, f.locals, f.stack.dropLast ++ [truI (lastI f.stack == 0)]⟩) (q := ⟨qf.sl, s1⟩) (D := plain) hs2.drew rfl rfl (fun u hu => ⟨hu.blkAt 3 rfl, hu.blkAt 2 rfl⟩) fun u hu => ?_
    exact hR _ _ _ _ hd ⟨qf.sl, s1⟩ u (hu.ex 7 rfl) ⟨(hf.ex (hu.ex 7 rfl)).l, Sep.rowReads hu 8 rfl⟩
  rw [if_neg (by simpa using h9)]
  by_cases h10 : 10 ≤ i.code ∧ i.code ≤ 18
  · rw [if_pos (by simp; omega)]
    have htk2 : (effI i.code).1 = 2 := by
      unfold effI
      rw [if_neg (by simp; omega), if_neg (by simp; omega), if_neg (by simp; omega), if_pos (by simp; omega)]
    rw [htk2] at htk
    have hva := hS.vs _ (List.dropLast_subset _ (lastI_mem (l := f.stack.dropLast) (by simp; omega)))
    have hvb := hS.vs _ (lastI_mem (l := f.stack) (by omega))
    have hdm : doesF m cs i f.stack f.locals (f.pc + 1) plain = resE (twoF i.code (lastI f.stack.dropLast) (lastI f.stack)) f.stack.dropLast.dropLast f.locals (f.pc + 1) plain := by rw [doesF, if_neg h1, if_neg h27, if_neg h8, if_neg h9, if_pos h10]
    have htd : f.stack.take (f.stack.length - 2) = f.stack.dropLast.dropLast := by
      rw [List.dropLast_eq_take, List.dropLast_eq_take, List.take_take, List.length_take]
      congr 1; omega
    refine C46 h10 hva hvb fun u0 e0 => ⟨_, _, rfl, ?_⟩
    have hs0 := hs.ext e0
    cases he : twoF i.code (lastI f.stack.dropLast) (lastI f.stack) with
    | error t =>
      have hd : doesF m cs i f.stack f.locals (f.pc + 1) plain = .trap t := by rw [hdm, he]; rfl
      have ht : t = 1 ∨ t = 2 := by
        unfold twoF madeE at he
        repeat' split at he
        all_goals first | cases he | skip
        all_goals first | exact .inl rfl | exact .inr rfl
      show if (t != 0) = true then _ else _
      rw [if_pos (by rcases ht with rfl | rfl <;> rfl)]
      refine ⟨_, _, _, _, _, _, _, _, (hs0.blkAt 5 rfl).lds, ?_⟩
      refine D43 (f := f) (qf := qf) (t := t) fun u1 e1 => ⟨_, _, _, _, _, _, _, _, _, _, _, _, _, _, _, _, _, _, rfl, ?_⟩
      refine retK (F := f) (q := qf) (D := trapDid t) (hs0.ext e1) rfl rfl fun u hu => ?_
      exact hT t hd qf u (hu.ex 7 rfl) (hf.ex (hu.ex 7 rfl))
    | ok v =>
      have hd : doesF m cs i f.stack f.locals (f.pc + 1) plain = .ok (f.stack.dropLast.dropLast ++ [v]) f.locals (f.pc + 1) plain := by rw [hdm, he]; rfl
      rw [if_neg (by simp [pairE])]
      refine ⟨_, _, _, _, _, _, _, _, (hs0.blkAt 5 rfl).lds, ?_⟩
      refine D41 (k := 2) (v := v) (hf.ex (hs0.ex 7 rfl)) (by omega) (by omega) fun s1 u1 hs1 => ⟨_, _, _, rfl, ?_⟩
      have hj := (Sep.joins (M := [row 1 2 s1 (ints (f.stack.take (f.stack.length - 2) ++ [v]))]) hs0 hs1).toEnd
      rw [htd] at hj
      show storeP _ ⟨w11.heap.size, 3, none⟩ _ _
      refine hj.putAt 3 rfl (o := 3) (by simp [Frm.cells]) fun u2 _ hs2 => ?_
      refine ⟨fun z => Blk z w11.heap.size (Frm.cells ⟨f.code, f.pc + 1, f.locals, f.stack.dropLast.dropLast ++ [v]⟩ ⟨qf.sl, s1⟩) 28 ∧ Blk z w14.drew.heap.size plain.cells 68, ⟨hs2.drew.blkAt 3 rfl, hs2.drew.blkAt 2 rfl⟩, ?_⟩
      refine ⟨_, _, _, _, _, _, _, _, fun z hz => hz.1.lds, _, _, _, _, _, _, _, _, _, _, fun z hz => hz.2.lds, ?_⟩
      refine retS (F := ⟨f.code, f.pc + 1, f.locals, f.stack.dropLast.dropLast ++ [v]⟩) (q := ⟨qf.sl, s1⟩) (D := plain) hs2.drew rfl rfl (fun u hu => ⟨hu.blkAt 3 rfl, hu.blkAt 2 rfl⟩) fun u hu => ?_
      exact hR _ _ _ _ hd ⟨qf.sl, s1⟩ u (hu.ex 7 rfl) ⟨(hf.ex (hu.ex 7 rfl)).l, Sep.rowReads hu 8 rfl⟩
  rw [if_neg (by simp; omega)]
  have hd : doesF m cs i f.stack f.locals (f.pc + 1) plain = doesF m cs i f.stack f.locals (f.pc + 1) plain := rfl
  refine ⟨_, _, _, _, _, _, _, _, _, _, _, _, _, _, (hs.blkAt 6 rfl).lds, _, _, _, _, _, _, _, _, (hs.blkAt 5 rfl).lds, _, _, _, _, _, _, _, _, (hs.blkAt 3 rfl).lds, _, _, _, _, (hs.blkAt 4 rfl).lds, ?_⟩
  have hfl : FrmP w19 (fun b => b < w.heap.size) qf f :=
    ⟨SlR.frame (hf.l.mono (G' := fun b => b < w.heap.size) fun b hb _ => hb) (hE (fun _ => False)) fun _ _ h => h, SlR.frame (hf.s.mono (G' := fun b => b < w.heap.size) fun b hb _ => hb) (hE (fun _ => False)) fun _ _ h => h⟩
  refine C47 (m := m) (q := q) (f := f) (qf := qf) (i := i) (cs := cs) (G0 := fun b => b < w.heap.size) hfl hS (by omega) fun q' u1 e1 h1' => ⟨_, _, _, _, _, _, _, _, _, _, _, _, _, _, _, _, _, _, rfl, ?_⟩
  have hg := Sep.gain hs 7 rfl e1 (A := frmA q' (outF f (doesF m cs i f.stack f.locals (f.pc + 1) plain)).1) h1'
  have hg : Sep u1 (bx w2.heap.size noDid.cells 68 :: bx w1.heap.size (noFrm.cells noFrmH) 28 :: _) := hg
  refine retK (F := (outF f (doesF m cs i f.stack f.locals (f.pc + 1) plain)).1) (q := q') (D := (outF f (doesF m cs i f.stack f.locals (f.pc + 1) plain)).2) hg rfl rfl fun u hu => ?_
  have e2 : doF m f cs = outF f (doesF m cs i f.stack f.locals (f.pc + 1) plain) := by rw [doF, hi]
  obtain ⟨G7, h7o⟩ := hu.persAt' 7 rfl 0 rfl
  obtain ⟨G8, h8o⟩ := hu.persAt' 7 rfl 1 rfl
  have h8o : FrmP u G8 q' (outF f (doesF m cs i f.stack f.locals (f.pc + 1) plain)).1 := h8o
  have := h q' u (fun D => ⟨h7o.1, fun b hb _ => (h7o.2 b hb).2⟩) (by rw [e2]; exact ⟨h8o.l.mono fun _ _ _ => trivial, h8o.s.mono fun _ _ _ => trivial⟩)
  rw [e2] at this
  exact this
end
end Go.Proofs.YtahcpjgaogghiaaGreat
/- The vm seat: what is next; which frames are the same. -/
set_option linter.unusedVariables false
set_option linter.unusedSimpArgs false
set_option maxRecDepth 10000
set_option maxHeartbeats 2000000
namespace Go.Proofs.YtahcpjgaogghiaaGreat
open Go.X Go.Heap
section
variable {w : World} {K : Value → World → Prop} {KP : List PanicEntry → World → Prop}
theorem C22 {m : Mdl} {q : MdlH} {f : Frm} {qf : FrmH} {G G' : Nat → Prop} (hq : MdlP w G q m) (hf : FrmP w G' qf f) (hsm : mdlOk m = true → Small m) (hb1 : f.locals.length ≤ 1000000) (hb2 : f.stack.length ≤ 1000000)
    (h : ∀ u, Ex w u → K (.bool (mayF m f 0)) u) : XCP Tryz.prog 22 [m.v q, f.v qf] w K KP := by
  show XCP Tryz.prog 22 [.agg #[.slice q.sv.a q.sv.l q.sv.c, .slice q.sa.a q.sa.l q.sa.c, .slice q.sc.a q.sc.l q.sc.c, .int .i64 m.mutexes, .int .i64 m.conds, .slice q.st.a q.st.l q.st.c], .agg #[.int .i64 f.code, .int .i64 f.pc, .slice qf.sl.a qf.sl.l qf.sl.c, .slice qf.ss.a qf.ss.l qf.ss.c]] w K KP
  refine E22 ?_
  unfold F22
  intro w0 p w1 p1
  have hs : Sep w1 (bx w0.heap.size (f.cells qf) 28 :: bx w.heap.size (m.cells q) 26 :: [oldA w]) := ((Sep.begin w).box _ _).box _ _
  clear_value w1
  have e1 : Ex w w1 := hs.ex 2 rfl
  refine ⟨_, _, _, _, _, _, _, _, _, _, _, _, _, _, (hs.blkAt 1 rfl).lds, _, _, _, _, _, _, _, _, (hs.blkAt 0 rfl).lds, ?_⟩
  exact C35 (hq.ex e1) (hf.ex e1) hsm hb1 hb2 (by decide) fun u hu => ⟨_, rfl, h u (e1.trans hu)⟩
theorem C23 {m : Mdl} {q : MdlH} {f : Frm} {qf : FrmH} (hq : MdlP w T0 q m) (hf : FrmP w T0 qf f) (hsm : mdlOk m = true → Small m) (hb1 : f.locals.length ≤ 1000000) (hb2 : f.stack.length ≤ 900)
    (h0 : mayF m f 0 = false → ∀ u, Ex w u → K (.tuple #[noIns.v, .int .i64 2]) u)
    (h1 : mayF m f 0 = true → ∀ u, Ex w u → K (.tuple #[(insF m f).v, .int .i64 0]) u) : XCP Tryz.prog 23 [m.v q, f.v qf] w K KP := by
  show XCP Tryz.prog 23 [.agg #[.slice q.sv.a q.sv.l q.sv.c, .slice q.sa.a q.sa.l q.sa.c, .slice q.sc.a q.sc.l q.sc.c, .int .i64 m.mutexes, .int .i64 m.conds, .slice q.st.a q.st.l q.st.c], .agg #[.int .i64 f.code, .int .i64 f.pc, .slice qf.sl.a qf.sl.l qf.sl.c, .slice qf.ss.a qf.ss.l qf.ss.c]] w K KP
  refine E23 ?_
  unfold F23
  intro w0 p w1 p1 w2 p2
  have hs : Sep w2 (bx w1.heap.size noIns.cells 52 :: bx w0.heap.size (f.cells qf) 28 :: bx w.heap.size (m.cells q) 26 :: [oldA w]) := (((Sep.begin w).box _ _).box _ _).box _ _
  clear_value w2
  have e2 : Ex w w2 := hs.ex 3 rfl
  refine ⟨_, _, _, _, _, _, _, _, _, _, _, _, _, _, (hs.blkAt 2 rfl).lds, _, _, _, _, _, _, _, _, (hs.blkAt 1 rfl).lds, ?_⟩
  refine C35 (hq.ex e2) (hf.ex e2) hsm hb1 (by omega) (by decide) fun u hu => ⟨_, rfl, ?_⟩
  replace hs := hs.ext hu
  cases hm : mayF m f 0 with
  | false =>
    rw [if_pos (by rfl)]
    refine Sep.fillAt hs 0 rfl (vs := noIns.cells) rfl fun u1 _ hs => ?_
    exact ⟨_, _, _, _, (hs.blkAt 0 rfl).lds, h0 hm u1 (hs.ex 3 rfl)⟩
  | true =>
    rw [if_neg (by decide)]
    obtain ⟨hok, hc0, hct, hp0, hpl, -⟩ := may_fit hm hb2
    obtain ⟨pt, qc, hpt, hcod⟩ := codP_at (f := f) hq hct
    obtain ⟨pi, hpi, hins⟩ := insP_at (hcod w (Ex.refl w)).1 hpl
    have lt := hq.t.len
    have li := (hcod w (Ex.refl w)).1.1.len
    refine ⟨fun z => Blk z w.heap.size (m.cells q) 26 ∧ Blk z w0.heap.size (f.cells qf) 28 ∧ Ex w z, ⟨(hs.drew.blkAt 2 rfl), (hs.drew.blkAt 1 rfl), hs.drew.ex 3 rfl⟩, ?_⟩
    refine ⟨_, _, _, fun z hz => hz.1.ld rfl, _, fun z hz => hz.2.1.ld rfl, ?_⟩
    rw [hpt, xptr_some]
    refine ⟨hc0, by omega, _, _, _, fun z hz => cellsAt_ix (hcod z hz.2.2).2 (j := 2) rfl, _, fun z hz => hz.2.1.ld rfl, ?_⟩
    rw [hpi, xptr_some]
    refine ⟨hp0, by omega, _, _, _, _, fun z hz => hins z hz.2.2, ?_⟩
    refine Sep.fillAt hs.drew 0 rfl (vs := (insF m f).cells) rfl fun u1 _ hs => ⟨fun _ => True, trivial, ?_⟩
    exact ⟨_, _, _, _, (hs.blkAt 0 rfl).lds, h1 hm u1 (hs.ex 3 rfl)⟩
theorem Frm.eq_iff {a b : Frm} : a = b ↔ a.code = b.code ∧ a.pc = b.pc ∧ a.locals = b.locals ∧ a.stack = b.stack := by
  cases a; cases b; simp
theorem C24 {a b : Frm} {qa qb : FrmH} (ha : FrmP w T0 qa a) (hb : FrmP w T0 qb b) (hl : a.locals.length ≤ 1000000) (hl2 : a.stack.length ≤ 1000000)
    (h : ∀ u, Ex w u → K (.bool (decide (a = b))) u) : XCP Tryz.prog 24 [a.v qa, b.v qb] w K KP := by
  show XCP Tryz.prog 24 [.agg #[.int .i64 a.code, .int .i64 a.pc, .slice qa.sl.a qa.sl.l qa.sl.c, .slice qa.ss.a qa.ss.l qa.ss.c], .agg #[.int .i64 b.code, .int .i64 b.pc, .slice qb.sl.a qb.sl.l qb.sl.c, .slice qb.ss.a qb.ss.l qb.ss.c]] w K KP
  refine E24 ?_
  unfold F24
  intro w0 p w1 p1
  have hs : Sep w1 (bx w0.heap.size (b.cells qb) 28 :: bx w.heap.size (a.cells qa) 28 :: [oldA w]) := ((Sep.begin w).box _ _).box _ _
  clear_value w1
  have hA : Blk w1 w.heap.size (a.cells qa) 28 := hs.blkAt 1 rfl
  have hB : Blk w1 w0.heap.size (b.cells qb) 28 := hs.blkAt 0 rfl
  have e1 : Ex w w1 := hs.ex 2 rfl
  have l1 := ha.l.len
  have l2 := ha.s.len
  have l3 := hb.l.len
  have l4 := hb.s.len
  refine ⟨_, hA.ld rfl, _, hB.ld rfl, ?_⟩
  refine X.or_join (c := a.pc != b.pc) (fun kb hk => ⟨_, hA.ld rfl, _, hB.ld rfl, hk _ (Ex.refl _)⟩) fun u1 f1 => ?_
  refine X.or_join (c := (qa.sl.l : Int) != qb.sl.l) (fun kb hk => ⟨_, _, _, (f1.blk hA).ld rfl, _, _, _, (f1.blk hB).ld rfl, hk _ (Ex.refl _)⟩) fun u2 f2 => ?_
  refine X.or_join (c := (qa.ss.l : Int) != qb.ss.l) (fun kb hk => ⟨_, _, _, ((f1.trans f2).blk hA).ld rfl, _, _, _, ((f1.trans f2).blk hB).ld rfl, hk _ (Ex.refl _)⟩) fun u3 f3 => ?_
  have f : Ex w1 u3 := f1.trans (f2.trans f3)
  have no : ∀ u, Ex w1 u → a ≠ b → K (.bool false) u := fun u hu hn => by
    have := h u (e1.trans hu)
    rwa [decide_eq_false hn] at this
  by_cases hc : (((a.code != b.code || a.pc != b.pc) || ((qa.sl.l : Int) != qb.sl.l)) || ((qa.ss.l : Int) != qb.ss.l)) = true
  · rw [if_pos hc]
    refine no _ f fun e => ?_
    subst e
    simp [l1, l2, l3, l4] at hc
  rw [if_neg hc]
  simp only [Bool.or_eq_true, bne_iff_ne, ne_eq, not_or, Decidable.not_not] at hc
  obtain ⟨⟨⟨c1, c2⟩, c3⟩, c4⟩ := hc
  refine X.each a.locals.length (fun i => a.locals[i]? = b.locals[i]?) ?_ ?_
  · intro I μ n u he hlt hf next
    have eu := f.trans he
    refine ⟨_, _, _, (eu.blk hA).ld rfl, ?_⟩
    rw [if_pos (by simp; omega)]
    refine ⟨fun z => Ex w1 z, eu.trans (Ex.drew _), _, _, _, fun z hz => (hz.blk hA).ld rfl, ?_⟩
    obtain ⟨p2, hp2, hc2⟩ := SlR.atI ha.l hlt
    obtain ⟨p3, hp3, hc3⟩ := SlR.atI hb.l (k := n) (by omega)
    refine xptr_of hp2 ⟨by omega, by omega, _, fun z hz => by rw [Int.toNat_natCast, Nat.mul_one]; exact hc2 z (e1.trans hz), ?_⟩
    refine ⟨_, _, _, fun z hz => (hz.blk hB).ld rfl, ?_⟩
    refine xptr_of hp3 ⟨by omega, by omega, _, fun z hz => by rw [Int.toNat_natCast, Nat.mul_one]; exact hc3 z (e1.trans hz), ?_⟩
    by_cases hx : a.locals[n] = b.locals[n]
    · rw [if_neg (by simpa using hx), wi (by omega) (by omega)]
      exact next (by rw [List.getElem?_eq_getElem hlt, List.getElem?_eq_getElem (by omega), hx]) _ (Ex.drew u)
    · rw [if_pos (by simpa using hx)]
      exact no _ (eu.trans (Ex.drew _)) fun e => hx (by subst e; rfl)
  · intro I μ u he hf
    have eu := f.trans he
    refine ⟨_, _, _, (eu.blk hA).ld rfl, ?_⟩
    rw [if_neg (by simp; omega)]
    have eqL : a.locals = b.locals := List.ext_getElem? fun i => by
      by_cases hi : i < a.locals.length
      · exact hf i hi
      · rw [List.getElem?_eq_none (by omega), List.getElem?_eq_none (by omega)]
    refine X.each a.stack.length (fun i => a.stack[i]? = b.stack[i]?) ?_ ?_
    · intro I μ n u' he' hlt hf next
      have eu := eu.trans he'
      refine ⟨_, _, _, (eu.blk hA).ld rfl, ?_⟩
      rw [if_pos (by simp; omega)]
      refine ⟨fun z => Ex w1 z, eu.trans (Ex.drew _), _, _, _, fun z hz => (hz.blk hA).ld rfl, ?_⟩
      obtain ⟨p2, hp2, hc2⟩ := SlR.atI ha.s hlt
      obtain ⟨p3, hp3, hc3⟩ := SlR.atI hb.s (k := n) (by omega)
      refine xptr_of hp2 ⟨by omega, by omega, _, fun z hz => by rw [Int.toNat_natCast, Nat.mul_one]; exact hc2 z (e1.trans hz), ?_⟩
      refine ⟨_, _, _, fun z hz => (hz.blk hB).ld rfl, ?_⟩
      refine xptr_of hp3 ⟨by omega, by omega, _, fun z hz => by rw [Int.toNat_natCast, Nat.mul_one]; exact hc3 z (e1.trans hz), ?_⟩
      by_cases hx : a.stack[n] = b.stack[n]
      · rw [if_neg (by simpa using hx), wi (by omega) (by omega)]
        exact next (by rw [List.getElem?_eq_getElem hlt, List.getElem?_eq_getElem (by omega), hx]) _ (Ex.drew u')
      · rw [if_pos (by simpa using hx)]
        exact no _ (eu.trans (Ex.drew _)) fun e => hx (by subst e; rfl)
    · intro I μ u' he' hf
      have eu := eu.trans he'
      refine ⟨_, _, _, (eu.blk hA).ld rfl, ?_⟩
      rw [if_neg (by simp; omega)]
      have eqS : a.stack = b.stack := List.ext_getElem? fun i => by
        by_cases hi : i < a.stack.length
        · exact hf i hi
        · rw [List.getElem?_eq_none (by omega), List.getElem?_eq_none (by omega)]
      have := h u' (e1.trans eu)
      rwa [decide_eq_true (Frm.eq_iff.2 ⟨c1, c2, eqL, eqS⟩)] at this
end
end Go.Proofs.YtahcpjgaogghiaaGreat
