/- The verify seat: which instructions and codes may be, as the program and as the document say it. -/
import Derived.Test.YtahcpjgaogghiaaGreatV2
set_option linter.unusedVariables false
set_option linter.unusedSimpArgs false
set_option maxRecDepth 10000
namespace Go.Proofs.YtahcpjgaogghiaaGreat
open Go.X
section
variable {w : World} {K : Value → World → Prop} {KP : List PanicEntry → World → Prop}
theorem wrap32' (n : Int) : (n == IntKind.wrap .i64 (IntKind.wrap .i32 n)) = inI n (-2147483648) 2147483647 := wrap32 n
theorem right_of {i : Ins} {n : Int} (h1 : inI i.code 1 34 = true → n = usesI i.code) (h2 : inI i.code 1 34 = false → n = 0) :
    ((((inI i.code 1 34 && (((bitsI .and .i64 n 1 != 0 || i.a == 0) && (bitsI .and .i64 n 2 != 0 || i.b == 0)) && (bitsI .and .i64 n 4 != 0 || i.num == 0))) && inI i.a 0 65535) && inI i.b 0 65535) && inI i.num (-2147483648) 2147483647) = insOk i := by
  unfold insOk
  cases hc : inI i.code 1 34 with
  | false => simp
  | true => rw [h1 hc, bit1, bit2, bit4]; simp only [Bool.true_and, Bool.and_assoc]
theorem C89 {i : Ins} (h : ∀ u, Ex w u → K (.bool (insOk i)) u) : XCP Tryz.prog 89 [i.v] w K KP := by
  show XCP Tryz.prog 89 [.agg #[.int .i64 i.code, .int .i64 i.a, .int .i64 i.b, .int .i64 i.num]] w K KP
  refine E89 ?_
  unfold F89
  intro w0 p
  have hb : Blk w0 w.heap.size i.cells 52 := Blk.new w _ _
  have he : Ex w w0 := Ex.alloc w _
  clear_value w0
  refine ⟨_, hb.ld rfl, C139 fun u s n hu h1 h2 => ⟨_, _, _, rfl, ?_⟩⟩
  intro w2 p1
  have hs : Sep w2 (bx u.heap.size _ 233 :: [oldA u]) := (Sep.begin u).box _ _
  clear_value w2
  refine hs.fill (vs := [.string s, .int .i64 n]) rfl fun w3 _ hs => ?_
  have e3 : Ex w0 w3 := hu.trans (hs.ex 1 rfl)
  have hb3 : Blk w3 u.heap.size [.string s, .int .i64 n] 233 := hs.bx0
  clear hs
  refine ⟨_, hb3.ld rfl, ?_⟩
  refine or_join (c := i.a == 0) (fun kb hk => ⟨_, (e3.blk hb).ld rfl, hk _ (Ex.refl _)⟩) fun u4 e4 => ?_
  refine and_join (c := bitsI .and .i64 n 2 != 0 || i.b == 0) (fun kb hk => ⟨_, (e4.blk hb3).ld rfl, or_join (c := i.b == 0) (fun kb' hk' => ⟨_, ((e3.trans e4).blk hb).ld rfl, hk' _ (Ex.refl _)⟩) fun u h => hk u h⟩) fun u5 e5 => ?_
  have e5 := e4.trans e5
  refine and_join (c := bitsI .and .i64 n 4 != 0 || i.num == 0) (fun kb hk => ⟨_, (e5.blk hb3).ld rfl, or_join (c := i.num == 0) (fun kb' hk' => ⟨_, ((e3.trans e5).blk hb).ld rfl, hk' _ (Ex.refl _)⟩) fun u h => hk u h⟩) fun u6 e6 => ?_
  have e6 := e5.trans e6
  refine and_join (c := inI i.a 0 65535) (fun kb hk => ⟨_, ((e3.trans e6).blk hb).ld rfl, C84 ⟨_, rfl, hk _ (Ex.refl _)⟩⟩) fun u7 e7 => ?_
  have e7 := e6.trans e7
  refine and_join (c := inI i.b 0 65535) (fun kb hk => ⟨_, ((e3.trans e7).blk hb).ld rfl, C84 ⟨_, rfl, hk _ (Ex.refl _)⟩⟩) fun u8 e8 => ?_
  have e8 := e7.trans e8
  refine and_join (c := inI i.num (-2147483648) 2147483647) (fun kb hk => ⟨_, ((e3.trans e8).blk hb).ld rfl, _, ((e3.trans e8).blk hb).ld rfl, by rw [wrap32']; exact hk _ (Ex.refl _)⟩) fun u9 e9 => ?_
  have e9 := e8.trans e9
  rw [right_of h1 h2]
  exact h u9 (he.trans (e3.trans e9))
theorem D89 : DecN w (.func (.func 89) #[] #[]) insOk := by
  intro x u K KP _ hk
  show XCP Tryz.prog 89 [x.v] u K KP
  exact C89 hk

/-! the document's -/
def nameRow : List Value := codeL.map fun x => .string x.1
theorem T33 : SlT Tryz.prog 33 9 1 16 [.string ByteArray.empty] := ⟨by kernel_rfl, by kernel_rfl⟩
theorem C167 {c : Int} (h : ∀ u s, Ex w u → (s.toList == (⟨#[]⟩ : ByteArray).toList) = !inI c 1 34 → K (.string s) u) : XCP Tryz.prog 167 [.int .i64 c] w K KP := by
  refine E167 ?_
  unfold F167
  cases hc : inI c 1 34 with
  | false =>
    rw [if_pos (by simp [inI] at hc ⊢; omega)]
    exact h w _ (Ex.refl w) (by rw [hc]; simp)
  | true =>
    have hc' : 1 ≤ c ∧ c ≤ 34 := by simpa [inI] using hc
    rw [if_neg (by simp; omega)]
    refine Sep.build (cs := nameRow) T33 rfl (Sep.begin w) rfl rfl (by decide) fun s u hl hs he => ⟨_, _, _, rfl, ?_⟩
    have hne : ∀ n : Fin 35, 1 ≤ n.1 → ∃ s, codeL[n.1]? = some s ∧ (s.1.toList == (⟨#[]⟩ : ByteArray).toList) = false := by
      have : ∀ n : Fin 35, 1 ≤ n.1 → (codeL[n.1]?.map fun s => (s.1.toList == (⟨#[]⟩ : ByteArray).toList)) = some false := by decide +kernel
      intro n hn
      have h := this n hn
      cases hx : codeL[n.1]? with
      | none => rw [hx] at h; cases h
      | some x => rw [hx] at h; injection h with h; exact ⟨x, rfl, h⟩
    obtain ⟨x, hx, hf⟩ := hne ⟨c.toNat, by omega⟩ (by show 1 ≤ c.toNat; omega)
    have hx : codeL[c.toNat]? = some x := hx
    obtain ⟨G, hr, _, _⟩ := hs.rowRd
    have hrow : nameRow[c.toNat]? = some (.string x.1) := by rw [nameRow, List.getElem?_map, hx]; rfl
    obtain ⟨p, hp, -, hcell⟩ := hr.isSome hrow
    rw [hp, xptr_some]
    refine ⟨by omega, by omega, x.1, by rw [Nat.mul_one]; exact hcell, h u _ he (by rw [hf, hc]; rfl)⟩
theorem Right_of (i : Ins) : (!(((!inI i.code 1 34 || (!usesA i.code && i.a != 0)) || (!(i.code == 26) && i.b != 0)) || (!(i.code == 1) && i.num != 0)) && ((inI i.a 0 65535 && inI i.b 0 65535) && inI i.num (-2147483648) 2147483647)) = insOk i := by
  unfold insOk
  simp only [bne, Bool.not_or, Bool.not_not, Bool.not_and, Bool.and_assoc]
theorem C147 {i : Ins} (h : ∀ u, Ex w u → K (.bool (insOk i)) u) : XCP Tryz.prog 147 [i.v] w K KP := by
  show XCP Tryz.prog 147 [.agg #[.int .i64 i.code, .int .i64 i.a, .int .i64 i.b, .int .i64 i.num]] w K KP
  refine E147 ?_
  unfold F147
  intro w0 p
  have hb : Blk w0 w.heap.size i.cells 52 := Blk.new w _ _
  have he : Ex w w0 := Ex.alloc w _
  clear_value w0
  refine ⟨_, hb.ld rfl, E166 ⟨_, _, _, rfl, _, hb.ld rfl, C167 fun u s eu hs => ⟨_, rfl, ?_⟩⟩⟩
  rw [hs]
  refine or_join (c := !usesA i.code && i.a != 0) (fun kb hk => and_join (c := i.a != 0) (fun kb' hk' => ⟨_, (eu.blk hb).ld rfl, hk' _ (Ex.refl _)⟩) fun u h => hk u h) fun u4 e4 => ?_
  have e4 := eu.trans e4
  refine or_join (c := !(i.code == 26) && i.b != 0) (fun kb hk => and_join (c := i.b != 0) (fun kb' hk' => ⟨_, (e4.blk hb).ld rfl, hk' _ (Ex.refl _)⟩) fun u h => hk u h) fun u5 e5 => ?_
  have e5 := e4.trans e5
  refine or_join (c := !(i.code == 1) && i.num != 0) (fun kb hk => and_join (c := i.num != 0) (fun kb' hk' => ⟨_, (e5.blk hb).ld rfl, hk' _ (Ex.refl _)⟩) fun u h => hk u h) fun u6 e6 => ?_
  have e6 := e5.trans e6
  have hR := Right_of i
  generalize (((!inI i.code 1 34 || (!usesA i.code && i.a != 0)) || (!(i.code == 26) && i.b != 0)) || (!(i.code == 1) && i.num != 0)) = bad at hR ⊢
  cases bad with
  | true => rw [if_pos rfl]; have := h u6 (he.trans e6); rwa [← hR] at this
  | false =>
    rw [if_neg (by decide)]
    refine ⟨_, (e6.blk hb).ld rfl, C98 ⟨_, rfl, ?_⟩⟩
    refine and_join (c := inI i.b 0 65535) (fun kb hk => ⟨_, (e6.blk hb).ld rfl, C98 ⟨_, rfl, hk _ (Ex.refl _)⟩⟩) fun u7 e7 => ?_
    have e7 := e6.trans e7
    refine and_join (c := inI i.num (-2147483648) 2147483647) (fun kb hk => ⟨_, (e7.blk hb).ld rfl, C98 ⟨_, rfl, hk _ (Ex.refl _)⟩⟩) fun u8 e8 => ?_
    have := h u8 (he.trans (e7.trans e8))
    rw [← hR] at this
    exact this
/-! codes -/
theorem D87 : DecC w (.func (.func 87) #[] #[]) codOk := by
  intro c q u K KP _ hq h
  show XCP Tryz.prog 87 [.agg #[.string c.name, .int .i64 c.locals, .slice q.si.a q.si.l q.si.c, .slice q.sl.a q.sl.l q.sl.c]] u K KP
  refine E87 ?_
  unfold F87
  intro w0 p
  have hb : Blk w0 u.heap.size (c.cells q) 46 := Blk.new u _ _
  have he : Ex u w0 := Ex.alloc u _
  clear_value w0
  have l1 := hq.1.len
  have l2 := hq.2.len
  refine ⟨_, hb.ld rfl, C84 ⟨_, rfl, ?_⟩⟩
  refine and_join (c := inI c.locals 0 32) (fun kb hk => ⟨_, hb.ld rfl, C84 ⟨_, rfl, hk _ (Ex.refl _)⟩⟩) fun u4 e4 => ?_
  refine and_join (c := allOk c.ins 65536 insOk) (fun kb hk => ⟨_, _, _, (e4.blk hb).ld rfl, C88 (s := q.si) (hq.1.old (he.trans e4)) D89 (by decide) fun v hv => ⟨_, rfl, hk _ hv⟩⟩) fun u5 e5 => ?_
  have e5 := e4.trans e5
  refine and_join (c := (c.lines.length : Int) == c.ins.length) (fun kb hk => ⟨_, _, _, (e5.blk hb).ld rfl, _, _, _, (e5.blk hb).ld rfl, by rw [l1, l2]; exact hk _ (Ex.refl _)⟩) fun u6 e6 => ?_
  have e6 := e5.trans e6
  refine and_join (c := allOk c.lines 65536 fun n => inI n 0 65536) (fun kb hk => ⟨_, _, _, (e6.blk hb).ld rfl, C82 (s := q.sl) (hq.2.old (he.trans e6)) D90 (by decide) fun v hv => ⟨_, rfl, hk _ hv⟩⟩) fun u7 e7 => ?_
  exact h u7 (he.trans (e6.trans e7))
theorem C54 {m : Mdl} {q : MdlH} {G : Nat → Prop} (hq : MdlP w G q m) (h : ∀ u, Ex w u → K (.int .i64 (if mdlOk m then 0 else 2)) u) : XCP Tryz.prog 54 [m.v q] w K KP := by
  show XCP Tryz.prog 54 [.agg #[.slice q.sv.a q.sv.l q.sv.c, .slice q.sa.a q.sa.l q.sa.c, .slice q.sc.a q.sc.l q.sc.c, .int .i64 m.mutexes, .int .i64 m.conds, .slice q.st.a q.st.l q.st.c]] w K KP
  refine E54 ?_
  unfold F54
  intro w0 p
  have hb : Blk w0 w.heap.size (m.cells q) 26 := Blk.new w _ _
  have he : Ex w w0 := Ex.alloc w _
  clear_value w0
  refine ⟨_, _, _, hb.ld rfl, C80 (s := q.sv) (hq.v.old he) D81 (by decide) fun u1 e1 => ⟨_, rfl, ?_⟩⟩
  refine and_join (c := allOk m.arrays 64 fun n => inI n 0 256) (fun kb hk => ⟨_, _, _, (e1.blk hb).ld rfl, C82 (s := q.sa) (hq.a.old (he.trans e1)) D83 (by decide) fun v hv => ⟨_, rfl, hk _ hv⟩⟩) fun u2 e2 => ?_
  have e2 := e1.trans e2
  refine and_join (c := allOk m.chans 64 fun n => inI n 1 16) (fun kb hk => ⟨_, _, _, (e2.blk hb).ld rfl, C82 (s := q.sc) (hq.c.old (he.trans e2)) D85 (by decide) fun v hv => ⟨_, rfl, hk _ hv⟩⟩) fun u3 e3 => ?_
  have e3 := e2.trans e3
  refine and_join (c := inI m.mutexes 0 64) (fun kb hk => ⟨_, (e3.blk hb).ld rfl, C84 ⟨_, rfl, hk _ (Ex.refl _)⟩⟩) fun u4 e4 => ?_
  have e4 := e3.trans e4
  refine and_join (c := inI m.conds 0 64) (fun kb hk => ⟨_, (e4.blk hb).ld rfl, C84 ⟨_, rfl, hk _ (Ex.refl _)⟩⟩) fun u5 e5 => ?_
  have e5 := e4.trans e5
  refine and_join (c := allOk m.threads 64 codOk) (fun kb hk => ⟨_, _, _, (e5.blk hb).ld rfl, C86 (s := q.st) (hq.t.old (he.trans e5)) D87 (by decide) fun v hv => ⟨_, rfl, hk _ hv⟩⟩) fun u6 e6 => ?_
  have e6 := e5.trans e6
  have hm := h u6 (he.trans e6)
  show if (!mdlOk m) = true then _ else _
  cases hh : mdlOk m with
  | true => rw [hh] at hm; rw [if_neg (by decide)]; exact hm
  | false => rw [hh] at hm; rw [if_pos (by decide)]; exact hm
end
end Go.Proofs.YtahcpjgaogghiaaGreat
