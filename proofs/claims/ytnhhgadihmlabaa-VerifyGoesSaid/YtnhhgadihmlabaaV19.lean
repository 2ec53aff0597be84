/- The verify seat: VerifyCodes, walked. -/
import Derived.Test.YtnhhgadihmlabaaV17
set_option linter.unusedVariables false
set_option linter.unusedSimpArgs false
set_option maxRecDepth 10000
set_option maxHeartbeats 1000000
namespace Go.Proofs.Ytnhhgadihmlabaa
open Go.X Go.Heap
def mod2 (l : List Ins) (loc : Int) : Mdl := ⟨[1, 2], [3, 4], [1, 2], 2, 2, [⟨tName, loc, l, List.replicate l.length 0⟩]⟩
theorem small2 {l : List Ins} {loc : Int} (h : l.length ≤ 1000) : Small (mod2 l loc) := by
  intro c hc
  have : c = ⟨tName, loc, l, List.replicate l.length 0⟩ := by simpa [mod2] using hc
  subst this; exact h
section
variable {w : World} {K : Value → World → Prop} {KP : List PanicEntry → World → Prop}
theorem checkF_one {m : Mdl} {c : Cod} (hok : mdlOk m = true) (h : m.threads = [c]) : checkF m = (threadF m c).2 := by
  unfold checkF
  rw [if_pos hok, h]
  simp only [List.map_cons, List.map_nil, firstErr]
  split
  · rfl
  · rename_i e; simpa using (by simpa using e : (threadF m c).2 = 0).symm
theorem L5 {s : Sl} {l : List Ins} (hl : SlR insR w T0 s l) {loc : Int} (hK : ∀ u, Ex w u → K (.bool true) u) : XCP Try.prog 5 [s.v, .int .i64 loc] w K KP := by
  show XCP Try.prog 5 [.slice s.a s.l s.c, .int .i64 loc] w K KP
  refine E5 ?_
  unfold F5
  have hll := hl.len
  by_cases hlen : l.length > 200
  · rw [if_pos (by simp; omega)]
    exact C10 fun u hu => ⟨_, rfl, hK u hu⟩
  rw [if_neg (by simp; omega)]
  refine Sep.build (cs := ints [1, 2]) T22 rfl (Sep.begin w) rfl rfl (by decide) fun s1 w1 hl1 hs _ => ⟨_, _, _, rfl, ?_⟩
  refine Sep.build (cs := ints [3, 4]) T23 rfl hs rfl rfl (by decide) fun s2 w2 hl2 hs _ => ⟨_, _, _, rfl, ?_⟩
  refine Sep.build (cs := ints [1, 2]) T23 rfl hs rfl rfl (by decide) fun s3 w3 hl3 hs _ => ⟨_, _, _, rfl, ?_⟩
  refine Sep.make (cs := ints (List.replicate s.l 0)) T23 rfl hs (by omega) (Int.le_refl _) (by omega) (by omega) (by simp) (fun i hi => by simp at hi; simp [ints, hi, Nat.mod_one]) fun ln w4 hln hs _ => ⟨_, _, _, rfl, ?_⟩
  refine Sep.build (cs := [.string tName, .int .i64 loc, s.v, ln.v]) T24 rfl hs rfl rfl (by decide) fun t w5 htl hs _ => ⟨_, _, _, rfl, ?_⟩
  intro w6 p
  replace hs : Sep w6 (bx w5.heap.size _ 26 :: _) := hs.box _ _
  clear_value w6
  refine hs.fill (vs := [s1.v, s2.v, s3.v, .int .i64 2, .int .i64 2, t.v]) rfl fun w7 _ hs => ?_
  have he : Ex w w7 := hs.ex 6 rfl
  have hb : Blk w7 w5.heap.size ((mod2 l loc).cells ⟨s1, s2, s3, t⟩) 26 := hs.bx0
  have hq : MdlP w7 T0 ⟨s1, s2, s3, t⟩ (mod2 l loc) := by
    obtain ⟨G1, hr1, hc1, -⟩ := hs.rowAt 1 rfl
    obtain ⟨G2, hG2⟩ := hs.at_ 2 rfl
    have hG2 : Own w7 1 3 ln.a ln.l ln.c (ints (List.replicate s.l 0)) G2 := hG2
    obtain ⟨G3, hG3⟩ := hs.at_ 3 rfl
    have hG3 : Own w7 1 3 s3.a s3.l s3.c (ints [1, 2]) G3 := hG3
    obtain ⟨G4, hG4⟩ := hs.at_ 4 rfl
    have hG4 : Own w7 1 3 s2.a s2.l s2.c (ints [3, 4]) G4 := hG4
    obtain ⟨G5, hG5⟩ := hs.at_ 5 rfl
    have hG5 : Own w7 1 2 s1.a s1.l s1.c (ints [1, 2]) G5 := hG5
    rw [hll] at hG2
    refine ⟨SlR.of_ints (t := 2) (Own.mono hG5 fun _ _ _ => trivial), SlR.of_ints (t := 3) (Own.mono hG4 fun _ _ _ => trivial), SlR.of_ints (t := 3) (Own.mono hG3 fun _ _ _ => trivial), htl, by omega, [[.string tName, .int .i64 loc, s.v, ln.v]], rfl, hr1.mono (fun _ _ _ => trivial), fun i row x hr hx => ?_⟩
    cases i with
    | succ i => simp at hr
    | zero =>
      simp at hr hx
      subst hr
      have hx : (⟨tName, loc, l, List.replicate l.length 0⟩ : Cod) = x := by simpa [mod2] using hx
      subst hx
      exact ⟨⟨s, ln⟩, rfl, hl.old he, SlR.of_ints (t := 3) (Own.mono hG2 fun _ _ _ => trivial)⟩
  clear hs
  have hsm : mdlOk (mod2 l loc) = true → Small (mod2 l loc) := fun _ => small2 (by omega)
  generalize hm : mod2 l loc = m at hb hq hsm
  have hth : m.threads = [⟨tName, loc, l, List.replicate l.length 0⟩] := by rw [← hm]; rfl
  generalize (⟨s1, s2, s3, t⟩ : MdlH) = q at hb hq
  refine ⟨_, _, _, _, _, _, _, _, _, _, _, _, _, _, hb.lds, C14 hq hsm (t := 0) fun s8 u8 hnew => ⟨_, _, _, _, rfl, ?_⟩⟩
  have e8 : Ex w7 u8 := hnew.1
  refine ⟨_, _, _, _, _, _, _, _, _, _, _, _, _, _, (e8.blk hb).lds, C15 (hq.ex e8) fun u9 e9 => ⟨_, rfl, ?_⟩⟩
  have e79 : Ex w7 u9 := e8.trans e9
  by_cases hok : mdlOk m = true
  rotate_left
  · rw [if_pos (by rw [if_neg hok]; rfl)]
    have hR : depthsF m 0 = ([], 2) := depthsF_no (by simp [hok])
    have hC : checkF m = 2 := by unfold checkF; rw [if_neg hok]
    rw [hR]
    refine C11 ⟨_, rfl, ?_⟩
    refine and_true rfl (fun kb hk => ⟨_, _, _, _, _, _, _, _, _, _, _, _, _, _, (e79.blk hb).lds, C12 (hq.ex e79) hsm fun u10 e10 => ⟨_, rfl, C11 ⟨_, rfl, by rw [hC]; exact hk u10 e10⟩⟩⟩) fun u10 e10 => ?_
    refine and_true rfl (fun kb hk => C10 fun u11 e11 => ⟨_, rfl, hk _ e11⟩) fun u11 e11 => ?_
    exact hK u11 (he.trans (e79.trans (Ex.trans e10 e11)))
  rw [if_neg (by rw [if_pos hok]; decide)]
  have hlt : (0 : Int).toNat < m.threads.length := by simp [hth]
  obtain ⟨p2, row, hp2, ⟨qc, hr, hqc⟩, hc2⟩ := hq.t.nth (List.getElem?_eq_getElem hlt) (by decide)
  subst hr
  have hmem := List.getElem_mem hlt
  have hR := depthsF_at hok (Int.le_refl 0) hlt
  have hx0 : m.threads[(0 : Int).toNat] = ⟨tName, loc, l, List.replicate l.length 0⟩ := by simp [hth]
  have hC : checkF m = (threadF m m.threads[(0 : Int).toNat]).2 := by rw [hx0]; exact checkF_one hok hth
  have l4 := hq.t.len
  have l41 : m.threads.length = 1 := by rw [hth]; rfl
  refine ⟨fun x => Ex u9 x, Ex.drew u9, _, _, _, _, _, _, _, _, _, _, _, _, _, _, fun x hx => ((e79.trans hx).blk hb).lds, _, _, _, fun x hx => ((e79.trans hx).blk hb).ld rfl, ?_⟩
  rw [hp2, xptr_some]
  refine ⟨by omega, by omega, _, _, _, _, _, _, _, _, fun x hx => (e79.trans hx).cells hc2, ?_⟩
  rw [← hp2]
  have e10 := e79.trans (Ex.drew u9)
  refine C16 (hq.ex e10) (hqc.ex e10) (hsm hok _ hmem) (mdl_ins hok hmem) fun s11 u11 hnew11 => ⟨_, _, _, _, rfl, fun _ => True, trivial, ?_⟩
  rw [hR] at hnew ⊢
  refine C17 (s := s8) (s' := s11) ((SlR.of_ints (t := 3) hnew.2).old (e9.trans ((Ex.drew u9).trans hnew11.1))) (SlR.of_ints (t := 3) hnew11.2) (threadF_len (hsm hok _ hmem)) fun u12 e12 => ⟨_, rfl, ?_⟩
  have e13 : Ex w7 u12 := e10.trans (hnew11.1.trans e12)
  refine and_true (by simp) (fun kb hk => C11 ⟨_, rfl, by rw [beq_self_eq_true]; exact hk _ (Ex.refl _)⟩) fun u14 e14 => ?_
  replace e14 := e13.trans e14
  refine and_true rfl (fun kb hk => ⟨_, _, _, _, _, _, _, _, _, _, _, _, _, _, (e14.blk hb).lds, C12 (hq.ex e14) hsm fun u15 e15 => ⟨_, rfl, C11 ⟨_, rfl, by rw [hC, beq_self_eq_true]; exact hk _ e15⟩⟩⟩) fun u16 e16 => ?_
  refine and_true rfl (fun kb hk => C10 fun u17 e17 => ⟨_, rfl, hk _ e17⟩) fun u17 e17 => ?_
  exact hK u17 (he.trans (e14.trans (Ex.trans e16 e17)))
end
end Go.Proofs.Ytnhhgadihmlabaa
