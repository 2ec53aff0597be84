/- The lex seat: LexBounds, walked. -/
import Derived.Test.YtfeaahclpnbklaaDoorZ10
set_option linter.unusedVariables false
set_option linter.unusedSimpArgs false
set_option maxRecDepth 10000
set_option maxHeartbeats 4000000
namespace Go.Lx
theorem runN_blank (n : Nat) : runN blankB (List.replicate n 32) = n := by
  unfold runN
  induction n with
  | zero => rfl
  | succ n ih => rw [List.replicate_succ, List.takeWhile_cons, if_pos (by decide), List.length_cons, ih]
theorem lexF_blank {n : Nat} (h : n ≤ 65536) : lexF (List.replicate n (32 : UInt8)) = ([], ⟨0, 0⟩, 0) := by
  have hrun := runN_blank n
  have hlen : (List.replicate n (32 : UInt8)).length = n := List.length_replicate
  generalize ht : List.replicate n (32 : UInt8) = t at *
  have hs : (strip t.length p1 t).2 = [] := by
    have h1 : skip1 t = n := by
      unfold skip1
      rw [hrun]
      split
      · rename_i hc
        have h0 := hc.1
        rw [h0] at hlen
        rw [List.length_eq_zero_iff.1 hlen] at hc
        simp at hc
      · rfl
    rw [strip_eq, h1]
    split
    · rename_i h0
      exact List.length_eq_zero_iff.1 (by rw [hlen]; exact h0)
    · have : t.drop n = [] := List.drop_of_length_le (by omega)
      rw [this]; rfl
  unfold lexF
  rw [if_neg (by omega), lexGo_eq, if_pos hs]
  rfl
theorem lexF_long {t : By} (h : t.length > 65536) : lexF t = ([], ⟨0, 0⟩, 3) := by unfold lexF; rw [if_pos h]
theorem b3 : lexF [97, 98, 99, 100, 101, 102, 103, 104, 105, 106, 107, 108, 109, 110, 111, 112, 32, 50, 49, 52, 55, 52, 56, 51, 54, 52, 55] = ([⟨1, [97, 98, 99, 100, 101, 102, 103, 104, 105, 106, 107, 108, 109, 110, 111, 112], 0, ⟨1, 1⟩⟩, ⟨2, [50, 49, 52, 55, 52, 56, 51, 54, 52, 55], 2147483647, ⟨1, 18⟩⟩], ⟨0, 0⟩, 0) := by decide +kernel
theorem b4 : lexF [32, 97, 98, 99, 100, 101, 102, 103, 104, 105, 106, 107, 108, 109, 110, 111, 112, 113] = ([], ⟨1, 2⟩, 111) := by decide +kernel
theorem b5 : lexF [50, 49, 52, 55, 52, 56, 51, 54, 52, 56] = ([], ⟨1, 1⟩, 112) := by decide +kernel
theorem b6 : ∀ x ∈ keyL, lexF ([35, 10] ++ x) = ([⟨3, x, 0, ⟨2, 1⟩⟩], ⟨0, 0⟩, 0) := by decide +kernel
end Go.Lx
namespace Go.Proofs.YtfeaahclpnbklaaDoor
open Go.X Go.Lx Go.RowKit
theorem T22 : SlT Tryd.prog 22 5 1 1 [.int .u8 0] := ⟨by kernel_rfl, by kernel_rfl⟩
theorem T29 : SlT Tryd.prog 29 9 1 16 [.string ByteArray.empty] := ⟨by kernel_rfl, by kernel_rfl⟩
section
variable {w : World} {K : Value → World → Prop} {KP : List PanicEntry → World → Prop} {L : List Assn}
theorem C7 (h : ∀ s u, Ex w u → SlR strR u TG s keyL → K s.v u) : XCP Tryd.prog 7 [] w K KP := by
  refine E7 ?_
  unfold F7
  refine Sep.build (cs := keyL.map fun x => .string (S x)) T29 rfl (Sep.begin w) rfl rfl (by decide) fun s u hl hs he => ⟨_, _, _, rfl, ?_⟩
  obtain ⟨G, hr, hc, _⟩ := hs.rowRd
  refine h s u he ⟨hl, hc, keyL.map fun x => [.string (S x)], by simp, ?_, fun i row x hr hx => ?_⟩
  · have : (keyL.map fun x => [Value.string (S x)]).flatten = keyL.map fun x => .string (S x) := rfl
    rw [this]; exact hr.mono fun _ _ _ => trivial
  · simp only [List.getElem?_map, hx, Option.map_some, Option.some.injEq] at hr
    exact hr.symm
/-- bytes of an owned row, as a text -/
theorem xr_text {s : Sl} {cs : List Value} {l : By} {G : Nat → Prop} (h : Rd w s.a cs G) (hcs : ∀ (i : Nat) c, l[i]? = some c → cs[i]? = some (.int .u8 c.toNat)) (hne : l ≠ []) {c : Nat} (hK : K (.string (S l)) w) : XRun Tryd.prog (convert 22 9 (.slice s.a l.length c)) w K := by
  obtain ⟨x, r, rfl⟩ : ∃ x r, l = x :: r := by cases l with | nil => exact absurd rfl hne | cons x r => exact ⟨x, r, rfl⟩
  obtain ⟨p, hp, -, -⟩ := h.isSome (hcs 0 x rfl)
  rw [hp] at h ⊢
  refine xr_ok (run_convert_bytes_back (P := Tryd.prog) w 22 9 5 p c (x :: r) (by kernel_rfl) (by kernel_rfl) prog9 fun j hj => ?_) hK
  exact h.cell (hcs j _ (List.getElem?_eq_getElem hj))
/-- a place told is laid down -/
theorem posBox {u : World} {q : Lx.Pos} {Q : World → Prop} (h : ∀ z, Ex u z → Blk z u.heap.size [.int .i64 q.line, .int .i64 q.col] 25 → Q z) : storesAt ⟨u.heap.size, 0, none⟩ 0 [.int .i64 q.line, .int .i64 q.col] (u.alloc (.cells #[.int .i64 0, .int .i64 0] 25)) Q := by
  have hs : Sep (u.alloc (.cells #[.int .i64 0, .int .i64 0] 25)) (bx u.heap.size [.int .i64 0, .int .i64 0] 25 :: [oldA u]) := (Sep.begin u).box _ _
  exact hs.fill (vs := [.int .i64 q.line, .int .i64 q.col]) rfl fun z _ hz => h z (hz.ex 1 rfl) hz.bx0
theorem own_len {w : World} {s : Sl} {ts : List Lx.Tok} {G : Nat → Prop} (h : Own w 5 34 s.a s.l s.c (toksC ts) G) : s.l = ts.length := by
  have := h.1; rw [toksC_len] at this; omega
theorem L3 (hG : Gl w) (hK : ∀ u, Ex w u → K (.bool true) u) : XCP Tryd.prog 3 [] w K KP := by
  refine E3 ?_
  unfold F3
  refine Sep.make (cs := List.replicate 65537 (.int .u8 0)) T22 rfl (Sep.begin w) (by decide) (by decide) (by decide) (by decide) (by rw [List.length_replicate]; rfl) (fun i hi => by rw [List.getElem?_replicate, if_pos (by simpa using hi), Nat.mod_one]; rfl) fun s w0 hl hs _ => ⟨_, _, _, rfl, ?_⟩
  have hl : s.l = 65537 := hl
  obtain ⟨-, -, hlc, -⟩ := hs.rowRd
  refine ⟨fun n u => ∃ k : Nat, n = k ∧ k ≤ 65537 ∧ Sep u [row 1 5 s (List.replicate k (.int .u8 32) ++ List.replicate (65537 - k) (.int .u8 0)), oldA w], fun n _ => 65537 - n.toNat, ⟨0, rfl, Nat.zero_le _, by rw [List.replicate_zero, List.nil_append]; exact hs⟩, ?_⟩
  rintro n u ⟨k, rfl, hk, hu⟩
  by_cases hlt : k < 65537
  · rw [if_pos (by simp only [decide_eq_true_eq]; omega)]
    obtain ⟨j, hj⟩ : ∃ j, 65537 - k = j + 1 := ⟨65536 - k, by omega⟩
    rw [hj] at hu
    obtain ⟨p, hp, -⟩ := hu.rowCellAt 0 rfl (j := k) (v := .int .u8 0) (by rw [List.getElem?_append_right (by rw [List.length_replicate]; exact Nat.le_refl _), List.length_replicate, Nat.sub_self]; rfl)
    refine xptr_of' hp ⟨by omega, by omega, ?_⟩
    rw [Int.toNat_natCast, Nat.mul_one]
    refine hu.rowPutAt 0 rfl (j := k) (by rw [List.length_append, List.length_replicate, List.length_replicate]; omega) hp fun u2 _ hu2 => ?_
    rw [wi (by omega) (by omega)]
    refine ⟨⟨k + 1, rfl, hlt, ?_⟩, by show 65537 - ((k : Int) + 1).toNat < 65537 - ((k : Int)).toNat; omega⟩
    have e : (List.replicate k (Value.int .u8 32) ++ List.replicate (j + 1) (Value.int .u8 0)).set k (.int .u8 32) = List.replicate (k + 1) (.int .u8 32) ++ List.replicate (65537 - (k + 1)) (.int .u8 0) := by
      rw [List.set_append_right _ _ (by rw [List.length_replicate]; exact Nat.le_refl _), List.length_replicate, Nat.sub_self, List.replicate_succ, List.set_cons_zero, show 65537 - (k + 1) = j by omega, List.replicate_succ' (n := k), List.append_assoc]
      rfl
    rw [← e]; exact hu2
  rw [if_neg (by simp only [decide_eq_true_eq]; omega)]
  have ek : k = 65537 := by omega
  subst ek
  rw [Nat.sub_self, List.replicate_zero, List.append_nil] at hu
  have e1 : Ex w u := hu.ex 1 rfl
  obtain ⟨G, hrd, -, -⟩ := hu.rowRd
  have hcs : ∀ m : Nat, m ≤ 65537 → ∀ (i : Nat) c, (List.replicate m (32 : UInt8))[i]? = some c → (List.replicate 65537 (Value.int .u8 32))[i]? = some (.int .u8 c.toNat) := by
    intro m hm i c hc
    rw [List.getElem?_replicate] at hc ⊢
    split at hc
    · simp only [Option.some.injEq] at hc
      subst hc
      rw [if_pos (by omega)]; rfl
    · cases hc
  refine ⟨by decide, by omega, ?_⟩
  have hrd' : ∀ z, Ex u z → Rd z s.a (List.replicate 65537 (Value.int .u8 32)) (fun b => b < u.heap.size) := fun z hz =>
    (hrd.mono (G' := fun b => b < u.heap.size) fun b hb _ => hb).frame (hz (fun _ => False)) (fun _ _ h => h)
  have text : ∀ (m : Nat) (c : Nat) (z : World) (K : Value → World → Prop), m ≤ 65537 → 0 < m → Ex u z → K (.string (S (List.replicate m 32))) z → XRun Tryd.prog (convert 22 9 (.slice s.a m c)) z K := by
    intro m c z K hm h0 hz hK
    have := xr_text (K := K) (c := c) (hrd' z hz) (hcs m hm) (by intro e; have := congrArg List.length e; rw [List.length_replicate] at this; simp at this; omega) hK
    rwa [List.length_replicate] at this
  have f1 := lexF_blank (n := 65536) (Nat.le_refl _)
  have f2 := lexF_long (t := List.replicate 65537 (32 : UInt8)) (by rw [List.length_replicate]; decide)
  have hlen1 : (List.replicate 65536 (32 : UInt8)).length ≤ 900000 := by rw [List.length_replicate]; decide
  have hlen2 : (List.replicate 65537 (32 : UInt8)).length ≤ 900000 := by rw [List.length_replicate]; decide
  refine text 65536 s.c u _ (by decide) (by decide) (Ex.refl u) ⟨_, rfl, ?_⟩
  rw [hl]
  have text2 := text 65537 s.c
  clear text
  generalize List.replicate 65536 (32 : UInt8) = t1 at *
  generalize List.replicate 65537 (32 : UInt8) = t2 at *
  clear hu hrd hrd' hcs
  refine C6 (hG.ex e1) hlen1 fun s1 u1 g1 o1 => ⟨_, _, _, _, _, _, rfl, ?_⟩
  rw [show (lexF t1).1 = [] by rw [f1]] at o1
  rw [show (lexF t1).2.1 = ⟨0, 0⟩ by rw [f1], show (lexF t1).2.2 = 0 by rw [f1]]
  intro w5 q1
  refine posBox (q := ⟨0, 0⟩) fun z1 h1 b1 => ?_
  clear_value w5
  replace h1 := g1.trans h1
  refine text2 z1 _ (by decide) (by decide) h1 ⟨_, rfl, ?_⟩
  clear text2
  refine C6 (hG.ex (e1.trans h1)) hlen2 fun s2 u2 g2 o2 => ⟨_, _, _, _, _, _, rfl, ?_⟩
  rw [show (lexF t2).1 = [] by rw [f2]] at o2
  rw [show (lexF t2).2.1 = ⟨0, 0⟩ by rw [f2], show (lexF t2).2.2 = 3 by rw [f2]]
  intro w9 q2
  refine posBox (q := ⟨0, 0⟩) fun z2 h2 b2 => ?_
  clear_value w9
  replace h2 := g2.trans h2
  refine C6 (t := [97, 98, 99, 100, 101, 102, 103, 104, 105, 106, 107, 108, 109, 110, 111, 112, 32, 50, 49, 52, 55, 52, 56, 51, 54, 52, 55]) (hG.ex (e1.trans (h1.trans h2))) (by decide) fun s3 u3 g3 o3 => ⟨_, _, _, _, _, _, rfl, ?_⟩
  rw [b3] at o3
  rw [b3]
  intro w12 q3
  refine posBox (q := ⟨0, 0⟩) fun z3 h3 b3' => ?_
  clear_value w12
  have h3' := h3
  replace h3 := g3.trans h3
  refine C6 (t := [32, 97, 98, 99, 100, 101, 102, 103, 104, 105, 106, 107, 108, 109, 110, 111, 112, 113]) (hG.ex (e1.trans (h1.trans (h2.trans h3)))) (by decide) fun s4 u4 g4 o4 => ⟨_, _, _, _, _, _, rfl, ?_⟩
  rw [b4]
  intro w15 q4
  refine posBox (q := ⟨1, 2⟩) fun z4 h4 b4' => ?_
  clear_value w15
  replace h4 := g4.trans h4
  refine C6 (t := [50, 49, 52, 55, 52, 56, 51, 54, 52, 56]) (hG.ex (e1.trans (h1.trans (h2.trans (h3.trans h4))))) (by decide) fun s5 u5 g5 o5 => ⟨_, _, _, _, _, _, rfl, ?_⟩
  rw [b5]
  intro w18 q5
  refine posBox (q := ⟨1, 1⟩) fun z5 h5 b5' => ?_
  clear_value w18
  replace h5 := g5.trans h5
  have l1 := own_len o1
  have l2 := own_len o2
  have l3 := own_len o3
  have hz5 : Ex w z5 := e1.trans (h1.trans (h2.trans (h3.trans (h4.trans h5))))
  refine C7 fun s6 u6 g6 r6 => ⟨_, _, _, rfl, ?_⟩
  have l6 := r6.len
  have l6' : keyL.length = 20 := rfl
  refine X.each keyL.length (fun _ => True) ?_ ?_
  · intro I μ n v hv hlt hf next
    rw [if_pos (by simp only [decide_eq_true_eq]; omega)]
    obtain ⟨pk, row, hpk, hr, hc⟩ := (r6.old hv).nth (List.getElem?_eq_getElem hlt) (Nat.le_refl 1)
    have hr : row = [.string (S keyL[n])] := hr
    subst hr
    have hkx : keyL[n] ∈ keyL := List.getElem_mem hlt
    have hkl : keyL[n].length ≤ 16 := (show ∀ x ∈ keyL, x.length ≤ 16 by decide) _ hkx
    have hlex := b6 _ hkx
    generalize keyL[n] = x at *
    have hc1 : v.cell? (pk.add n) = some (.string (S x)) := by
      have := hc.1
      rw [addr_add, Nat.add_zero, show strR.z = 1 from rfl, Nat.mul_one] at this; exact this
    refine xptr_of' hpk ⟨by omega, by omega, _, by simpa using hc1, ?_⟩
    refine xr_add (a := [35, 10]) (b := x) (by simp; omega) ⟨_, rfl, ?_⟩
    have hGv : Gl v := hG.ex (hz5.trans (g6.trans hv))
    refine C6 hGv (by simp; omega) fun s7 u7 g7 o7 => ⟨_, _, _, _, _, _, rfl, ?_⟩
    rw [show (lexF ([35, 10] ++ x)).1 = [⟨3, x, 0, ⟨2, 1⟩⟩] by rw [hlex]] at o7
    rw [show (lexF ([35, 10] ++ x)).2.1 = ⟨0, 0⟩ by rw [hlex], show (lexF ([35, 10] ++ x)).2.2 = 0 by rw [hlex]]
    intro w24 q7
    refine posBox (q := ⟨0, 0⟩) fun z7 h7 b7 => ?_
    clear_value w24
    intro kb hkb
    have hu7 : Ex u7 z7.drew := h7.trans (Ex.drew z7)
    have hv7 : Ex v z7.drew := g7.trans hu7
    refine ⟨fun z => Ex z7.drew z, Ex.refl _, ?_⟩
    refine C8 ⟨_, rfl, Ex.refl _, ?_⟩
    obtain ⟨pt, hpt, hct⟩ := tok_at o7 (i := 0) (Nat.one_pos)
    have l7 := own_len o7
    have l7 : s7.l = 1 := l7
    rw [if_neg (by decide), if_neg (by rw [l7]; decide)]
    refine xptr_of' hpt ⟨by decide, by omega, 3, fun z hz => cellsAt_ix (hct z (hu7.trans hz)) (j := 0) rfl, ?_⟩
    rw [if_neg (show ¬(((3 : Int) != 3) = true) by decide)]
    refine xptr_of' hpt ⟨by decide, by omega, S x, fun z hz => cellsAt_ix (hct z (hu7.trans hz)) (j := 1) rfl, ?_⟩
    refine xptr_of' hpk ⟨by omega, by omega, _, fun z hz => by simpa using (hv7.trans hz).cell hc1, ?_⟩
    rw [show (!((S x).toList == (S x).toList)) = false by simp]
    refine hkb _ _ ?_
    rw [if_neg (by decide), wi (by omega) (by omega)]
    exact next trivial _ hv7
  · intro I μ v hv hf
    rw [if_neg (by simp only [decide_eq_true_eq]; omega)]
    have hzv : Ex z5 v := g6.trans hv
    refine C8 ⟨_, rfl, ?_⟩
    refine X.and_true (by rw [l1]; rfl) (fun kb hk => C8 ⟨_, rfl, hk _ (Ex.refl _)⟩) fun v1 k1 => ?_
    replace k1 := hzv.trans k1
    refine X.and_true (by rw [l2]; rfl) (fun kb hk => ⟨_, _, ((h3.trans (h4.trans (h5.trans k1))).blk b2).lds, xr_pos (a := ⟨0, 0⟩) (b := ⟨0, 0⟩) ⟨_, rfl, by rw [decide_eq_true rfl]; exact hk _ (Ex.refl _)⟩⟩) fun v2 k2 => ?_
    replace k2 := k1.trans k2
    refine X.and_true rfl (fun kb hk => C8 ⟨_, rfl, hk _ (Ex.refl _)⟩) fun v3 k3 => ?_
    replace k3 := k2.trans k3
    refine X.and_true (by rw [l3]; rfl) (fun kb hk => ?_) fun v4 k4 => ?_
    · obtain ⟨pt, hpt, hct⟩ := tok_at o3 (i := 1) (by decide)
      refine xptr_of' hpt ⟨by decide, by rw [l3]; decide, _, cellsAt_ix (hct v3 (h3'.trans (h4.trans (h5.trans k3)))) (j := 2) rfl, hk _ (Ex.refl _)⟩
    replace k4 := k3.trans k4
    refine X.and_true rfl (fun kb hk => C8 ⟨_, rfl, hk _ (Ex.refl _)⟩) fun v5 k5 => ?_
    replace k5 := k4.trans k5
    refine X.and_true rfl (fun kb hk => ⟨_, _, ((h5.trans k5).blk b4').lds, xr_pos (a := ⟨1, 2⟩) (b := ⟨1, 2⟩) ⟨_, rfl, by rw [decide_eq_true rfl]; exact hk _ (Ex.refl _)⟩⟩) fun v6 k6 => ?_
    replace k6 := k5.trans k6
    refine X.and_true rfl (fun kb hk => C8 ⟨_, rfl, hk _ (Ex.refl _)⟩) fun v7 k7 => ?_
    replace k7 := k6.trans k7
    refine X.and_true rfl (fun kb hk => ⟨_, _, (k7.blk b5').lds, xr_pos (a := ⟨1, 1⟩) (b := ⟨1, 1⟩) ⟨_, rfl, by rw [decide_eq_true rfl]; exact hk _ (Ex.refl _)⟩⟩) fun v8 k8 => ?_
    replace k8 := k7.trans k8
    refine X.and_true rfl (fun kb hk => C9 (hG.ex (hz5.trans k8)) fun v9 k9 => ⟨_, rfl, hk v9 k9⟩) fun v9 k9 => ?_
    exact hK v9 (hz5.trans (k8.trans k9))
end
end Go.Proofs.YtfeaahclpnbklaaDoor
