/- The verify seat: container/heap, slices.Repeat. -/
import Derived.Test.YtahcpjgaogghiaaGreatV9
set_option linter.unusedVariables false
set_option linter.unusedSimpArgs false
namespace Go.Proofs.YtahcpjgaogghiaaGreat
open Go.X Go.Heap
section
variable {w : World} {K : Value → World → Prop} {KP : List PanicEntry → World → Prop} {pb : Nat} {s : Sl} {xs : List Int} {L : List Assn}
theorem C144 (hs : Sep w (OpL pb s xs L)) {i N : Nat} (hN : N ≤ xs.length) (hn : xs.length ≤ 1000000) (hiN : i ≤ N) (hd : Down xs i N)
    (h : ∀ u ys b, Sep u (OpL pb s ys L) → ys.length = xs.length → ys.Perm xs → (∀ k, N ≤ k → g ys k = g xs k) → Ok ys N → K (.bool b) u) :
    XCP Tryz.prog 144 [opV pb, .int .i64 i, .int .i64 N] w K KP := by
  refine E144 ?_
  unfold F144
  intro kb hkb
  have fin : ∀ u ys (n : Int), Sep u (OpL pb s ys L) → ys.length = xs.length → ys.Perm xs → (∀ k, N ≤ k → g ys k = g xs k) → Ok ys N → kb n u := fun u ys n h1 h2 h3 h4 h5 => hkb _ _ (h u ys _ h1 h2 h3 h4 h5)
  clear hkb
  refine ⟨fun n u => ∃ (j : Nat) (ys : List Int), n = j ∧ j ≤ N ∧ Sep u (OpL pb s ys L) ∧ ys.length = xs.length ∧ ys.Perm xs ∧ (∀ k, N ≤ k → g ys k = g xs k) ∧ Down ys j N, fun n _ => N - n.toNat, ⟨i, xs, rfl, hiN, hs, rfl, List.Perm.refl _, fun _ _ => rfl, hd⟩, ?_⟩
  rintro n u ⟨j, ys, rfl, hjN, hs, hlen, hp, hsame, hd⟩
  rw [show IntKind.wrap .i64 (2 * (j : Int)) = ((2 * j : Nat) : Int) from by rw [wi (by omega) (by omega)]; omega]
  rw [show IntKind.wrap .i64 (((2 * j : Nat) : Int) + 1) = ((2 * j + 1 : Nat) : Int) from by rw [wi (by omega) (by omega)]; omega]
  rw [show IntKind.wrap .i64 (((2 * j + 1 : Nat) : Int) + 1) = ((2 * j + 2 : Nat) : Int) from by rw [wi (by omega) (by omega)]; omega]
  by_cases hleaf : N ≤ 2 * j + 1
  · rw [if_pos (by simp; omega)]
    exact fin u ys _ hs hlen hp hsame (hd.leaf hleaf)
  rw [if_neg (by simp; omega)]
  intro kb1 hkb1
  have go : ∀ (c : Nat) u, Sep u (OpL pb s ys L) → (c = 2 * j + 1 ∨ c = 2 * j + 2) → c < N → (∀ k, (k = 2 * j + 1 ∨ k = 2 * j + 2) → k < N → g ys c ≤ g ys k) → kb1 (c : Int) u := by
    intro c u hs hc hcN hmin
    refine hkb1 _ _ ?_
    refine I_less hs (by omega) (by omega) fun u hs => ⟨_, rfl, ?_⟩
    by_cases hlt : g ys c < g ys j
    · rw [if_neg (by simp [hlt])]
      refine I_swap hs (by omega) (by omega) fun u hs => ⟨rfl, ⟨c, _, rfl, by omega, hs, by simp [hlen], (sw_perm (by omega) (by omega)).trans hp, fun k hk => ?_, hd.step (by omega) hc hcN hmin hlt⟩, ?_⟩
      · rw [g_sw (by omega) (by omega), if_neg (by omega), if_neg (by omega)]; exact hsame k hk
      · show N - (c : Int).toNat < N - (j : Int).toNat; omega
    · rw [if_pos (by simp; omega)]
      exact fin u ys _ hs hlen hp hsame (hd.stop hc hmin (by omega))
  intro kb2 hkb2
  by_cases h2 : 2 * j + 2 < N
  · rw [if_pos (by simp; omega)]
    refine I_less hs (by omega) (by omega) fun u hs => ⟨_, rfl, hkb2 _ _ ?_⟩
    by_cases hlt : g ys (2 * j + 2) < g ys (2 * j + 1)
    · rw [if_pos (by simpa using hlt)]
      refine go _ u hs (.inr rfl) h2 fun k hk hkN => ?_
      rcases hk with rfl | rfl <;> omega
    · rw [if_neg (by simpa using hlt)]
      refine go _ u hs (.inl rfl) (by omega) fun k hk hkN => ?_
      rcases hk with rfl | rfl <;> omega
  · rw [if_neg (by simp; omega)]
    refine hkb2 _ _ ?_
    rw [if_neg (by decide)]
    refine go _ u hs (.inl rfl) (by omega) fun k hk hkN => ?_
    rcases hk with rfl | rfl <;> omega
theorem C146 (hs : Sep w (OpL pb s xs L)) {j : Nat} (hj : j < xs.length) (hn : xs.length ≤ 1000000) (hd : Up xs j xs.length)
    (h : ∀ u ys, Sep u (OpL pb s ys L) → ys.length = xs.length → ys.Perm xs → Ok ys xs.length → K (.tuple #[]) u) :
    XCP Tryz.prog 146 [opV pb, .int .i64 j] w K KP := by
  refine E146 ?_
  unfold F146
  refine ⟨fun n u => ∃ (k : Nat) (ys : List Int), n = k ∧ k < xs.length ∧ Sep u (OpL pb s ys L) ∧ ys.length = xs.length ∧ ys.Perm xs ∧ Up ys k xs.length, fun n _ => n.toNat, ⟨j, xs, rfl, hj, hs, rfl, List.Perm.refl _, hd⟩, ?_⟩
  rintro n u ⟨k, ys, rfl, hk, hs, hlen, hp, hd⟩
  refine ⟨by decide, ?_⟩
  rw [show IntKind.wrap .i64 (Int.tdiv (IntKind.wrap .i64 ((k : Int) - 1)) 2) = (((k - 1) / 2 : Nat) : Int) from by
    rw [show IntKind.wrap .i64 ((k : Int) - 1) = (k : Int) - 1 from wi (by omega) (by omega)]
    rcases Nat.eq_zero_or_pos k with e | e
    · subst e; rfl
    · rw [show (k : Int) - 1 = ((k - 1 : Nat) : Int) from by omega, show Int.tdiv ((k - 1 : Nat) : Int) 2 = (((k - 1) / 2 : Nat) : Int) from rfl]
      rw [wi (by omega) (by omega)]]
  intro kb hkb
  by_cases h0 : k = 0
  · subst h0
    rw [if_pos (by rfl)]
    refine hkb _ _ ?_
    rw [if_pos rfl]
    exact h u ys hs hlen hp hd.top
  · rw [if_neg (by simp; omega)]
    refine I_less hs (by omega) (by omega) fun u hs => ⟨_, rfl, hkb _ _ ?_⟩
    by_cases hlt : g ys k < g ys ((k - 1) / 2)
    · rw [if_neg (by simp [hlt])]
      refine I_swap hs (by omega) (by omega) fun u hs => ⟨rfl, ⟨(k - 1) / 2, _, rfl, by omega, hs, by simp [hlen], (sw_perm (by omega) (by omega)).trans hp, hd.step (by omega) (by omega) hk hlt⟩, ?_⟩
      show (((k - 1) / 2 : Nat) : Int).toNat < (k : Int).toNat; omega
    · rw [if_pos (by simp; omega)]
      exact h u ys hs hlen hp (hd.stop (by omega))
theorem C95 (hs : Sep w (OpL pb s xs L)) (hn : xs.length ≤ 1000000) (h0 : 0 < xs.length) (hok : Ok xs xs.length)
    (h : ∀ u s' ys x, Sep u (OpL pb s' ys L) → (x :: ys).Perm xs → (∀ y ∈ xs, x ≤ y) → Ok ys ys.length → K (.iface 3 (.int .i64 x)) u) : XCP Tryz.prog 95 [opV pb] w K KP := by
  refine E95 ?_
  unfold F95
  refine I_len hs ⟨_, rfl, ?_⟩
  rw [show IntKind.wrap .i64 ((xs.length : Int) - 1) = ((xs.length - 1 : Nat) : Int) from by rw [wi (by omega) (by omega)]; omega]
  have hd : Down (sw xs 0 (xs.length - 1)) 0 (xs.length - 1) := by
    by_cases h1 : 1 < xs.length
    · exact Down.pop hok h1
    · exact ⟨fun k hk1 hk2 => by omega, fun k hk1 hk2 => by omega⟩
  have hg0 : g (sw xs 0 (xs.length - 1)) (xs.length - 1) = g xs 0 := by rw [g_sw (by omega) (by omega), if_pos rfl]
  refine I_swap (i := 0) hs h0 (by omega) fun u hs => ⟨rfl, ?_⟩
  refine C144 (i := 0) hs (by simp) (by simpa using hn) (by omega) hd fun u ys b hs hlen hp hsame hok' => ⟨_, rfl, ?_⟩
  have hlen : ys.length = xs.length := by simpa using hlen
  refine I_pop hs (by omega) (by omega) fun u s' hs => ⟨_, rfl, ?_⟩
  have hlast : g ys (ys.length - 1) = g xs 0 := by rw [hlen, hsame _ (Nat.le_refl _), hg0]
  refine h u s' _ _ hs ?_ (fun y hy => ?_) ?_
  · have hperm : ys.Perm xs := hp.trans (sw_perm h0 (by omega))
    refine List.Perm.trans ?_ hperm
    have e : ys = ys.take (ys.length - 1) ++ [g ys (ys.length - 1)] := by
      conv => lhs; rw [← List.take_append_drop (ys.length - 1) ys]
      congr 1
      rw [List.drop_eq_getElem_cons (by omega), List.drop_eq_nil_of_le (by omega)]
      simp [g, List.getD_eq_getElem?_getD, List.getElem?_eq_getElem (show ys.length - 1 < ys.length by omega)]
    conv => rhs; rw [e]
    exact (List.perm_append_singleton _ _).symm
  · rw [hlast]
    obtain ⟨k, hk, rfl⟩ := List.getElem_of_mem hy
    have := hok.root k hk
    simpa [g, List.getD_eq_getElem?_getD, List.getElem?_eq_getElem hk] using this
  · intro k hk0 hk
    have hk' : k < ys.length - 1 := by rw [List.length_take] at hk; omega
    have ht : ∀ z, z < ys.length - 1 → g (ys.take (ys.length - 1)) z = g ys z := fun z hz => by
      unfold g; rw [List.getD_eq_getElem?_getD, List.getD_eq_getElem?_getD, List.getElem?_take, if_pos hz]
    rw [ht k hk', ht _ (by omega)]
    exact hok' k hk0 (by omega)
theorem C97 (hs : Sep w (OpL pb s xs L)) {x : Int} (hn : xs.length ≤ 900000) (hok : Ok xs xs.length)
    (h : ∀ u s' ys, Sep u (OpL pb s' ys L) → ys.Perm (xs ++ [x]) → Ok ys ys.length → K (.tuple #[]) u) : XCP Tryz.prog 97 [opV pb, .iface 3 (.int .i64 x)] w K KP := by
  refine E97 ?_
  unfold F97
  refine I_push hs (by omega) fun u s' hs => ⟨rfl, I_len hs ⟨_, rfl, ?_⟩⟩
  rw [show IntKind.wrap .i64 (((xs ++ [x]).length : Int) - 1) = ((xs.length : Nat) : Int) from by simp only [List.length_append, List.length_singleton]; rw [wi (by omega) (by omega)]; omega]
  refine C146 hs (by simp) (by simp; omega) (by simpa using Up.push hok) fun u ys hs hlen hp hok' => ⟨rfl, h u s' ys hs hp (by rw [hlen]; exact hok')⟩

/-! Repeat -/
theorem mul_small : ∀ n : Fin 1002, (IntKind.wrap .u64 ((IntKind.wrap .u64 ((IntKind.wrap .u64 ((shiftI .shr .u64 1 32) * (shiftI .shr .u64 (n.val : Int) 32))) + (shiftI .shr .u64 (IntKind.wrap .u64 ((IntKind.wrap .u64 ((shiftI .shr .u64 1 32) * (bitsI .and .u64 (n.val : Int) 4294967295))) + (shiftI .shr .u64 (IntKind.wrap .u64 ((bitsI .and .u64 1 4294967295) * (bitsI .and .u64 (n.val : Int) 4294967295))) 32))) 32))) + (shiftI .shr .u64 (IntKind.wrap .u64 ((bitsI .and .u64 (IntKind.wrap .u64 ((IntKind.wrap .u64 ((shiftI .shr .u64 1 32) * (bitsI .and .u64 (n.val : Int) 4294967295))) + (shiftI .shr .u64 (IntKind.wrap .u64 ((bitsI .and .u64 1 4294967295) * (bitsI .and .u64 (n.val : Int) 4294967295))) 32))) 4294967295) + (IntKind.wrap .u64 ((bitsI .and .u64 1 4294967295) * (shiftI .shr .u64 (n.val : Int) 32))))) 32))) = 0 ∧ IntKind.wrap .u64 (1 * (n.val : Int)) = n.val := by decide +kernel
theorem C143 {n : Int} (h0 : 0 ≤ n) (h1 : n ≤ 1001) (h : K (.tuple #[.int .u64 0, .int .u64 n]) w) : XCP Tryz.prog 143 [.int .u64 1, .int .u64 n] w K KP := by
  apply E143; unfold F143
  rw [if_neg (by decide)]
  apply E165; unfold F165
  refine ⟨by omega, by omega, by omega, by omega, by omega, _, _, rfl, ?_⟩
  have hm := mul_small ⟨n.toNat, by omega⟩
  have hc : ((n.toNat : Nat) : Int) = n := by omega
  simp only [hc] at hm
  rw [hm.1, hm.2]
  exact h
theorem C93 {x : Int} {s : Sl} {G : Nat → Prop} (hr : Rd w s.a [.int .i64 x] G) (hl : s.l = 1) {n : Int} (h0 : 0 ≤ n) (h1 : n ≤ 1001)
    (h : ∀ (s' : Sl) (w' : World), OwnI w' 3 s' (List.replicate n.toNat x) (fun k => w.heap.size ≤ k) → (∀ D, Fr D w w') → K s'.v w') : XCP Tryz.prog 93 [s.v, .int .i64 n] w K KP := by
  show XCP Tryz.prog 93 [.slice s.a s.l s.c, .int .i64 n] w K KP
  apply E93; unfold F93
  intro kb hk
  rw [if_neg (by simp; omega)]
  refine hk w ?_
  rw [show IntKind.wrap .u64 ((s.l : Nat) : Int) = 1 from by rw [hl]; rfl, show IntKind.wrap .u64 n = n from by rw [IntKind.wrap_u64]; omega]
  refine C143 h0 h1 ⟨_, _, rfl, ?_⟩
  intro kb1 hk1
  rw [if_neg (by simp; omega)]
  refine hk1 w ?_
  rw [wi (by omega) (by omega)]
  refine xr_make (cs := ints (List.replicate n.toNat 0)) T23 rfl h0 (Int.le_refl _) (by omega) (by omega) (by simp) (fun i hi => by simp at hi; simp [ints, hi, Nat.mod_one]) fun w1 ho1 hf1 hk1 => ⟨_, _, _, rfl, ?_⟩
  obtain ⟨hc1, hc2, hn | ⟨b, o, B, hbe, hg, hb, hfit, hv⟩⟩ := ho1
  · cases hn.1
  · cases hbe
    simp only [Nat.zero_add, Nat.mul_one] at hfit
    have hr1 : Rd w1 s.a [.int .i64 x] (fun _ => True) := (hr.mono (G' := fun b => b < w.heap.size) (fun b hb _ => hb)).frame (hf1 (fun _ => False)) (fun _ _ h => h) |>.mono (fun _ _ _ => trivial)
    rw [hl]
    refine xr_copy (xs := List.replicate (min 1 n.toNat) (.int .i64 x)) T23 hb (X := fun _ => True) ?_ (by simp) (by simp; omega) (by intro u hu; rw [List.mem_replicate] at hu; rw [hu.2]; rfl) fun w2 hb2 hf2 hs2 => ⟨_, rfl, ?_⟩
    · by_cases hz : n.toNat = 0
      · rw [hz]; exact .inl rfl
      · rw [show min 1 n.toNat = 1 from by omega]; exact hr1
    · refine ⟨fun k u => 0 ≤ k ∧ k ≤ n ∧ (k = 0 → n = 0) ∧ (∃ B', Blk u w.heap.size B' 3 ∧ B'.length = B.length ∧ ∀ i, i < k.toNat → B'[i]? = some (.int .i64 x)) ∧ (∀ D, Fr D w u), fun k u => n.toNat - k.toNat, ?_, ?_⟩
      · refine ⟨by omega, by omega, by omega, ⟨_, hb2, by simp; omega, fun i hi => ?_⟩, fun D => (hf1 D).trans hf2 (fun _ _ h => h) (fun k hk e => by omega)⟩
        have hi' : i < min 1 n.toNat := by omega
        rw [List.take_zero, List.nil_append, List.getElem?_append_left (by simpa using hi'), List.getElem?_replicate, if_pos hi']
      · rintro k u ⟨hk0, hkn, hkz, ⟨B', hb', hlen', hval⟩, hfu⟩
        by_cases hlt : k < n
        · rw [if_pos (by simp; omega)]
          refine ⟨fun _ => True, trivial, ?_⟩
          refine ⟨hk0, by omega, hk0, by omega, ?_⟩
          have hne : ¬ (n.toNat = k.toNat) := by omega
          rw [if_neg hne]
          show XRun Tryz.prog (Builtin.copy_ #[23, 23] 3 (List.toArray [.slice (some (Addr.add ⟨w.heap.size, 0, none⟩ (k.toNat * 1))) (n.toNat - k.toNat) (n.toNat - k.toNat), .slice (some ⟨w.heap.size, 0, none⟩) k.toNat n.toNat])) u.drew _
          rw [add_lit]
          have hbd : Blk u.drew w.heap.size B' 3 := hb'
          refine xr_copy (xs := List.replicate (min k.toNat (n.toNat - k.toNat)) (.int .i64 x)) T23 hbd (X := fun _ => True) (.inr ⟨_, rfl, trivial, fun i v hi => ?_⟩) (by simp) (by simp; omega) (by intro u hu; rw [List.mem_replicate] at hu; rw [hu.2]; rfl) fun w3 hb3 hf3 hs3 => ⟨_, rfl, ?_⟩
          · rw [List.getElem?_replicate] at hi
            split at hi
            · injection hi with hi; subst hi
              rw [add_lit, hbd.cell, Nat.zero_add]; exact hval i (by omega)
            · cases hi
          · rw [wi (by omega) (by omega)]
            refine ⟨fun _ => True, trivial, ⟨by omega, by omega, by omega, ⟨_, hb3, by simp; omega, fun i hi => ?_⟩, fun D => ((hfu D).trans (Fr.drew D u) (fun _ _ h => h) (fun _ _ h => h)).trans hf3 (fun _ _ h => h) (fun k hk e => by omega)⟩, by show n.toNat - (k + ((min k.toNat (n.toNat - k.toNat) : Nat) : Int)).toNat < n.toNat - k.toNat; omega⟩
            simp only [Nat.zero_add, Nat.mul_one]
            by_cases hik : i < k.toNat
            · rw [List.append_assoc, List.getElem?_append_left (by simp; omega), List.getElem?_take, if_pos hik]; exact hval i hik
            · rw [List.append_assoc, List.getElem?_append_right (by simp; omega), List.getElem?_append_left (by simp; omega), List.getElem?_replicate, if_pos (by simp; omega)]
        · rw [if_neg (by simp; omega)]
          have hkn' : k = n := by omega
          subst hkn'
          refine h ⟨some ⟨w.heap.size, 0, none⟩, k.toNat, k.toNat⟩ u (Own.of_blk hb' (Nat.le_refl _) (by simp) (Nat.le_refl _) (by show 0 + k.toNat * 1 ≤ _; omega) (fun i v hi => ?_)) hfu
          have hi' : i < k.toNat := by have := (List.getElem?_eq_some_iff.1 hi).1; simpa using this
          rw [Nat.zero_add, hval i hi']
          simp [ints, hi'] at hi
          rw [hi]
end
end Go.Proofs.YtahcpjgaogghiaaGreat
