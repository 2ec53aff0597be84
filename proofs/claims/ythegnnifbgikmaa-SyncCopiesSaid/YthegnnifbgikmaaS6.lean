/- The sync seat: New. -/
import Derived.Test.YthegnnifbgikmaaS5
set_option linter.unusedVariables false
set_option linter.unusedSimpArgs false
namespace Go.Proofs.Ythegnnifbgikmaa
open Go.X
section
variable {w : World} {K : Value → World → Prop} {KP : List PanicEntry → World → Prop}

/-- IndexFunc, with New's test of a room -/
theorem C70 {s : Sl} {xs : List Int} {G : Nat → Prop} (hr : Rd w s.a (ints xs) G) (hl : s.l = xs.length) (hn : xs.length ≤ 1000000000)
    (h1 : ∀ n : Int, 0 ≤ n → (∃ x ∈ xs, x < 1 ∨ x > 16) → K (.int .i64 n) w) (h0 : (¬ ∃ x ∈ xs, x < 1 ∨ x > 16) → K (.int .i64 (-1)) w) : XCP Try.prog 70 [s.v, .func (.func 34) #[] #[]] w K KP := by
  show XCP Try.prog 70 [.slice s.a s.l s.c, .func (.func 34) #[] #[]] w K KP
  apply E70; unfold F70
  refine ⟨fun n u => u = w ∧ 0 ≤ n ∧ n ≤ xs.length ∧ ∀ x ∈ xs.take n.toNat, ¬ (x < 1 ∨ x > 16), fun n u => xs.length - n.toNat, ⟨rfl, by omega, by omega, by simp⟩, ?_⟩
  rintro n u ⟨rfl, hn0, hn1, hall⟩
  by_cases hlt : n < xs.length
  · rw [if_pos (by simpa [hl] using hlt)]
    have ht : n.toNat < xs.length := by omega
    obtain ⟨p, hp, -, hx⟩ := hr.isSome (ints_get_iff ht)
    rw [hp, xptr_some]
    refine ⟨hn0, by omega, _, by simpa using hx, ?_⟩
    show XCP Try.prog 34 [.int .i64 xs[n.toNat]] u _ _
    apply E34; unfold F34
    refine ⟨_, rfl, ?_⟩
    by_cases hb : xs[n.toNat] < 1 ∨ xs[n.toNat] > 16
    · rw [if_pos (by simpa using hb)]
      exact h1 n hn0 ⟨_, List.getElem_mem ht, hb⟩
    · rw [if_neg (by simpa using hb)]
      rw [wi (by omega) (by omega)]
      refine ⟨⟨rfl, by omega, by omega, ?_⟩, by show xs.length - (n + 1).toNat < xs.length - n.toNat; omega⟩
      rw [show (n + 1).toNat = n.toNat + 1 from by omega, List.take_add_one, List.getElem?_eq_getElem ht]
      intro x hx
      rcases List.mem_append.1 hx with hx | hx
      · exact hall x hx
      · simp at hx; subst hx; exact hb
  · rw [if_neg (by simpa [hl] using hlt)]
    rw [List.take_of_length_le (by omega)] at hall
    exact h0 (fun ⟨x, hx, hh⟩ => hall x hx hh)
theorem C35 {s : Sl} {xs : List Int} {G : Nat → Prop} (hr : Rd w s.a (ints xs) G) (hl : s.l = xs.length) (hn : xs.length ≤ 1000000000)
    (h1 : (∃ x ∈ xs, x < 1 ∨ x > 16) → K (.bool true) w) (h0 : (¬ ∃ x ∈ xs, x < 1 ∨ x > 16) → K (.bool false) w) : XCP Try.prog 35 [s.v, .func (.func 34) #[] #[]] w K KP := by
  show XCP Try.prog 35 [.slice s.a s.l s.c, .func (.func 34) #[] #[]] w K KP
  apply E35; unfold F35
  refine C70 (s := s) hr hl hn (fun n hn hh => ⟨_, rfl, ?_⟩) (fun hh => ⟨_, rfl, ?_⟩)
  · rw [show (decide (n ≥ 0)) = true from by simpa using hn]; exact h1 hh
  · exact h0 hh

theorem mul_small : ∀ n : Fin 65, (IntKind.wrap .u64 ((IntKind.wrap .u64 ((IntKind.wrap .u64 ((shiftI .shr .u64 1 32) * (shiftI .shr .u64 (n.val : Int) 32))) + (shiftI .shr .u64 (IntKind.wrap .u64 ((IntKind.wrap .u64 ((shiftI .shr .u64 1 32) * (bitsI .and .u64 (n.val : Int) 4294967295))) + (shiftI .shr .u64 (IntKind.wrap .u64 ((bitsI .and .u64 1 4294967295) * (bitsI .and .u64 (n.val : Int) 4294967295))) 32))) 32))) + (shiftI .shr .u64 (IntKind.wrap .u64 ((bitsI .and .u64 (IntKind.wrap .u64 ((IntKind.wrap .u64 ((shiftI .shr .u64 1 32) * (bitsI .and .u64 (n.val : Int) 4294967295))) + (shiftI .shr .u64 (IntKind.wrap .u64 ((bitsI .and .u64 1 4294967295) * (bitsI .and .u64 (n.val : Int) 4294967295))) 32))) 4294967295) + (IntKind.wrap .u64 ((bitsI .and .u64 1 4294967295) * (shiftI .shr .u64 (n.val : Int) 32))))) 32))) = 0 ∧ IntKind.wrap .u64 (1 * (n.val : Int)) = n.val := by decide +kernel

theorem C71 {n : Int} (h0 : 0 ≤ n) (h1 : n ≤ 64) (h : K (.tuple #[.int .u64 0, .int .u64 n]) w) : XCP Try.prog 71 [.int .u64 1, .int .u64 n] w K KP := by
  apply E71; unfold F71
  rw [if_neg (by decide)]
  apply E76; unfold F76
  refine ⟨by omega, by omega, by omega, by omega, by omega, _, _, rfl, ?_⟩
  have hm := mul_small ⟨n.toNat, by omega⟩
  have hc : ((n.toNat : Nat) : Int) = n := by omega
  simp only [hc] at hm
  rw [hm.1, hm.2]
  exact h

/-- slices.Repeat of one number -/
theorem C36 {s : Sl} {x : Int} {G : Nat → Prop} (hr : Rd w s.a [.int .i64 x] G) (hl : s.l = 1) {n : Int} (h0 : 0 ≤ n) (h1 : n ≤ 64)
    (h : ∀ (s' : Sl) (w' : World), OwnI w' 3 s' (List.replicate n.toNat x) (fun k => w.heap.size ≤ k) → (∀ D, Fr D w w') → K s'.v w') : XCP Try.prog 36 [s.v, .int .i64 n] w K KP := by
  show XCP Try.prog 36 [.slice s.a s.l s.c, .int .i64 n] w K KP
  apply E36; unfold F36
  intro kb hk
  rw [if_neg (by simp; omega)]
  refine hk w ?_
  rw [show IntKind.wrap .u64 ((s.l : Nat) : Int) = 1 from by rw [hl]; rfl, show IntKind.wrap .u64 n = n from by rw [IntKind.wrap_u64]; omega]
  refine C71 h0 h1 ⟨_, _, rfl, ?_⟩
  intro kb1 hk1
  rw [if_neg (by simp; omega)]
  refine hk1 w ?_
  rw [wi (by omega) (by omega)]
  refine xr_make (cs := ints (List.replicate n.toNat 0)) T29 rfl h0 (Int.le_refl _) (by omega) (by omega) (by simp) (fun i hi => by simp at hi; simp [ints, hi, Nat.mod_one]) fun w1 ho1 hf1 hk1 => ⟨_, _, _, rfl, ?_⟩
  obtain ⟨hc1, hc2, hn | ⟨b, o, B, hbe, hg, hb, hfit, hv⟩⟩ := ho1
  · cases hn.1
  · cases hbe
    simp only [Nat.zero_add, Nat.mul_one] at hfit
    have hr1 : Rd w1 s.a [.int .i64 x] (fun _ => True) := (hr.mono (fun _ _ _ => trivial)).frame (hf1 (fun _ => False)) (fun _ _ h => h)
    rw [hl]
    refine xr_copy (xs := List.replicate (min 1 n.toNat) (.int .i64 x)) T29 hb (X := fun _ => True) ?_ (by simp) (by simp; omega) (by intro u hu; rw [List.mem_replicate] at hu; rw [hu.2]; rfl) fun w2 hb2 hf2 hs2 => ⟨_, rfl, ?_⟩
    · by_cases hz : n.toNat = 0
      · rw [hz]; exact .inl rfl
      · rw [show min 1 n.toNat = 1 from by omega]; exact hr1
    · refine ⟨fun k u => 0 ≤ k ∧ k ≤ n ∧ (k = 0 → n = 0) ∧ (∃ B', Blk u w.heap.size B' 3 ∧ B'.length = B.length ∧ ∀ i, i < k.toNat → B'[i]? = some (.int .i64 x)) ∧ (∀ D, Fr D w u), fun k u => n.toNat - k.toNat, ?_, ?_⟩
      · refine ⟨by omega, by omega, by omega, ⟨_, hb2, by simp; omega, fun i hi => ?_⟩, fun D => (hf1 D).trans hf2 (fun _ _ h => h) (fun k hk e => by omega)⟩
        have hi' : i < min 1 n.toNat := by omega
        rw [List.take_zero, List.nil_append, List.getElem?_append_left (by simpa using hi'), List.getElem?_replicate, if_pos hi']
      · rintro k u ⟨hk0, hkn, hkz, ⟨B', hb', hlen', hval⟩, hfu⟩
        by_cases hlt : k < n
        · rw [if_pos (by simp; omega)]
          refine ⟨fun _ => True, trivial, ?_⟩
          refine ⟨hk0, by omega, hk0, by omega, ?_⟩
          have hne : ¬ (n.toNat = k.toNat) := by omega
          rw [if_neg hne]
          show XRun Try.prog (Builtin.copy_ #[29, 29] 3 (List.toArray [.slice (some (Addr.add ⟨w.heap.size, 0, none⟩ (k.toNat * 1))) (n.toNat - k.toNat) (n.toNat - k.toNat), .slice (some ⟨w.heap.size, 0, none⟩) k.toNat n.toNat])) u.drew _
          rw [add_lit]
          have hbd : Blk u.drew w.heap.size B' 3 := hb'
          refine xr_copy (xs := List.replicate (min k.toNat (n.toNat - k.toNat)) (.int .i64 x)) T29 hbd (X := fun _ => True) (.inr ⟨_, rfl, trivial, fun i v hi => ?_⟩) (by simp) (by simp; omega) (by intro u hu; rw [List.mem_replicate] at hu; rw [hu.2]; rfl) fun w3 hb3 hf3 hs3 => ⟨_, rfl, ?_⟩
          · rw [List.getElem?_replicate] at hi
            split at hi
            · injection hi with hi; subst hi
              rw [add_lit, hbd.cell, Nat.zero_add]; exact hval i (by omega)
            · cases hi
          · rw [wi (by omega) (by omega)]
            refine ⟨fun _ => True, trivial, ⟨by omega, by omega, by omega, ⟨_, hb3, by simp; omega, fun i hi => ?_⟩, fun D => ((hfu D).trans (Fr.drew D u) (fun _ _ h => h) (fun _ _ h => h)).trans hf3 (fun _ _ h => h) (fun k hk e => by omega)⟩, by show n.toNat - (k + ((min k.toNat (n.toNat - k.toNat) : Nat) : Int)).toNat < n.toNat - k.toNat; omega⟩
            simp only [Nat.zero_add, Nat.mul_one]
            by_cases hik : i < k.toNat
            · rw [List.append_assoc, List.getElem?_append_left (by simp; omega), List.getElem?_take, if_pos hik]; exact hval i hik
            · rw [List.append_assoc, List.getElem?_append_right (by simp; omega), List.getElem?_append_left (by simp; omega), List.getElem?_replicate, if_pos (by simp; omega)]
        · rw [if_neg (by simp; omega)]
          have hkn' : k = n := by omega
          subst hkn'
          refine h ⟨some ⟨w.heap.size, 0, none⟩, k.toNat, k.toNat⟩ u (Own.of_blk hb' (Nat.le_refl _) (by simp) (Nat.le_refl _) (by show 0 + k.toNat * 1 ≤ _; omega) (fun i v hi => ?_)) hfu
          have hi' : i < k.toNat := by have := (List.getElem?_eq_some_iff.1 hi).1; simpa using this
          rw [Nat.zero_add, hval i hi']
          simp [ints, hi'] at hi
          rw [hi]
end
end Go.Proofs.Ythegnnifbgikmaa
