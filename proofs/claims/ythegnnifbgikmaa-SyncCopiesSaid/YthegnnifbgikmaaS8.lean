/- The sync seat: works, ints. -/
import Derived.Test.YthegnnifbgikmaaS7
set_option linter.unusedVariables false
set_option linter.unusedSimpArgs false
namespace Go.Proofs.Ythegnnifbgikmaa
open Go.X
section
variable {w : World} {K : Value → World → Prop} {KP : List PanicEntry → World → Prop} {pb : Nat} {S : SS} {g : Nat → Nat}

theorem ext_new {w u u' : World} {g g' : Nat → Nat} (h1 : ∀ b, b < w.heap.size → g b = 0) (h2 : ∀ D, Fr D w u) (h : Ext g u g' u') : (∀ b, b < w.heap.size → g' b = 0) ∧ ∀ D, Fr D w u' :=
  ⟨fun b hb => by rw [h.old b (Nat.lt_of_lt_of_le hb (h2 (fun _ => False)).size)]; exact h1 b hb,
   fun D => (h2 D).trans h.fr (fun _ _ h => h) (fun b hb hh => absurd (h1 b hb) hh)⟩
theorem Ext.same {w w' : World} {g : Nat → Nat} (h : Fr (fun b => g b ≠ 0) w w') : Ext g w g w' := ⟨fun _ _ => rfl, h⟩

theorem C11 (h : ∀ w', (∀ D, Fr D w w') → K (.bool true) w') : XCP Try.prog 11 [] w K KP := by
  apply E11; unfold F11
  refine xr_build T29 rfl (cs := [.int .i64 1]) (by rfl) rfl (by omega) fun w0 ho0 hf0 hk0 => ⟨_, _, _, rfl, ?_⟩
  refine C12 (s := ⟨_, 1, 1⟩) (rooms := [1]) ho0.rd rfl (by simp) (fun hb => absurd hb (by unfold NewBad; simp)) fun hg pb g0 w1 hs1 hg1 hf1 => ⟨_, _, rfl, ?_⟩
  have a1 : (∀ b, b < w.heap.size → g0 b = 0) ∧ ∀ D, Fr D w w1 := ⟨fun b hb => hg1 b (Nat.lt_of_lt_of_le hb (hf0 (fun _ => False)).size), fun D => (hf0 D).trans (hf1 D) (fun _ _ h => h) (fun _ _ h => h)⟩
  clear hg1 hf1 ho0 hf0 hk0 hg
  have e1 : SS.new 1 1 [1] = ⟨[-1], [[]], [⟨[], 1, 0⟩]⟩ := by kernel_rfl
  rw [e1] at hs1
  refine C13 hs1 fun w2 hs2 hf2 => ⟨_, _, rfl, ?_⟩
  have a2 := ext_new a1.1 a1.2 (Ext.same hf2)
  rw [show SS.lock ⟨[-1], [[]], [⟨[], 1, 0⟩]⟩ 0 1 = (⟨[1], [[]], [⟨[], 1, 0⟩]⟩, true, 0) from by kernel_rfl] at hs2 ⊢
  refine C13 hs2 fun w3 hs3 hf3 => ⟨_, _, rfl, ?_⟩
  have a3 := ext_new a2.1 a2.2 (Ext.same hf3)
  rw [show SS.lock ⟨[1], [[]], [⟨[], 1, 0⟩]⟩ 0 2 = (⟨[1], [[]], [⟨[], 1, 0⟩]⟩, false, 0) from by kernel_rfl] at hs3 ⊢
  refine C20 hs3 ⟨_, _, rfl, ?_⟩
  rw [show SS.owner ⟨[1], [[]], [⟨[], 1, 0⟩]⟩ 0 = (1, 0) from by kernel_rfl]
  refine C16 hs3 (n := 20) ⟨by decide, by decide⟩ (by omega) (by simp) fun g4 w4 hs4 he4 => ⟨_, rfl, ?_⟩
  have a4 := ext_new a3.1 a3.2 he4
  rw [show SS.wait ⟨[1], [[]], [⟨[], 1, 0⟩]⟩ 0 3 = (⟨[1], [[3]], [⟨[], 1, 0⟩]⟩, 0) from by kernel_rfl] at hs4 ⊢
  refine C17 hs4 fun g5 w5 hs5 he5 => ⟨_, _, _, rfl, ?_⟩
  have a5 := ext_new a4.1 a4.2 he5
  rw [show SS.signal ⟨[1], [[3]], [⟨[], 1, 0⟩]⟩ 0 = (⟨[1], [[]], [⟨[], 1, 0⟩]⟩, 3, true, 0) from by kernel_rfl] at hs5 ⊢
  refine C18 hs5 (n := 20) ⟨by decide, by decide⟩ (by omega) fun g6 w6 hs6 he6 => ⟨_, _, _, rfl, ?_⟩
  have a6 := ext_new a5.1 a5.2 he6
  rw [show SS.send ⟨[1], [[]], [⟨[], 1, 0⟩]⟩ 0 7 = (⟨[1], [[]], [⟨[7], 1, 0⟩]⟩, 0, true, 0) from by kernel_rfl] at hs6 ⊢
  refine C19 hs6 (n := 20) ⟨by decide, by decide⟩ (by omega) fun g7 w7 hs7 he7 => ⟨_, _, _, _, rfl, ?_⟩
  have a7 := ext_new a6.1 a6.2 he7
  rw [show SS.recv ⟨[1], [[]], [⟨[7], 1, 0⟩]⟩ 0 = (⟨[1], [[]], [⟨[], 1, 1⟩]⟩, 7, 0, true, 0) from by kernel_rfl] at hs7 ⊢
  refine C14 ⟨_, rfl, C14 ⟨_, rfl, C14 ⟨_, rfl, C14 ⟨_, rfl, C14 ⟨_, rfl, C14 ⟨_, rfl, C14 ⟨_, rfl, C14 ⟨_, rfl, ?_⟩⟩⟩⟩⟩⟩⟩⟩
  intro kb hk
  rw [if_pos (by decide)]
  refine C15 hs7 fun w8 hs8 hf8 => ⟨_, rfl, C14 ⟨_, rfl, hk _ _ ?_⟩⟩
  have a8 := ext_new a7.1 a7.2 (Ext.same hf8)
  rw [show SS.unlock ⟨[1], [[]], [⟨[], 1, 1⟩]⟩ 0 2 = (⟨[1], [[]], [⟨[], 1, 1⟩]⟩, 140) from by kernel_rfl]
  exact h w8 a8.2

/-- ints: the same numbers -/
theorem C22 {s1 s2 : Sl} {xs ys : List Int} {G1 G2 : Nat → Prop} (hr1 : Rd w s1.a (ints xs) G1) (hl1 : s1.l = xs.length) (hr2 : Rd w s2.a (ints ys) G2) (hl2 : s2.l = ys.length) (hn : xs.length ≤ 1000000000)
    (h : ∀ w', (∀ D, Fr D w w') → K (.bool (xs == ys)) w') : XCP Try.prog 22 [s1.v, s2.v] w K KP := by
  show XCP Try.prog 22 [.slice s1.a s1.l s1.c, .slice s2.a s2.l s2.c] w K KP
  apply E22; unfold F22
  by_cases hlen : xs.length = ys.length
  · rw [if_neg (by simp [hl1, hl2, hlen])]
    refine ⟨fun n u => 0 ≤ n ∧ n ≤ xs.length ∧ xs.take n.toNat = ys.take n.toNat ∧ ∀ D, Fr D w u, fun n u => xs.length - n.toNat, ⟨by omega, by omega, by simp, fun D => Fr.refl D w⟩, ?_⟩
    rintro n u ⟨hn0, hn1, heq, hf⟩
    by_cases hlt : n < xs.length
    · rw [if_pos (by simpa [hl1] using hlt)]
      have ht : n.toNat < xs.length := by omega
      have ht2 : n.toNat < ys.length := by omega
      obtain ⟨p1, hp1, -, hx1⟩ := hr1.isSome (ints_get_iff ht)
      obtain ⟨p2, hp2, -, hx2⟩ := hr2.isSome (ints_get_iff ht2)
      refine ⟨fun x => x = u.drew, rfl, ?_⟩
      rw [hp1, hp2, xptr_some]
      refine ⟨hn0, by omega, xs[n.toNat], fun x hx => by subst hx; simpa using (hf (fun _ => False)).cell hx1 (fun h => h), ?_⟩
      rw [xptr_some]
      refine ⟨hn0, by omega, ys[n.toNat], fun x hx => by subst hx; simpa using (hf (fun _ => False)).cell hx2 (fun h => h), ?_⟩
      have hfd : ∀ D, Fr D w u.drew := fun D => (hf D).trans (Fr.drew D u) (fun _ _ h => h) (fun _ _ h => h)
      by_cases hxy : xs[n.toNat] = ys[n.toNat]
      · rw [if_neg (by simp [hxy]), wi (by omega) (by omega)]
        refine ⟨⟨by omega, by omega, ?_, hfd⟩, by show xs.length - (n + 1).toNat < xs.length - n.toNat; omega⟩
        rw [show (n + 1).toNat = n.toNat + 1 from by omega, List.take_add_one, List.take_add_one, heq, List.getElem?_eq_getElem ht, List.getElem?_eq_getElem ht2, hxy]
      · rw [if_pos (by simpa using hxy)]
        have := h u.drew hfd
        rwa [show (xs == ys) = false from by
          rw [beq_eq_false_iff_ne]; intro e; subst e; exact hxy rfl] at this
    · rw [if_neg (by simpa [hl1] using hlt)]
      rw [List.take_of_length_le (by omega), List.take_of_length_le (by omega)] at heq
      subst heq
      have := h u hf
      rwa [show (xs == xs) = true from by simp] at this
  · rw [if_pos (by simp [hl1, hl2]; omega)]
    have := h w (fun D => Fr.refl D w)
    rwa [show (xs == ys) = false from by
      rw [beq_eq_false_iff_ne]; intro e; subst e; exact hlen rfl] at this
end
end Go.Proofs.Ythegnnifbgikmaa
