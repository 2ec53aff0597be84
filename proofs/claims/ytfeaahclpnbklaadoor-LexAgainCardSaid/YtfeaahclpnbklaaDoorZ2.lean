/- The lex seat: the reader goes on: by some bytes, behind blanks. -/
import Derived.Test.YtfeaahclpnbklaaDoorZ1
set_option linter.unusedVariables false
set_option linter.unusedSimpArgs false
set_option maxRecDepth 10000
set_option maxHeartbeats 1000000
namespace Go.Proofs.YtfeaahclpnbklaaDoor
open Go.X Go.Lx
/-- places are far from any bound -/
structure PB (p : Lx.Pos) (l : By) : Prop where
  a : 0 ≤ p.line
  b : 0 ≤ p.col
  c : p.line + l.length ≤ 2000000
  d : p.col + l.length ≤ 2000000
theorem PB.step {p : Lx.Pos} {c : UInt8} {r : By} (h : PB p (c :: r)) : PB (Lx.step p c) r := by
  obtain ⟨h1, h2, h3, h4⟩ := h
  simp only [List.length_cons] at h3 h4
  unfold Lx.step
  split
  · exact ⟨by show 0 ≤ p.line + 1; omega, by show (0 : Int) ≤ 1; omega, by show p.line + 1 + _ ≤ _; omega, by show (1 : Int) + _ ≤ _; omega⟩
  · exact ⟨h1, by show 0 ≤ p.col + 1; omega, by show p.line + _ ≤ _; omega, by show p.col + 1 + _ ≤ _; omega⟩
theorem PB.adv : ∀ {n : Nat} {p : Lx.Pos} {l : By}, PB p l → PB (Lx.adv p (l.take n)) (l.drop n)
  | 0, p, l, h => by simpa [Lx.adv] using h
  | n + 1, p, [], h => by simpa [Lx.adv] using h
  | n + 1, p, c :: r, h => PB.adv (n := n) h.step
theorem PB.strip (f : Nat) {p : Lx.Pos} {l : By} (h : PB p l) : PB (Lx.strip f p l).1 (Lx.strip f p l).2 := by
  obtain ⟨m, -, e⟩ := strip_at f p l
  rw [e]; exact h.adv
theorem PB.len {p : Lx.Pos} {l : By} (h : PB p l) : l.length ≤ 1000000 + 1000000 := by have := h.a; have := h.c; omega
theorem adv_take_succ {p : Lx.Pos} {l : By} {k : Nat} {c : UInt8} (h : l[k]? = some c) : Lx.adv p (l.take (k + 1)) = Lx.step (Lx.adv p (l.take k)) c := by
  rw [List.take_add_one, h, adv_append]; rfl
/-- how long the text is that is left -/
def leftN (b : Nat) (w : World) : Nat :=
  match w.cell? ⟨b, 2, none⟩ with
  | some (.string s) => s.size
  | _ => 0
theorem leftN_rd {w : World} {b : Nat} {p : Lx.Pos} {l : By} {e : Int} (h : Blk w b (rd p l e) 42) : leftN b w = l.length := by
  unfold leftN
  rw [h.ld' (o := 2) (v := .string (S l)) rfl]
  exact S_size l
theorem call29 : Callable Tryd.prog 29 := ⟨Tryd.f29, Tryd.func29, by kernel_rfl, by kernel_rfl⟩
theorem xc_of_same {f : FuncId} {args : List Value} {w : World} {v : Value} {K : Value → World → Prop} {KP : List PanicEntry → World → Prop} (hf : Callable Tryd.prog f) (h : Calls Tryd.prog f args.toArray w fun e w' => e = .returned v ∧ w' = w) (hK : K v w) : XCP Tryd.prog f args w K KP :=
  ⟨hf, h.mono fun e w' ⟨he, hb⟩ => ⟨by subst hb; exact KeepsD.refl _, by subst he; subst hb; exact hK⟩⟩
section
variable {w : World} {K : Value → World → Prop} {KP : List PanicEntry → World → Prop} {L : List Assn} {b : Nat} {p : Lx.Pos} {l : By} {e : Int}
theorem C29 (h : K (.bool (l.head? == some 35)) w) : XCP Tryd.prog 29 [.string (S l), .string ⟨#[35]⟩] w K KP := by
  refine xc_of_same call29 (Tryd.strings_HasPrefix (S l) ⟨#[35]⟩ w) ?_
  rw [S_data]
  have : Lib.hasPrefix l (ByteArray.mk #[35]).data.toList = (l.head? == some 35) := by
    unfold Lib.hasPrefix
    cases l with
    | nil => rfl
    | cons c r =>
      show (35 == c && List.isPrefixOf [] r) = (some c == some 35)
      rw [show List.isPrefixOf ([] : List UInt8) r = true by cases r <;> rfl, Bool.and_true, Bool.eq_iff_iff]
      constructor <;> (intro h; simp at h ⊢; exact h.symm)
  rw [this]; exact h
theorem D15 {n : Nat} (hw : Sep w (bx b (rd p l e) 42 :: L)) (hp : PB p l) (hn : n ≤ l.length) (h : ∀ u, Sep u (bx b (rd (Lx.adv p (l.take n)) (l.drop n) e) 42 :: L) → K (.tuple #[]) u) :
    XCP Tryd.prog 15 [.pointer (some ⟨b, 0, none⟩), .int .i64 n] w K KP := by
  refine E15 ?_
  unfold F15
  rw [xptr_some]
  have hpl := hp.len
  refine ⟨_, hw.bx0.ld (o := 2) rfl, xr_head hn ⟨_, rfl, xr_bytes fun a m c u1 e1 hm hr => ⟨_, _, _, rfl, ?_⟩⟩⟩
  have hm : m = n := by rw [hm, List.length_take]; omega
  subst hm
  have hs : Sep u1 (rdA ⟨a, m, c⟩ (u8s (l.take m)) :: bx b (rd p l e) 42 :: L) := hw.add e1 hr
  refine ⟨fun n1 u => ∃ k : Nat, n1 = k ∧ k ≤ m ∧ Sep u (rdA ⟨a, m, c⟩ (u8s (l.take m)) :: bx b (rd (Lx.adv p (l.take k)) l e) 42 :: L), fun n1 _ => m - n1.toNat, ⟨0, rfl, Nat.zero_le _, hs⟩, ?_⟩
  rintro n1 u ⟨k, rfl, hk, hu⟩
  by_cases hlt : k < m
  · rw [if_pos (by simpa using hlt)]
    have hck : l[k]? = some l[k] := List.getElem?_eq_getElem (by omega)
    have hnx := adv_take_succ (p := p) hck
    have hpk : PB (Lx.adv p (l.take k)) (l.drop k) := hp.adv
    have hd : (l.drop k).length = l.length - k := List.length_drop
    obtain ⟨q1, q2, q3, q4⟩ := hpk
    rw [hd] at q3 q4
    generalize hpp : Lx.adv p (l.take k) = pk at *
    intro kb hkb
    have hkb : ∀ u, Sep u (rdA ⟨a, m, c⟩ (u8s (l.take m)) :: bx b (rd (Lx.step pk l[k]) l e) 42 :: L) → kb u := by
      intro u hu
      refine hkb u ?_
      rw [wi (by omega) (by omega)]
      exact ⟨⟨k + 1, rfl, hlt, by rw [hnx]; exact hu⟩, by show m - ((k : Int) + 1).toNat < m - ((k : Int)).toNat; omega⟩
    obtain ⟨G, hrd⟩ := hu.at0
    have hrd : Rd u a (u8s (l.take m)) G := hrd
    obtain ⟨pa, hpa, -, hcell⟩ := hrd.isSome (i := k) (v := .int .u8 l[k].toNat) (by simp [u8s, List.getElem?_take, hlt, hck])
    refine xptr_of' hpa ⟨by omega, by omega, _, by simpa using hcell, ?_⟩
    rw [xptr_some]
    refine ⟨pk.col, hu.bx1.ld (o := 1) rfl, ?_⟩
    rw [xptr_some, wi (by omega) (by omega)]
    show storeP u ⟨b, 1, none⟩ _ _
    refine hu.putAt 1 rfl (o := 1) (by simp [rd]) fun u2 _ hu2 => ?_
    have h10 := u8_eq (c := l[k]) (n := 10) (by decide)
    by_cases h : l[k] = 10
    · rw [if_pos (by rw [show (10 : Int) = ((10 : Nat) : Int) from rfl, h10, h]; rfl), xptr_some]
      refine ⟨pk.line, hu2.bx1.ld (o := 0) rfl, ?_⟩
      rw [xptr_some, wi (by omega) (by omega)]
      show storeP u2 ⟨b, 0, none⟩ _ _
      refine hu2.putAt 1 rfl (o := 0) (by simp [rd]) fun u3 _ hu3 => ?_
      rw [xptr_some]
      show storeP u3 ⟨b, 1, none⟩ _ _
      refine hu3.putAt 1 rfl (o := 1) (by simp [rd]) fun u4 _ hu4 => ?_
      refine hkb u4 ?_
      unfold Lx.step
      rw [if_pos h]
      exact hu4
    · rw [if_neg (by rw [show (10 : Int) = ((10 : Nat) : Int) from rfl, h10]; simpa using h)]
      refine hkb u2 ?_
      unfold Lx.step
      rw [if_neg h]
      exact hu2
  · rw [if_neg (by simpa using hlt), xptr_some]
    have e : k = m := by omega
    subst e
    refine ⟨_, hu.bx1.ld (o := 2) rfl, xr_tail hn ⟨_, rfl, ?_⟩⟩
    rw [xptr_some]
    show storeP u ⟨b, 2, none⟩ _ _
    refine hu.putAt 1 rfl (o := 2) (by simp [rd]) fun u2 _ hu2 => ?_
    exact h u2 hu2.tail
theorem D20 (hw : Sep w (bx b (rd p l e) 42 :: L)) (hp : PB p l) (hl : l.length ≤ 1000000) (h : ∀ u, Sep u (bx b (rd (Lx.strip l.length p l).1 (Lx.strip l.length p l).2 e) 42 :: L) → K (.tuple #[]) u) :
    XCP Tryd.prog 20 [.pointer (some ⟨b, 0, none⟩)] w K KP := by
  refine E20 ?_
  unfold F20
  refine ⟨fun n u => ∃ (p' : Lx.Pos) (l' : By), Sep u (bx b (rd p' l' e) 42 :: L) ∧ PB p' l' ∧ l'.length ≤ 1000000 ∧ Lx.strip l.length p l = Lx.strip l'.length p' l' ∧ (n = 0 → skip1 l' = 0), fun n u => if n = 0 then 0 else leftN b u + 1,
    ⟨p, l, hw, hp, hl, rfl, fun h => by omega⟩, ?_⟩
  rintro n u ⟨p', l', hu, hp', hl', hst, hz⟩
  by_cases hn : n = 0
  · rw [if_neg (by simp [hn])]
    have := h u
    rw [hst, strip_self (hz hn)] at this
    exact this hu
  rw [if_pos (by simpa using hn)]
  have hbl : leftN b u = l'.length := leftN_rd hu.bx0
  refine C21 hu.bx0 D28 hl' fun u1 e1 => ⟨_, rfl, ?_⟩
  replace hu := hu.ext e1
  have hs := skip1_le l'
  intro kb hkb
  have hkb : ∀ u, Sep u (bx b (rd p' l' e) 42 :: L) → kb (skip1 l') u := by
    intro u hu
    refine hkb _ _ ?_
    refine D15 hu hp' hs fun u2 hu2 => ⟨rfl, ?_⟩
    have hln : (l'.drop (skip1 l')).length = l'.length - skip1 l' := List.length_drop
    refine ⟨⟨_, _, hu2, hp'.adv, by omega, ?_, fun h0 => ?_⟩, ?_⟩
    · rw [hst, strip_eq p' l']
      split
      · rename_i h0
        rw [h0]
        simp only [List.take_zero, List.drop_zero]
        rw [show Lx.adv p' [] = p' from rfl, strip_self h0]
      · rfl
    · have h0 : skip1 l' = 0 := by omega
      rw [h0]; simpa using h0
    · show (if (skip1 l' : Int) = 0 then 0 else leftN b u2 + 1) < (if n = 0 then 0 else leftN b _ + 1)
      rw [if_neg hn, hbl, leftN_rd hu2.bx0]
      split <;> omega
  intro kb1 hkb1
  have hsel : ∀ u, Sep u (bx b (rd p' l' e) 42 :: L) → kb1 (Lx.runN blankB l' == 0 && l'.head? == some 35) u := by
    intro u hu
    refine hkb1 _ _ ?_
    by_cases hc : Lx.runN blankB l' = 0 ∧ l'.head? = some 35
    · rw [if_pos (by simp [hc.1, hc.2])]
      have e0 : skip1 l' = Lx.runN (fun c => c != 10) l' := by unfold skip1; rw [if_pos hc]
      refine C21 hu.bx0 D30 hl' fun u2 e2 => ⟨_, rfl, ?_⟩
      rw [← e0]; exact hkb u2 (hu.ext e2)
    · rw [if_neg (by simpa using hc)]
      have e0 : skip1 l' = Lx.runN blankB l' := by unfold skip1; rw [if_neg hc]
      rw [← e0]; exact hkb u hu
  by_cases h0 : Lx.runN blankB l' = 0
  · rw [if_pos (by simp [h0]), xptr_some]
    refine ⟨_, hu.bx0.ld (o := 2) rfl, C29 ⟨_, rfl, ?_⟩⟩
    have := hsel u1 hu
    rwa [h0, show ((0 : Nat) == 0) = true from rfl, Bool.true_and] at this
  · rw [if_neg (by simpa using h0)]
    have := hsel u1 hu
    rwa [show (Lx.runN blankB l' == 0) = false by simpa using h0, Bool.false_and] at this
end
end Go.Proofs.YtfeaahclpnbklaaDoor
