/- The lex seat: all words of a text, one by one. -/
import Derived.Test.YtfeaahclpnbklaaDoorZ5
set_option linter.unusedVariables false
set_option linter.unusedSimpArgs false
set_option maxRecDepth 10000
set_option maxHeartbeats 4000000
namespace Go.Lx
theorem strip_strip (p : Pos) (l : By) : strip (strip l.length p l).2.length (strip l.length p l).1 (strip l.length p l).2 = strip l.length p l :=
  strip_self (strip_done l.length p l (Nat.le_refl _))
theorem lexGo_strip (p : Pos) (l : By) : lexGo (l.length + 1) p l = lexGo ((strip l.length p l).2.length + 1) (strip l.length p l).1 (strip l.length p l).2 := by
  rw [lexGo_eq p l, lexGo_eq (strip l.length p l).1 (strip l.length p l).2, strip_strip]
end Go.Lx
namespace Go.Proofs.YtfeaahclpnbklaaDoor
open Go.X Go.Lx Go.RowKit
def _root_.Go.Lx.Tok.cells (t : Lx.Tok) : List Value := [.int .i64 t.kind, .string (S t.text), .int .i64 t.num, .int .i64 t.pos.line, .int .i64 t.pos.col]
def _root_.Go.Lx.Tok.v (t : Lx.Tok) : Value := .agg #[.int .i64 t.kind, .string (S t.text), .int .i64 t.num, .int .i64 t.pos.line, .int .i64 t.pos.col]
/-- what the closure holds -/
def capA (br b0 b1 b2 rk rm : Nat) : List Assn := [bx b0 [.pointer (some ⟨br, 0, none⟩)] 40, bx b1 [.map (some rk)] 48, bx b2 [.map (some rm)] 48, mpA rk .string (setV keyL), mpA rm .string (setV markL)]
section
variable {w : World} {K : Value → World → Prop} {KP : List PanicEntry → World → Prop} {L : List Assn}
theorem D14 {br : Nat} (hw : Sep w L) (hG : Gl w) (h : ∀ b0 b1 b2 rk rm u, Ex w u → Sep u (pers (capA br b0 b1 b2 rk rm) :: L) → K (.func (.func 19) #[] #[.pointer (some ⟨b0, 0, none⟩), .pointer (some ⟨b1, 0, none⟩), .pointer (some ⟨b2, 0, none⟩)]) u) :
    XCP Tryd.prog 14 [.pointer (some ⟨br, 0, none⟩)] w K KP := by
  refine E14 ?_
  unfold F14
  intro w0 p
  have hs : Sep w0 (pers [bx w.heap.size [.pointer (some ⟨br, 0, none⟩)] 40] :: [oldA w]) := ((Sep.begin w).box _ _).pers1
  clear_value w0
  refine C17 (hG.ex (hs.ex 1 rfl)) fun rk u1 e1 h1 => ⟨_, rfl, ?_⟩
  have hs := (hs.add e1 h1).keepAt 0 rfl
  refine C18 (hG.ex (hs.ex 1 rfl)) fun rm u2 e2 h2 => ⟨_, rfl, ?_⟩
  have hs := (hs.add e2 h2).keepAt 0 rfl
  intro w3 p1 w4 p2
  have hs : Sep w4 (bx w3.heap.size [.map none] 48 :: bx u2.heap.size [.map none] 48 :: pers [mpA rm .string (setV markL), mpA rk .string (setV keyL), bx w.heap.size [.pointer (some ⟨br, 0, none⟩)] 40] :: [oldA w]) := (hs.box _ _).box _ _
  clear_value w4
  refine hs.putAt 1 rfl (o := 0) (by simp) fun w5 z5 hs => ?_
  refine hs.putAt 0 rfl (o := 0) (by simp) fun w6 z6 hs => ?_
  have hs : Sep w6 (bx w3.heap.size [.map (some rm)] 48 :: bx u2.heap.size [.map (some rk)] 48 :: pers [mpA rm .string (setV markL), mpA rk .string (setV keyL), bx w.heap.size [.pointer (some ⟨br, 0, none⟩)] 40] :: [oldA w]) := hs
  have hs := (hs.keepAt 1 rfl).keepAt 0 rfl
  have hs : Sep w6 (pers (capA br w.heap.size u2.heap.size w3.heap.size rk rm) :: [oldA w]) := hs.forgetAt 0 rfl fun i A hA => by
    match i, hA with
    | 0, hA => exact ⟨4, hA⟩
    | 1, hA => exact ⟨0, hA⟩
    | 2, hA => exact ⟨1, hA⟩
    | 3, hA => exact ⟨3, hA⟩
    | 4, hA => exact ⟨2, hA⟩
    | i + 5, hA => simp [capA] at hA
  exact h _ _ _ _ _ w6 (hs.ex 1 rfl) (hw.add (hs.ex 1 rfl) (hs.fresh 0 1 rfl rfl (by decide)))
/-- a round of whoever takes the words -/
def TakesWords (lp br b0 b1 b2 rk rm : Nat) {γ : Type} (M : γ → List Assn) (tk : γ → List Lx.Tok) : Prop :=
  ∀ (g : γ) (t : Lx.Tok) (p : Lx.Pos) (l : By) (e : Int) u, Sep u (bx br (rd p l e) 42 :: pers (capA br b0 b1 b2 rk rm) :: M g) → (tk g).length ≤ 1000000 → ∀ K1 : Value → World → Prop,
    (∀ g' u1, tk g' = tk g ++ [t] → Sep u1 (bx br (rd p l e) 42 :: pers (capA br b0 b1 b2 rk rm) :: M g') → K1 (.bool true) u1) → XYield Tryd.prog lp [t.v] u K1 NP
theorem C19 {lp br b0 b1 b2 rk rm : Nat} {γ : Type} {M : γ → List Assn} {tk : γ → List Lx.Tok} {p : Lx.Pos} {l : By} {g0 : γ} (hy : TakesWords lp br b0 b1 b2 rk rm M tk)
    (hGl : ∀ g p l e u, Sep u (bx br (rd p l e) 42 :: pers (capA br b0 b1 b2 rk rm) :: M g) → Gl u) (hw : Sep w (bx br (rd p l 0) 42 :: pers (capA br b0 b1 b2 rk rm) :: M g0)) (hp : PB p l) (hl : l.length ≤ 900000) (ht : tk g0 = [])
    (h : ∀ g l' u, tk g = (lexGo (l.length + 1) p l).1 → Sep u (bx br (rd (lexGo (l.length + 1) p l).2.1 l' (lexGo (l.length + 1) p l).2.2) 42 :: pers (capA br b0 b1 b2 rk rm) :: M g) → K (.tuple #[]) u) :
    XCP Tryd.prog 19 [.func (.yield lp) #[] #[], .pointer (some ⟨b0, 0, none⟩), .pointer (some ⟨b1, 0, none⟩), .pointer (some ⟨b2, 0, none⟩)] w K NP := by
  refine E19 ?_
  unfold F19
  rw [xptr_some]
  refine ⟨_, (hw.persBlk 1 rfl 0 rfl).ld' rfl, ?_⟩
  refine D20 hw hp (by omega) fun u0 hu0 => ⟨rfl, ?_⟩
  intro kb hkb
  have hst := hp.strip l.length
  have hsl := strip_len p l
  refine ⟨fun u => ∃ (g : γ) (p' : Lx.Pos) (l' : By), Sep u (bx br (rd p' l' 0) 42 :: pers (capA br b0 b1 b2 rk rm) :: M g) ∧ PB p' l' ∧ l'.length ≤ 900000 ∧ skip1 l' = 0 ∧ (tk g).length + l'.length ≤ 1000000 ∧
    lexGo (l.length + 1) p l = (tk g ++ (lexGo (l'.length + 1) p' l').1, (lexGo (l'.length + 1) p' l').2), fun u => leftN br u, ⟨g0, _, _, hu0, hst, by omega, strip_done _ _ _ (Nat.le_refl _), by rw [ht]; simp; omega, by rw [ht, List.nil_append]; exact lexGo_strip p l⟩, ?_⟩
  rintro u ⟨g, p', l', hu, hp', hl', hs', htl, hgo⟩
  have hstrip : Lx.strip l'.length p' l' = (p', l') := strip_self hs'
  rw [xptr_some]
  refine ⟨_, (hu.persBlk 1 rfl 0 rfl).ld' rfl, ?_⟩
  rw [xptr_some]
  refine ⟨_, hu.bx0.ld (o := 2) rfl, ?_⟩
  rw [S_toList, show ByteArray.toList ⟨#[]⟩ = [] from S_toList []]
  by_cases hne : l' = []
  · rw [if_neg (by simp [hne])]
    refine hkb u (h g l' u ?_ ?_)
    · rw [hgo, lexGo_eq p' l', hstrip, if_pos hne]; simp
    · rw [hgo, lexGo_eq p' l', hstrip, if_pos hne]; exact hu
  rw [if_pos (by simpa using hne)]
  rw [xptr_some]
  refine ⟨_, (hu.persBlk 1 rfl 0 rfl).ld' rfl, ?_⟩
  rw [xptr_some]
  refine ⟨p'.line, p'.col, ⟨hu.bx0.ld' (o := 0) rfl, hu.bx0.ld' (o := 1) rfl, trivial⟩, ?_⟩
  intro w3 p5
  have hs : Sep w3 (bx u.heap.size [.int .i64 0, .string ByteArray.empty, .int .i64 0, .int .i64 0, .int .i64 0] 34 :: bx br (rd p' l' 0) 42 :: pers (capA br b0 b1 b2 rk rm) :: M g) := hu.box _ _
  clear_value w3
  refine hs.fill (vs := [.int .i64 0, .string ByteArray.empty, .int .i64 0, .int .i64 p'.line, .int .i64 p'.col]) rfl fun w4 _ hs => ?_
  rw [xptr_some]
  refine ⟨_, (hs.persBlk 2 rfl 0 rfl).ld' rfl, ?_⟩
  refine C21 (hs.blkAt 1 rfl) D22 (by omega) fun u5 e5 => ⟨_, rfl, ?_⟩
  replace hs := hs.ext e5
  intro kb1 hkb1
  have hbl : leftN br u = l'.length := leftN_rd hu.bx0
  have hkb1 : ∀ (k num : Int) (n : Nat) (e : Int) v, (k, num, n, e) = oneF l' → Sep v (bx u.heap.size [.int .i64 k, .string ByteArray.empty, .int .i64 num, .int .i64 p'.line, .int .i64 p'.col] 34 :: bx br (rd p' l' e) 42 :: pers (capA br b0 b1 b2 rk rm) :: M g) → kb1 n v := by
    intro k num n e v ho hv
    refine hkb1 _ _ ?_
    rw [xptr_some]
    refine ⟨_, (hv.persBlk 2 rfl 0 rfl).ld' rfl, ?_⟩
    rw [xptr_some]
    refine ⟨_, (hv.blkAt 1 rfl).ld (o := 3) rfl, ?_⟩
    rw [lexGo_eq p' l', hstrip, if_neg hne, ← ho] at hgo
    simp only at hgo
    by_cases he : e = 0
    rotate_left
    · rw [if_pos (by simpa using he)]
      rw [if_pos he] at hgo
      refine hkb v (h g l' v ?_ ?_)
      · rw [hgo]; simp
      · rw [hgo]; exact hv.tail
    subst he
    rw [if_neg (by decide)]
    rw [if_neg (by decide)] at hgo
    have hlen := oneF_len (l := l') (by rw [← ho])
    rw [← ho] at hlen
    have hn : 0 < n ∧ n ≤ l'.length := ⟨hlen.1, by rcases hlen.2 with h | h; exact h; exact absurd h hne⟩
    clear hlen
    rw [xptr_some]
    refine ⟨_, (hv.persBlk 2 rfl 0 rfl).ld' rfl, ?_⟩
    rw [xptr_some]
    refine ⟨_, (hv.blkAt 1 rfl).ld (o := 2) rfl, ?_⟩
    refine xr_head hn.2 ⟨_, rfl, ?_⟩
    show storeP v ⟨u.heap.size, 1, none⟩ _ _
    refine hv.putAt 0 rfl (o := 1) (by simp) fun v1 _ hv1 => ?_
    have hv1 : Sep v1 (bx u.heap.size (Lx.Tok.cells ⟨k, l'.take n, num, p'⟩) 34 :: bx br (rd p' l' 0) 42 :: pers (capA br b0 b1 b2 rk rm) :: M g) := hv1
    rw [xptr_some]
    refine ⟨_, (hv1.persBlk 2 rfl 0 rfl).ld' rfl, ?_⟩
    refine D15 hv1.to1 hp' hn.2 fun v2 hv2 => ⟨rfl, ?_⟩
    refine ⟨_, _, _, _, _, hv2.bx1.lds, ?_⟩
    have hv2 := hv2.rid1
    show XYield Tryd.prog lp [Lx.Tok.v ⟨k, l'.take n, num, p'⟩] v2 _ NP
    refine hy g _ _ _ _ v2 hv2 (by omega) _ fun g' v3 hg' hv3 => ⟨_, rfl, ?_⟩
    rw [if_neg (by decide), xptr_some]
    refine ⟨_, (hv3.persBlk 1 rfl 0 rfl).ld' rfl, ?_⟩
    have hdl : (l'.drop n).length = l'.length - n := List.length_drop
    have hpd : PB (Lx.adv p' (l'.take n)) (l'.drop n) := hp'.adv
    have hsd := strip_len (Lx.adv p' (l'.take n)) (l'.drop n)
    refine D20 hv3 hpd (by omega) fun v4 hv4 => ⟨rfl, ⟨g', _, _, hv4, hpd.strip _, by omega, strip_done _ _ _ (Nat.le_refl _), ?_, ?_⟩, ?_⟩
    · rw [hg', List.length_append]; simp only [List.length_cons, List.length_nil]; omega
    · rw [hgo, hg', ← lexGo_strip]; simp
    · show leftN br v4 < leftN br u
      rw [leftN_rd hv4.bx0, hbl]; omega
  by_cases hrun : Lx.runN wordB l' > 0
  · rw [if_pos (by simpa using hrun)]
    have hone : oneF l' = ((kindF (l'.take (Lx.runN wordB l'))).1, (kindF (l'.take (Lx.runN wordB l'))).2.1, Lx.runN wordB l', (kindF (l'.take (Lx.runN wordB l'))).2.2) := by unfold oneF; rw [if_pos hrun]
    have hrl := runN_le wordB l'
    refine ⟨fun z => ∃ V, Sep z (bx u.heap.size V 34 :: bx br (rd p' l' 0) 42 :: pers (capA br b0 b1 b2 rk rm) :: M g), ⟨_, hs.drew⟩, ?_⟩
    rw [xptr_some]
    refine ⟨_, fun z ⟨V, hz⟩ => (hz.persBlk 2 rfl 0 rfl).ld' rfl, ?_⟩
    rw [xptr_some]
    refine ⟨_, fun z ⟨V, hz⟩ => (hz.persBlk 2 rfl 0 rfl).ld' rfl, ?_⟩
    rw [xptr_some]
    refine ⟨_, fun z ⟨V, hz⟩ => (hz.blkAt 1 rfl).ld (o := 2) rfl, ?_⟩
    rw [xptr_some]
    refine ⟨_, fun z ⟨V, hz⟩ => (hz.persBlk 2 rfl 1 rfl).ld' rfl, ?_⟩
    refine xr_head hrl ⟨_, rfl, ⟨_, hs.drew⟩, ?_⟩
    obtain ⟨Gm, hm⟩ := hs.drew.persAt' 2 rfl 3 rfl
    refine C25 (hGl g p' l' 0 _ hs.drew.tail) hm (by intro e; have := congrArg List.length e; simp only [List.length_take, List.length_nil] at this; omega) (by rw [List.length_take]; omega) fun u6 e6 => ⟨_, _, _, rfl, ⟨_, hs.drew.ext e6⟩, ?_⟩
    show storeP _ ⟨u.heap.size, 0, none⟩ _ _
    refine (hs.drew.ext e6).putAt 0 rfl (o := 0) (by simp) fun u7 _ hs7 => ⟨⟨_, hs7⟩, ?_⟩
    show storeP _ ⟨u.heap.size, 2, none⟩ _ _
    refine hs7.putAt 0 rfl (o := 2) (by simp) fun u8 _ hs8 => ⟨⟨_, hs8⟩, ?_⟩
    rw [xptr_some]
    show storeP _ ⟨br, 3, none⟩ _ _
    refine hs8.putAt 1 rfl (o := 3) (by simp [rd]) fun u9 _ hs9 => ?_
    exact hkb1 _ _ _ _ u9 hone.symm hs9
  · rw [if_neg (by simpa using hrun)]
    intro kb2 hkb2
    have h2 : ∀ z, Sep z (bx u.heap.size [.int .i64 0, .string ByteArray.empty, .int .i64 0, .int .i64 p'.line, .int .i64 p'.col] 34 :: bx br (rd p' l' 0) 42 :: pers (capA br b0 b1 b2 rk rm) :: M g) → kb2 (decide (l'.length > 1) && markL.contains (l'.take 2)) z := by
      intro z hz
      refine hkb2 _ _ ?_
      by_cases hm2 : l'.length > 1 ∧ markL.contains (l'.take 2) = true
      · rw [if_pos (by simpa using hm2)]
        have hone : oneF l' = (4, 0, 2, 0) := by unfold oneF; rw [if_neg hrun, if_pos hm2]
        show storeP _ ⟨u.heap.size, 0, none⟩ _ _
        refine hz.putAt 0 rfl (o := 0) (by simp) fun u7 _ hs7 => ?_
        exact hkb1 4 0 2 0 u7 hone.symm hs7
      · rw [if_neg (by simpa using hm2)]
        refine ⟨fun z => Sep z (bx u.heap.size [.int .i64 0, .string ByteArray.empty, .int .i64 0, .int .i64 p'.line, .int .i64 p'.col] 34 :: bx br (rd p' l' 0) 42 :: pers (capA br b0 b1 b2 rk rm) :: M g), hz.drew, ?_⟩
        rw [xptr_some]
        refine ⟨_, fun z hz => (hz.persBlk 2 rfl 2 rfl).ld' rfl, ?_⟩
        rw [xptr_some]
        refine ⟨_, fun z hz => (hz.persBlk 2 rfl 0 rfl).ld' rfl, ?_⟩
        rw [xptr_some]
        refine ⟨_, fun z hz => (hz.blkAt 1 rfl).ld (o := 2) rfl, ?_⟩
        have hl1 : 1 ≤ l'.length := by
          cases l' with
          | nil => exact absurd rfl hne
          | cons c r => simp
        refine xr_head (n := 1) hl1 ⟨_, rfl, hz.drew, ?_⟩
        obtain ⟨Gm, hm⟩ := hz.drew.persAt' 2 rfl 4 rfl
        refine look hm ⟨_, rfl, fun _ => True, trivial, ?_⟩
        by_cases hm1 : markL.contains (l'.take 1) = true
        · rw [if_pos hm1]
          have hone : oneF l' = (4, 0, 1, 0) := by unfold oneF; rw [if_neg hrun, if_neg hm2, if_pos hm1]
          show storeP _ ⟨u.heap.size, 0, none⟩ _ _
          refine hz.drew.putAt 0 rfl (o := 0) (by simp) fun u7 _ hs7 => ?_
          exact hkb1 4 0 1 0 u7 hone.symm hs7
        · rw [if_neg hm1, xptr_some]
          have hone : oneF l' = (0, 0, 0, 110) := by unfold oneF; rw [if_neg hrun, if_neg hm2, if_neg hm1]
          refine ⟨_, (hz.drew.persBlk 2 rfl 0 rfl).ld' rfl, ?_⟩
          rw [xptr_some]
          show storeP _ ⟨br, 3, none⟩ _ _
          refine hz.drew.putAt 1 rfl (o := 3) (by simp [rd]) fun u9 _ hs9 => ?_
          have h0 : Lx.runN wordB l' = 0 := by omega
          rw [h0]
          exact hkb1 0 0 0 110 u9 hone.symm hs9
    refine ⟨fun z => Sep z (bx u.heap.size [.int .i64 0, .string ByteArray.empty, .int .i64 0, .int .i64 p'.line, .int .i64 p'.col] 34 :: bx br (rd p' l' 0) 42 :: pers (capA br b0 b1 b2 rk rm) :: M g), hs.drew, ?_⟩
    rw [xptr_some]
    refine ⟨_, fun z hz => (hz.persBlk 2 rfl 0 rfl).ld' rfl, ?_⟩
    rw [xptr_some]
    refine ⟨_, fun z hz => (hz.blkAt 1 rfl).ld (o := 2) rfl, ?_⟩
    rw [S_size]
    by_cases h1 : l'.length > 1
    · rw [if_pos (by simp; omega), xptr_some]
      refine ⟨_, fun z hz => (hz.persBlk 2 rfl 2 rfl).ld' rfl, ?_⟩
      rw [xptr_some]
      refine ⟨_, fun z hz => (hz.persBlk 2 rfl 0 rfl).ld' rfl, ?_⟩
      rw [xptr_some]
      refine ⟨_, fun z hz => (hz.blkAt 1 rfl).ld (o := 2) rfl, ?_⟩
      refine xr_head (n := 2) h1 ⟨_, rfl, hs.drew, ?_⟩
      obtain ⟨Gm, hm⟩ := hs.drew.persAt' 2 rfl 4 rfl
      refine look hm ⟨_, rfl, fun _ => True, trivial, ?_⟩
      have := h2 _ hs.drew
      rwa [show decide (l'.length > 1) = true by simpa using h1, Bool.true_and] at this
    · rw [if_neg (by simp; omega)]
      have := h2 _ hs.drew
      rwa [show decide (l'.length > 1) = false by simpa using h1, Bool.false_and] at this
end
end Go.Proofs.YtfeaahclpnbklaaDoor
