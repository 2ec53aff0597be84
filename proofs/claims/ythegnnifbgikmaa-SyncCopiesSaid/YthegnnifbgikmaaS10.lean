/- The sync seat: SyncOrder, the walk. -/
import Derived.Test.YthegnnifbgikmaaS9
set_option linter.unusedVariables false
set_option linter.unusedSimpArgs false
namespace Go.Proofs.Ythegnnifbgikmaa
open Go.X

/-- n rows of four numbers -/
def Acts (w : World) (a : Option Addr) (n : Nat) : Prop := ∀ i, i < n → ∃ p x y z v, a = some p ∧ cellsAt w (p.add (i * 4)) 0 [.int .i64 x, .int .i64 y, .int .i64 z, .int .i64 v]
theorem Acts.frame {w w' : World} {a : Option Addr} {n : Nat} (h : Acts w a n) (hf : ∀ D, Fr D w w') : Acts w' a n := by
  intro i hi
  obtain ⟨p, x, y, z, v, hp, hc⟩ := h i hi
  exact ⟨p, x, y, z, v, hp, cellsAt_fr (hf (fun _ => False)) (fun h => h) _ _ hc⟩

theorem L3 {w : World} {K : Value → World → Prop} {KP : List PanicEntry → World → Prop} {n : Int} {a : Option Addr} {l c : Nat} (hA : Acts w a l)
    (h : ∀ w', (∀ D, Fr D w w') → K (.bool true) w') : XCP Try.prog 3 [.int .i64 n, .slice a l c] w K KP := by
  apply E3; unfold F3
  by_cases hbad : (n < 1 ∨ n > 16) ∨ (l : Int) > 100
  · rw [if_pos (by simpa using hbad)]
    exact C11 fun w' hf => ⟨_, rfl, h w' hf⟩
  rw [if_neg (by simpa using hbad)]
  refine xr_build T29 rfl (cs := [.int .i64 n]) (by rfl) rfl (by omega) fun w0 ho0 hf0 hk0 => ⟨_, _, _, rfl, ?_⟩
  refine C12 (s := ⟨_, 1, 1⟩) (rooms := [n]) ho0.rd rfl (by simp) (fun hb => absurd hb (by unfold NewBad; simp; omega)) fun hg pb g0 w1 hs1 hg1 hf1 => ⟨_, _, rfl, ?_⟩
  have e1 : SS.new 1 1 [n] = ordS (-1) [] 0 [] n 0 := rfl
  rw [e1] at hs1
  refine ⟨fun a2 l2 c2 a3 l3 c3 out wk ow i u => 0 ≤ i ∧ i ≤ l ∧ ∃ g k inl came, Ord ow came wk inl n out i ∧ Good w u pb (ordS ow came wk inl n out) g k ⟨a2, l2, c2⟩ inl ⟨a3, l3, c3⟩ came,
    fun _ _ _ _ _ _ _ _ _ i _ => l - i.toNat, ?_, ?_⟩
  · have e0 := (hf0 (fun _ => False)).size
    refine ⟨by omega, by omega, g0, fun _ => 0, [], [], ⟨by omega, by simp, by simp, by omega, by simp, by simp, .inl rfl, by omega⟩, ?_⟩
    exact { sy := hs1, hin := Own.none _ _ _ _, hca := Own.none _ _ _ _, dis := fun _ => .inr rfl, sup := fun _ _ => rfl,
            old := fun b hb => ⟨hg1 b (by omega), rfl⟩, fr := fun D => (hf0 D).trans (hf1 D) (fun _ _ h => h) (fun _ _ h => h) }
  rintro a2 l2 c2 a3 l3 c3 out wk ow i u ⟨hi0, hi1, g, k, inl, came, hO, hG⟩
  have hl2 : l2 = inl.length := hG.hin.len
  have hl3 : l3 = came.length := hG.hca.len
  by_cases hlt : i < l
  · rw [if_pos (by simpa using hlt)]
    obtain ⟨p, x, y, z, v, hp, hc⟩ := hA i.toNat (by omega)
    rw [hp, xptr_some]
    refine ⟨hi0, hlt, x, y, z, v, cellsAt_fr (hG.fr (fun _ => False)) (fun h => h) _ _ hc, ?_⟩
    intro w4 p1
    have hb4 : Blk w4 u.heap.size [.int .i64 0, .int .i64 0, .int .i64 0, .int .i64 0] 31 := Blk.new u _ _
    have hf4 : ∀ D, Fr D u w4 := fun D => Fr.alloc _ _ _
    clear_value w4
    refine storesAt_blk _ 0 w4 _ hb4 (by simp) fun w5 hb5 hf5 hs5 => ?_
    have hfu : ∀ D, Fr D u w5 := fun D => (hf4 D).trans hf5 (fun _ _ h => h) (fun b hb e => by omega)
    have hG5 := hG.frame hfu
    have hx5 : ∀ w', (∀ b, b = u.heap.size → w'.heap[b]? = w5.heap[b]?) → Blk w' u.heap.size [.int .i64 x, .int .i64 y, .int .i64 z, .int .i64 v] 31 := fun w' he => hb5.of_eq (he _ rfl)
    have hgx : g u.heap.size = 0 := hG.sy.sup _ (Nat.le_refl _)
    have hkx : k u.heap.size = 0 := hG.sup _ (Nat.le_refl _)
    have hb5' : Blk w5 u.heap.size [.int .i64 x, .int .i64 y, .int .i64 z, .int .i64 v] 31 := hb5
    clear hb5
    have keep : ∀ g' w', Ext g w5 g' w' → Blk w' u.heap.size [.int .i64 x, .int .i64 y, .int .i64 z, .int .i64 v] 31 := fun g' w' he => he.fr.blk hb5' (fun hh => hh hgx)
    refine ⟨x, by show w5.cell? (Addr.add ⟨u.heap.size, 0, none⟩ 0) = _; rw [add_lit, hb5'.cell]; rfl, ?_⟩
    intro kb hkb
    -- a round's end
    have done : ∀ (a2 : Option Addr) (l2 c2 : Nat) (a3 : Option Addr) (l3 c3 : Nat) (out wk ow : Int) (u' : World) (g' k' : Nat → Nat) (inl' came' : List Int), Ord ow came' wk inl' n out (i + 1) →
        Good w u' pb (ordS ow came' wk inl' n out) g' k' ⟨a2, l2, c2⟩ inl' ⟨a3, l3, c3⟩ came' → kb a2 l2 c2 a3 l3 c3 out wk ow u' := by
      intro a2 l2 c2 a3 l3 c3 out wk ow u' g' k' inl' came' hO' hG'
      refine hkb _ _ _ _ _ _ _ _ _ _ ?_
      rw [wi (by omega) (by omega)]
      exact ⟨⟨by omega, by omega, g', k', inl', came', hO', hG'⟩, by show l - (i + 1).toNat < l - i.toNat; omega⟩
    have hO1 : Ord ow came wk inl n out (i + 1) := { hO with in1 := by have := hO.in1; omega, ca1 := by have := hO.ca1; omega }
    have hfine := hO.fine (by omega)
    obtain ⟨o0, o1, o2, o3, o4, o5, o6, o7⟩ := hO
    by_cases h0 : x = 0
    · -- Lock
      rw [if_pos (by simpa using h0)]
      refine ⟨z, by show w5.cell? (Addr.add ⟨u.heap.size, 0, none⟩ 2) = _; rw [add_lit, hb5'.cell]; rfl, ?_⟩
      refine C13 hG5.sy fun w7 hs7 hf7 => ⟨_, _, rfl, C14 ⟨_, rfl, ?_⟩⟩
      have hG7 := hG5.ext hs7 (Ext.same hf7)
      have hb7 := keep g w7 (Ext.same hf7)
      rw [ordS_lock] at hG7 ⊢
      by_cases ht : thr z ≠ 0
      · simp only [if_pos ht] at hG7 ⊢
        rw [if_neg (by simp [ht]), if_neg (by simp)]
        exact done _ _ _ _ _ _ _ _ _ w7 g k inl came hO1 hG7
      · simp only [if_neg ht] at hG7 ⊢
        by_cases how : ow ≠ -1
        · simp only [if_pos how] at hG7 ⊢
          rw [if_neg (by simp; omega), if_neg (by simp)]
          exact done _ _ _ _ _ _ _ _ _ w7 g k inl came hO1 hG7
        · simp only [if_neg how] at hG7 ⊢
          rw [if_neg (by simp; omega), if_pos (by simp)]
          refine ⟨z, by show w7.cell? (Addr.add ⟨u.heap.size, 0, none⟩ 2) = _; rw [add_lit, hb7.cell]; rfl, ?_⟩
          refine done _ _ _ _ _ _ _ _ _ w7 g k inl came { hO1 with ow1 := .inr ?_ } hG7
          unfold thr at ht
          split at ht <;> omega
    rw [if_neg (by simpa using h0)]
    by_cases h1 : x = 1
    · -- Unlock
      rw [if_pos (by simpa using h1)]
      refine ⟨z, by show w5.cell? (Addr.add ⟨u.heap.size, 0, none⟩ 2) = _; rw [add_lit, hb5'.cell]; rfl, ?_⟩
      refine C15 hG5.sy fun w7 hs7 hf7 => ⟨_, rfl, C14 ⟨_, rfl, ?_⟩⟩
      have hG7 := hG5.ext hs7 (Ext.same hf7)
      have hb7 := keep g w7 (Ext.same hf7)
      rw [ordS_unlock] at hG7 ⊢
      intro kb1 hk1
      -- both ways of the test
      have test : ∀ b : Bool, b = (decide (ow ≥ 0) && (ow == z)) → kb1 b w7 := by
        intro b hb
        refine hk1 b w7 ?_
        by_cases ht : thr z ≠ 0
        · simp only [if_pos ht] at hG7 ⊢
          have : b = false := by
            subst hb
            unfold thr at ht
            split at ht
            · simp; omega
            · omega
          rw [if_neg (by simp [ht, this])]
          refine C14 ⟨_, rfl, ?_⟩
          rw [if_neg (by simpa using ht)]
          exact done _ _ _ _ _ _ _ _ _ w7 g k inl came hO1 hG7
        · simp only [if_neg ht] at hG7 ⊢
          by_cases how : ow ≠ z
          · simp only [if_pos how] at hG7 ⊢
            have : b = false := by subst hb; simp [how]
            rw [if_neg (by simp [this])]
            refine C14 ⟨_, rfl, ?_⟩
            rw [if_neg (by simp)]
            exact done _ _ _ _ _ _ _ _ _ w7 g k inl came hO1 hG7
          · simp only [if_neg how] at hG7 ⊢
            have how' : ow = z := by omega
            have : b = true := by
              subst hb
              unfold thr at ht
              split at ht
              · omega
              · simp [how']; omega
            rw [if_neg (by simp [this])]
            refine C14 ⟨_, rfl, ?_⟩
            rw [if_pos (by simp)]
            exact done _ _ _ _ _ _ _ _ _ w7 g k inl came { hO1 with ow1 := .inl rfl } hG7
      by_cases how : ow ≥ 0
      · rw [if_pos (by simpa using how)]
        refine ⟨z, by show w7.cell? (Addr.add ⟨u.heap.size, 0, none⟩ 2) = _; rw [add_lit, hb7.cell]; rfl, test _ (by simp [how])⟩
      · rw [if_neg (by simpa using how)]
        exact test _ (by simp [how])
    rw [if_neg (by simpa using h1)]
    by_cases h2 : x = 2
    · -- Wait
      rw [if_pos (by simpa using h2)]
      refine ⟨z, by show w5.cell? (Addr.add ⟨u.heap.size, 0, none⟩ 2) = _; rw [add_lit, hb5'.cell]; rfl, ?_⟩
      refine C16 hG5.sy hfine (by omega) (by simp [ordS]) fun g7 w7 hs7 he7 => ⟨_, rfl, C14 ⟨_, rfl, ?_⟩⟩
      have hG7 := hG5.ext hs7 he7
      have hb7 := keep g7 w7 he7
      rcases ordS_wait ow came wk inl n out z o4 with ⟨e, he, hw⟩ | hw
      · rw [hw] at hG7 ⊢
        rw [if_neg (by simpa using he)]
        exact done _ _ _ _ _ _ _ _ _ w7 g7 k inl came hO1 hG7
      · rw [hw] at hG7 ⊢
        rw [if_pos (by simp)]
        refine ⟨z, by show w7.cell? (Addr.add ⟨u.heap.size, 0, none⟩ 2) = _; rw [add_lit, hb7.cell]; rfl, ?_⟩
        refine OwnI.push T29 (s := ⟨a3, l3, c3⟩) hG7.hca (by omega) fun s' w8 ho8 hf8 => ?_
        exact done _ _ _ _ _ _ _ _ _ w8 g7 _ inl (came ++ [z]) { hO1 with wk1 := by simp; omega, ca1 := by simp; omega } (hG7.pushCame ho8 hf8)
    rw [if_neg (by simpa using h2)]
    by_cases h3 : x = 3
    · -- Signal
      rw [if_pos (by simpa using h3)]
      refine C17 hG5.sy fun g7 w7 hs7 he7 => ⟨_, _, _, rfl, ?_⟩
      have hG7 := hG5.ext hs7 he7
      by_cases hw : wk.toNat < came.length
      · rw [ordS_signal _ _ _ _ _ _ o3, dif_pos hw] at hG7 ⊢
        intro kb2 hk2
        rw [if_neg (by simp; omega)]
        intro kb3 hk3
        rw [if_pos (by simp)]
        obtain ⟨q, hq, -, hcell⟩ := hG7.hca.rd.isSome (ints_get_iff hw)
        replace hq : a3 = some q := hq
        rw [hq, xptr_some]
        refine ⟨o3, by omega, came[wk.toNat], by simpa using hcell, hk3 _ _ (hk2 _ _ ?_)⟩
        rw [if_neg (by simp), if_pos rfl, wi (by omega) (by omega)]
        exact done _ _ _ _ _ _ _ _ _ w7 g7 k inl came { hO1 with wk0 := by omega, wk1 := by omega } hG7
      · rw [ordS_signal _ _ _ _ _ _ o3, dif_neg hw] at hG7 ⊢
        intro kb2 hk2
        rw [if_neg (by simp; omega)]
        intro kb3 hk3
        rw [if_neg (by simp)]
        refine hk3 _ _ (hk2 _ _ ?_)
        rw [if_neg (by simp), if_neg (by simp)]
        exact done _ _ _ _ _ _ _ _ _ w7 g7 k inl came hO1 hG7
    rw [if_neg (by simpa using h3)]
    by_cases h5 : x = 5
    · -- Send
      rw [if_pos (by simpa using h5)]
      refine ⟨v, by show w5.cell? (Addr.add ⟨u.heap.size, 0, none⟩ 3) = _; rw [add_lit, hb5'.cell]; rfl, ?_⟩
      refine C18 hG5.sy hfine (by omega) fun g7 w7 hs7 he7 => ⟨_, _, _, rfl, C14 ⟨_, rfl, ?_⟩⟩
      have hG7 := hG5.ext hs7 he7
      have hb7 := keep g7 w7 he7
      rw [ordS_send _ _ _ _ _ _ _ o0 o1] at hG7 ⊢
      rw [wi (x := (l2 : Int) - out) (by omega) (by omega)]
      by_cases hv : v < -2147483648 ∨ v > 2147483647
      · simp only [if_pos hv] at hG7 ⊢
        rw [if_neg (by simp), if_neg (by simp)]
        exact done _ _ _ _ _ _ _ _ _ w7 g7 k inl came hO1 hG7
      · simp only [if_neg hv] at hG7 ⊢
        by_cases hr : (inl.length : Int) - out ≥ n
        · simp only [if_pos hr] at hG7 ⊢
          rw [if_neg (by simp [hl2]; omega), if_neg (by simp)]
          exact done _ _ _ _ _ _ _ _ _ w7 g7 k inl came hO1 hG7
        · simp only [if_neg hr] at hG7 ⊢
          rw [if_neg (by simp [hl2]; omega), if_pos (by simp)]
          refine ⟨v, by show w7.cell? (Addr.add ⟨u.heap.size, 0, none⟩ 3) = _; rw [add_lit, hb7.cell]; rfl, ?_⟩
          refine OwnI.push T28 (s := ⟨a2, l2, c2⟩) hG7.hin (by omega) fun s' w8 ho8 hf8 => ?_
          exact done _ _ _ _ _ _ _ _ _ w8 g7 _ (inl ++ [v]) came { hO1 with out1 := by simp; omega, in1 := by simp; omega } (hG7.pushIn ho8 hf8)
    rw [if_neg (by simpa using h5)]
    -- Recv
    refine C19 hG5.sy hfine (by omega) fun g7 w7 hs7 he7 => ⟨_, _, _, _, rfl, ?_⟩
    have hG7 := hG5.ext hs7 he7
    by_cases hw : out.toNat < inl.length
    · rw [ordS_recv _ _ _ _ _ _ o0, dif_pos hw] at hG7 ⊢
      intro kb4 hk4
      rw [if_neg (by simp; omega)]
      intro kb5 hk5
      rw [if_pos (by simp)]
      obtain ⟨q, hq, -, hcell⟩ := hG7.hin.rd.isSome (ints_get_iff hw)
      replace hq : a2 = some q := hq
      rw [hq, xptr_some]
      refine ⟨o0, by omega, inl[out.toNat], by simpa using hcell, hk5 _ _ (hk4 _ _ ?_)⟩
      rw [if_neg (by simp), if_pos rfl, wi (by omega) (by omega)]
      exact done _ _ _ _ _ _ _ _ _ w7 g7 k inl came { hO1 with out0 := by omega, out1 := by omega } hG7
    · rw [ordS_recv _ _ _ _ _ _ o0, dif_neg hw] at hG7 ⊢
      intro kb4 hk4
      rw [if_neg (by simp; omega)]
      intro kb5 hk5
      rw [if_neg (by simp)]
      refine hk5 _ _ (hk4 _ _ ?_)
      rw [if_neg (by simp), if_neg (by simp)]
      exact done _ _ _ _ _ _ _ _ _ w7 g7 k inl came hO1 hG7
  · rw [if_neg (by simpa using hlt)]
    have hfine := hO.fine (by omega)
    obtain ⟨o0, o1, o2, o3, o4, o5, o6, o7⟩ := hO
    refine C20 hG.sy ⟨_, _, rfl, ?_⟩
    refine C21 hG.sy hfine (by omega) fun s' w2 ho2 hf2 => ⟨_, _, _, _, rfl, C14 ⟨_, rfl, C14 ⟨_, rfl, C14 ⟨_, rfl, ?_⟩⟩⟩⟩
    rw [show (ordS ow came wk inl n out).owner 0 = (ow, 0) from by simp [SS.owner, ordS]]
    have ew : (ordS ow came wk inl n out).waits 0 = (came.drop wk.toNat, 0) := by simp [SS.waits, ordS]
    rw [ew] at ho2 ⊢
    intro kb6 hk6
    rw [if_pos (by simp; decide)]
    have hca := Own.frame hG.hca (hf2 (fun _ => False)) (fun _ _ h => h)
    have htl := Own.tail hca wk.toNat (by show wk.toNat ≤ l3; omega)
    refine ⟨o3, by omega, C22 (G2 := fun b => k b = 2) (s1 := s') (s2 := ⟨_, _, _⟩) (xs := came.drop wk.toNat) (ys := came.drop wk.toNat) ho2.rd ho2.len ?_ ?_ (by simp; omega) fun w3 hf3 => ⟨_, rfl, hk6 _ _ ?_⟩⟩
    · have := htl.rd
      rw [show (ints came).drop (wk.toNat * 1) = ints (came.drop wk.toNat) from by simp [ints]] at this
      exact this
    · simp; omega
    · intro kb7 hk7
      rw [if_pos (by simp)]
      refine C11 fun w4 hf4 => ⟨_, rfl, hk7 _ _ ?_⟩
      exact h w4 fun D => (((hG.fr D).trans (hf2 D) (fun _ _ h => h) (fun _ _ h => h)).trans (hf3 D) (fun _ _ h => h) (fun _ _ h => h)).trans (hf4 D) (fun _ _ h => h) (fun _ _ h => h)
end Go.Proofs.Ythegnnifbgikmaa
