/- The lex seat: LexAgain, walked. -/
import Derived.Test.YtfeaahclpnbklaaDoorZ9
set_option linter.unusedVariables false
set_option linter.unusedSimpArgs false
set_option maxRecDepth 10000
set_option maxHeartbeats 4000000
namespace Go.Proofs.YtfeaahclpnbklaaDoor
open Go.X Go.Lx Go.RowKit
section
variable {w : World} {K : Value → World → Prop} {KP : List PanicEntry → World → Prop} {L : List Assn}
theorem toksC_app (a b : List Lx.Tok) : toksC (a ++ b) = toksC a ++ toksC b := by unfold toksC; rw [List.map_append, List.flatten_append]
theorem L4 {t : By} (hG : Gl w) (hK : ∀ u, Ex w u → K (.bool true) u) : XCP Tryd.prog 4 [.string (S t)] w K KP := by
  refine E4 ?_
  unfold F4
  rw [S_size]
  by_cases hl : t.length > 2000
  · rw [if_pos (by simp; omega)]
    exact C9 hG fun u hu => ⟨_, rfl, hK u hu⟩
  rw [if_neg (by simp; omega)]
  refine C6 hG (by omega) fun s u e ho => ⟨_, _, _, _, _, _, rfl, ?_⟩
  obtain ⟨ts, q, er, hlex⟩ : ∃ ts q er, lexF t = (ts, q, er) := ⟨_, _, _, rfl⟩
  have herr : er ≠ 0 → ts = [] := by
    intro he
    unfold lexF at hlex
    split at hlex
    · simp only [Prod.mk.injEq] at hlex; exact hlex.1.symm
    · split at hlex
      · simp only [Prod.mk.injEq] at hlex; exact hlex.1.symm
      · simp only [Prod.mk.injEq] at hlex; exact absurd hlex.2.2.symm he
  rw [show (lexF t).1 = ts by rw [hlex]] at ho
  rw [show (lexF t).2.1 = q by rw [hlex], show (lexF t).2.2 = er by rw [hlex]]
  have hsl : s.l = ts.length := by have := ho.1; rw [toksC_len] at this; omega
  intro w2 p
  have hs : Sep w2 (bx u.heap.size [.int .i64 0, .int .i64 0] 25 :: [oldA u]) := (Sep.begin u).box _ _
  clear_value w2
  refine hs.fill (vs := [.int .i64 q.line, .int .i64 q.col]) rfl fun w3 _ hs => ?_
  have e3 : Ex u w3 := hs.ex 1 rfl
  clear hs
  refine C8 ⟨_, rfl, ?_⟩
  by_cases he : er = 0
  rotate_left
  · rw [if_pos (by simpa using he)]
    rw [herr he] at hsl
    refine X.and_true (by rw [hsl]; rfl) (fun kb hk => C9 (hG.ex (e.trans e3)) fun v hv => ⟨_, rfl, hk v hv⟩) fun v hv => ?_
    exact hK v (e.trans (e3.trans hv))
  subst he
  rw [if_neg (by decide)]
  obtain ⟨hoffs, hgood, -⟩ := lexF_offs hlex
  have hcat := offs_cat ts 0 (Nat.zero_le _) hoffs
  have hts := cat_ge ts
  refine ⟨fun s1 n4 n5 z => ∃ (k o : Nat), n5 = k ∧ k ≤ ts.length ∧ s1 = S (cat (ts.take k)) ∧ Offs t (ts.drop k) o ∧ o ≤ t.length ∧ n4 + 1 = o ∧ Ex u z, fun _ _ n5 _ => ts.length - n5.toNat, ⟨0, 0, rfl, Nat.zero_le _, rfl, hoffs, Nat.zero_le _, by decide, e3⟩, ?_⟩
  rintro s1 n4 n5 z ⟨k, o, rfl, hk, rfl, hof, hot, hno, hz⟩
  by_cases hlt : k < ts.length
  · rw [if_pos (by simp; omega)]
    have hdrop : ts.drop k = ts[k] :: ts.drop (k + 1) := List.drop_eq_getElem_cons hlt
    have htk : ts.take (k + 1) = ts.take k ++ [ts[k]] := List.take_succ_eq_append_getElem hlt
    rw [hdrop] at hof
    obtain ⟨kk, o1, o2, o3, o4, o5, o6⟩ := hof
    obtain ⟨pt, hpt, hct⟩ := tok_at ho hlt
    generalize hx : ts[k] = x at *
    have hrow := cellsAt_drop (hct z hz) 3
    refine xptr_of' hpt ⟨by omega, by omega, _, _, hrow, ?_⟩
    rw [o4]
    refine C10 (o := kk) (by omega) (by omega) fun u8 e8 => ⟨_, rfl, ?_⟩
    have hz8 := hz.trans e8
    intro kb1 hkb1
    have hcatk : (cat (ts.take k)).length + x.text.length + 1 ≤ 4000 := by
      have h0 : cat ts = cat (ts.take (k + 1)) ++ cat (ts.drop (k + 1)) := by
        unfold cat
        rw [← List.flatten_append, ← List.map_append, List.take_append_drop]
      have h1 := congrArg List.length h0
      rw [htk, cat_snoc] at h1
      simp only [List.length_append, List.length_cons, List.length_nil] at h1
      omega
    have hkb1 : ∀ z, Ex u z → kb1 false z := by
      intro z hz
      refine hkb1 _ _ ?_
      rw [if_neg (by decide)]
      refine xptr_of' hpt ⟨by omega, by omega, _, cellsAt_ix (hct z hz) (j := 1) rfl, ?_⟩
      refine xptr_of' hpt ⟨by omega, by omega, _, cellsAt_ix (hct z hz) (j := 1) rfl, ?_⟩
      refine xr_add (by omega) ⟨_, rfl, ?_⟩
      refine xr_add (b := [32]) (by rw [List.length_append]; simp; omega) ⟨_, rfl, ?_⟩
      have ew1 : IntKind.wrap .i64 ((kk : Int) + (x.text.length : Int)) = (kk : Int) + (x.text.length : Int) := wi (by omega) (by omega)
      have ew2 : IntKind.wrap .i64 ((kk : Int) + (x.text.length : Int) - 1) = (kk : Int) + (x.text.length : Int) - 1 := wi (by omega) (by omega)
      have ew3 : IntKind.wrap .i64 ((k : Int) + 1) = (k : Int) + 1 := wi (by omega) (by omega)
      rw [S_size, ew1, ew2, ew3]
      exact ⟨⟨k + 1, kk + x.text.length, rfl, hlt, by rw [htk, cat_snoc], o6, o2, by omega, hz⟩, by show ts.length - ((k : Int) + 1).toNat < ts.length - ((k : Int)).toNat; omega⟩
    refine ⟨fun z => Ex u z, hz8.trans (Ex.drew _), ?_⟩
    intro w12
    have hz12 : Ex u w12 := hz8.trans (Ex.drew _)
    clear_value w12
    rw [if_neg (by simp; omega)]
    refine xptr_of' hpt ⟨by omega, by omega, _, fun z hz => cellsAt_ix (hct z hz) (j := 1) rfl, ?_⟩
    have ew1 : IntKind.wrap .i64 ((kk : Int) + (x.text.length : Int)) = ((kk + x.text.length : Nat) : Int) := by rw [wi (by omega) (by omega)]; omega
    rw [S_size, ew1, if_neg (by simp; omega)]
    refine xptr_of' hpt ⟨by omega, by omega, _, fun z hz => cellsAt_ix (hct z hz) (j := 1) rfl, ?_⟩
    refine xptr_of' hpt ⟨by omega, by omega, _, fun z hz => cellsAt_ix (hct z hz) (j := 1) rfl, ?_⟩
    rw [S_size, ew1]
    refine xr_mid (by omega) o2 ⟨_, rfl, hz12, ?_⟩
    have hmid : (t.take (kk + x.text.length)).drop kk = x.text := by
      rw [List.drop_take, show kk + x.text.length - kk = x.text.length by omega]
      exact o5
    rw [hmid, if_neg (by simp)]
    refine xptr_of' hpt ⟨by omega, by omega, _, fun z hz => cellsAt_ix (hct z hz) (j := 1) rfl, ?_⟩
    rw [S_toList, show ByteArray.toList ⟨#[]⟩ = [] from S_toList []]
    have hne : (x.text == []) = false := by
      have : x.text ≠ [] := fun e => by rw [e] at o3; simp at o3
      simpa using this
    rw [hne]
    exact hkb1 w12 hz12
  · rw [if_neg (by simp; omega)]
    have ek : k = ts.length := by omega
    subst ek
    rw [List.take_length]
    obtain ⟨ts', hl1, hl2⟩ := lexF_again hgood (by omega)
    refine C6 (t := cat ts) (hG.ex (e.trans hz)) (by omega) fun s' u' e' ho' => ⟨_, _, _, _, _, _, rfl, ?_⟩
    rw [show (lexF (cat ts)).1 = ts' by rw [hl1]] at ho'
    rw [show (lexF (cat ts)).2.1 = ⟨0, 0⟩ by rw [hl1], show (lexF (cat ts)).2.2 = 0 by rw [hl1]]
    have hlen : ts'.length = ts.length := by have := congrArg List.length hl2; simpa using this
    have hsl' : s'.l = ts.length := by have := ho'.1; rw [toksC_len] at this; omega
    have hs := (Sep.begin z).add (A := row 5 34 s' (toksC ts')) e' ho'
    intro w25 p13
    have hs : Sep w25 (bx u'.heap.size [.int .i64 0, .int .i64 0] 25 :: row 5 34 s' (toksC ts') :: [oldA z]) := hs.box _ _
    clear_value w25
    refine hs.fill (vs := [.int .i64 0, .int .i64 0]) rfl fun w26 _ hs => ?_
    have hs := hs.tail
    refine C8 ⟨_, rfl, ?_⟩
    rw [if_neg (by rw [hsl, hsl']; simp)]
    have hget : ∀ i (h : i < ts.length), ∃ x', ts'[i]? = some x' ∧ x'.kind = ts[i].kind ∧ x'.text = ts[i].text ∧ x'.num = ts[i].num := by
      intro i hi
      have hi' : i < ts'.length := by omega
      have := congrArg (fun l => l[i]?) hl2
      simp only [List.getElem?_map, List.getElem?_eq_getElem hi', List.getElem?_eq_getElem hi, Option.map_some, Option.some.injEq, Prod.mk.injEq] at this
      exact ⟨ts'[i], List.getElem?_eq_getElem hi', this.1, this.2.1, this.2.2⟩
    refine ⟨fun n13 v => ∃ k : Nat, n13 = k ∧ k ≤ ts.length ∧ Sep v (row 5 34 s' (toksC (ts.take k ++ ts'.drop k)) :: [oldA z]), fun n13 _ => ts.length - n13.toNat, ⟨0, rfl, Nat.zero_le _, by simpa using hs⟩, ?_⟩
    rintro n13 v ⟨k, rfl, hk, hv⟩
    have ev : Ex u v := hz.trans (hv.ex 1 rfl)
    by_cases hlt : k < ts.length
    · rw [if_pos (by simp; omega)]
      obtain ⟨pt, hpt, hct⟩ := tok_at ho hlt
      obtain ⟨x', hx', e1, e2, e3'⟩ := hget k hlt
      have hdrop : ts'.drop k = x' :: ts'.drop (k + 1) := by
        rw [List.drop_eq_getElem_cons (by omega)]
        congr 1
        rw [List.getElem?_eq_getElem (by omega)] at hx'
        injection hx'
      have htk : ts.take (k + 1) = ts.take k ++ [ts[k]] := List.take_succ_eq_append_getElem hlt
      rw [hdrop] at hv
      have hcells : toksC (ts.take k ++ x' :: ts'.drop (k + 1)) = toksC (ts.take k) ++ (x'.cells ++ toksC (ts'.drop (k + 1))) := by rw [toksC_app]; rfl
      have hlk : (toksC (ts.take k)).length = k * 5 := by rw [toksC_len, List.length_take]; congr 1; omega
      rw [hcells] at hv
      refine xptr_of' hpt ⟨by omega, by omega, _, _, cellsAt_drop (hct v ev) 3, ?_⟩
      obtain ⟨p', hp', -⟩ := hv.rowCellAt 0 rfl (j := k * 5) (v := .int .i64 x'.kind) (by rw [List.getElem?_append_right (by omega), hlk, Nat.sub_self]; rfl)
      refine xptr_of' hp' ⟨by omega, by omega, ?_⟩
      rw [Int.toNat_natCast, addr_add]
      refine Sep.rowFillAt hv 0 rfl (i := k * 5 + 3) (vs := [.int .i64 ts[k].pos.line, .int .i64 ts[k].pos.col]) (by rw [List.length_append, List.length_append, hlk]; simp [Lx.Tok.cells]; omega) hp' fun v2 _ hv2 => ?_
      rw [wi (by omega) (by omega)]
      refine ⟨⟨k + 1, rfl, hlt, ?_⟩, by show ts.length - ((k : Int) + 1).toNat < ts.length - ((k : Int)).toNat; omega⟩
      have hfin : setL (toksC (ts.take k) ++ (x'.cells ++ toksC (ts'.drop (k + 1)))) (k * 5 + 3) [.int .i64 ts[k].pos.line, .int .i64 ts[k].pos.col] = toksC (ts.take (k + 1) ++ ts'.drop (k + 1)) := by
        rw [← hlk, setL_append, htk]
        have : toksC (ts.take k ++ [ts[k]] ++ ts'.drop (k + 1)) = toksC (ts.take k) ++ (ts[k].cells ++ toksC (ts'.drop (k + 1))) := by rw [toksC_app, toksC_app, List.append_assoc]; rfl
        rw [this]
        congr 1
        simp only [Lx.Tok.cells, e1, e2, e3']
        rfl
      rw [← hfin]; exact hv2
    · rw [if_neg (by simp; omega)]
      have ek : k = ts.length := by omega
      subst ek
      rw [List.take_length, List.drop_of_length_le (by omega), List.append_nil] at hv
      obtain ⟨G1, h1⟩ := hv.at_ 0 rfl
      have h1 : Own v 5 34 s'.a s'.l s'.c (toksC ts) G1 := h1
      refine C11 h1 (Own.ex ho ev) (by have := hoffs; have := hcat; omega) fun v2 e2 => ⟨_, rfl, ?_⟩
      have e2' := e.trans (ev.trans e2)
      refine X.and_true rfl (fun kb hk => C9 (hG.ex e2') fun v3 e3 => ⟨_, rfl, hk v3 e3⟩) fun v3 e3 => ?_
      exact hK v3 (e2'.trans e3)
end
end Go.Proofs.YtfeaahclpnbklaaDoor
