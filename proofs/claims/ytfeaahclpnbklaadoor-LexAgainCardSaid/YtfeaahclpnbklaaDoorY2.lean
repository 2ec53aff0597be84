/- Words of a text, on plain lists of bytes: where they stand; that they are lexed as the same ones again. -/
import Derived.Test.YtfeaahclpnbklaaDoorY1
set_option linter.unusedVariables false
set_option linter.unusedSimpArgs false
namespace Go.Lx
def ltP (p q : Pos) : Prop := p.line < q.line ∨ (p.line = q.line ∧ p.col < q.col)
theorem ltP.trans {p q r : Pos} (h : ltP p q) (h' : ltP q r) : ltP p r := by unfold ltP at *; omega
theorem ltP.ne {p q : Pos} (h : ltP p q) : p ≠ q := by intro e; subst e; unfold ltP at h; omega
theorem step_lt (p : Pos) (c : UInt8) : ltP p (step p c) := by
  unfold step ltP
  split
  · left; show p.line < p.line + 1; omega
  · right; exact ⟨rfl, by show p.col < p.col + 1; omega⟩
theorem adv_lt : ∀ (l : By) (p : Pos), l ≠ [] → ltP p (adv p l)
  | [], _, h => absurd rfl h
  | [c], p, _ => step_lt p c
  | c :: d :: r, p, _ => (step_lt p c).trans (adv_lt (d :: r) (step p c) (by simp))
theorem adv_ne {p : Pos} {T : By} {i j : Nat} (hij : i < j) (hj : j ≤ T.length) : adv p (T.take i) ≠ adv p (T.take j) := by
  have e : T.take j = T.take i ++ (T.drop i).take (j - i) := by
    conv => lhs; rw [show j = i + (j - i) by omega, List.take_add]
  rw [e, adv_append]
  exact (adv_lt _ _ (by intro h; have := congrArg List.length h; simp at this; omega)).ne
/-- words stand in a text, from a place on -/
def Offs (T : By) : List Tok → Nat → Prop
  | [], _ => True
  | t :: ts, o => ∃ k, o ≤ k ∧ k + t.text.length ≤ T.length ∧ 0 < t.text.length ∧ t.pos = adv p1 (T.take k) ∧ (T.drop k).take t.text.length = t.text ∧ Offs T ts (k + t.text.length)
theorem lexGo_offs (T : By) : ∀ (f o : Nat), o ≤ T.length → (lexGo f (adv p1 (T.take o)) (T.drop o)).2.2 = 0 → Offs T (lexGo f (adv p1 (T.take o)) (T.drop o)).1 o
  | 0, o, _, _ => trivial
  | f + 1, o, ho, h => by
    unfold lexGo at h ⊢
    obtain ⟨m, hm, e⟩ := strip_at (T.drop o).length (adv p1 (T.take o)) (T.drop o)
    rw [List.length_drop] at hm
    simp only [e] at h ⊢
    rw [← adv_append, ← List.take_add, List.drop_drop] at h ⊢
    split
    · trivial
    · rename_i hne
      rw [if_neg hne] at h
      split
      · rename_i he
        rw [if_pos he] at h; exact absurd h he
      · rename_i he
        rw [if_neg he] at h
        have hl := oneF_len (l := T.drop (o + m)) (by simpa using he)
        generalize hn : (oneF (T.drop (o + m))).2.2.1 = n at *
        have hle : n ≤ T.length - (o + m) := by
          rcases hl.2 with h2 | h2
          · rwa [List.length_drop] at h2
          · exact absurd h2 hne
        have htl : ((T.drop (o + m)).take n).length = n := by rw [List.length_take, List.length_drop]; omega
        rw [← adv_append, ← List.take_add, List.drop_drop] at h ⊢
        refine ⟨o + m, by omega, ?_, ?_, rfl, ?_, ?_⟩
        · show o + m + ((T.drop (o + m)).take n).length ≤ _; omega
        · show 0 < ((T.drop (o + m)).take n).length; omega
        · show (T.drop (o + m)).take ((T.drop (o + m)).take n).length = _; rw [htl]
        · show Offs T _ (o + m + ((T.drop (o + m)).take n).length)
          rw [htl]
          exact lexGo_offs T f (o + m + n) (by omega) h
theorem runN_zero {f : UInt8 → Bool} {c : UInt8} {r : By} : runN f (c :: r) = 0 ↔ f c = false := by
  unfold runN
  cases h : f c <;> simp [List.takeWhile_cons, h]
theorem skip1_zero {c : UInt8} {r : By} : skip1 (c :: r) = 0 ↔ blankB c = false ∧ c ≠ 35 := by
  unfold skip1
  by_cases hb : blankB c = false
  · have h0 : runN blankB (c :: r) = 0 := runN_zero.2 hb
    by_cases h35 : c = 35
    · subst h35
      rw [if_pos ⟨h0, rfl⟩, runN_zero]
      simp
    · rw [if_neg (by simp [h35])]
      simp [h0, hb, h35]
  · rw [if_neg (fun h => hb (runN_zero.1 h.1)), runN_zero]
    simp [hb]
theorem strip_self {p : Pos} {l : By} (h : skip1 l = 0) : strip l.length p l = (p, l) := by rw [strip_eq, if_pos h]
/-- the text lexes as that word wherever a blank stands behind it -/
def Good (t : Tok) : Prop := t.text ≠ [] ∧ ∀ r, skip1 (t.text ++ 32 :: r) = 0 ∧ oneF (t.text ++ 32 :: r) = (t.kind, t.num, t.text.length, 0)
theorem takeWhile_blank {f : UInt8 → Bool} {t r : By} (ht : ∀ c ∈ t, f c = true) (h : f 32 = false) : (t ++ 32 :: r).takeWhile f = t := by
  induction t with
  | nil => simp [List.takeWhile_cons, h]
  | cons a t ih => simp [List.takeWhile_cons, ht a (by simp), ih fun c hc => ht c (by simp [hc])]
theorem oneF_good {l : By} (hne : l ≠ []) (hs : skip1 l = 0) (he : (oneF l).2.2.2 = 0) (p : Pos) : Good ⟨(oneF l).1, l.take (oneF l).2.2.1, (oneF l).2.1, p⟩ := by
  have hl := oneF_len he
  have hle : (oneF l).2.2.1 ≤ l.length := by rcases hl.2 with h | h; exact h; exact absurd h hne
  have hcons : ∃ c r, l = c :: r := by cases l with | nil => exact absurd rfl hne | cons c r => exact ⟨c, r, rfl⟩
  obtain ⟨c, r0, rfl⟩ := hcons
  obtain ⟨hb, h35⟩ := skip1_zero.1 hs
  refine ⟨by intro h; have := congrArg List.length h; simp only [List.length_take, List.length_nil] at this; omega, fun r => ⟨?_, ?_⟩⟩
  · have : (c :: r0).take (oneF (c :: r0)).2.2.1 = c :: r0.take ((oneF (c :: r0)).2.2.1 - 1) := by
      obtain ⟨k, hk⟩ : ∃ k, (oneF (c :: r0)).2.2.1 = k + 1 := ⟨(oneF (c :: r0)).2.2.1 - 1, by omega⟩
      rw [hk]; simp
    show skip1 ((c :: r0).take (oneF (c :: r0)).2.2.1 ++ 32 :: r) = 0
    rw [this]
    exact skip1_zero.2 ⟨hb, h35⟩
  · show oneF ((c :: r0).take (oneF (c :: r0)).2.2.1 ++ 32 :: r) = ((oneF (c :: r0)).1, (oneF (c :: r0)).2.1, ((c :: r0).take (oneF (c :: r0)).2.2.1).length, 0)
    by_cases h1 : runN wordB (c :: r0) > 0
    · have e1 : oneF (c :: r0) = ((kindF ((c :: r0).take (runN wordB (c :: r0)))).1, (kindF ((c :: r0).take (runN wordB (c :: r0)))).2.1, runN wordB (c :: r0), (kindF ((c :: r0).take (runN wordB (c :: r0)))).2.2) := by unfold oneF; rw [if_pos h1]
      rw [e1] at he ⊢
      simp only at he ⊢
      have ht : ∀ x ∈ (c :: r0).take (runN wordB (c :: r0)), wordB x = true := by
        rw [runN_take]
        intro x hx
        exact (List.all_eq_true.1 (List.all_takeWhile (p := wordB) (l := c :: r0))) x hx
      generalize htt : (c :: r0).take (runN wordB (c :: r0)) = t at *
      have hr : runN wordB (t ++ 32 :: r) = t.length := by unfold runN; rw [takeWhile_blank ht (by decide)]
      have htl : t.length = runN wordB (c :: r0) := by rw [← htt, List.length_take]; have := runN_le wordB (c :: r0); omega
      have htk : (t ++ 32 :: r).take t.length = t := List.take_left
      unfold oneF
      rw [hr, if_pos (by omega), htk, he]
    · have hw : wordB c = false := by
        rw [← runN_zero (r := r0)]; omega
      have hnew : ∀ (x : By) (y : By), runN wordB (c :: x ++ y) = 0 := fun x y => by rw [List.cons_append, runN_zero]; exact hw
      by_cases h2 : (c :: r0).length > 1 ∧ markL.contains ((c :: r0).take 2) = true
      · have e1 : oneF (c :: r0) = (4, 0, 2, 0) := by unfold oneF; rw [if_neg h1, if_pos h2]
        rw [e1]
        cases r0 with
        | nil => simp at h2
        | cons d r1 =>
          simp only [List.take_succ_cons, List.take_zero] at h2 ⊢
          unfold oneF
          rw [if_neg (by rw [hnew]; decide), if_pos ⟨by simp, by simpa using h2.2⟩]
          rfl
      · by_cases h3 : markL.contains ((c :: r0).take 1) = true
        · have e1 : oneF (c :: r0) = (4, 0, 1, 0) := by unfold oneF; rw [if_neg h1, if_neg h2, if_pos h3]
          rw [e1]
          simp only [List.take_succ_cons, List.take_zero] at h3 ⊢
          unfold oneF
          rw [if_neg (by rw [hnew]; decide), if_neg, if_pos (by simpa using h3)]
          · rfl
          · rintro ⟨-, hm⟩
            simp [markL] at hm
        · exfalso
          unfold oneF at he
          rw [if_neg h1, if_neg h2, if_neg h3] at he
          simp at he
theorem strip_done : ∀ (f : Nat) (p : Pos) (l : By), l.length ≤ f → skip1 (strip f p l).2 = 0
  | 0, p, l, h => by
    have : l = [] := List.length_eq_zero_iff.1 (by omega)
    subst this; rfl
  | f + 1, p, l, h => by
    unfold strip
    split
    · assumption
    · rename_i hs
      exact strip_done f _ _ (by rw [List.length_drop]; omega)
theorem lexGo_good : ∀ (f : Nat) (p : Pos) (l : By), (lexGo f p l).2.2 = 0 → ∀ t ∈ (lexGo f p l).1, Good t
  | 0, p, l, _, t, ht => by simp [lexGo] at ht
  | f + 1, p, l, h, t, ht => by
    unfold lexGo at h ht
    simp only at h ht
    by_cases hne : (strip l.length p l).2 = []
    · rw [if_pos hne] at ht; simp at ht
    rw [if_neg hne] at h ht
    by_cases he : (oneF (strip l.length p l).2).2.2.2 ≠ 0
    · rw [if_pos he] at h; exact absurd h he
    rw [if_neg he] at h ht
    rcases List.mem_cons.1 ht with rfl | ht
    · refine oneF_good hne ?_ (by simpa using he) _
      exact strip_done l.length p l (Nat.le_refl _)
    · exact lexGo_good f _ _ h t ht
def cat (ts : List Tok) : By := (ts.map fun t => t.text ++ [32]).flatten
theorem cat_cons (t : Tok) (ts : List Tok) : cat (t :: ts) = t.text ++ 32 :: cat ts := by simp [cat]
theorem cat_skip {ts : List Tok} (h : ∀ t ∈ ts, Good t) : skip1 (cat ts) = 0 := by
  cases ts with
  | nil => rfl
  | cons t ts => rw [cat_cons]; exact ((h t (by simp)).2 _).1
theorem cat_strip {ts : List Tok} (h : ∀ t ∈ ts, Good t) (p : Pos) : strip (32 :: cat ts).length p (32 :: cat ts) = (step p 32, cat ts) := by
  have h0 := cat_skip h
  have hb : runN blankB (cat ts) = 0 := by
    unfold skip1 at h0
    by_cases hc : runN blankB (cat ts) = 0 ∧ (cat ts).head? = some 35
    · exact hc.1
    · rw [if_neg hc] at h0; exact h0
  have h1 : skip1 (32 :: cat ts) = 1 := by
    unfold skip1
    have : runN blankB (32 :: cat ts) = 1 := by
      unfold runN at hb ⊢
      rw [List.takeWhile_cons, if_pos (by decide), List.length_cons, hb]
    rw [this, if_neg (by simp)]
  rw [strip_eq, if_neg (by omega), h1]
  simp only [List.drop_succ_cons, List.drop_zero, List.take_succ_cons, List.take_zero]
  exact strip_self h0
/-- the words again -/
theorem relex : ∀ (ts : List Tok), (∀ t ∈ ts, Good t) → ∀ (p : Pos) (l : By), (l = cat ts ∨ l = 32 :: cat ts) → ∃ ts' p', lexGo (l.length + 1) p l = (ts', p', 0) ∧ ts'.map (fun t => (t.kind, t.text, t.num)) = ts.map fun t => (t.kind, t.text, t.num)
  | ts, h, p, l, hl => by
    have hs : (strip l.length p l).2 = cat ts := by
      rcases hl with rfl | rfl
      · rw [strip_self (cat_skip h)]
      · rw [cat_strip h]
    rw [lexGo_eq, hs]
    cases ts with
    | nil => exact ⟨[], _, rfl, rfl⟩
    | cons t ts =>
      have hg := h t (by simp)
      have ho := (hg.2 (cat ts)).2
      rw [← cat_cons] at ho
      have hne : cat (t :: ts) ≠ [] := by rw [cat_cons]; simp
      rw [if_neg hne, ho]
      simp only [ne_eq, not_true_eq_false, if_false]
      have e1 : (cat (t :: ts)).take t.text.length = t.text := by rw [cat_cons, List.take_left]
      have e2 : (cat (t :: ts)).drop t.text.length = 32 :: cat ts := by rw [cat_cons, List.drop_left]
      rw [e1, e2]
      obtain ⟨ts', p', e3, e4⟩ := relex ts (fun x hx => h x (by simp [hx])) (adv (strip l.length p l).1 t.text) (32 :: cat ts) (.inr rfl)
      rw [e3]
      exact ⟨_, p', rfl, by simp [e4]⟩
theorem lexF_offs {T : By} {ts : List Tok} {q : Pos} (h : lexF T = (ts, q, 0)) : Offs T ts 0 ∧ (∀ t ∈ ts, Good t) ∧ T.length ≤ 65536 := by
  unfold lexF at h
  split at h
  · simp at h
  · rename_i hT
    split at h
    · rename_i he
      simp only [Prod.mk.injEq] at h
      exact absurd h.2.2 he
    · rename_i he
      simp only [Prod.mk.injEq] at h
      have he : (lexGo (T.length + 1) p1 T).2.2 = 0 := by simpa using he
      have h1 := lexGo_offs T (T.length + 1) 0 (Nat.zero_le _) (by simpa [adv] using he)
      have h2 := lexGo_good _ _ _ he
      simp only [List.take_zero, List.drop_zero] at h1
      rw [show adv p1 [] = p1 from rfl] at h1
      rw [h.1] at h1 h2
      exact ⟨h1, h2, by omega⟩
theorem lexF_again {ts : List Tok} (h : ∀ t ∈ ts, Good t) (hl : (cat ts).length ≤ 65536) : ∃ ts', lexF (cat ts) = (ts', ⟨0, 0⟩, 0) ∧ ts'.map (fun t => (t.kind, t.text, t.num)) = ts.map fun t => (t.kind, t.text, t.num) := by
  obtain ⟨ts', p', e1, e2⟩ := relex ts h p1 (cat ts) (.inl rfl)
  refine ⟨ts', ?_, e2⟩
  unfold lexF
  rw [if_neg (by omega), e1]
  simp
end Go.Lx
