/- Words of a text, on plain lists of bytes: what the lexer computes. -/
import Derived.Test.YtfeaahclpnbklaaDoorX17
set_option linter.unusedVariables false
set_option linter.unusedSimpArgs false
namespace Go.Lx
abbrev By := List UInt8
def letB (c : UInt8) : Bool := decide (97 ≤ c) && decide (c ≤ 122)
def digB (c : UInt8) : Bool := decide (48 ≤ c) && decide (c ≤ 57)
def wordB (c : UInt8) : Bool := letB c || digB c
def blankB (c : UInt8) : Bool := ((c == 32 || c == 9) || c == 13) || c == 10
structure Pos where
  line : Int
  col : Int
  deriving DecidableEq
def step (p : Pos) (c : UInt8) : Pos := if c = 10 then ⟨p.line + 1, 1⟩ else ⟨p.line, p.col + 1⟩
def adv (p : Pos) (l : By) : Pos := l.foldl step p
def runN (f : UInt8 → Bool) (l : By) : Nat := (l.takeWhile f).length
def skip1 (l : By) : Nat := if runN blankB l = 0 ∧ l.head? = some 35 then runN (fun c => c != 10) l else runN blankB l
def strip : Nat → Pos → By → Pos × By
  | 0, p, l => (p, l)
  | f + 1, p, l => if skip1 l = 0 then (p, l) else strip f (adv p (l.take (skip1 l))) (l.drop (skip1 l))
structure Tok where
  kind : Int
  text : By
  num : Int
  pos : Pos
  deriving DecidableEq
def keyL : List By := [[118, 97, 114], [97, 114, 114, 97, 121], [109, 117, 116, 101, 120], [99, 111, 110, 100], [99, 104, 97, 110], [116, 104, 114, 101, 97, 100], [108, 101, 116], [105, 102], [101, 108, 115, 101], [119, 104, 105, 108, 101], [108, 111, 99, 107], [117, 110, 108, 111, 99, 107], [119, 97, 105, 116], [115, 105, 103, 110, 97, 108], [97, 108, 108], [115, 101, 110, 100], [114, 101, 99, 118], [115, 112, 97, 119, 110], [106, 111, 105, 110], [112, 114, 105, 110, 116]]
def markL : List By := [[59], [40], [41], [123], [125], [91], [93], [61], [61, 61], [33, 61], [60], [60, 61], [43], [45], [42], [47], [37], [38, 38], [124, 124], [33]]
def valN (w : By) : Nat := w.foldl (fun n c => n * 10 + (c.toNat - 48)) 0
/-- a number as it is written -/
def numOk (w : By) : Bool := w.all digB && (w.length == 1 || w.head? != some 48) && decide (valN w < 2147483648)
def kindF (w : By) : Int × Int × Int :=
  if (match w with | [] => false | c :: _ => digB c) = true then (if numOk w = true then (2, (valN w : Int), 0) else (0, 0, 112))
  else if keyL.contains w = true then (3, 0, 0)
  else if w.length > 16 then (0, 0, 111)
  else (1, 0, 0)
/-- the word ahead: its kind, number, length, an error -/
def oneF (l : By) : Int × Int × Nat × Int :=
  if runN wordB l > 0 then ((kindF (l.take (runN wordB l))).1, (kindF (l.take (runN wordB l))).2.1, runN wordB l, (kindF (l.take (runN wordB l))).2.2)
  else if l.length > 1 ∧ markL.contains (l.take 2) = true then (4, 0, 2, 0)
  else if markL.contains (l.take 1) = true then (4, 0, 1, 0)
  else (0, 0, 0, 110)
def lexGo : Nat → Pos → By → List Tok × Pos × Int
  | 0, p, _ => ([], p, 0)
  | f + 1, p, l =>
    let s := strip l.length p l
    if s.2 = [] then ([], s.1, 0)
    else if (oneF s.2).2.2.2 ≠ 0 then ([], s.1, (oneF s.2).2.2.2)
    else
      let r := lexGo f (adv s.1 (s.2.take (oneF s.2).2.2.1)) (s.2.drop (oneF s.2).2.2.1)
      (⟨(oneF s.2).1, s.2.take (oneF s.2).2.2.1, (oneF s.2).2.1, s.1⟩ :: r.1, r.2)
def p1 : Pos := ⟨1, 1⟩
def lexF (t : By) : List Tok × Pos × Int :=
  if t.length > 65536 then ([], ⟨0, 0⟩, 3)
  else if (lexGo (t.length + 1) p1 t).2.2 ≠ 0 then ([], (lexGo (t.length + 1) p1 t).2.1, (lexGo (t.length + 1) p1 t).2.2)
  else ((lexGo (t.length + 1) p1 t).1, ⟨0, 0⟩, 0)

theorem runN_le (f : UInt8 → Bool) (l : By) : runN f l ≤ l.length := by
  unfold runN; exact List.IsPrefix.length_le (List.takeWhile_prefix f)
theorem runN_take (f : UInt8 → Bool) (l : By) : l.take (runN f l) = l.takeWhile f := by
  unfold runN
  conv => lhs; arg 2; rw [← List.takeWhile_append_dropWhile (p := f) (l := l)]
  rw [List.take_left]
theorem skip1_le (l : By) : skip1 l ≤ l.length := by
  unfold skip1; split <;> exact runN_le _ _
theorem adv_append (p : Pos) (a b : By) : adv p (a ++ b) = adv (adv p a) b := by unfold adv; rw [List.foldl_append]
/-- what is stripped -/
theorem strip_at : ∀ (f : Nat) (p : Pos) (l : By), ∃ m, m ≤ l.length ∧ strip f p l = (adv p (l.take m), l.drop m)
  | 0, p, l => ⟨0, Nat.zero_le _, by simp [strip, adv]⟩
  | f + 1, p, l => by
    unfold strip
    split
    · exact ⟨0, Nat.zero_le _, by simp [adv]⟩
    · obtain ⟨m, hm, e⟩ := strip_at f (adv p (l.take (skip1 l))) (l.drop (skip1 l))
      have hs := skip1_le l
      rw [List.length_drop] at hm
      refine ⟨skip1 l + m, by omega, ?_⟩
      rw [e, List.take_add, adv_append, List.drop_drop]
theorem strip_fuel : ∀ (f g : Nat) (p : Pos) (l : By), l.length ≤ f → l.length ≤ g → strip f p l = strip g p l
  | 0, 0, p, l, _, _ => rfl
  | 0, g + 1, p, l, h, _ => by
    have : l = [] := List.length_eq_zero_iff.1 (by omega)
    subst this; rfl
  | f + 1, 0, p, l, _, h => by
    have : l = [] := List.length_eq_zero_iff.1 (by omega)
    subst this; rfl
  | f + 1, g + 1, p, l, h, h' => by
    unfold strip
    split
    · rfl
    · rename_i hs
      exact strip_fuel f g _ _ (by rw [List.length_drop]; omega) (by rw [List.length_drop]; omega)
/-- one turn of the blanks' loop -/
theorem strip_eq (p : Pos) (l : By) : strip l.length p l = if skip1 l = 0 then (p, l) else strip (l.drop (skip1 l)).length (adv p (l.take (skip1 l))) (l.drop (skip1 l)) := by
  cases hl : l with
  | nil => rfl
  | cons c r =>
    rw [← hl]
    have : l.length = r.length + 1 := by rw [hl]; rfl
    conv => lhs; rw [this]; unfold strip
    split
    · rfl
    · rename_i hs
      exact strip_fuel r.length (l.drop (skip1 l)).length (adv p (l.take (skip1 l))) (l.drop (skip1 l)) (by rw [List.length_drop]; omega) (Nat.le_refl _)
theorem strip_len (p : Pos) (l : By) : (strip l.length p l).2.length ≤ l.length := by
  obtain ⟨m, hm, e⟩ := strip_at l.length p l
  rw [e]; simp
theorem oneF_len {l : By} (h : (oneF l).2.2.2 = 0) : 0 < (oneF l).2.2.1 ∧ ((oneF l).2.2.1 ≤ l.length ∨ l = []) := by
  unfold oneF at h ⊢
  split
  · rename_i h1; exact ⟨h1, .inl (runN_le _ _)⟩
  · rename_i h1
    rw [if_neg h1] at h
    split
    · rename_i h2; exact ⟨by decide, .inl (by show 2 ≤ l.length; omega)⟩
    · rename_i h2
      rw [if_neg h2] at h
      split
      · refine ⟨Nat.one_pos, ?_⟩
        cases l with
        | nil => exact .inr rfl
        | cons c r => exact .inl (by simp)
      · rename_i h3
        rw [if_neg h3] at h; simp at h
theorem lexGo_fuel : ∀ (f g : Nat) (p : Pos) (l : By), l.length < f → l.length < g → lexGo f p l = lexGo g p l
  | 0, _, _, _, h, _ => by omega
  | _, 0, _, _, _, h => by omega
  | f + 1, g + 1, p, l, h, h' => by
    unfold lexGo
    have hs := strip_len p l
    simp only
    split
    · rfl
    · rename_i hne
      split
      · rfl
      · rename_i he
        have ho := oneF_len (l := (strip l.length p l).2) (by simpa using he)
        have hlen : ((strip l.length p l).2.drop (oneF (strip l.length p l).2).2.2.1).length < l.length := by
          rw [List.length_drop]
          rcases ho.2 with h2 | h2
          · omega
          · exact absurd h2 hne
        rw [lexGo_fuel f g _ _ (by omega) (by omega)]
/-- one turn of the words' loop -/
theorem lexGo_eq (p : Pos) (l : By) : lexGo (l.length + 1) p l =
    if (strip l.length p l).2 = [] then ([], (strip l.length p l).1, 0)
    else if (oneF (strip l.length p l).2).2.2.2 ≠ 0 then ([], (strip l.length p l).1, (oneF (strip l.length p l).2).2.2.2)
    else (⟨(oneF (strip l.length p l).2).1, (strip l.length p l).2.take (oneF (strip l.length p l).2).2.2.1, (oneF (strip l.length p l).2).2.1, (strip l.length p l).1⟩ ::
        (lexGo (((strip l.length p l).2.drop (oneF (strip l.length p l).2).2.2.1).length + 1) (adv (strip l.length p l).1 ((strip l.length p l).2.take (oneF (strip l.length p l).2).2.2.1)) ((strip l.length p l).2.drop (oneF (strip l.length p l).2).2.2.1)).1,
        (lexGo (((strip l.length p l).2.drop (oneF (strip l.length p l).2).2.2.1).length + 1) (adv (strip l.length p l).1 ((strip l.length p l).2.take (oneF (strip l.length p l).2).2.2.1)) ((strip l.length p l).2.drop (oneF (strip l.length p l).2).2.2.1)).2) := by
  conv => lhs; unfold lexGo
  simp only
  split
  · rfl
  · rename_i hne
    split
    · rfl
    · rename_i he
      have hs := strip_len p l
      have ho := oneF_len (l := (strip l.length p l).2) (by simpa using he)
      have hlen : ((strip l.length p l).2.drop (oneF (strip l.length p l).2).2.2.1).length < l.length := by
        rw [List.length_drop]
        rcases ho.2 with h2 | h2
        · omega
        · exact absurd h2 hne
      rw [lexGo_fuel l.length _ _ _ hlen (Nat.lt_succ_self _)]
end Go.Lx
