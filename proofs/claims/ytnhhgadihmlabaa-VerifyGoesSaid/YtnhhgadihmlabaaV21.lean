/- The verify seat: VerifyTwo's module, made in whatever order. -/
import Derived.Test.YtnhhgadihmlabaaV19
set_option linter.unusedVariables false
set_option linter.unusedSimpArgs false
set_option maxRecDepth 10000
set_option maxHeartbeats 1000000
namespace Go.Proofs.Ytnhhgadihmlabaa
open Go.X Go.Heap
def nA : ByteArray := ⟨#[97]⟩
def nB : ByteArray := ⟨#[98]⟩
def mod3 (a b : List Ins) : Mdl := ⟨[1], [2], [1], 1, 1, [⟨nA, 1, a, List.replicate a.length 0⟩, ⟨nB, 0, b, List.replicate b.length 0⟩]⟩
def twoR (la lb : Nat) : Nat → Option (TypeId × List Int)
  | 0 => some (2, [1]) | 1 => some (3, [2]) | 2 => some (3, [1]) | 3 => some (3, List.replicate la 0) | 4 => some (3, List.replicate lb 0) | _ => none
def thrCells (sa sb lna lnb : Sl) : List Value := [.string nA, .int .i64 1, sa.v, lna.v, .string nB, .int .i64 0, sb.v, lnb.v]
def zeros26 : List Value := [.slice none 0 0, .slice none 0 0, .slice none 0 0, .int .i64 0, .int .i64 0, .slice none 0 0]
def TwoC (w : World) (x : List (Option Value)) (Γ : List Assn) (u : World) : Prop :=
  (x[6]? = some none ∧ Sep u [pers Γ, oldA w]) ∨ (∃ b, x[6]? = some (some (.pointer (some ⟨b, 0, none⟩))) ∧ x[7]? = some none ∧ Sep u [bx b zeros26 26, pers Γ, oldA w]) ∨
  (∃ (b : Nat) (s0 s1 s2 t : Sl) (z : Value), x[6]? = some (some (.pointer (some ⟨b, 0, none⟩))) ∧ x[7]? = some (some z) ∧ x[0]? = some (some s0.v) ∧ x[1]? = some (some s1.v) ∧ x[2]? = some (some s2.v) ∧ x[5]? = some (some t.v) ∧
    Sep u [bx b [s0.v, s1.v, s2.v, .int .i64 1, .int .i64 1, t.v] 26, pers Γ, oldA w])
def TwoJ (w : World) (la lb : Nat) (sa sb : Sl) (x : List (Option Value)) (u : World) : Prop :=
  x.length = 8 ∧ ∃ Γ : List Assn, (∀ k e xs, twoR la lb k = some (e, xs) → ∀ v, x[k]? = some (some v) → ∃ (s : Sl) (j : Nat), v = s.v ∧ Γ[j]? = some (row 1 e s (ints xs))) ∧
    (∀ v, x[5]? = some (some v) → ∃ (t lna lnb : Sl) (j : Nat), v = t.v ∧ t.l = 2 ∧ Γ[j]? = some (row 4 39 t (thrCells sa sb lna lnb)) ∧ x[3]? = some (some lna.v) ∧ x[4]? = some (some lnb.v)) ∧ TwoC w x Γ u
section
variable {w u w' : World} {la lb : Nat} {sa sb : Sl} {x : List (Option Value)}
theorem TwoC.grow {Γ : List Assn} {A : Assn} (hC : TwoC w x Γ u) (h7 : x[7]? = some none) (he : Ex u w') (hA : A.p w' (fun b => u.heap.size ≤ b)) {k : Nat} (hk : k < 6) {v : Option Value} : TwoC w (x.set k v) (A :: Γ) w' := by
  have e6 : (x.set k v)[6]? = x[6]? := by rw [List.getElem?_set, if_neg (by omega)]
  have e7 : (x.set k v)[7]? = x[7]? := by rw [List.getElem?_set, if_neg (by omega)]
  rcases hC with ⟨h6, hs⟩ | ⟨b, h6, _, hs⟩ | ⟨b, s0, s1, s2, t, z, h6, h7', _⟩
  · exact .inl ⟨e6.trans h6, (Sep.add hs he hA).keepAt 0 rfl⟩
  · exact .inr (.inl ⟨b, e6.trans h6, e7.trans h7, (Sep.add hs he hA).keepAt 1 rfl⟩)
  · rw [h7] at h7'; cases h7'
theorem TwoJ.add {k : Nat} {e : TypeId} {xs : List Int} {s : Sl} (hJ : TwoJ w la lb sa sb x u) (hk : twoR la lb k = some (e, xs)) (h7 : x[7]? = some none) (h5 : k = 3 ∨ k = 4 → x[5]? = some none) (he : Ex u w') (ho : Own w' 1 e s.a s.l s.c (ints xs) (fun b => u.heap.size ≤ b)) :
    TwoJ w la lb sa sb (x.set k (some s.v)) w' := by
  have hk5 : k < 5 := by match k, hk with | 0, _ => decide | 1, _ => decide | 2, _ => decide | 3, _ => decide | 4, _ => decide
  obtain ⟨hl, Γ, hA, hB, hC⟩ := hJ
  refine ⟨by simp [hl], row 1 e s (ints xs) :: Γ, fun k' e' xs' hk' v hv => ?_, fun v hv => ?_, hC.grow h7 he ho (by omega)⟩
  · rw [List.getElem?_set] at hv
    split at hv
    · rename_i e; subst e
      rw [hk] at hk'; cases hk'
      rw [if_pos (by omega)] at hv; simp only [Option.some.injEq] at hv; subst hv
      exact ⟨s, 0, rfl, rfl⟩
    · obtain ⟨s', j, h1, h2⟩ := hA k' e' xs' hk' v hv
      exact ⟨s', j + 1, h1, h2⟩
  · rw [List.getElem?_set, if_neg (by omega)] at hv
    obtain ⟨t, lna, lnb, j, h1, h2, h3, h4, h6⟩ := hB v hv
    have hk34 : k ≠ 3 ∧ k ≠ 4 := by
      constructor <;> (intro e; have := h5 (by omega); rw [hv] at this; cases this)
    exact ⟨t, lna, lnb, j + 1, h1, h2, h3, by rw [List.getElem?_set, if_neg hk34.1]; exact h4, by rw [List.getElem?_set, if_neg hk34.2]; exact h6⟩
theorem two_b {k : Nat} {t e : TypeId} {n : Int} (hT : SlT Try.prog t e 1 8 [.int .i64 0]) (hJ : TwoJ w la lb sa sb x u) (hk : twoR la lb k = some (e, [n])) (h7 : x[7]? = some none) (h5 : k = 3 ∨ k = 4 → x[5]? = some none) :
    XRun Try.prog (Instr.buildSlice t 1 (List.toArray [(0, .int .i64 n)])) u fun v w' => ∃ (a : Option Addr) (l c : Nat), v = .slice a l c ∧ TwoJ w la lb sa sb (x.set k (some (.slice a l c))) w' :=
  Sep.build (cs := ints [n]) hT rfl (Sep.begin u) rfl rfl (by decide) fun s w' _ hs he => ⟨_, _, _, rfl, hJ.add hk h7 h5 he (hs.fresh 0 1 rfl rfl (by decide))⟩
theorem two_m {k n : Nat} (hJ : TwoJ w la lb sa sb x u) (hn : n ≤ 1000) (hk : twoR la lb k = some (3, List.replicate n 0)) (h7 : x[7]? = some none) (h5 : k = 3 ∨ k = 4 → x[5]? = some none) :
    XRun Try.prog (Instr.makeSlice 23 (.int .i64 n) (.int .i64 n)) u fun v w' => ∃ (a : Option Addr) (l c : Nat), v = .slice a l c ∧ TwoJ w la lb sa sb (x.set k (some (.slice a l c))) w' :=
  Sep.make (cs := ints (List.replicate n 0)) T23 rfl (Sep.begin u) (by omega) (Int.le_refl _) (by omega) (by omega) (by simp) (fun i hi => by simp at hi; simp [ints, hi, Nat.mod_one]) fun s w' _ hs he => ⟨_, _, _, rfl, hJ.add hk h7 h5 he (hs.fresh 0 1 rfl rfl (by decide))⟩
theorem two_t {lna lnb : Sl} (hJ : TwoJ w la lb sa sb x u) (h3 : x[3]? = some (some lna.v)) (h4 : x[4]? = some (some lnb.v)) (h5 : x[5]? = some none) (h7 : x[7]? = some none) :
    XRun Try.prog (Instr.buildSlice 24 2 (List.toArray [(0, .agg #[.string nA, .int .i64 1, sa.v, lna.v]), (1, .agg #[.string nB, .int .i64 0, sb.v, lnb.v])])) u fun v w' => ∃ (a : Option Addr) (l c : Nat), v = .slice a l c ∧ TwoJ w la lb sa sb (x.set 5 (some (.slice a l c))) w' := by
  refine Sep.build (cs := thrCells sa sb lna lnb) T24 rfl (Sep.begin u) rfl rfl (by decide) fun s w' hsl hs he => ⟨_, _, _, rfl, ?_⟩
  obtain ⟨hl, Γ, hA, hB, hC⟩ := hJ
  refine ⟨by simp [hl], row 4 39 s (thrCells sa sb lna lnb) :: Γ, fun k' e' xs' hk' v hv => ?_, fun v hv => ?_, hC.grow (A := row 4 39 s (thrCells sa sb lna lnb)) h7 he (hs.fresh 0 1 rfl rfl (by decide)) (by omega)⟩
  · have hk5 : 5 ≠ k' := fun e => by subst e; cases hk'
    rw [List.getElem?_set, if_neg hk5] at hv
    obtain ⟨s', j, h1, h2⟩ := hA k' e' xs' hk' v hv
    exact ⟨s', j + 1, h1, h2⟩
  · rw [List.getElem?_set, if_pos rfl, if_pos (by omega)] at hv
    simp only [Option.some.injEq] at hv; subst hv
    exact ⟨s, lna, lnb, 0, rfl, hsl, rfl, by rw [List.getElem?_set, if_neg (by decide)]; exact h3, by rw [List.getElem?_set, if_neg (by decide)]; exact h4⟩
end
end Go.Proofs.Ytnhhgadihmlabaa
