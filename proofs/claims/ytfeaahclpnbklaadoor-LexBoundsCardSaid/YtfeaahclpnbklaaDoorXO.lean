/- What a start hands over, over any program: numbers, slices of data; a call that hands back true. -/
import Derived.Test.YtfeaahclpnbklaaDoorX17
import Derived.ProofKit
import Derived.OpenShut
import Derived.ShutString
import Derived.ChangeOld
import Derived.Below
import Derived.Deep.Slices
import Derived.Deep.Strs
import Derived.Lib.SmallJoins
namespace Go.X
open Go.ChangeShapes Go.WideShapes Go.ChangeAt Go.RowKit Go.Deep Go.Joins
set_option linter.unusedVariables false
set_option linter.unusedSimpArgs false
section
variable {P : Program} {α : Type} {R : Rep α} {W : World}
theorem get_rows {p : Addr} : ∀ {n : Nat}, (∀ i, i < n → ∃ row x, R.p W TG row x ∧ ∀ (j : Nat) (v : Value), row[j]? = some v → W.cell? (p.add (i * R.z + j)) = some v) →
    ∃ (rows : List (List Value)) (xs : List α), rows.length = n ∧ xs.length = n ∧ rows.flatten.length = n * R.z ∧ (∀ (i : Nat) row x, rows[i]? = some row → xs[i]? = some x → R.p W TG row x) ∧ ∀ (i : Nat) (v : Value), rows.flatten[i]? = some v → W.cell? (p.add i) = some v
  | 0, _ => ⟨[], [], rfl, rfl, by simp, fun i row x h => by simp at h, fun i v h => by simp at h⟩
  | n + 1, h => by
    obtain ⟨rows, xs, h1, h2, h3, h4, h5⟩ := get_rows (n := n) (fun i hi => h i (by omega))
    obtain ⟨row, x, hr, hc⟩ := h n (by omega)
    refine ⟨rows ++ [row], xs ++ [x], by simp [h1], by simp [h2], ?_, fun i row' x' hi hx => ?_, fun i v hv => ?_⟩
    · simp only [List.flatten_append, List.flatten_cons, List.flatten_nil, List.append_nil, List.length_append, h3, R.len hr, Nat.add_mul]; omega
    · by_cases hin : i < n
      · rw [List.getElem?_append_left (by omega)] at hi hx; exact h4 i row' x' hi hx
      · rw [List.getElem?_append_right (by omega)] at hi hx
        have e : i = n := by
          have := (List.getElem?_eq_some_iff.1 hi).1
          simp at this; omega
        subst e
        simp [h1] at hi; simp [h2] at hx
        subst hi; subst hx; exact hr
    · simp only [List.flatten_append, List.flatten_cons, List.flatten_nil, List.append_nil] at hv
      by_cases hlt : i < rows.flatten.length
      · rw [List.getElem?_append_left hlt] at hv; exact h5 i v hv
      · rw [List.getElem?_append_right (by omega)] at hv
        have := hc _ v hv
        rwa [show n * R.z + (i - rows.flatten.length) = i by omega] at this
variable {H : Type} {enc : TypeId × Value → H} {base fuel : Nat} {spare : Nat → Bool} {held : Bool}
/-- what reads as a type is a datum -/
def Opens (P : Program) (enc : TypeId × Value → H) (W : World) (base : Nat) (spare : Nat → Bool) (held : Bool) (t : TypeId) (R : Rep α) : Prop :=
  ∀ (fuel : Nat) (cs : List Value) (x : DataW H × List MemPlace), DataW.trod enc P W base spare held fuel t cs = some x → ∃ a : α, R.p W TG cs a
theorem slice_open {t e : TypeId} (ht : P.underlying t = some (.slice e)) (hce : P.cellsOf e = R.z) (hR : Opens P enc W base spare held e R) {v : Value} {x : DataW H × List MemPlace} (h : DataW.trod enc P W base spare held fuel t [v] = some x) :
    ∃ (s : Sl) (xs : List α), v = s.v ∧ SlR R W TG s xs ∧ xs.length ≤ maxLen := by
  rcases open_slice ht h with ⟨hc, _⟩ | ⟨p, len, cap, m, n, D, Pl, hc, _, hlc, hm, hmm, _, hx⟩
  · simp at hc; subst hc
    exact ⟨⟨none, 0, 0⟩, [], rfl, SlR.nil _ _, Nat.zero_le _⟩
  · simp at hc; subst hc
    obtain ⟨rows, xs, h1, h2, h3, h4, h5⟩ := get_rows (R := R) (W := W) (p := p) (n := len) (fun i hi => by
      obtain ⟨cs, k1, k2⟩ := hx i (by rw [hmm]; split <;> omega)
      rw [hce] at k1
      obtain ⟨_, hlen, hcell⟩ := World.cells?_some k1
      obtain ⟨a, ha⟩ := hR n cs _ k2
      refine ⟨cs, a, ha, fun j v hv => ?_⟩
      have hj : j < R.z := by have := (List.getElem?_eq_some_iff.1 hv).1; omega
      have := hcell j hj
      rw [addr_add] at this
      rw [this]; exact hv)
    refine ⟨⟨some p, len, cap⟩, xs, rfl, ⟨h2.symm, hlc, rows, by omega, ?_, h4⟩, by omega⟩
    exact .inr ⟨p, rfl, trivial, h5⟩
theorem int_opens {t : TypeId} {k : IntKind} (ht : P.underlying t = some (.int k)) : Opens P enc W base spare held t (Rep.int k) := by
  intro fuel cs x h
  obtain ⟨n, e, _, _⟩ := DataW.trod_int ht h
  exact ⟨n, e⟩
theorem str_opens {t : TypeId} (ht : P.underlying t = some .string) : Opens P enc W base spare held t Rep.str := by
  intro fuel cs x h
  obtain ⟨n, e, _, _⟩ := DataW.trod_string ht h
  exact ⟨n, e⟩
end
/-- a call that hands back true and changes nothing that was there -/
theorem told {P : Program} {f : FuncId} {args : List Value} {w : World} (h : ∀ {K : Value → World → Prop}, (∀ w', Ex w w' → K (.bool true) w') → XCP P f args w K NP) :
    Calls P f args.toArray w fun e w' => e = .returned (.bool true) ∧ Below w.heap.size w w' := by
  have hc : XC P f args w fun v w' => v = .bool true ∧ ∀ D, Fr D w w' := h fun w' hf => ⟨rfl, hf⟩
  refine hc.calls.mono fun e w' he => ?_
  obtain ⟨v, rfl, hk, rfl, hf⟩ := he
  exact ⟨rfl, ⟨hk.os, hk.tape, hk.output, hk.size, fun k hk => (hf (fun _ => False)).at_ k hk (fun h => h)⟩⟩
end Go.X
