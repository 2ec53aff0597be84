/- The verify seat: what a start hands over: modules, codes, lists. -/
import Derived.Test.YtnhhgadihmlabaaV16
import Derived.ProofKit
import Derived.OpenShut
import Derived.ShutString
import Derived.ChangeOld
import Derived.Below
import Derived.Deep.Slices
import Derived.Deep.Strs
import Derived.Lib.SmallJoins
namespace Go.Proofs.Ytnhhgadihmlabaa
open Go.X Go.ChangeShapes Go.WideShapes Go.ChangeAt Go.RowKit Go.Deep Go.Joins
set_option linter.unusedVariables false
set_option linter.unusedSimpArgs false
theorem own : ownKnob Try.prog.godebug = none := by kernel_rfl
theorem laidOut : laidOutB Try.prog = true := by kernel_rfl
theorem und26 : Try.prog.underlying 26 = some (.struct #[⟨ "Vars", 22, 0, false, "", "", 0⟩, ⟨ "Arrays", 23, 1, false, "", "", 24⟩, ⟨ "Chans", 23, 2, false, "", "", 48⟩, ⟨ "Mutexes", 3, 3, false, "", "", 72⟩, ⟨ "Conds", 3, 4, false, "", "", 80⟩, ⟨ "Threads", 24, 5, false, "", "", 88⟩]) := by kernel_rfl
theorem und39 : Try.prog.underlying 39 = some (.struct #[⟨ "Name", 9, 0, false, "", "", 0⟩, ⟨ "Locals", 3, 1, false, "", "", 16⟩, ⟨ "Ins", 37, 2, false, "", "", 24⟩, ⟨ "Lines", 23, 3, false, "", "", 48⟩]) := by kernel_rfl
theorem und50 : Try.prog.underlying 50 = some (.struct #[⟨ "Code", 44, 0, false, "", "", 0⟩, ⟨ "A", 3, 1, false, "", "", 8⟩, ⟨ "B", 3, 2, false, "", "", 16⟩, ⟨ "Num", 2, 3, false, "", "", 24⟩]) := by kernel_rfl
theorem und22 : Try.prog.underlying 22 = some (.slice 2) := by kernel_rfl
theorem und23 : Try.prog.underlying 23 = some (.slice 3) := by kernel_rfl
theorem und24 : Try.prog.underlying 24 = some (.slice 39) := by kernel_rfl
theorem und37 : Try.prog.underlying 37 = some (.slice 50) := by kernel_rfl
theorem und2 : Try.prog.underlying 2 = some (.int .i64) := by kernel_rfl
theorem und3 : Try.prog.underlying 3 = some (.int .i64) := by kernel_rfl
theorem und44 : Try.prog.underlying 44 = some (.int .i64) := by kernel_rfl
theorem undB : Try.prog.underlying 4 = some .bool := by kernel_rfl
theorem und9 : Try.prog.underlying 9 = some .string := by kernel_rfl
theorem cells2 : Try.prog.cellsOf 2 = 1 := by kernel_rfl
theorem cells3 : Try.prog.cellsOf 3 = 1 := by kernel_rfl
theorem cells9 : Try.prog.cellsOf 9 = 1 := by kernel_rfl
theorem cells22 : Try.prog.cellsOf 22 = 1 := by kernel_rfl
theorem cells23 : Try.prog.cellsOf 23 = 1 := by kernel_rfl
theorem cells24 : Try.prog.cellsOf 24 = 1 := by kernel_rfl
theorem cells37 : Try.prog.cellsOf 37 = 1 := by kernel_rfl
theorem cells44 : Try.prog.cellsOf 44 = 1 := by kernel_rfl
theorem cells50 : Try.prog.cellsOf 50 = 4 := by kernel_rfl
theorem cells39 : Try.prog.cellsOf 39 = 4 := by kernel_rfl
theorem cells26 : Try.prog.cellsOf 26 = 6 := by kernel_rfl
section
variable {α : Type} {R : Rep α} {W : World}
theorem get_rows {p : Addr} : ∀ {n : Nat}, (∀ i, i < n → ∃ row x, R.p W T0 row x ∧ ∀ (j : Nat) (v : Value), row[j]? = some v → W.cell? (p.add (i * R.z + j)) = some v) →
    ∃ (rows : List (List Value)) (xs : List α), rows.length = n ∧ xs.length = n ∧ rows.flatten.length = n * R.z ∧ (∀ (i : Nat) row x, rows[i]? = some row → xs[i]? = some x → R.p W T0 row x) ∧ ∀ (i : Nat) (v : Value), rows.flatten[i]? = some v → W.cell? (p.add i) = some v
  | 0, _ => ⟨[], [], rfl, rfl, by simp, fun i row x h => by simp at h, fun i v h => by simp at h⟩
  | n + 1, h => by
    obtain ⟨rows, xs, h1, h2, h3, h4, h5⟩ := get_rows (n := n) (fun i hi => h i (by omega))
    obtain ⟨row, x, hr, hc⟩ := h n (by omega)
    refine ⟨rows ++ [row], xs ++ [x], by simp [h1], by simp [h2], ?_, fun i row' x' hi hx => ?_, fun i v hv => ?_⟩
    · simp only [List.flatten_append, List.flatten_cons, List.flatten_nil, List.append_nil, List.length_append, h3, R.len hr, Nat.add_mul]; omega
    · by_cases hin : i < n
      · rw [List.getElem?_append_left (by omega)] at hi hx; exact h4 i row' x' hi hx
      · rw [List.getElem?_append_right (by omega)] at hi hx
        have e : i = n := by
          have := (List.getElem?_eq_some_iff.1 hi).1
          simp at this; omega
        subst e
        simp [h1] at hi; simp [h2] at hx
        subst hi; subst hx; exact hr
    · simp only [List.flatten_append, List.flatten_cons, List.flatten_nil, List.append_nil] at hv
      by_cases hlt : i < rows.flatten.length
      · rw [List.getElem?_append_left hlt] at hv; exact h5 i v hv
      · rw [List.getElem?_append_right (by omega)] at hv
        have := hc _ v hv
        rwa [show n * R.z + (i - rows.flatten.length) = i by omega] at this
variable {H : Type} {enc : TypeId × Value → H} {base fuel : Nat} {spare : Nat → Bool} {held : Bool}
/-- what reads as a type is a datum -/
def Opens (enc : TypeId × Value → H) (W : World) (base : Nat) (spare : Nat → Bool) (held : Bool) (t : TypeId) (R : Rep α) : Prop :=
  ∀ (fuel : Nat) (cs : List Value) (x : DataW H × List MemPlace), DataW.trod enc Try.prog W base spare held fuel t cs = some x → ∃ a : α, R.p W T0 cs a
theorem slice_open {t e : TypeId} (ht : Try.prog.underlying t = some (.slice e)) (hce : Try.prog.cellsOf e = R.z) (hR : Opens enc W base spare held e R) {v : Value} {x : DataW H × List MemPlace} (h : DataW.trod enc Try.prog W base spare held fuel t [v] = some x) :
    ∃ (s : Sl) (xs : List α), v = s.v ∧ SlR R W T0 s xs ∧ xs.length ≤ maxLen := by
  rcases open_slice ht h with ⟨hc, _⟩ | ⟨p, len, cap, m, n, D, Pl, hc, _, hlc, hm, hmm, _, hx⟩
  · simp at hc; subst hc
    exact ⟨⟨none, 0, 0⟩, [], rfl, SlR.nil _ _, Nat.zero_le _⟩
  · simp at hc; subst hc
    obtain ⟨rows, xs, h1, h2, h3, h4, h5⟩ := get_rows (R := R) (W := W) (p := p) (n := len) (fun i hi => by
      obtain ⟨cs, k1, k2⟩ := hx i (by rw [hmm]; split <;> omega)
      rw [hce] at k1
      obtain ⟨_, hlen, hcell⟩ := World.cells?_some k1
      obtain ⟨a, ha⟩ := hR n cs _ k2
      refine ⟨cs, a, ha, fun j v hv => ?_⟩
      have hj : j < R.z := by have := (List.getElem?_eq_some_iff.1 hv).1; omega
      have := hcell j hj
      rw [addr_add] at this
      rw [this]; exact hv)
    refine ⟨⟨some p, len, cap⟩, xs, rfl, ⟨h2.symm, hlc, rows, by omega, ?_, h4⟩, by omega⟩
    exact .inr ⟨p, rfl, trivial, h5⟩
theorem int_opens {t : TypeId} (ht : Try.prog.underlying t = some (.int .i64)) : Opens enc W base spare held t (Rep.int .i64) := by
  intro fuel cs x h
  obtain ⟨n, e, _, _⟩ := DataW.trod_int ht h
  exact ⟨n, e⟩
theorem list_four {α : Type} : ∀ {l : List α}, l.length = 4 → ∃ a b c d, l = [a, b, c, d]
  | [a, b, c, d], _ => ⟨a, b, c, d, rfl⟩
theorem list_six {α : Type} : ∀ {l : List α}, l.length = 6 → ∃ a b c d e f, l = [a, b, c, d, e, f]
  | [a, b, c, d, e, f], _ => ⟨a, b, c, d, e, f, rfl⟩
theorem ins_opens : Opens enc W base spare held 50 insR := by
  intro fuel cs x h
  obtain ⟨y0, y1, y2, y3, n', _, hl, h3, h4, h5, h6⟩ := trod_struct4 und50 h
  rw [cells50] at hl
  obtain ⟨c0, c1, c2, c3, rfl⟩ := list_four hl
  simp only [cells44, cells3, cells2, List.drop_zero, List.drop_succ_cons, List.take_succ_cons, List.take_zero] at h3 h4 h5 h6
  obtain ⟨x0, e0, _, _⟩ := DataW.trod_int und44 h3
  obtain ⟨x1, e1, _, _⟩ := DataW.trod_int und3 h4
  obtain ⟨x2, e2, _, _⟩ := DataW.trod_int und3 h5
  obtain ⟨x3, e3, _, _⟩ := DataW.trod_int und2 h6
  simp at e0 e1 e2 e3
  subst e0; subst e1; subst e2; subst e3
  exact ⟨⟨x0, x1, x2, x3⟩, rfl⟩
theorem cod_opens : Opens enc W base spare held 39 codR := by
  intro fuel cs x h
  obtain ⟨y0, y1, y2, y3, n', _, hl, h3, h4, h5, h6⟩ := trod_struct4 und39 h
  rw [cells39] at hl
  obtain ⟨c0, c1, c2, c3, rfl⟩ := list_four hl
  simp only [cells9, cells3, cells37, cells23, List.drop_zero, List.drop_succ_cons, List.take_succ_cons, List.take_zero] at h3 h4 h5 h6
  obtain ⟨x0, e0, _, _⟩ := DataW.trod_string und9 h3
  obtain ⟨x1, e1, _, _⟩ := DataW.trod_int und3 h4
  obtain ⟨s2, xs2, e2, hs2, _⟩ := slice_open (R := insR) und37 cells50 ins_opens h5
  obtain ⟨s3, xs3, e3, hs3, _⟩ := slice_open (R := Rep.int .i64) und23 cells3 (int_opens und3) h6
  simp at e0 e1
  subst e0; subst e1; subst e2; subst e3
  exact ⟨⟨x0, x1, xs2, xs3⟩, ⟨s2, s3⟩, rfl, hs2, hs3⟩
theorem mdl_open {cs : List Value} {x : DataW H × List MemPlace} (h : DataW.trod enc Try.prog W base spare held fuel 26 cs = some x) : ∃ (m : Mdl) (q : MdlH), cs = m.cells q ∧ MdlP W T0 q m ∧ m.threads.length ≤ 9223372036854775807 := by
  obtain ⟨xs, n, _, _, hl, hlen, hf⟩ := DataW.trod_struct und26 h
  rw [cells26] at hl
  obtain ⟨c0, c1, c2, c3, c4, c5, rfl⟩ := list_six hl
  obtain ⟨y0, y1, y2, y3, y4, y5, rfl⟩ := list_six (l := xs) (by simpa using hlen)
  have h0 := hf 0 ⟨ "Vars", 22, 0, false, "", "", 0⟩ rfl
  have h1 := hf 1 ⟨ "Arrays", 23, 1, false, "", "", 24⟩ rfl
  have h2 := hf 2 ⟨ "Chans", 23, 2, false, "", "", 48⟩ rfl
  have h3 := hf 3 ⟨ "Mutexes", 3, 3, false, "", "", 72⟩ rfl
  have h4 := hf 4 ⟨ "Conds", 3, 4, false, "", "", 80⟩ rfl
  have h5 := hf 5 ⟨ "Threads", 24, 5, false, "", "", 88⟩ rfl
  simp only [cells22, cells23, cells24, cells3, List.drop_zero, List.drop_succ_cons, List.take_succ_cons, List.take_zero] at h0 h1 h2 h3 h4 h5
  obtain ⟨s0, xs0, e0, hs0, _⟩ := slice_open (R := Rep.int .i64) und22 cells2 (int_opens und2) h0
  obtain ⟨s1, xs1, e1, hs1, _⟩ := slice_open (R := Rep.int .i64) und23 cells3 (int_opens und3) h1
  obtain ⟨s2, xs2, e2, hs2, _⟩ := slice_open (R := Rep.int .i64) und23 cells3 (int_opens und3) h2
  obtain ⟨x3, e3, _, _⟩ := DataW.trod_int und3 h3
  obtain ⟨x4, e4, _, _⟩ := DataW.trod_int und3 h4
  obtain ⟨s5, xs5, e5, hs5, hl5⟩ := slice_open (R := codR) und24 cells39 cod_opens h5
  simp at e3 e4
  subst e0; subst e1; subst e2; subst e3; subst e4; subst e5
  have hmx : maxLen = 9223372036854775807 := by decide
  exact ⟨⟨xs0, xs1, xs2, x3, x4, xs5⟩, ⟨s0, s1, s2, s5⟩, rfl, ⟨hs0, hs1, hs2, hs5⟩, by rw [← hmx]; exact hl5⟩
end
/-- a call that hands back true and changes nothing that was there -/
theorem told {f : FuncId} {args : List Value} {w : World} (h : ∀ {K : Value → World → Prop}, (∀ w', Ex w w' → K (.bool true) w') → XCP Try.prog f args w K NP) :
    Calls Try.prog f args.toArray w fun e w' => e = .returned (.bool true) ∧ Below w.heap.size w w' := by
  have hc : XC Try.prog f args w fun v w' => v = .bool true ∧ ∀ D, Fr D w w' := h fun w' hf => ⟨rfl, hf⟩
  refine hc.calls.mono fun e w' he => ?_
  obtain ⟨v, rfl, hk, rfl, hf⟩ := he
  exact ⟨rfl, ⟨hk.os, hk.tape, hk.output, hk.size, fun k hk => (hf (fun _ => False)).at_ k hk (fun h => h)⟩⟩
end Go.Proofs.Ytnhhgadihmlabaa
