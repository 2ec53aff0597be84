/- The sync seat: what a start hands over: lists of numbers, forms, calls. -/
import Derived.Test.YthegnnifbgikmaaP0
import Derived.Test.YthegnnifbgikmaaU7
namespace Go.Proofs.Ythegnnifbgikmaa
open Go.X Go.ChangeShapes Go.WideShapes Go.ChangeAt Go.RowKit Go.Deep Go.Joins
set_option linter.unusedVariables false
theorem und29 : Try.prog.underlying 29 = some (.slice 3) := by kernel_rfl
theorem und28 : Try.prog.underlying 28 = some (.slice 2) := by kernel_rfl
theorem und48 : Try.prog.underlying 48 = some (.struct #[⟨ "Mutexes", 3, 0, false, "", "", 0⟩, ⟨ "Conds", 3, 1, false, "", "", 8⟩, ⟨ "Rooms", 29, 2, false, "", "", 16⟩]) := by kernel_rfl
theorem undB : Try.prog.underlying 4 = some .bool := und4
theorem add0 (p : Addr) : p.add 0 = p := by unfold Addr.add; split <;> simp_all
theorem list_three {α : Type} : ∀ {l : List α}, l.length = 3 → ∃ a b c, l = [a, b, c]
  | [a, b, c], _ => ⟨a, b, c, rfl⟩
theorem cells29 : Try.prog.cellsOf 29 = 1 := by kernel_rfl
theorem cells48 : Try.prog.cellsOf 48 = 3 := by kernel_rfl
section
variable {H : Type} {enc : TypeId × Value → H} {W : World} {base fuel : Nat} {spare : Nat → Bool} {held : Bool}
theorem get_list {p : Addr} {w : World} : ∀ {n : Nat}, (∀ i, i < n → ∃ x : Int, w.cell? (p.add i) = some (.int .i64 x)) → ∃ xs : List Int, xs.length = n ∧ ∀ (i : Nat) (v : Value), (ints xs)[i]? = some v → w.cell? (p.add i) = some v
  | 0, _ => ⟨[], rfl, fun i v h => by simp at h⟩
  | n + 1, h => by
    obtain ⟨xs, hl, hx⟩ := get_list (n := n) (fun i hi => h i (by omega))
    obtain ⟨x, hc⟩ := h n (by omega)
    refine ⟨xs ++ [x], by simp [hl], fun i v hv => ?_⟩
    rw [ints_append] at hv
    by_cases hlt : i < (ints xs).length
    · rw [List.getElem?_append_left hlt] at hv; exact hx i v hv
    · rw [List.getElem?_append_right (by omega)] at hv
      have hi : i = n := by
        have := (List.getElem?_eq_some_iff.1 hv).1
        simp at this hlt; omega
      subst hi
      simp [hl] at hv
      subst hv; exact hc
/-- a slice of numbers -/
theorem ints_open {t e : TypeId} (ht : Try.prog.underlying t = some (.slice e)) (he : Try.prog.underlying e = some (.int .i64)) (hce : Try.prog.cellsOf e = 1) {v : Value} {x : DataW H × List MemPlace} (h : DataW.trod enc Try.prog W base spare held fuel t [v] = some x) :
    ∃ (s : Sl) (xs : List Int), v = s.v ∧ RdI W s xs (fun _ => True) := by
  rcases open_slice ht h with ⟨hc, _⟩ | ⟨p, len, cap, m, n, D, Pl, hc, _, hlc, hm, hmm, _, hx⟩
  · simp at hc; subst hc
    exact ⟨⟨none, 0, 0⟩, [], rfl, .inl rfl, rfl, Nat.le_refl _⟩
  · simp at hc; subst hc
    obtain ⟨xs, hl, hxs⟩ := get_list (p := p) (w := W) (n := len) (fun i hi => by
      obtain ⟨cs, h1, h2⟩ := hx i (by rw [hmm]; split <;> omega)
      rw [hce] at h1
      obtain ⟨_, hlen, hcell⟩ := World.cells?_some h1
      obtain ⟨y, rfl⟩ := List.length_eq_one_iff.1 hlen
      obtain ⟨k, e0, _, _⟩ := DataW.trod_int he h2
      simp at e0
      subst e0
      exact ⟨k, by have := hcell 0 (by omega); rw [add0] at this; simpa [hce] using this⟩)
    exact ⟨⟨some p, len, cap⟩, xs, rfl, .inr ⟨p, rfl, trivial, hxs⟩, hl.symm, hlc⟩
theorem form_open {cs : List Value} {x : DataW H × List MemPlace} (h : DataW.trod enc Try.prog W base spare held fuel 48 cs = some x) :
    ∃ (m c : Int) (s : Sl) (xs : List Int), cs = [.int .i64 m, .int .i64 c, s.v] ∧ RdI W s xs (fun _ => True) := by
  obtain ⟨y0, y1, y2, n', _, hl, h3, h4, h5⟩ := trod_struct3 und48 h
  rw [cells48] at hl
  obtain ⟨c0, c1, c2, rfl⟩ := list_three hl
  simp only [cells3, cells29, List.drop_zero, List.drop_succ_cons, List.take_succ_cons, List.take_zero] at h3 h4 h5
  obtain ⟨x0, e0, _, _⟩ := DataW.trod_int und3 h3
  obtain ⟨x1, e1, _, _⟩ := DataW.trod_int und3 h4
  obtain ⟨s, xs, rfl, hs⟩ := ints_open und29 und3 cells3 h5
  simp at e0 e1
  subst e0; subst e1
  exact ⟨x0, x1, s, xs, rfl, hs⟩
theorem act_open {cs : List Value} {x : DataW H × List MemPlace} (h : DataW.trod enc Try.prog W base spare held fuel 31 cs = some x) : ∃ a : Act, cs = a.cells := by
  obtain ⟨y0, y1, y2, y3, n', _, hl, h3, h4, h5, h6⟩ := trod_struct4 und31 h
  rw [cells31] at hl
  obtain ⟨c0, c1, c2, c3, rfl⟩ := list_four hl
  simp only [cells3, cells2, List.drop_zero, List.drop_succ_cons, List.take_succ_cons, List.take_zero] at h3 h4 h5 h6
  obtain ⟨x0, e0, _, _⟩ := DataW.trod_int und3 h3
  obtain ⟨x1, e1, _, _⟩ := DataW.trod_int und3 h4
  obtain ⟨x2, e2, _, _⟩ := DataW.trod_int und3 h5
  obtain ⟨x3, e3, _, _⟩ := DataW.trod_int und2 h6
  simp at e0 e1 e2 e3
  subst e0; subst e1; subst e2; subst e3
  exact ⟨⟨x0, x1, x2, x3⟩, rfl⟩
end
end Go.Proofs.Ythegnnifbgikmaa
