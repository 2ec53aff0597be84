/- The clocks seat: what a start hands over: clocks, calls. -/
import Derived.Test.YtohcdbldphedkaaDoorK15
import Derived.Test.YtohcdbldphedkaaDoorXO
import Derived.Test.YtohcdbldphedkaaDoorTie
import Derived.Test.YtohcdbldphedkaaDoorCards
import Derived.LaidMore
import Derived.Lay
import Derived.SevenTiedAt
import Derived.Lib.LaidTab
import Derived.Stop.LaidErr
namespace Go.Proofs.YtohcdbldphedkaaDoor
open Go.X Go.ChangeShapes Go.WideShapes Go.ChangeAt Go.RowKit Go.Deep Go.Joins
set_option linter.unusedVariables false
set_option linter.unusedSimpArgs false
theorem own : ownKnob Tryd.prog.godebug = none := by kernel_rfl
theorem laidOut : laidOutB Tryd.prog = true := by kernel_rfl
theorem und3 : Tryd.prog.underlying 3 = some (.int .i64) := by kernel_rfl
theorem undB : Tryd.prog.underlying 4 = some .bool := by kernel_rfl
theorem und36 : Tryd.prog.underlying 36 = some (.slice 46) := by kernel_rfl
theorem und44 : Tryd.prog.underlying 44 = some (.slice 3) := by kernel_rfl
theorem und46 : Tryd.prog.underlying 46 = some (.struct #[⟨ "What", 3, 0, false, "", "", 0⟩, ⟨ "Thread", 3, 1, false, "", "", 8⟩, ⟨ "N", 3, 2, false, "", "", 16⟩]) := by kernel_rfl
theorem und59 : Tryd.prog.underlying 59 = some (.struct #[⟨ "Threads", 3, 0, false, "", "", 0⟩, ⟨ "Places", 3, 1, false, "", "", 8⟩, ⟨ "Script", 36, 2, false, "", "", 16⟩]) := by kernel_rfl
theorem cells2 : Tryd.prog.cellsOf 2 = 1 := by kernel_rfl
theorem cells3 : Tryd.prog.cellsOf 3 = 1 := by kernel_rfl
theorem cells23 : Tryd.prog.cellsOf 23 = 8 := by kernel_rfl
theorem cells36 : Tryd.prog.cellsOf 36 = 1 := by kernel_rfl
theorem cells46 : Tryd.prog.cellsOf 46 = 3 := by kernel_rfl
theorem cells59 : Tryd.prog.cellsOf 59 = 3 := by kernel_rfl
theorem okWide_array {P : Program} {W : World} {r : Reach} {base n : Nat} {t e : TypeId} {v : Value} (ht : P.underlying t = some (.array n e)) (h : Value.okWide P W r base t v) : ∃ cs, v = .agg cs ∧ cs.size = P.cellsOf t := by
  simp only [Value.okWide, ht] at h
  obtain ⟨cs, h1, h2, _⟩ := h
  exact ⟨cs, h1, h2⟩
theorem i64_wf {n : Int} (h : (Lit.int .i64 n).wf = true) : -9223372036854775808 ≤ n ∧ n ≤ 9223372036854775807 := by
  unfold Lit.wf at h
  have h1 : IntKind.i64.min = -9223372036854775808 := by decide
  have h2 : IntKind.i64.max = 9223372036854775807 := by decide
  simp only [h1, h2, Bool.and_eq_true, decide_eq_true_eq] at h
  exact h
section
variable {H : Type} {enc : TypeId × Value → H} {W : World} {base fuel : Nat} {spare : Nat → Bool} {held : Bool}
theorem ck_open {cs : List Value} {x : DataW H × List MemPlace} (h : DataW.trod enc Tryd.prog W base spare held fuel 23 cs = some x) : ∃ c : Ck, cs = c.cells ∧ ∀ i, i < 8 → -9223372036854775808 ≤ c.get i ∧ c.get i ≤ 9223372036854775807 := by
  obtain ⟨xs, m, _, _, hl, hlen, hi⟩ := DataW.trod_array und23 h
  rw [cells23] at hl
  rw [cells2] at hi
  have key : ∀ i, i < 8 → ∃ n : Int, cs[i]? = some (.int .i64 n) ∧ -9223372036854775808 ≤ n ∧ n ≤ 9223372036854775807 := by
    intro i h8
    have := hi i h8
    rw [List.getElem?_eq_getElem (by omega), Nat.mul_one] at this
    obtain ⟨n, e, _, hw⟩ := DataW.trod_int und2 this
    have h0 := congrArg (fun l => l[0]?) e
    simp only [List.getElem?_take, List.getElem?_drop, Nat.add_zero] at h0
    exact ⟨n, by simpa using h0, i64_wf hw⟩
  obtain ⟨n0, e0, w0⟩ := key 0 (by decide)
  obtain ⟨n1, e1, w1⟩ := key 1 (by decide)
  obtain ⟨n2, e2, w2⟩ := key 2 (by decide)
  obtain ⟨n3, e3, w3⟩ := key 3 (by decide)
  obtain ⟨n4, e4, w4⟩ := key 4 (by decide)
  obtain ⟨n5, e5, w5⟩ := key 5 (by decide)
  obtain ⟨n6, e6, w6⟩ := key 6 (by decide)
  obtain ⟨n7, e7, w7⟩ := key 7 (by decide)
  refine ⟨⟨n0, n1, n2, n3, n4, n5, n6, n7⟩, ?_, fun i h8 => ?_⟩
  · apply List.ext_getElem?
    intro i
    by_cases h8 : i < 8
    · rw [cells_get _ h8]
      match i, h8 with
      | 0, _ => exact e0
      | 1, _ => exact e1
      | 2, _ => exact e2
      | 3, _ => exact e3
      | 4, _ => exact e4
      | 5, _ => exact e5
      | 6, _ => exact e6
      | 7, _ => exact e7
      | k + 8, h => omega
    · rw [List.getElem?_eq_none (by omega), List.getElem?_eq_none (by show 8 ≤ i; omega)]
  · match i, h8 with
    | 0, _ => exact w0
    | 1, _ => exact w1
    | 2, _ => exact w2
    | 3, _ => exact w3
    | 4, _ => exact w4
    | 5, _ => exact w5
    | 6, _ => exact w6
    | 7, _ => exact w7
    | k + 8, h => omega
theorem list_three {α : Type} : ∀ {l : List α}, l.length = 3 → ∃ a b c, l = [a, b, c]
  | [a, b, c], _ => ⟨a, b, c, rfl⟩
theorem ac_opens : Opens Tryd.prog enc W base spare held 46 acR := by
  intro fuel cs x h
  obtain ⟨y0, y1, y2, n', _, hl, h3, h4, h5⟩ := trod_struct3 und46 h
  rw [cells46] at hl
  obtain ⟨c0, c1, c2, rfl⟩ := list_three hl
  simp only [cells3, List.drop_zero, List.drop_succ_cons, List.take_succ_cons, List.take_zero] at h3 h4 h5
  obtain ⟨x0, e0, _, _⟩ := DataW.trod_int und3 h3
  obtain ⟨x1, e1, _, _⟩ := DataW.trod_int und3 h4
  obtain ⟨x2, e2, _, _⟩ := DataW.trod_int und3 h5
  simp at e0 e1 e2
  subst e0; subst e1; subst e2
  exact ⟨⟨x0, x1, x2⟩, rfl⟩
theorem ac_open {cs : List Value} {x : DataW H × List MemPlace} (h : DataW.trod enc Tryd.prog W base spare held fuel 46 cs = some x) : ∃ a : Ac, cs = a.cells := ac_opens fuel cs x h
theorem life_open {cs : List Value} {x : DataW H × List MemPlace} (h : DataW.trod enc Tryd.prog W base spare held fuel 59 cs = some x) : ∃ (n m : Int) (s : Sl) (xs : List Ac), cs = [.int .i64 n, .int .i64 m, s.v] ∧ SlR acR W TG s xs := by
  obtain ⟨y0, y1, y2, n', _, hl, h3, h4, h5⟩ := trod_struct3 und59 h
  rw [cells59] at hl
  obtain ⟨c0, c1, c2, rfl⟩ := list_three hl
  simp only [cells3, cells36, List.drop_zero, List.drop_succ_cons, List.take_succ_cons, List.take_zero] at h3 h4 h5
  obtain ⟨x0, e0, _, _⟩ := DataW.trod_int und3 h3
  obtain ⟨x1, e1, _, _⟩ := DataW.trod_int und3 h4
  obtain ⟨s2, xs2, e2, hs2, _⟩ := slice_open (R := acR) und36 cells46 ac_opens h5
  simp at e0 e1
  subst e0; subst e1; subst e2
  exact ⟨x0, x1, s2, xs2, rfl, hs2⟩
end
theorem gT : Tryd.prog.globalNamed "internal/strconv.uint64pow10" = some 0 ∨ True := .inr trivial
abbrev laid : List (String × DataW Unit) := [("math/bits.deBruijn32tab", Rows.laid_math_bits_deBruijn32tab), ("math/bits.deBruijn64tab", Rows.laid_math_bits_deBruijn64tab), ("internal/strconv.uint64pow10", Rows.laid_internal_strconv_uint64pow10)]
theorem tab_of {W : World} (h : laidMetH Tryd.prog laid W) : Tab W := by
  rw [MakeChecks.laidMetH_plain _ _ _ (by kernel_rfl)] at h
  have h2 := h.tail.tail
  obtain ⟨g, hg⟩ : ∃ g, Tryd.prog.globalNamed "internal/strconv.uint64pow10" = some g := by
    obtain ⟨ps, ⟨g', t', cs, fuel, p, q, hg', _⟩, _⟩ := h2
    exact ⟨g', hg'⟩
  have hgt : ((Tryd.prog.globalNamed "internal/strconv.uint64pow10").bind fun g => (Tryd.prog.globals[g]?).map (·.type)) = some 118 := by kernel_rfl
  rw [hg] at hgt
  exact Lib.tabIs_of_head (rest := []) (zs := Lib.pow10Tab) (k := .u64) (e := 110) (n := 20) hg hgt (by kernel_rfl) (by kernel_rfl) (by kernel_rfl) (by kernel_rfl) h2
end Go.Proofs.YtohcdbldphedkaaDoor
