/- The clocks seat: clocks as data; two clocks held against one another. -/
import Derived.Test.YtohcdbldphedkaaDoorX16
import Derived.Test.YtohcdbldphedkaaDoorF
set_option linter.unusedVariables false
set_option linter.unusedSimpArgs false
namespace Go.Proofs.YtohcdbldphedkaaDoor
open Go.X
/-- a clock: eight numbers -/
structure Ck where
  c0 : Int
  c1 : Int
  c2 : Int
  c3 : Int
  c4 : Int
  c5 : Int
  c6 : Int
  c7 : Int
  deriving DecidableEq
def Ck.l (c : Ck) : List Int := [c.c0, c.c1, c.c2, c.c3, c.c4, c.c5, c.c6, c.c7]
def Ck.cells (c : Ck) : List Value := [.int .i64 c.c0, .int .i64 c.c1, .int .i64 c.c2, .int .i64 c.c3, .int .i64 c.c4, .int .i64 c.c5, .int .i64 c.c6, .int .i64 c.c7]
def Ck.v (c : Ck) : Value := .agg #[.int .i64 c.c0, .int .i64 c.c1, .int .i64 c.c2, .int .i64 c.c3, .int .i64 c.c4, .int .i64 c.c5, .int .i64 c.c6, .int .i64 c.c7]
theorem und23 : Tryd.prog.underlying 23 = some (.array 8 2) := by kernel_rfl
theorem und79 : Tryd.prog.underlying 79 = some (.array 8 2) := by kernel_rfl
theorem und2 : Tryd.prog.underlying 2 = some (.int .i64) := by kernel_rfl
theorem und90 : Tryd.prog.underlying 90 = some (.pointer 79) := by kernel_rfl
theorem size2 (w : World) : (sizeOf 2).run Tryd.prog w = .ok 1 w := by kernel_rfl
theorem eg23 : Tryd.prog.eqGuardType Tryd.prog.depth 23 = false := by kernel_rfl
theorem eg79 : Tryd.prog.eqGuardType Tryd.prog.depth 79 = false := by kernel_rfl
theorem eqIn_int {d : Nat} (a b : Int) (w : World) : (Op.equalIn (d + 1) 2 (.int .i64 a) (.int .i64 b)).run Tryd.prog w = .ok (a == b) w := by
  simp [Op.equalIn, run_underlying und2]
theorem part2 {cs : Array Value} {i : Nat} {v : Value} (h : cs.toList[i]? = some v) (w : World) : (part 2 cs i).run Tryd.prog w = .ok v w := part_run_sc und2 rfl h w
theorem p2_0 (x0 x1 x2 x3 x4 x5 x6 x7 : Value) (w : World) : (part 2 #[x0, x1, x2, x3, x4, x5, x6, x7] 0).run Tryd.prog w = .ok x0 w := part2 rfl w
theorem p2_1 (x0 x1 x2 x3 x4 x5 x6 x7 : Value) (w : World) : (part 2 #[x0, x1, x2, x3, x4, x5, x6, x7] 1).run Tryd.prog w = .ok x1 w := part2 rfl w
theorem p2_2 (x0 x1 x2 x3 x4 x5 x6 x7 : Value) (w : World) : (part 2 #[x0, x1, x2, x3, x4, x5, x6, x7] 2).run Tryd.prog w = .ok x2 w := part2 rfl w
theorem p2_3 (x0 x1 x2 x3 x4 x5 x6 x7 : Value) (w : World) : (part 2 #[x0, x1, x2, x3, x4, x5, x6, x7] 3).run Tryd.prog w = .ok x3 w := part2 rfl w
theorem p2_4 (x0 x1 x2 x3 x4 x5 x6 x7 : Value) (w : World) : (part 2 #[x0, x1, x2, x3, x4, x5, x6, x7] 4).run Tryd.prog w = .ok x4 w := part2 rfl w
theorem p2_5 (x0 x1 x2 x3 x4 x5 x6 x7 : Value) (w : World) : (part 2 #[x0, x1, x2, x3, x4, x5, x6, x7] 5).run Tryd.prog w = .ok x5 w := part2 rfl w
theorem p2_6 (x0 x1 x2 x3 x4 x5 x6 x7 : Value) (w : World) : (part 2 #[x0, x1, x2, x3, x4, x5, x6, x7] 6).run Tryd.prog w = .ok x6 w := part2 rfl w
theorem p2_7 (x0 x1 x2 x3 x4 x5 x6 x7 : Value) (w : World) : (part 2 #[x0, x1, x2, x3, x4, x5, x6, x7] 7).run Tryd.prog w = .ok x7 w := part2 rfl w
theorem Ck.ext_iff' (a b : Ck) : a = b ↔ a.c0 = b.c0 ∧ a.c1 = b.c1 ∧ a.c2 = b.c2 ∧ a.c3 = b.c3 ∧ a.c4 = b.c4 ∧ a.c5 = b.c5 ∧ a.c6 = b.c6 ∧ a.c7 = b.c7 := by
  cases a; cases b; simp
theorem eqIn_ck {t : TypeId} (ht : Tryd.prog.underlying t = some (.array 8 2)) (a b : Ck) (d : Nat) (w : World) : (Op.equalIn (d + 2) t a.v b.v).run Tryd.prog w = .ok (decide (a = b)) w := by
  rw [Op.equalIn]
  simp only [Sem.run_bind, run_underlying ht, Result.andThen, Ck.v]
  simp only [size2, Result.andThen]
  simp [Std.Legacy.Range.forIn_eq_forIn_range', List.range'_succ, p2_0, p2_1, p2_2, p2_3, p2_4, p2_5, p2_6, p2_7, eqIn_int, Result.andThen, Ck.ext_iff']
  by_cases h0 : a.c0 = b.c0
  rotate_left
  · simp [h0, p2_0, p2_1, p2_2, p2_3, p2_4, p2_5, p2_6, p2_7, eqIn_int, Result.andThen]
  by_cases h1 : a.c1 = b.c1
  rotate_left
  · simp [h0, h1, p2_0, p2_1, p2_2, p2_3, p2_4, p2_5, p2_6, p2_7, eqIn_int, Result.andThen]
  by_cases h2 : a.c2 = b.c2
  rotate_left
  · simp [h0, h1, h2, p2_0, p2_1, p2_2, p2_3, p2_4, p2_5, p2_6, p2_7, eqIn_int, Result.andThen]
  by_cases h3 : a.c3 = b.c3
  rotate_left
  · simp [h0, h1, h2, h3, p2_0, p2_1, p2_2, p2_3, p2_4, p2_5, p2_6, p2_7, eqIn_int, Result.andThen]
  by_cases h4 : a.c4 = b.c4
  rotate_left
  · simp [h0, h1, h2, h3, h4, p2_0, p2_1, p2_2, p2_3, p2_4, p2_5, p2_6, p2_7, eqIn_int, Result.andThen]
  by_cases h5 : a.c5 = b.c5
  rotate_left
  · simp [h0, h1, h2, h3, h4, h5, p2_0, p2_1, p2_2, p2_3, p2_4, p2_5, p2_6, p2_7, eqIn_int, Result.andThen]
  by_cases h6 : a.c6 = b.c6
  rotate_left
  · simp [h0, h1, h2, h3, h4, h5, h6, p2_0, p2_1, p2_2, p2_3, p2_4, p2_5, p2_6, p2_7, eqIn_int, Result.andThen]
  by_cases h7 : a.c7 = b.c7 <;> simp [h0, h1, h2, h3, h4, h5, h6, h7, p2_0, p2_1, p2_2, p2_3, p2_4, p2_5, p2_6, p2_7, eqIn_int, Result.andThen]
section
variable {w : World} {K : Value → World → Prop}
theorem guard_ck {t : TypeId} (hg : Tryd.prog.eqGuardType Tryd.prog.depth t = false) {op : BinOp} {x y : Operand} (a b : Ck) (w : World) : (eqGuard op t x y a.v b.v).run Tryd.prog w = .ok () w := by
  unfold eqGuard Ck.v
  by_cases h : (op matches .eql | .neq) = true <;> simp [h, hg]
theorem xr_ck_eq {t : TypeId} (ht : Tryd.prog.underlying t = some (.array 8 2)) (hg : Tryd.prog.eqGuardType Tryd.prog.depth t = false) {x y : Operand} {a b : Ck} (h : K (.bool (decide (a = b))) w) :
    XRun Tryd.prog (do eqGuard .eql t x y a.v b.v; binOp .eql t a.v b.v) w K := by
  unfold XRun
  rw [Sem.run_bind, guard_ck hg]
  have : (binOp .eql t a.v b.v).run Tryd.prog w = .ok (.bool (decide (a = b))) w := by
    show (do pure (.bool (← Op.equal t a.v b.v)) : Sem Value).run Tryd.prog w = _
    rw [Sem.run_bind, Op.equal, show Op.maxDepth = (Op.maxDepth - 2) + 2 from rfl, eqIn_ck ht]; rfl
  simp only [Result.andThen, this]
  exact ⟨.refl w, h⟩
theorem xr_ck_ne {t : TypeId} (ht : Tryd.prog.underlying t = some (.array 8 2)) (hg : Tryd.prog.eqGuardType Tryd.prog.depth t = false) {x y : Operand} {a b : Ck} (h : K (.bool (!decide (a = b))) w) :
    XRun Tryd.prog (do eqGuard .neq t x y a.v b.v; binOp .neq t a.v b.v) w K := by
  unfold XRun
  rw [Sem.run_bind, guard_ck hg]
  have : (binOp .neq t a.v b.v).run Tryd.prog w = .ok (.bool (!decide (a = b))) w := by
    show (do pure (.bool (!(← Op.equal t a.v b.v))) : Sem Value).run Tryd.prog w = _
    rw [Sem.run_bind, Op.equal, show Op.maxDepth = (Op.maxDepth - 2) + 2 from rfl, eqIn_ck ht]; rfl
  simp only [Result.andThen, this]
  exact ⟨.refl w, h⟩
end
end Go.Proofs.YtohcdbldphedkaaDoor
