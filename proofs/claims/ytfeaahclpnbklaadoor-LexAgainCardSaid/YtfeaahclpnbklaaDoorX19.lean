/- Structs held against one another, field by field. -/
import Derived.Test.YtfeaahclpnbklaaDoorX17
set_option linter.unusedVariables false
set_option linter.unusedSimpArgs false
namespace Go.X
section
variable {P : Program} {w : World}
/-- one field of a struct that is compared -/
def FieldEq (P : Program) (w : World) (d : Nat) (xs ys : Array Value) (f : Field) (b : Bool) : Prop :=
  f.name ≠ "_" ∧ ∃ x y, (part f.type xs f.offset).run P w = .ok x w ∧ (part f.type ys f.offset).run P w = .ok y w ∧ (Op.equalIn d f.type x y).run P w = .ok b w
theorem fields_loop {d : Nat} {xs ys : Array Value} : ∀ (fs : List Field) (bs : List Bool), fs.length = bs.length → (∀ (i : Nat) (f : Field) (b : Bool), fs[i]? = some f → bs[i]? = some b → FieldEq P w d xs ys f b) →
    (do
      for f in fs do
        if f.name ≠ "_" then
          if !(← Op.equalIn d f.type (← part f.type xs f.offset) (← part f.type ys f.offset)) then return false
      pure true : Sem Bool).run P w = .ok (bs.all id) w
  | [], [], _, _ => rfl
  | [], _ :: _, h, _ => by cases h
  | _ :: _, [], h, _ => by cases h
  | f :: fs, b :: bs, hl, h => by
    obtain ⟨hn, x, y, hx, hy, he⟩ := h 0 f b rfl rfl
    have ih := fields_loop fs bs (by simpa using hl) fun i f b h1 h2 => h (i + 1) f b h1 h2
    simp only [List.forIn_cons, bind_assoc, Sem.run_bind, hn, ne_eq, not_false_eq_true, if_true, hx, hy, he, Result.andThen] at ih ⊢
    cases b with
    | true => simpa using ih
    | false => simp
theorem eqIn_struct {t : TypeId} {fields : Array Field} (hu : P.underlying t = some (.struct fields)) (hst : P.stoodInHeld t = false) {d : Nat} {xs ys : Array Value} (bs : List Bool) (hl : fields.size = bs.length)
    (h : ∀ (i : Nat) (f : Field) (b : Bool), fields[i]? = some f → bs[i]? = some b → FieldEq P w d xs ys f b) : (Op.equalIn (d + 1) t (.agg xs) (.agg ys)).run P w = .ok (bs.all id) w := by
  have := fields_loop (P := P) (w := w) (d := d) (xs := xs) (ys := ys) fields.toList bs (by simpa using hl) fun i f b h1 h2 => h i f b (by simpa using h1) h2
  rw [Op.equalIn]
  simp only [Sem.run_bind, run_underlying hu, Result.andThen, run_program, hst, Bool.false_eq_true, if_false]
  simp only [Array.forIn_toList] at this
  simpa [Sem.run_bind, Result.andThen] using this
theorem fieldI {d : Nat} {f : Field} {xs ys : Array Value} {k : IntKind} {a b : Int} (hn : f.name ≠ "_") (hu : P.underlying f.type = some (.int k)) (hx : xs.toList[f.offset]? = some (.int k a)) (hy : ys.toList[f.offset]? = some (.int k b)) : FieldEq P w (d + 1) xs ys f (a == b) :=
  ⟨hn, _, _, part_run_sc hu rfl hx w, part_run_sc hu rfl hy w, by simp [Op.equalIn, run_underlying hu]⟩
theorem fieldB {d : Nat} {f : Field} {xs ys : Array Value} {a b : Bool} (hn : f.name ≠ "_") (hu : P.underlying f.type = some .bool) (hx : xs.toList[f.offset]? = some (.bool a)) (hy : ys.toList[f.offset]? = some (.bool b)) : FieldEq P w (d + 1) xs ys f (a == b) :=
  ⟨hn, _, _, part_run_sc hu rfl hx w, part_run_sc hu rfl hy w, by simp [Op.equalIn, run_underlying hu]⟩
theorem fieldT {d : Nat} {f : Field} {xs ys : Array Value} {a b : ByteArray} (hn : f.name ≠ "_") (hu : P.underlying f.type = some .string) (hx : xs.toList[f.offset]? = some (.string a)) (hy : ys.toList[f.offset]? = some (.string b)) : FieldEq P w (d + 1) xs ys f (a == b) :=
  ⟨hn, _, _, part_run_sc hu rfl hx w, part_run_sc hu rfl hy w, by simp [Op.equalIn, run_underlying hu]⟩
theorem fieldA {d : Nat} {f : Field} {xs ys : Array Value} {ds : TypeDesc} {i : TypeInfo} {b : Bool} (hn : f.name ≠ "_") (hu : P.underlying f.type = some ds) (ha : descAgg ds = true) (hi : P.info? f.type = some i)
    (he : (Op.equalIn d f.type (.agg ((xs.toList.drop f.offset).take i.size).toArray) (.agg ((ys.toList.drop f.offset).take i.size).toArray)).run P w = .ok b w) : FieldEq P w d xs ys f b :=
  ⟨hn, _, _, part_run_agg hu hi ha _ _ w, part_run_agg hu hi ha _ _ w, he⟩
theorem guard_agg {t : TypeId} (hg : P.eqGuardType P.depth t = false) {op : BinOp} {x y : Operand} (a b : Array Value) (w : World) : (eqGuard op t x y (.agg a) (.agg b)).run P w = .ok () w := by
  unfold eqGuard
  by_cases h : (op matches .eql | .neq) = true <;> simp [h, hg]
variable {K : Value → World → Prop}
theorem xr_struct_eq {t : TypeId} {x y : Operand} {a b : Array Value} {r : Bool} (hg : P.eqGuardType P.depth t = false) (he : ∀ d : Nat, (Op.equalIn (d + 4) t (.agg a) (.agg b)).run P w = .ok r w) (h : K (.bool r) w) :
    XRun P (do eqGuard .eql t x y (.agg a) (.agg b); binOp .eql t (.agg a) (.agg b)) w K := by
  unfold XRun
  rw [Sem.run_bind, guard_agg hg]
  have : (binOp .eql t (.agg a) (.agg b)).run P w = .ok (.bool r) w := by
    show (do pure (.bool (← Op.equal t (.agg a) (.agg b))) : Sem Value).run P w = _
    rw [Sem.run_bind, Op.equal, show Op.maxDepth = (Op.maxDepth - 4) + 4 from rfl, he]; rfl
  simp only [Result.andThen, this]
  exact ⟨.refl w, h⟩
theorem xr_struct_ne {t : TypeId} {x y : Operand} {a b : Array Value} {r : Bool} (hg : P.eqGuardType P.depth t = false) (he : ∀ d : Nat, (Op.equalIn (d + 4) t (.agg a) (.agg b)).run P w = .ok r w) (h : K (.bool (!r)) w) :
    XRun P (do eqGuard .neq t x y (.agg a) (.agg b); binOp .neq t (.agg a) (.agg b)) w K := by
  unfold XRun
  rw [Sem.run_bind, guard_agg hg]
  have : (binOp .neq t (.agg a) (.agg b)).run P w = .ok (.bool (!r)) w := by
    show (do pure (.bool (!(← Op.equal t (.agg a) (.agg b)))) : Sem Value).run P w = _
    rw [Sem.run_bind, Op.equal, show Op.maxDepth = (Op.maxDepth - 4) + 4 from rfl, he]; rfl
  simp only [Result.andThen, this]
  exact ⟨.refl w, h⟩
end
end Go.X
