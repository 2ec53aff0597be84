/- The sync seat: what a start hands over, in the walks' words. -/
import Derived.Test.YthegnnifbgikmaaS10
import Derived.ProofKit
import Derived.OpenShut
import Derived.ShutString
import Derived.ChangeOld
import Derived.Below
import Derived.Deep.Slices
import Derived.Deep.Strs
import Derived.Lib.SmallJoins
namespace Go.Proofs.Ythegnnifbgikmaa
open Go.X Go.ChangeShapes Go.WideShapes Go.ChangeAt Go.RowKit Go.Deep Go.Joins
set_option linter.unusedVariables false

theorem own : ownKnob Try.prog.godebug = none := by kernel_rfl
theorem laidOut : laidOutB Try.prog = true := by kernel_rfl
theorem und31 : Try.prog.underlying 31 = some (.struct #[⟨ "What", 3, 0, false, "", "", 0⟩, ⟨ "N", 3, 1, false, "", "", 8⟩, ⟨ "Thread", 3, 2, false, "", "", 16⟩, ⟨ "Value", 2, 3, false, "", "", 24⟩]) := by kernel_rfl
theorem und22 : Try.prog.underlying 22 = some (.slice 31) := by kernel_rfl
theorem und3 : Try.prog.underlying 3 = some (.int .i64) := by kernel_rfl
theorem und2 : Try.prog.underlying 2 = some (.int .i64) := by kernel_rfl
theorem und4 : Try.prog.underlying 4 = some .bool := by kernel_rfl
theorem cells31 : Try.prog.cellsOf 31 = 4 := by kernel_rfl

theorem list_four {α : Type} : ∀ {l : List α}, l.length = 4 → ∃ a b c d, l = [a, b, c, d]
  | [a, b, c, d], _ => ⟨a, b, c, d, rfl⟩
theorem cells3 : Try.prog.cellsOf 3 = 1 := by kernel_rfl
theorem cells2 : Try.prog.cellsOf 2 = 1 := by kernel_rfl

section
variable {H : Type} {enc : TypeId × Value → H} {W : World} {base fuel : Nat} {spare : Nat → Bool} {held : Bool}
/-- a slice of acts -/
theorem acts_open {a : Option Addr} {l c : Nat} {x : DataW H × List MemPlace} (h : DataW.trod enc Try.prog W base spare held fuel 22 [.slice a l c] = some x) : Acts W a l := by
  rcases open_slice und22 h with ⟨hc, _⟩ | ⟨p, len, cap, m, n, D, Pl, hc, _, hl, hm, hmm, _, hx⟩
  · simp at hc
    intro i hi; omega
  · simp at hc
    obtain ⟨rfl, rfl, rfl⟩ := hc
    intro i hi
    obtain ⟨cs, h1, h2⟩ := hx i (by rw [hmm]; split <;> omega)
    rw [cells31] at h1
    obtain ⟨_, hlen, hcell⟩ := World.cells?_some h1
    obtain ⟨y0, y1, y2, y3, n', _, _, h3, h4, h5, h6⟩ := trod_struct4 und31 h2
    obtain ⟨c0, c1, c2, c3, rfl⟩ := list_four hlen
    · simp only [cells3, cells2, List.drop_zero, List.drop_succ_cons, List.take_succ_cons, List.take_zero] at h3 h4 h5 h6
      obtain ⟨x0, e0, _, _⟩ := DataW.trod_int und3 h3
      obtain ⟨x1, e1, _, _⟩ := DataW.trod_int und3 h4
      obtain ⟨x2, e2, _, _⟩ := DataW.trod_int und3 h5
      obtain ⟨x3, e3, _, _⟩ := DataW.trod_int und2 h6
      simp at e0 e1 e2 e3
      subst e0; subst e1; subst e2; subst e3
      exact ⟨p, x0, x1, x2, x3, rfl, by simpa using hcell 0 (by omega), by simpa using hcell 1 (by omega), by simpa using hcell 2 (by omega), by simpa using hcell 3 (by omega), trivial⟩
end

/-- a call that hands back true and changes nothing that was there -/
theorem told {f : FuncId} {args : List Value} {w : World} (h : ∀ {K : Value → World → Prop}, (∀ w', (∀ D, Fr D w w') → K (.bool true) w') → XCP Try.prog f args w K NP) :
    Calls Try.prog f args.toArray w fun e w' => e = .returned (.bool true) ∧ Below w.heap.size w w' := by
  have hc : XC Try.prog f args w fun v w' => v = .bool true ∧ ∀ D, Fr D w w' := h fun w' hf => ⟨rfl, hf⟩
  refine hc.calls.mono fun e w' he => ?_
  obtain ⟨v, rfl, hk, rfl, hf⟩ := he
  exact ⟨rfl, ⟨hk.os, hk.tape, hk.output, hk.size, fun k hk => (hf (fun _ => False)).at_ k hk (fun h => h)⟩⟩
end Go.Proofs.Ythegnnifbgikmaa
