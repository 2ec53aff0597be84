/- The functions' formulas, computed from their code (by program: gen.py), each checked against the reflective weakest precondition by the kernel. -/
import Derived.Test.YtnhhgadihmlabaaT
set_option linter.unusedVariables false
set_option maxRecDepth 100000
namespace Go.Proofs.Ytnhhgadihmlabaa
open Go.X
/- math/bits.Mul -/
def an63 : An := (.seq (.rg (.ops 2 .done)) (.seq (.cond (.seq (.rg (.ops 10 .done)) (.seq (.rg (.ops 6 .done)) .leaf)) .leaf) (.seq (.rg (.ops 8 .done)) (.seq (.rg (.ops 4 .done)) .leaf))))
def F63 (n : Int) (n1 : Int) (w : World) (K : Value → World → Prop) (KP : List PanicEntry → World → Prop) : Prop :=
  if false = true then (XCP Try.prog 73 [(.int .u32 (IntKind.wrap .u32 n)), (.int .u32 (IntKind.wrap .u32 n1))] w (fun v w0 => ∃ (n2 : Int) (n3 : Int), v = (.tuple #[(.int .u32 n2), (.int .u32 n3)]) ∧ K (.tuple #[(.int .u64 (IntKind.wrap .u64 n2)), (.int .u64 (IntKind.wrap .u64 n3))]) w0) KP) else (XCP Try.prog 74 [(.int .u64 n), (.int .u64 n1)] w (fun v1 w1 => ∃ (n4 : Int) (n5 : Int), v1 = (.tuple #[(.int .u64 n4), (.int .u64 n5)]) ∧ K (.tuple #[(.int .u64 n4), (.int .u64 n5)]) w1) KP)
theorem F63_eq (n : Int) (n1 : Int) (w : World) (K : Value → World → Prop) (KP : List PanicEntry → World → Prop) : F63 n n1 w K KP = xfn Try.prog tab an63 Try.f63 [(.int .u64 n), (.int .u64 n1)] w K KP := by kernel_rfl
theorem E63 {n : Int} {n1 : Int} {w : World} {K : Value → World → Prop} {KP : List PanicEntry → World → Prop} (h : F63 n n1 w K KP) : XCP Try.prog 63 [(.int .u64 n), (.int .u64 n1)] w K KP :=
  xfunc tab_ok mixed Try.func63 an63 (by kernel_rfl) (by rw [← F63_eq]; exact h)

/- math/bits.Mul32 -/
def an73 : An := (.seq (.rg (.ops 2 .done)) (.seq (.rg (.ops 6 .done)) (.seq (.rg (.ops 7 .done)) .leaf)))
def F73 (n : Int) (n1 : Int) (w : World) (K : Value → World → Prop) (KP : List PanicEntry → World → Prop) : Prop :=
  (0 : Int) ≤ 32 ∧ K (.tuple #[(.int .u32 (IntKind.wrap .u32 (shiftI .shr .u64 (IntKind.wrap .u64 ((IntKind.wrap .u64 n) * (IntKind.wrap .u64 n1))) 32))), (.int .u32 (IntKind.wrap .u32 (IntKind.wrap .u64 ((IntKind.wrap .u64 n) * (IntKind.wrap .u64 n1)))))]) w
theorem F73_eq (n : Int) (n1 : Int) (w : World) (K : Value → World → Prop) (KP : List PanicEntry → World → Prop) : F73 n n1 w K KP = xfn Try.prog tab an73 Try.f73 [(.int .u32 n), (.int .u32 n1)] w K KP := by kernel_rfl
theorem E73 {n : Int} {n1 : Int} {w : World} {K : Value → World → Prop} {KP : List PanicEntry → World → Prop} (h : F73 n n1 w K KP) : XCP Try.prog 73 [(.int .u32 n), (.int .u32 n1)] w K KP :=
  xfunc tab_ok mixed Try.func73 an73 (by kernel_rfl) (by rw [← F73_eq]; exact h)

/- math/bits.Mul64 -/
def an74 : An := (.seq (.rg (.ops 2 .done)) (.seq (.rg (.ops 3 .done)) (.seq (.rg (.ops 3 .done)) (.seq (.rg (.ops 3 .done)) (.seq (.rg (.ops 3 .done)) (.seq (.rg (.ops 4 .done)) (.seq (.rg (.ops 7 .done)) (.seq (.rg (.ops 3 .done)) (.seq (.rg (.ops 3 .done)) (.seq (.rg (.ops 6 .done)) (.seq (.rg (.ops 9 .done)) (.seq (.rg (.ops 4 .done)) .leaf))))))))))))
def F74 (n : Int) (n1 : Int) (w : World) (K : Value → World → Prop) (KP : List PanicEntry → World → Prop) : Prop :=
  (0 : Int) ≤ 32 ∧ (0 : Int) ≤ 32 ∧ (0 : Int) ≤ 32 ∧ (0 : Int) ≤ 32 ∧ (0 : Int) ≤ 32 ∧ K (.tuple #[(.int .u64 (IntKind.wrap .u64 ((IntKind.wrap .u64 ((IntKind.wrap .u64 ((shiftI .shr .u64 n 32) * (shiftI .shr .u64 n1 32))) + (shiftI .shr .u64 (IntKind.wrap .u64 ((IntKind.wrap .u64 ((shiftI .shr .u64 n 32) * (bitsI .and .u64 n1 4294967295))) + (shiftI .shr .u64 (IntKind.wrap .u64 ((bitsI .and .u64 n 4294967295) * (bitsI .and .u64 n1 4294967295))) 32))) 32))) + (shiftI .shr .u64 (IntKind.wrap .u64 ((bitsI .and .u64 (IntKind.wrap .u64 ((IntKind.wrap .u64 ((shiftI .shr .u64 n 32) * (bitsI .and .u64 n1 4294967295))) + (shiftI .shr .u64 (IntKind.wrap .u64 ((bitsI .and .u64 n 4294967295) * (bitsI .and .u64 n1 4294967295))) 32))) 4294967295) + (IntKind.wrap .u64 ((bitsI .and .u64 n 4294967295) * (shiftI .shr .u64 n1 32))))) 32)))), (.int .u64 (IntKind.wrap .u64 (n * n1)))]) w
theorem F74_eq (n : Int) (n1 : Int) (w : World) (K : Value → World → Prop) (KP : List PanicEntry → World → Prop) : F74 n n1 w K KP = xfn Try.prog tab an74 Try.f74 [(.int .u64 n), (.int .u64 n1)] w K KP := by kernel_rfl
theorem E74 {n : Int} {n1 : Int} {w : World} {K : Value → World → Prop} {KP : List PanicEntry → World → Prop} (h : F74 n n1 w K KP) : XCP Try.prog 74 [(.int .u64 n), (.int .u64 n1)] w K KP :=
  xfunc tab_ok mixed Try.func74 an74 (by kernel_rfl) (by rw [← F74_eq]; exact h)

end Go.Proofs.Ytnhhgadihmlabaa
