/- The lex seat: what a start hands over: texts; what it lays. -/
import Derived.Test.YtfeaahclpnbklaaDoorZ11
import Derived.Test.YtfeaahclpnbklaaDoorXO
import Derived.Test.YtfeaahclpnbklaaDoorTie
import Derived.Test.YtfeaahclpnbklaaDoorCards
import Derived.LaidMore
import Derived.Lay
import Derived.SevenTiedAt
import Derived.Lib.LaidTab
import Derived.Stop.LaidErr
import Derived.Below
namespace Go.Proofs.YtfeaahclpnbklaaDoor
open Go.X Go.Lx Go.ChangeShapes Go.WideShapes Go.ChangeAt Go.RowKit Go.Deep Go.Joins
set_option linter.unusedVariables false
set_option linter.unusedSimpArgs false
theorem own : ownKnob Tryd.prog.godebug = none := by kernel_rfl
theorem laidOut : laidOutB Tryd.prog = true := by kernel_rfl
theorem undB : Tryd.prog.underlying 4 = some .bool := by kernel_rfl
abbrev laid : List (String × DataW Unit) := [("math/bits.deBruijn32tab", Rows.laid_math_bits_deBruijn32tab), ("math/bits.deBruijn64tab", Rows.laid_math_bits_deBruijn64tab), ("internal/strconv.uint64pow10", Rows.laid_internal_strconv_uint64pow10), ("strconv.ErrRange", Rows.laid_strconv_ErrRange), ("strconv.ErrSyntax", Rows.laid_strconv_ErrSyntax), ("unicode.White_Space", Rows.laid_unicode_White_Space), ("strings.asciiSpace", Rows.laid_strings_asciiSpace)]
theorem sp_tab : (Rows.laid_strings_asciiSpace : DataW Unit) = Lib.tabData .u8 Lib.asciiSpaceTab := by kernel_rfl
theorem pow_tab : (Rows.laid_internal_strconv_uint64pow10 : DataW Unit) = Lib.tabData .u64 Lib.pow10Tab := by kernel_rfl
theorem named_of {n : String} {d : DataW Unit} {r : List (String × DataW Unit)} {W : World} (h : laidMet Tryd.prog ((n, d) :: r) W) : ∃ g, Tryd.prog.globalNamed n = some g := by
  obtain ⟨ps, ⟨g', t', cs, fuel, p, q, hg', _⟩, _⟩ := h
  exact ⟨g', hg'⟩
theorem und112 : Tryd.prog.underlying 112 = some (.struct #[⟨ "s", 9, 0, false, "", "errors", 0⟩]) := by kernel_rfl
theorem und110 : Tryd.prog.underlying 110 = some (.pointer 112) := by kernel_rfl
/-- an error's type's name, as the given text has it -/
def nmOf (d : DataW Unit) : String := match d with | .iface nm _ => nm | _ => ""
def txOf (d : DataW Unit) : List UInt8 := match d with | .iface _ (.ptr (.agg [.lit (.string t)])) => t | _ => []
def eNm : String := nmOf Rows.laid_strconv_ErrRange
def eTx : List UInt8 := txOf Rows.laid_strconv_ErrRange
def fTx : List UInt8 := txOf Rows.laid_strconv_ErrSyntax
theorem eRow (u : TypeId) (hu : Tryd.prog.typeName? 3 u = some eNm) : u = 110 := by
  refine typeName_ptr_named (P := Tryd.prog) (nm := "errors.errorString") (tp := 110) ?_ ?_ ?_ u ?_
  · kernel_rfl
  · kernel_rfl
  · decide
  · exact hu.trans (congrArg some (by kernel_rfl))
theorem gl_of {W : World} (h : laidMetH Tryd.prog laid W) : Gl W := by
  rw [MakeChecks.laidMetH_plain _ _ _ (by kernel_rfl)] at h
  have h3 := h.tail.tail
  have h4 := h3.tail
  have h5 := h4.tail
  have h7 := h5.tail.tail
  have g3 : Tryd.prog.globalNamed "strconv.ErrRange" = some 3 := by kernel_rfl
  have g2 : Tryd.prog.globalNamed "strconv.ErrSyntax" = some 2 := by kernel_rfl
  have g4 : Tryd.prog.globalNamed "internal/strconv.uint64pow10" = some 4 := by kernel_rfl
  have g0 : Tryd.prog.globalNamed "strings.asciiSpace" = some 0 := by kernel_rfl
  rw [pow_tab] at h3
  rw [sp_tab] at h7
  obtain ⟨ms, hms⟩ := U60
  have hE : (Rows.laid_strconv_ErrRange : DataW Unit) = .iface eNm (.ptr (.agg [.lit (.string eTx)])) := rfl
  have hF : (Rows.laid_strconv_ErrSyntax : DataW Unit) = .iface eNm (.ptr (.agg [.lit (.string fTx)])) := rfl
  rw [hE] at h4
  rw [hF] at h5
  obtain ⟨a1, x1, hv1, -, -, -⟩ := laid_sentinel h4 g3 (by kernel_rfl) hms eRow und110 und112 rfl rfl prog9 (by kernel_rfl) (by kernel_rfl)
  obtain ⟨a2, x2, hv2, -, -, -⟩ := laid_sentinel h5 g2 (by kernel_rfl) hms eRow und110 und112 rfl rfl prog9 (by kernel_rfl) (by kernel_rfl)
  exact ⟨Lib.tabIs_of_head (t := 103) (e := 58) (n := 20) g4 (by kernel_rfl) (by kernel_rfl) (by kernel_rfl) (by kernel_rfl) (by kernel_rfl) h3, Lib.tabIs_of_head (t := 64) (e := 5) (n := 256) g0 (by kernel_rfl) (by kernel_rfl) (by kernel_rfl) (by kernel_rfl) (by kernel_rfl) h7,
    ⟨_, _, by simpa using World.var?_cell g2 hv2 0⟩, ⟨_, _, by simpa using World.var?_cell g3 hv1 0⟩⟩
/-- a call that hands back true and changes nothing that was there -/
theorem told {f : FuncId} {args : List Value} {w : World} (h : ∀ {K : Value → World → Prop}, (∀ w', Ex w w' → K (.bool true) w') → XCP Tryd.prog f args w K NP) :
    Calls Tryd.prog f args.toArray w fun e w' => e = .returned (.bool true) ∧ Below w.heap.size w w' := by
  have hc : XC Tryd.prog f args w fun v w' => v = .bool true ∧ ∀ D, Fr D w w' := h fun w' hf => ⟨rfl, hf⟩
  refine hc.calls.mono fun e w' he => ?_
  obtain ⟨v, rfl, hk, rfl, hf⟩ := he
  exact ⟨rfl, ⟨hk.os, hk.tape, hk.output, hk.size, fun k hk => (hf (fun _ => False)).at_ k hk (fun h => h)⟩⟩
end Go.Proofs.YtfeaahclpnbklaaDoor
