/-
  NARROWER THAN 'FOR EVERY INPUT', by the rows' own cells (each row's printed sentence says how): ClocksTicks: laid · ClocksOrders: laid · ClocksTexts: laid · ClocksJoins: laid · ClocksPlays: laid · ClocksMoves: laid · ClocksLeast: laid · ClocksMakes: laid · ClocksCopies: laid.
  DERIVED. THE GIVEN ROWS OF THIS SEAT. 9 by the template 'for every input the law returns true; each argument reads behind the call as it read before'; 0 by the template 'total and deterministic' (their statements: YtohcdbldphedkaaDoorTotals.lean).
  GIVEN WITH THE SEED: the statements are not yours to turn. If you find one false, say at which input.
  Laid BY PROGRAM, IN A SANDBOX (cutbox-rows.mjs): the forced cells as the released guide's own fill.sh prints them over the translation 1ddeda47de1f1053… (all of the seat's roots in one cut). By AI agents, Wed Nov 11 2026. No macro, syntax, notation, axiom, sorry.
-/
import Derived.Test.YtohcdbldphedkaaDoorChecked
import GoSem.Claim
import GoSem.ClaimJoined
import GoSem.ClaimMapViews
import Derived.JoinedTies
import Derived.KernelRfl
namespace Go.Proofs.YtohcdbldphedkaaDoor
/- THE CELL 'sum', in the pinned program and in every row, IS THE sha256 OF THE DUMP (.gsa) THAT YtohcdbldphedkaaDoorProg.lean LOADS. Nothing in Lean hashes anything: it is a label: what it is worth is what the hold of that sum in a sandbox is worth. -/
noncomputable def Tryd.pinned : Pinned := { name := "ytohcdbldphedkaadoor", sum := "1ddeda47de1f1053a9e33ee20268870af379728c73a8aea28213e7c952a700dc", checked := Tryd.checked }
namespace Rows
def none {H : Type} : Left H := { results := [], args := [] }

/- WHAT THE LISTED PACKAGE-LEVEL VARIABLES READ AS WHEN THE CALL BEGINS. Each datum BY PROGRAM (the guide's laid-datum.mjs) off the statement by which the dump's own 'gosem.cut.vars' lays the variable. In a bare row this is a premise. The card (YtohcdbldphedkaaDoorCards.lean) ties it to the program's text. -/
def laid_math_bits_deBruijn32tab {H : Type} : DataW H := .agg [.lit (.int .u8 0), .lit (.int .u8 1), .lit (.int .u8 28), .lit (.int .u8 2), .lit (.int .u8 29), .lit (.int .u8 14), .lit (.int .u8 24), .lit (.int .u8 3), .lit (.int .u8 30), .lit (.int .u8 22), .lit (.int .u8 20), .lit (.int .u8 15), .lit (.int .u8 25), .lit (.int .u8 17), .lit (.int .u8 4), .lit (.int .u8 8), .lit (.int .u8 31), .lit (.int .u8 27), .lit (.int .u8 13), .lit (.int .u8 23), .lit (.int .u8 21), .lit (.int .u8 19), .lit (.int .u8 16), .lit (.int .u8 7), .lit (.int .u8 26), .lit (.int .u8 12), .lit (.int .u8 18), .lit (.int .u8 6), .lit (.int .u8 11), .lit (.int .u8 5), .lit (.int .u8 10), .lit (.int .u8 9)]
def laid_math_bits_deBruijn64tab {H : Type} : DataW H := .agg [.lit (.int .u8 0), .lit (.int .u8 1), .lit (.int .u8 56), .lit (.int .u8 2), .lit (.int .u8 57), .lit (.int .u8 49), .lit (.int .u8 28), .lit (.int .u8 3), .lit (.int .u8 61), .lit (.int .u8 58), .lit (.int .u8 42), .lit (.int .u8 50), .lit (.int .u8 38), .lit (.int .u8 29), .lit (.int .u8 17), .lit (.int .u8 4), .lit (.int .u8 62), .lit (.int .u8 47), .lit (.int .u8 59), .lit (.int .u8 36), .lit (.int .u8 45), .lit (.int .u8 43), .lit (.int .u8 51), .lit (.int .u8 22), .lit (.int .u8 53), .lit (.int .u8 39), .lit (.int .u8 33), .lit (.int .u8 30), .lit (.int .u8 24), .lit (.int .u8 18), .lit (.int .u8 12), .lit (.int .u8 5), .lit (.int .u8 63), .lit (.int .u8 55), .lit (.int .u8 48), .lit (.int .u8 27), .lit (.int .u8 60), .lit (.int .u8 41), .lit (.int .u8 37), .lit (.int .u8 16), .lit (.int .u8 46), .lit (.int .u8 35), .lit (.int .u8 44), .lit (.int .u8 21), .lit (.int .u8 52), .lit (.int .u8 32), .lit (.int .u8 23), .lit (.int .u8 11), .lit (.int .u8 54), .lit (.int .u8 26), .lit (.int .u8 40), .lit (.int .u8 15), .lit (.int .u8 34), .lit (.int .u8 20), .lit (.int .u8 31), .lit (.int .u8 10), .lit (.int .u8 25), .lit (.int .u8 14), .lit (.int .u8 19), .lit (.int .u8 9), .lit (.int .u8 13), .lit (.int .u8 8), .lit (.int .u8 7), .lit (.int .u8 6)]
def laid_internal_strconv_uint64pow10 {H : Type} : DataW H := .agg [.lit (.int .u64 1), .lit (.int .u64 10), .lit (.int .u64 100), .lit (.int .u64 1000), .lit (.int .u64 10000), .lit (.int .u64 100000), .lit (.int .u64 1000000), .lit (.int .u64 10000000), .lit (.int .u64 100000000), .lit (.int .u64 1000000000), .lit (.int .u64 10000000000), .lit (.int .u64 100000000000), .lit (.int .u64 1000000000000), .lit (.int .u64 10000000000000), .lit (.int .u64 100000000000000), .lit (.int .u64 1000000000000000), .lit (.int .u64 10000000000000000), .lit (.int .u64 100000000000000000), .lit (.int .u64 1000000000000000000), .lit (.int .u64 10000000000000000000)]

/-- 'warplaw13.ClocksTicks': WHATEVER THE INPUT: true; the input reads as it did. -/
def clocksTicksSpec : ChangeSpec := { name := "clocksTicks", fn := fun _ => fun
  | [d1, d2] => { results := [.lit (.bool true)], args := [d1, d2] }
  | _ => none }
def clocksTicksRow : OpenClaim := { program := "ytohcdbldphedkaadoor", sum := "1ddeda47de1f1053a9e33ee20268870af379728c73a8aea28213e7c952a700dc", func := "warp/warplaw13.ClocksTicks", spec := "clocksTicks", inPlace := ["internal/abi.NoEscape", "internal/bytealg.MakeNoZero"], unfollowed := true, recurses := true, named := ["internal/strconv.uint64pow10", "math/bits.deBruijn32tab", "math/bits.deBruijn64tab"], apart := false, laid := [("math/bits.deBruijn32tab", laid_math_bits_deBruijn32tab), ("math/bits.deBruijn64tab", laid_math_bits_deBruijn64tab), ("internal/strconv.uint64pow10", laid_internal_strconv_uint64pow10)] }
def ClocksTicksSaid : Prop := clocksTicksRow.holds Tryd.pinned (OpenSpec.ofChange clocksTicksSpec)

/-- ITS FALSE NEIGHBOUR: 'it returns false'. Refute it at one input. -/
def clocksTicksWrong : ChangeSpec := { name := "clocksTicks", fn := fun _ => fun
  | [d1, d2] => { results := [.lit (.bool false)], args := [d1, d2] }
  | _ => none }
def ClocksTicksWrongFalsely : Prop := clocksTicksRow.holds Tryd.pinned (OpenSpec.ofChange clocksTicksWrong)

/-- 'warplaw13.ClocksOrders': WHATEVER THE INPUT: true; the input reads as it did. -/
def clocksOrdersSpec : ChangeSpec := { name := "clocksOrders", fn := fun _ => fun
  | [d1, d2] => { results := [.lit (.bool true)], args := [d1, d2] }
  | _ => none }
def clocksOrdersRow : OpenClaim := { program := "ytohcdbldphedkaadoor", sum := "1ddeda47de1f1053a9e33ee20268870af379728c73a8aea28213e7c952a700dc", func := "warp/warplaw13.ClocksOrders", spec := "clocksOrders", inPlace := ["internal/abi.NoEscape", "internal/bytealg.MakeNoZero"], unfollowed := true, recurses := true, named := ["internal/strconv.uint64pow10", "math/bits.deBruijn32tab", "math/bits.deBruijn64tab"], apart := false, laid := [("math/bits.deBruijn32tab", laid_math_bits_deBruijn32tab), ("math/bits.deBruijn64tab", laid_math_bits_deBruijn64tab), ("internal/strconv.uint64pow10", laid_internal_strconv_uint64pow10)] }
def ClocksOrdersSaid : Prop := clocksOrdersRow.holds Tryd.pinned (OpenSpec.ofChange clocksOrdersSpec)

/-- ITS FALSE NEIGHBOUR: 'it returns false'. Refute it at one input. -/
def clocksOrdersWrong : ChangeSpec := { name := "clocksOrders", fn := fun _ => fun
  | [d1, d2] => { results := [.lit (.bool false)], args := [d1, d2] }
  | _ => none }
def ClocksOrdersWrongFalsely : Prop := clocksOrdersRow.holds Tryd.pinned (OpenSpec.ofChange clocksOrdersWrong)

/-- 'warplaw13.ClocksTexts': WHATEVER THE INPUT: true; the input reads as it did. -/
def clocksTextsSpec : ChangeSpec := { name := "clocksTexts", fn := fun _ => fun
  | [d] => { results := [.lit (.bool true)], args := [d] }
  | _ => none }
def clocksTextsRow : OpenClaim := { program := "ytohcdbldphedkaadoor", sum := "1ddeda47de1f1053a9e33ee20268870af379728c73a8aea28213e7c952a700dc", func := "warp/warplaw13.ClocksTexts", spec := "clocksTexts", inPlace := ["internal/abi.NoEscape", "internal/bytealg.MakeNoZero"], unfollowed := true, recurses := true, named := ["internal/strconv.uint64pow10", "math/bits.deBruijn32tab", "math/bits.deBruijn64tab"], apart := false, laid := [("math/bits.deBruijn32tab", laid_math_bits_deBruijn32tab), ("math/bits.deBruijn64tab", laid_math_bits_deBruijn64tab), ("internal/strconv.uint64pow10", laid_internal_strconv_uint64pow10)] }
def ClocksTextsSaid : Prop := clocksTextsRow.holds Tryd.pinned (OpenSpec.ofChange clocksTextsSpec)

/-- ITS FALSE NEIGHBOUR: 'it returns false'. Refute it at one input. -/
def clocksTextsWrong : ChangeSpec := { name := "clocksTexts", fn := fun _ => fun
  | [d] => { results := [.lit (.bool false)], args := [d] }
  | _ => none }
def ClocksTextsWrongFalsely : Prop := clocksTextsRow.holds Tryd.pinned (OpenSpec.ofChange clocksTextsWrong)

/-- 'warplaw13.ClocksJoins': WHATEVER THE INPUT: true; the input reads as it did. -/
def clocksJoinsSpec : ChangeSpec := { name := "clocksJoins", fn := fun _ => fun
  | [d1, d2] => { results := [.lit (.bool true)], args := [d1, d2] }
  | _ => none }
def clocksJoinsRow : OpenClaim := { program := "ytohcdbldphedkaadoor", sum := "1ddeda47de1f1053a9e33ee20268870af379728c73a8aea28213e7c952a700dc", func := "warp/warplaw13.ClocksJoins", spec := "clocksJoins", inPlace := ["internal/abi.NoEscape", "internal/bytealg.MakeNoZero"], unfollowed := true, recurses := true, named := ["internal/strconv.uint64pow10", "math/bits.deBruijn32tab", "math/bits.deBruijn64tab"], apart := false, laid := [("math/bits.deBruijn32tab", laid_math_bits_deBruijn32tab), ("math/bits.deBruijn64tab", laid_math_bits_deBruijn64tab), ("internal/strconv.uint64pow10", laid_internal_strconv_uint64pow10)] }
def ClocksJoinsSaid : Prop := clocksJoinsRow.holds Tryd.pinned (OpenSpec.ofChange clocksJoinsSpec)

/-- ITS FALSE NEIGHBOUR: 'it returns false'. Refute it at one input. -/
def clocksJoinsWrong : ChangeSpec := { name := "clocksJoins", fn := fun _ => fun
  | [d1, d2] => { results := [.lit (.bool false)], args := [d1, d2] }
  | _ => none }
def ClocksJoinsWrongFalsely : Prop := clocksJoinsRow.holds Tryd.pinned (OpenSpec.ofChange clocksJoinsWrong)

/-- 'warplaw13.ClocksPlays': WHATEVER THE INPUT: true; the input reads as it did. -/
def clocksPlaysSpec : ChangeSpec := { name := "clocksPlays", fn := fun _ => fun
  | [d1, d2, d3] => { results := [.lit (.bool true)], args := [d1, d2, d3] }
  | _ => none }
def clocksPlaysRow : OpenClaim := { program := "ytohcdbldphedkaadoor", sum := "1ddeda47de1f1053a9e33ee20268870af379728c73a8aea28213e7c952a700dc", func := "warp/warplaw13.ClocksPlays", spec := "clocksPlays", inPlace := ["internal/abi.NoEscape", "internal/bytealg.MakeNoZero"], unfollowed := true, recurses := true, named := ["internal/strconv.uint64pow10", "math/bits.deBruijn32tab", "math/bits.deBruijn64tab"], apart := false, laid := [("math/bits.deBruijn32tab", laid_math_bits_deBruijn32tab), ("math/bits.deBruijn64tab", laid_math_bits_deBruijn64tab), ("internal/strconv.uint64pow10", laid_internal_strconv_uint64pow10)] }
def ClocksPlaysSaid : Prop := clocksPlaysRow.holds Tryd.pinned (OpenSpec.ofChange clocksPlaysSpec)

/-- ITS FALSE NEIGHBOUR: 'it returns false'. Refute it at one input. -/
def clocksPlaysWrong : ChangeSpec := { name := "clocksPlays", fn := fun _ => fun
  | [d1, d2, d3] => { results := [.lit (.bool false)], args := [d1, d2, d3] }
  | _ => none }
def ClocksPlaysWrongFalsely : Prop := clocksPlaysRow.holds Tryd.pinned (OpenSpec.ofChange clocksPlaysWrong)

/-- 'warplaw13.ClocksMoves': WHATEVER THE INPUT: true; the input reads as it did. -/
def clocksMovesSpec : ChangeSpec := { name := "clocksMoves", fn := fun _ => fun
  | [d1, d2] => { results := [.lit (.bool true)], args := [d1, d2] }
  | _ => none }
def clocksMovesRow : OpenClaim := { program := "ytohcdbldphedkaadoor", sum := "1ddeda47de1f1053a9e33ee20268870af379728c73a8aea28213e7c952a700dc", func := "warp/warplaw13.ClocksMoves", spec := "clocksMoves", inPlace := ["internal/abi.NoEscape", "internal/bytealg.MakeNoZero"], unfollowed := true, recurses := true, named := ["internal/strconv.uint64pow10", "math/bits.deBruijn32tab", "math/bits.deBruijn64tab"], apart := false, laid := [("math/bits.deBruijn32tab", laid_math_bits_deBruijn32tab), ("math/bits.deBruijn64tab", laid_math_bits_deBruijn64tab), ("internal/strconv.uint64pow10", laid_internal_strconv_uint64pow10)] }
def ClocksMovesSaid : Prop := clocksMovesRow.holds Tryd.pinned (OpenSpec.ofChange clocksMovesSpec)

/-- ITS FALSE NEIGHBOUR: 'it returns false'. Refute it at one input. -/
def clocksMovesWrong : ChangeSpec := { name := "clocksMoves", fn := fun _ => fun
  | [d1, d2] => { results := [.lit (.bool false)], args := [d1, d2] }
  | _ => none }
def ClocksMovesWrongFalsely : Prop := clocksMovesRow.holds Tryd.pinned (OpenSpec.ofChange clocksMovesWrong)

/-- 'warplaw13.ClocksLeast': WHATEVER THE INPUT: true; the input reads as it did. -/
def clocksLeastSpec : ChangeSpec := { name := "clocksLeast", fn := fun _ => fun
  | [d1, d2, d3, d4] => { results := [.lit (.bool true)], args := [d1, d2, d3, d4] }
  | _ => none }
def clocksLeastRow : OpenClaim := { program := "ytohcdbldphedkaadoor", sum := "1ddeda47de1f1053a9e33ee20268870af379728c73a8aea28213e7c952a700dc", func := "warp/warplaw13.ClocksLeast", spec := "clocksLeast", inPlace := ["internal/abi.NoEscape", "internal/bytealg.MakeNoZero"], unfollowed := true, recurses := true, named := ["internal/strconv.uint64pow10", "math/bits.deBruijn32tab", "math/bits.deBruijn64tab"], apart := false, laid := [("math/bits.deBruijn32tab", laid_math_bits_deBruijn32tab), ("math/bits.deBruijn64tab", laid_math_bits_deBruijn64tab), ("internal/strconv.uint64pow10", laid_internal_strconv_uint64pow10)] }
def ClocksLeastSaid : Prop := clocksLeastRow.holds Tryd.pinned (OpenSpec.ofChange clocksLeastSpec)

/-- ITS FALSE NEIGHBOUR: 'it returns false'. Refute it at one input. -/
def clocksLeastWrong : ChangeSpec := { name := "clocksLeast", fn := fun _ => fun
  | [d1, d2, d3, d4] => { results := [.lit (.bool false)], args := [d1, d2, d3, d4] }
  | _ => none }
def ClocksLeastWrongFalsely : Prop := clocksLeastRow.holds Tryd.pinned (OpenSpec.ofChange clocksLeastWrong)

/-- 'warplaw13.ClocksMakes': WHATEVER THE INPUT: true; the input reads as it did. -/
def clocksMakesSpec : ChangeSpec := { name := "clocksMakes", fn := fun _ => fun
  | [d1, d2] => { results := [.lit (.bool true)], args := [d1, d2] }
  | _ => none }
def clocksMakesRow : OpenClaim := { program := "ytohcdbldphedkaadoor", sum := "1ddeda47de1f1053a9e33ee20268870af379728c73a8aea28213e7c952a700dc", func := "warp/warplaw13.ClocksMakes", spec := "clocksMakes", inPlace := ["internal/abi.NoEscape", "internal/bytealg.MakeNoZero"], unfollowed := true, recurses := true, named := ["internal/strconv.uint64pow10", "math/bits.deBruijn32tab", "math/bits.deBruijn64tab"], apart := false, laid := [("math/bits.deBruijn32tab", laid_math_bits_deBruijn32tab), ("math/bits.deBruijn64tab", laid_math_bits_deBruijn64tab), ("internal/strconv.uint64pow10", laid_internal_strconv_uint64pow10)] }
def ClocksMakesSaid : Prop := clocksMakesRow.holds Tryd.pinned (OpenSpec.ofChange clocksMakesSpec)

/-- ITS FALSE NEIGHBOUR: 'it returns false'. Refute it at one input. -/
def clocksMakesWrong : ChangeSpec := { name := "clocksMakes", fn := fun _ => fun
  | [d1, d2] => { results := [.lit (.bool false)], args := [d1, d2] }
  | _ => none }
def ClocksMakesWrongFalsely : Prop := clocksMakesRow.holds Tryd.pinned (OpenSpec.ofChange clocksMakesWrong)

/-- 'warplaw13.ClocksCopies': WHATEVER THE INPUT: true; the input reads as it did. -/
def clocksCopiesSpec : ChangeSpec := { name := "clocksCopies", fn := fun _ => fun
  | [d1, d2, d3, d4] => { results := [.lit (.bool true)], args := [d1, d2, d3, d4] }
  | _ => none }
def clocksCopiesRow : OpenClaim := { program := "ytohcdbldphedkaadoor", sum := "1ddeda47de1f1053a9e33ee20268870af379728c73a8aea28213e7c952a700dc", func := "warp/warplaw13.ClocksCopies", spec := "clocksCopies", inPlace := ["internal/abi.NoEscape", "internal/bytealg.MakeNoZero"], unfollowed := true, recurses := true, named := ["internal/strconv.uint64pow10", "math/bits.deBruijn32tab", "math/bits.deBruijn64tab"], apart := false, laid := [("math/bits.deBruijn32tab", laid_math_bits_deBruijn32tab), ("math/bits.deBruijn64tab", laid_math_bits_deBruijn64tab), ("internal/strconv.uint64pow10", laid_internal_strconv_uint64pow10)] }
def ClocksCopiesSaid : Prop := clocksCopiesRow.holds Tryd.pinned (OpenSpec.ofChange clocksCopiesSpec)

/-- ITS FALSE NEIGHBOUR: 'it returns false'. Refute it at one input. -/
def clocksCopiesWrong : ChangeSpec := { name := "clocksCopies", fn := fun _ => fun
  | [d1, d2, d3, d4] => { results := [.lit (.bool false)], args := [d1, d2, d3, d4] }
  | _ => none }
def ClocksCopiesWrongFalsely : Prop := clocksCopiesRow.holds Tryd.pinned (OpenSpec.ofChange clocksCopiesWrong)

/- THE SECOND FORM. 'bulk': how many values and letters a reading holds, each counted each time it is reached (what is shared counts as often as it is met; a slice's spare places count too). A statement '..UptoSaid' is the law's where the arguments, and the package variables that the reading takes, are together of bulk at most 1048576: NARROWER than '..Said'. Prove '..Said' where nothing that the law and all that it calls make is longer than what came in: it says more and counts as full. Else prove '..UptoSaid'. A law counts once. -/
mutual
def uptoBulk {H : Type} : DataW H → Nat
  | .lit (.string bytes) => bytes.length + 1
  | .lit _ => 1
  | .nil => 1
  | .ptr d => uptoBulk d + 1
  | .slice elems spare => uptoBulkAll elems + uptoBulkAll spare + 1
  | .agg parts => uptoBulkAll parts + 1
  | .iface _ d => uptoBulk d + 1
  | .map entries => uptoBulkEntries entries + 1
  | .held _ => 1
def uptoBulkAll {H : Type} : List (DataW H) → Nat
  | [] => 0
  | d :: r => uptoBulk d + uptoBulkAll r
def uptoBulkEntries {H : Type} : List (Lit × DataW H) → Nat
  | [] => 0
  | x :: r => uptoBulkEntry x + uptoBulkEntries r
def uptoBulkEntry {H : Type} : Lit × DataW H → Nat
  | (.string bytes, d) => bytes.length + uptoBulk d + 1
  | (_, d) => uptoBulk d + 1
 end
def uptoSmall : (H : Type) → List (DataW H) → Bool := fun _ ds => decide (uptoBulkAll ds ≤ 1048576)
def OpenSpec.upto (s : _root_.Go.ChangeSpec) : _root_.Go.OpenSpec := { _root_.Go.OpenSpec.ofChange s with cond := some uptoSmall }

/-- 'warplaw13.ClocksTicks', WHERE WHAT IT READS IS OF BULK AT MOST 1048576: true; the input reads as it did. -/
def clocksTicksUptoRow : OpenClaim := { program := "ytohcdbldphedkaadoor", sum := "1ddeda47de1f1053a9e33ee20268870af379728c73a8aea28213e7c952a700dc", func := "warp/warplaw13.ClocksTicks", spec := "clocksTicks", inPlace := ["internal/abi.NoEscape", "internal/bytealg.MakeNoZero"], unfollowed := true, recurses := true, named := ["internal/strconv.uint64pow10", "math/bits.deBruijn32tab", "math/bits.deBruijn64tab"], apart := false, laid := [("math/bits.deBruijn32tab", laid_math_bits_deBruijn32tab), ("math/bits.deBruijn64tab", laid_math_bits_deBruijn64tab), ("internal/strconv.uint64pow10", laid_internal_strconv_uint64pow10)], narrowed := true }
def ClocksTicksUptoSaid : Prop := clocksTicksUptoRow.holds Tryd.pinned (OpenSpec.upto clocksTicksSpec)

/-- 'warplaw13.ClocksOrders', WHERE WHAT IT READS IS OF BULK AT MOST 1048576: true; the input reads as it did. -/
def clocksOrdersUptoRow : OpenClaim := { program := "ytohcdbldphedkaadoor", sum := "1ddeda47de1f1053a9e33ee20268870af379728c73a8aea28213e7c952a700dc", func := "warp/warplaw13.ClocksOrders", spec := "clocksOrders", inPlace := ["internal/abi.NoEscape", "internal/bytealg.MakeNoZero"], unfollowed := true, recurses := true, named := ["internal/strconv.uint64pow10", "math/bits.deBruijn32tab", "math/bits.deBruijn64tab"], apart := false, laid := [("math/bits.deBruijn32tab", laid_math_bits_deBruijn32tab), ("math/bits.deBruijn64tab", laid_math_bits_deBruijn64tab), ("internal/strconv.uint64pow10", laid_internal_strconv_uint64pow10)], narrowed := true }
def ClocksOrdersUptoSaid : Prop := clocksOrdersUptoRow.holds Tryd.pinned (OpenSpec.upto clocksOrdersSpec)

/-- 'warplaw13.ClocksTexts', WHERE WHAT IT READS IS OF BULK AT MOST 1048576: true; the input reads as it did. -/
def clocksTextsUptoRow : OpenClaim := { program := "ytohcdbldphedkaadoor", sum := "1ddeda47de1f1053a9e33ee20268870af379728c73a8aea28213e7c952a700dc", func := "warp/warplaw13.ClocksTexts", spec := "clocksTexts", inPlace := ["internal/abi.NoEscape", "internal/bytealg.MakeNoZero"], unfollowed := true, recurses := true, named := ["internal/strconv.uint64pow10", "math/bits.deBruijn32tab", "math/bits.deBruijn64tab"], apart := false, laid := [("math/bits.deBruijn32tab", laid_math_bits_deBruijn32tab), ("math/bits.deBruijn64tab", laid_math_bits_deBruijn64tab), ("internal/strconv.uint64pow10", laid_internal_strconv_uint64pow10)], narrowed := true }
def ClocksTextsUptoSaid : Prop := clocksTextsUptoRow.holds Tryd.pinned (OpenSpec.upto clocksTextsSpec)

/-- 'warplaw13.ClocksJoins', WHERE WHAT IT READS IS OF BULK AT MOST 1048576: true; the input reads as it did. -/
def clocksJoinsUptoRow : OpenClaim := { program := "ytohcdbldphedkaadoor", sum := "1ddeda47de1f1053a9e33ee20268870af379728c73a8aea28213e7c952a700dc", func := "warp/warplaw13.ClocksJoins", spec := "clocksJoins", inPlace := ["internal/abi.NoEscape", "internal/bytealg.MakeNoZero"], unfollowed := true, recurses := true, named := ["internal/strconv.uint64pow10", "math/bits.deBruijn32tab", "math/bits.deBruijn64tab"], apart := false, laid := [("math/bits.deBruijn32tab", laid_math_bits_deBruijn32tab), ("math/bits.deBruijn64tab", laid_math_bits_deBruijn64tab), ("internal/strconv.uint64pow10", laid_internal_strconv_uint64pow10)], narrowed := true }
def ClocksJoinsUptoSaid : Prop := clocksJoinsUptoRow.holds Tryd.pinned (OpenSpec.upto clocksJoinsSpec)

/-- 'warplaw13.ClocksPlays', WHERE WHAT IT READS IS OF BULK AT MOST 1048576: true; the input reads as it did. -/
def clocksPlaysUptoRow : OpenClaim := { program := "ytohcdbldphedkaadoor", sum := "1ddeda47de1f1053a9e33ee20268870af379728c73a8aea28213e7c952a700dc", func := "warp/warplaw13.ClocksPlays", spec := "clocksPlays", inPlace := ["internal/abi.NoEscape", "internal/bytealg.MakeNoZero"], unfollowed := true, recurses := true, named := ["internal/strconv.uint64pow10", "math/bits.deBruijn32tab", "math/bits.deBruijn64tab"], apart := false, laid := [("math/bits.deBruijn32tab", laid_math_bits_deBruijn32tab), ("math/bits.deBruijn64tab", laid_math_bits_deBruijn64tab), ("internal/strconv.uint64pow10", laid_internal_strconv_uint64pow10)], narrowed := true }
def ClocksPlaysUptoSaid : Prop := clocksPlaysUptoRow.holds Tryd.pinned (OpenSpec.upto clocksPlaysSpec)

/-- 'warplaw13.ClocksMoves', WHERE WHAT IT READS IS OF BULK AT MOST 1048576: true; the input reads as it did. -/
def clocksMovesUptoRow : OpenClaim := { program := "ytohcdbldphedkaadoor", sum := "1ddeda47de1f1053a9e33ee20268870af379728c73a8aea28213e7c952a700dc", func := "warp/warplaw13.ClocksMoves", spec := "clocksMoves", inPlace := ["internal/abi.NoEscape", "internal/bytealg.MakeNoZero"], unfollowed := true, recurses := true, named := ["internal/strconv.uint64pow10", "math/bits.deBruijn32tab", "math/bits.deBruijn64tab"], apart := false, laid := [("math/bits.deBruijn32tab", laid_math_bits_deBruijn32tab), ("math/bits.deBruijn64tab", laid_math_bits_deBruijn64tab), ("internal/strconv.uint64pow10", laid_internal_strconv_uint64pow10)], narrowed := true }
def ClocksMovesUptoSaid : Prop := clocksMovesUptoRow.holds Tryd.pinned (OpenSpec.upto clocksMovesSpec)

/-- 'warplaw13.ClocksLeast', WHERE WHAT IT READS IS OF BULK AT MOST 1048576: true; the input reads as it did. -/
def clocksLeastUptoRow : OpenClaim := { program := "ytohcdbldphedkaadoor", sum := "1ddeda47de1f1053a9e33ee20268870af379728c73a8aea28213e7c952a700dc", func := "warp/warplaw13.ClocksLeast", spec := "clocksLeast", inPlace := ["internal/abi.NoEscape", "internal/bytealg.MakeNoZero"], unfollowed := true, recurses := true, named := ["internal/strconv.uint64pow10", "math/bits.deBruijn32tab", "math/bits.deBruijn64tab"], apart := false, laid := [("math/bits.deBruijn32tab", laid_math_bits_deBruijn32tab), ("math/bits.deBruijn64tab", laid_math_bits_deBruijn64tab), ("internal/strconv.uint64pow10", laid_internal_strconv_uint64pow10)], narrowed := true }
def ClocksLeastUptoSaid : Prop := clocksLeastUptoRow.holds Tryd.pinned (OpenSpec.upto clocksLeastSpec)

/-- 'warplaw13.ClocksMakes', WHERE WHAT IT READS IS OF BULK AT MOST 1048576: true; the input reads as it did. -/
def clocksMakesUptoRow : OpenClaim := { program := "ytohcdbldphedkaadoor", sum := "1ddeda47de1f1053a9e33ee20268870af379728c73a8aea28213e7c952a700dc", func := "warp/warplaw13.ClocksMakes", spec := "clocksMakes", inPlace := ["internal/abi.NoEscape", "internal/bytealg.MakeNoZero"], unfollowed := true, recurses := true, named := ["internal/strconv.uint64pow10", "math/bits.deBruijn32tab", "math/bits.deBruijn64tab"], apart := false, laid := [("math/bits.deBruijn32tab", laid_math_bits_deBruijn32tab), ("math/bits.deBruijn64tab", laid_math_bits_deBruijn64tab), ("internal/strconv.uint64pow10", laid_internal_strconv_uint64pow10)], narrowed := true }
def ClocksMakesUptoSaid : Prop := clocksMakesUptoRow.holds Tryd.pinned (OpenSpec.upto clocksMakesSpec)

/-- 'warplaw13.ClocksCopies', WHERE WHAT IT READS IS OF BULK AT MOST 1048576: true; the input reads as it did. -/
def clocksCopiesUptoRow : OpenClaim := { program := "ytohcdbldphedkaadoor", sum := "1ddeda47de1f1053a9e33ee20268870af379728c73a8aea28213e7c952a700dc", func := "warp/warplaw13.ClocksCopies", spec := "clocksCopies", inPlace := ["internal/abi.NoEscape", "internal/bytealg.MakeNoZero"], unfollowed := true, recurses := true, named := ["internal/strconv.uint64pow10", "math/bits.deBruijn32tab", "math/bits.deBruijn64tab"], apart := false, laid := [("math/bits.deBruijn32tab", laid_math_bits_deBruijn32tab), ("math/bits.deBruijn64tab", laid_math_bits_deBruijn64tab), ("internal/strconv.uint64pow10", laid_internal_strconv_uint64pow10)], narrowed := true }
def ClocksCopiesUptoSaid : Prop := clocksCopiesUptoRow.holds Tryd.pinned (OpenSpec.upto clocksCopiesSpec)

end Rows
end Go.Proofs.YtohcdbldphedkaaDoor
