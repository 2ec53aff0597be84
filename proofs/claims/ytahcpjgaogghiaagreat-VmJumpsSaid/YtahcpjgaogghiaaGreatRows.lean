/-
  No cell of these rows narrows 'for every input' (looked for: loops, veiled, ifaces, maps, wideKeys, modest, calm, conditions, laid).
  DERIVED. THE GIVEN ROWS OF THIS SEAT. 5 by the template 'for every input the law returns true; each argument reads behind the call as it read before'; 0 by the template 'total and deterministic' (their statements: YtahcpjgaogghiaaGreatTotals.lean).
  GIVEN WITH THE SEED: the statements are not yours to turn. If you find one false, say at which input.
  Laid BY PROGRAM, IN A SANDBOX (cutbox-rows.mjs): the forced cells as the released guide's own fill.sh prints them over the translation 7e82c762c10f90a9… (all of the seat's roots in one cut). By AI agents, Wed Nov 11 2026. No macro, syntax, notation, axiom, sorry.
-/
import Derived.Test.YtahcpjgaogghiaaGreatChecked
import GoSem.Claim
import GoSem.ClaimJoined
import GoSem.ClaimMapViews
import Derived.JoinedTies
import Derived.KernelRfl
namespace Go.Proofs.YtahcpjgaogghiaaGreat
/- THE CELL 'sum', in the pinned program and in every row, IS THE sha256 OF THE DUMP (.gsa) THAT YtahcpjgaogghiaaGreatProg.lean LOADS. Nothing in Lean hashes anything: it is a label: what it is worth is what the hold of that sum in a sandbox is worth. -/
noncomputable def Tryz.pinned : Pinned := { name := "ytahcpjgaogghiaagreat", sum := "7e82c762c10f90a914450a0760f8c8b46929c929268891d0812d932b488f05f7", checked := Tryz.checked }
namespace Rows
def none {H : Type} : Left H := { results := [], args := [] }

/-- 'warplaw09.VmDo': WHATEVER THE INPUT: true; the input reads as it did. -/
def vmDoSpec : ChangeSpec := { name := "vmDo", fn := fun _ => fun
  | [d1, d2, d3] => { results := [.lit (.bool true)], args := [d1, d2, d3] }
  | _ => none }
def vmDoRow : OpenClaim := { program := "ytahcpjgaogghiaagreat", sum := "7e82c762c10f90a914450a0760f8c8b46929c929268891d0812d932b488f05f7", func := "warp/warplaw09.VmDo", spec := "vmDo", unfollowed := true, recurses := true, apart := false }
def VmDoSaid : Prop := vmDoRow.holds Tryz.pinned (OpenSpec.ofChange vmDoSpec)

/-- ITS FALSE NEIGHBOUR: 'it returns false'. Refute it at one input. -/
def vmDoWrong : ChangeSpec := { name := "vmDo", fn := fun _ => fun
  | [d1, d2, d3] => { results := [.lit (.bool false)], args := [d1, d2, d3] }
  | _ => none }
def VmDoWrongFalsely : Prop := vmDoRow.holds Tryz.pinned (OpenSpec.ofChange vmDoWrong)

/-- 'warplaw09.VmProg': WHATEVER THE INPUT: true; the input reads as it did. -/
def vmProgSpec : ChangeSpec := { name := "vmProg", fn := fun _ => fun
  | [d1, d2, d3] => { results := [.lit (.bool true)], args := [d1, d2, d3] }
  | _ => none }
def vmProgRow : OpenClaim := { program := "ytahcpjgaogghiaagreat", sum := "7e82c762c10f90a914450a0760f8c8b46929c929268891d0812d932b488f05f7", func := "warp/warplaw09.VmProg", spec := "vmProg", unfollowed := true, recurses := true, apart := false }
def VmProgSaid : Prop := vmProgRow.holds Tryz.pinned (OpenSpec.ofChange vmProgSpec)

/-- ITS FALSE NEIGHBOUR: 'it returns false'. Refute it at one input. -/
def vmProgWrong : ChangeSpec := { name := "vmProg", fn := fun _ => fun
  | [d1, d2, d3] => { results := [.lit (.bool false)], args := [d1, d2, d3] }
  | _ => none }
def VmProgWrongFalsely : Prop := vmProgRow.holds Tryz.pinned (OpenSpec.ofChange vmProgWrong)

/-- 'warplaw09.VmSums': WHATEVER THE INPUT: true; the input reads as it did. -/
def vmSumsSpec : ChangeSpec := { name := "vmSums", fn := fun _ => fun
  | [d1, d2, d3] => { results := [.lit (.bool true)], args := [d1, d2, d3] }
  | _ => none }
def vmSumsRow : OpenClaim := { program := "ytahcpjgaogghiaagreat", sum := "7e82c762c10f90a914450a0760f8c8b46929c929268891d0812d932b488f05f7", func := "warp/warplaw09.VmSums", spec := "vmSums", unfollowed := true, recurses := true, apart := false }
def VmSumsSaid : Prop := vmSumsRow.holds Tryz.pinned (OpenSpec.ofChange vmSumsSpec)

/-- ITS FALSE NEIGHBOUR: 'it returns false'. Refute it at one input. -/
def vmSumsWrong : ChangeSpec := { name := "vmSums", fn := fun _ => fun
  | [d1, d2, d3] => { results := [.lit (.bool false)], args := [d1, d2, d3] }
  | _ => none }
def VmSumsWrongFalsely : Prop := vmSumsRow.holds Tryz.pinned (OpenSpec.ofChange vmSumsWrong)

/-- 'warplaw09.VmJumps': WHATEVER THE INPUT: true; the input reads as it did. -/
def vmJumpsSpec : ChangeSpec := { name := "vmJumps", fn := fun _ => fun
  | [d1, d2, d3] => { results := [.lit (.bool true)], args := [d1, d2, d3] }
  | _ => none }
def vmJumpsRow : OpenClaim := { program := "ytahcpjgaogghiaagreat", sum := "7e82c762c10f90a914450a0760f8c8b46929c929268891d0812d932b488f05f7", func := "warp/warplaw09.VmJumps", spec := "vmJumps", unfollowed := true, recurses := true, apart := false }
def VmJumpsSaid : Prop := vmJumpsRow.holds Tryz.pinned (OpenSpec.ofChange vmJumpsSpec)

/-- ITS FALSE NEIGHBOUR: 'it returns false'. Refute it at one input. -/
def vmJumpsWrong : ChangeSpec := { name := "vmJumps", fn := fun _ => fun
  | [d1, d2, d3] => { results := [.lit (.bool false)], args := [d1, d2, d3] }
  | _ => none }
def VmJumpsWrongFalsely : Prop := vmJumpsRow.holds Tryz.pinned (OpenSpec.ofChange vmJumpsWrong)

/-- 'warplaw09.VmRuns': WHATEVER THE INPUT: true; the input reads as it did. -/
def vmRunsSpec : ChangeSpec := { name := "vmRuns", fn := fun _ => fun
  | [d1, d2] => { results := [.lit (.bool true)], args := [d1, d2] }
  | _ => none }
def vmRunsRow : OpenClaim := { program := "ytahcpjgaogghiaagreat", sum := "7e82c762c10f90a914450a0760f8c8b46929c929268891d0812d932b488f05f7", func := "warp/warplaw09.VmRuns", spec := "vmRuns", unfollowed := true, recurses := true, apart := false }
def VmRunsSaid : Prop := vmRunsRow.holds Tryz.pinned (OpenSpec.ofChange vmRunsSpec)

/-- ITS FALSE NEIGHBOUR: 'it returns false'. Refute it at one input. -/
def vmRunsWrong : ChangeSpec := { name := "vmRuns", fn := fun _ => fun
  | [d1, d2] => { results := [.lit (.bool false)], args := [d1, d2] }
  | _ => none }
def VmRunsWrongFalsely : Prop := vmRunsRow.holds Tryz.pinned (OpenSpec.ofChange vmRunsWrong)

/- THE SECOND FORM. 'bulk': how many values and letters a reading holds, each counted each time it is reached (what is shared counts as often as it is met; a slice's spare places count too). A statement '..UptoSaid' is the law's where the arguments, and the package variables that the reading takes, are together of bulk at most 1048576: NARROWER than '..Said'. Prove '..Said' where nothing that the law and all that it calls make is longer than what came in: it says more and counts as full. Else prove '..UptoSaid'. A law counts once. -/
mutual
def uptoBulk {H : Type} : DataW H → Nat
  | .lit (.string bytes) => bytes.length + 1
  | .lit _ => 1
  | .nil => 1
  | .ptr d => uptoBulk d + 1
  | .slice elems spare => uptoBulkAll elems + uptoBulkAll spare + 1
  | .agg parts => uptoBulkAll parts + 1
  | .iface _ d => uptoBulk d + 1
  | .map entries => uptoBulkEntries entries + 1
  | .held _ => 1
def uptoBulkAll {H : Type} : List (DataW H) → Nat
  | [] => 0
  | d :: r => uptoBulk d + uptoBulkAll r
def uptoBulkEntries {H : Type} : List (Lit × DataW H) → Nat
  | [] => 0
  | x :: r => uptoBulkEntry x + uptoBulkEntries r
def uptoBulkEntry {H : Type} : Lit × DataW H → Nat
  | (.string bytes, d) => bytes.length + uptoBulk d + 1
  | (_, d) => uptoBulk d + 1
 end
def uptoSmall : (H : Type) → List (DataW H) → Bool := fun _ ds => decide (uptoBulkAll ds ≤ 1048576)
def OpenSpec.upto (s : _root_.Go.ChangeSpec) : _root_.Go.OpenSpec := { _root_.Go.OpenSpec.ofChange s with cond := some uptoSmall }

/-- 'warplaw09.VmDo', WHERE WHAT IT READS IS OF BULK AT MOST 1048576: true; the input reads as it did. -/
def vmDoUptoRow : OpenClaim := { program := "ytahcpjgaogghiaagreat", sum := "7e82c762c10f90a914450a0760f8c8b46929c929268891d0812d932b488f05f7", func := "warp/warplaw09.VmDo", spec := "vmDo", unfollowed := true, recurses := true, apart := false, narrowed := true }
def VmDoUptoSaid : Prop := vmDoUptoRow.holds Tryz.pinned (OpenSpec.upto vmDoSpec)

/-- 'warplaw09.VmProg', WHERE WHAT IT READS IS OF BULK AT MOST 1048576: true; the input reads as it did. -/
def vmProgUptoRow : OpenClaim := { program := "ytahcpjgaogghiaagreat", sum := "7e82c762c10f90a914450a0760f8c8b46929c929268891d0812d932b488f05f7", func := "warp/warplaw09.VmProg", spec := "vmProg", unfollowed := true, recurses := true, apart := false, narrowed := true }
def VmProgUptoSaid : Prop := vmProgUptoRow.holds Tryz.pinned (OpenSpec.upto vmProgSpec)

/-- 'warplaw09.VmSums', WHERE WHAT IT READS IS OF BULK AT MOST 1048576: true; the input reads as it did. -/
def vmSumsUptoRow : OpenClaim := { program := "ytahcpjgaogghiaagreat", sum := "7e82c762c10f90a914450a0760f8c8b46929c929268891d0812d932b488f05f7", func := "warp/warplaw09.VmSums", spec := "vmSums", unfollowed := true, recurses := true, apart := false, narrowed := true }
def VmSumsUptoSaid : Prop := vmSumsUptoRow.holds Tryz.pinned (OpenSpec.upto vmSumsSpec)

/-- 'warplaw09.VmJumps', WHERE WHAT IT READS IS OF BULK AT MOST 1048576: true; the input reads as it did. -/
def vmJumpsUptoRow : OpenClaim := { program := "ytahcpjgaogghiaagreat", sum := "7e82c762c10f90a914450a0760f8c8b46929c929268891d0812d932b488f05f7", func := "warp/warplaw09.VmJumps", spec := "vmJumps", unfollowed := true, recurses := true, apart := false, narrowed := true }
def VmJumpsUptoSaid : Prop := vmJumpsUptoRow.holds Tryz.pinned (OpenSpec.upto vmJumpsSpec)

/-- 'warplaw09.VmRuns', WHERE WHAT IT READS IS OF BULK AT MOST 1048576: true; the input reads as it did. -/
def vmRunsUptoRow : OpenClaim := { program := "ytahcpjgaogghiaagreat", sum := "7e82c762c10f90a914450a0760f8c8b46929c929268891d0812d932b488f05f7", func := "warp/warplaw09.VmRuns", spec := "vmRuns", unfollowed := true, recurses := true, apart := false, narrowed := true }
def VmRunsUptoSaid : Prop := vmRunsUptoRow.holds Tryz.pinned (OpenSpec.upto vmRunsSpec)

end Rows
end Go.Proofs.YtahcpjgaogghiaaGreat
