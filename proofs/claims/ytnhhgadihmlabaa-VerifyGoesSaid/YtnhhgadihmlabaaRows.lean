/-
  No cell of these rows narrows 'for every input' (looked for: loops, veiled, ifaces, maps, wideKeys, modest, calm, conditions, laid).
  DERIVED. THE GIVEN ROWS OF THIS SEAT. 6 by the template 'for every input the law returns true; each argument reads behind the call as it read before'; 0 by the template 'total and deterministic' (their statements: YtnhhgadihmlabaaTotals.lean).
  GIVEN WITH THE SEED: the statements are not yours to turn. If you find one false, say at which input.
  Laid BY PROGRAM, IN A SANDBOX (cutbox-rows.mjs): the forced cells as the released guide's own fill.sh prints them over the translation 71fce0b837aa1f0a… (all of the seat's roots in one cut). By AI agents, Wed Nov 11 2026. No macro, syntax, notation, axiom, sorry.
-/
import Derived.Test.YtnhhgadihmlabaaChecked
import GoSem.Claim
import GoSem.ClaimJoined
import GoSem.ClaimMapViews
import Derived.JoinedTies
import Derived.KernelRfl
namespace Go.Proofs.Ytnhhgadihmlabaa
/- THE CELL 'sum', in the pinned program and in every row, IS THE sha256 OF THE DUMP (.gsa) THAT YtnhhgadihmlabaaProg.lean LOADS. Nothing in Lean hashes anything: it is a label: what it is worth is what the hold of that sum in a sandbox is worth. -/
noncomputable def Try.pinned : Pinned := { name := "ytnhhgadihmlabaa", sum := "71fce0b837aa1f0accd46241a6482081fa52099746063dedcf88cddc5749a7b3", checked := Try.checked }
namespace Rows
def none {H : Type} : Left H := { results := [], args := [] }

/-- 'warplaw07.VerifyChecks': WHATEVER THE INPUT: true; the input reads as it did. -/
def verifyChecksSpec : ChangeSpec := { name := "verifyChecks", fn := fun _ => fun
  | [d] => { results := [.lit (.bool true)], args := [d] }
  | _ => none }
def verifyChecksRow : OpenClaim := { program := "ytnhhgadihmlabaa", sum := "71fce0b837aa1f0accd46241a6482081fa52099746063dedcf88cddc5749a7b3", func := "warp/warplaw07.VerifyChecks", spec := "verifyChecks", unfollowed := true, recurses := true, apart := false }
def VerifyChecksSaid : Prop := verifyChecksRow.holds Try.pinned (OpenSpec.ofChange verifyChecksSpec)

/-- ITS FALSE NEIGHBOUR: 'it returns false'. Refute it at one input. -/
def verifyChecksWrong : ChangeSpec := { name := "verifyChecks", fn := fun _ => fun
  | [d] => { results := [.lit (.bool false)], args := [d] }
  | _ => none }
def VerifyChecksWrongFalsely : Prop := verifyChecksRow.holds Try.pinned (OpenSpec.ofChange verifyChecksWrong)

/-- 'warplaw07.VerifyDepths': WHATEVER THE INPUT: true; the input reads as it did. -/
def verifyDepthsSpec : ChangeSpec := { name := "verifyDepths", fn := fun _ => fun
  | [d1, d2] => { results := [.lit (.bool true)], args := [d1, d2] }
  | _ => none }
def verifyDepthsRow : OpenClaim := { program := "ytnhhgadihmlabaa", sum := "71fce0b837aa1f0accd46241a6482081fa52099746063dedcf88cddc5749a7b3", func := "warp/warplaw07.VerifyDepths", spec := "verifyDepths", unfollowed := true, recurses := true, apart := false }
def VerifyDepthsSaid : Prop := verifyDepthsRow.holds Try.pinned (OpenSpec.ofChange verifyDepthsSpec)

/-- ITS FALSE NEIGHBOUR: 'it returns false'. Refute it at one input. -/
def verifyDepthsWrong : ChangeSpec := { name := "verifyDepths", fn := fun _ => fun
  | [d1, d2] => { results := [.lit (.bool false)], args := [d1, d2] }
  | _ => none }
def VerifyDepthsWrongFalsely : Prop := verifyDepthsRow.holds Try.pinned (OpenSpec.ofChange verifyDepthsWrong)

/-- 'warplaw07.VerifyCodes': WHATEVER THE INPUT: true; the input reads as it did. -/
def verifyCodesSpec : ChangeSpec := { name := "verifyCodes", fn := fun _ => fun
  | [d1, d2] => { results := [.lit (.bool true)], args := [d1, d2] }
  | _ => none }
def verifyCodesRow : OpenClaim := { program := "ytnhhgadihmlabaa", sum := "71fce0b837aa1f0accd46241a6482081fa52099746063dedcf88cddc5749a7b3", func := "warp/warplaw07.VerifyCodes", spec := "verifyCodes", unfollowed := true, recurses := true, apart := false }
def VerifyCodesSaid : Prop := verifyCodesRow.holds Try.pinned (OpenSpec.ofChange verifyCodesSpec)

/-- ITS FALSE NEIGHBOUR: 'it returns false'. Refute it at one input. -/
def verifyCodesWrong : ChangeSpec := { name := "verifyCodes", fn := fun _ => fun
  | [d1, d2] => { results := [.lit (.bool false)], args := [d1, d2] }
  | _ => none }
def VerifyCodesWrongFalsely : Prop := verifyCodesRow.holds Try.pinned (OpenSpec.ofChange verifyCodesWrong)

/-- 'warplaw07.VerifyTwo': WHATEVER THE INPUT: true; the input reads as it did. -/
def verifyTwoSpec : ChangeSpec := { name := "verifyTwo", fn := fun _ => fun
  | [d1, d2] => { results := [.lit (.bool true)], args := [d1, d2] }
  | _ => none }
def verifyTwoRow : OpenClaim := { program := "ytnhhgadihmlabaa", sum := "71fce0b837aa1f0accd46241a6482081fa52099746063dedcf88cddc5749a7b3", func := "warp/warplaw07.VerifyTwo", spec := "verifyTwo", unfollowed := true, recurses := true, apart := false }
def VerifyTwoSaid : Prop := verifyTwoRow.holds Try.pinned (OpenSpec.ofChange verifyTwoSpec)

/-- ITS FALSE NEIGHBOUR: 'it returns false'. Refute it at one input. -/
def verifyTwoWrong : ChangeSpec := { name := "verifyTwo", fn := fun _ => fun
  | [d1, d2] => { results := [.lit (.bool false)], args := [d1, d2] }
  | _ => none }
def VerifyTwoWrongFalsely : Prop := verifyTwoRow.holds Try.pinned (OpenSpec.ofChange verifyTwoWrong)

/-- 'warplaw07.VerifyEffects': WHATEVER THE INPUT: true; the input reads as it did. -/
def verifyEffectsSpec : ChangeSpec := { name := "verifyEffects", fn := fun _ => fun
  | [d] => { results := [.lit (.bool true)], args := [d] }
  | _ => none }
def verifyEffectsRow : OpenClaim := { program := "ytnhhgadihmlabaa", sum := "71fce0b837aa1f0accd46241a6482081fa52099746063dedcf88cddc5749a7b3", func := "warp/warplaw07.VerifyEffects", spec := "verifyEffects", unfollowed := true, recurses := true, apart := false }
def VerifyEffectsSaid : Prop := verifyEffectsRow.holds Try.pinned (OpenSpec.ofChange verifyEffectsSpec)

/-- ITS FALSE NEIGHBOUR: 'it returns false'. Refute it at one input. -/
def verifyEffectsWrong : ChangeSpec := { name := "verifyEffects", fn := fun _ => fun
  | [d] => { results := [.lit (.bool false)], args := [d] }
  | _ => none }
def VerifyEffectsWrongFalsely : Prop := verifyEffectsRow.holds Try.pinned (OpenSpec.ofChange verifyEffectsWrong)

/-- 'warplaw07.VerifyGoes': WHATEVER THE INPUT: true; the input reads as it did. -/
def verifyGoesSpec : ChangeSpec := { name := "verifyGoes", fn := fun _ => fun
  | [d1, d2, d3] => { results := [.lit (.bool true)], args := [d1, d2, d3] }
  | _ => none }
def verifyGoesRow : OpenClaim := { program := "ytnhhgadihmlabaa", sum := "71fce0b837aa1f0accd46241a6482081fa52099746063dedcf88cddc5749a7b3", func := "warp/warplaw07.VerifyGoes", spec := "verifyGoes", unfollowed := true, recurses := true, apart := false }
def VerifyGoesSaid : Prop := verifyGoesRow.holds Try.pinned (OpenSpec.ofChange verifyGoesSpec)

/-- ITS FALSE NEIGHBOUR: 'it returns false'. Refute it at one input. -/
def verifyGoesWrong : ChangeSpec := { name := "verifyGoes", fn := fun _ => fun
  | [d1, d2, d3] => { results := [.lit (.bool false)], args := [d1, d2, d3] }
  | _ => none }
def VerifyGoesWrongFalsely : Prop := verifyGoesRow.holds Try.pinned (OpenSpec.ofChange verifyGoesWrong)

/- THE SECOND FORM. 'bulk': how many values and letters a reading holds, each counted each time it is reached (what is shared counts as often as it is met; a slice's spare places count too). A statement '..UptoSaid' is the law's where the arguments, and the package variables that the reading takes, are together of bulk at most 1048576: NARROWER than '..Said'. Prove '..Said' where nothing that the law and all that it calls make is longer than what came in: it says more and counts as full. Else prove '..UptoSaid'. A law counts once. -/
mutual
def uptoBulk {H : Type} : DataW H → Nat
  | .lit (.string bytes) => bytes.length + 1
  | .lit _ => 1
  | .nil => 1
  | .ptr d => uptoBulk d + 1
  | .slice elems spare => uptoBulkAll elems + uptoBulkAll spare + 1
  | .agg parts => uptoBulkAll parts + 1
  | .iface _ d => uptoBulk d + 1
  | .map entries => uptoBulkEntries entries + 1
  | .held _ => 1
def uptoBulkAll {H : Type} : List (DataW H) → Nat
  | [] => 0
  | d :: r => uptoBulk d + uptoBulkAll r
def uptoBulkEntries {H : Type} : List (Lit × DataW H) → Nat
  | [] => 0
  | x :: r => uptoBulkEntry x + uptoBulkEntries r
def uptoBulkEntry {H : Type} : Lit × DataW H → Nat
  | (.string bytes, d) => bytes.length + uptoBulk d + 1
  | (_, d) => uptoBulk d + 1
 end
def uptoSmall : (H : Type) → List (DataW H) → Bool := fun _ ds => decide (uptoBulkAll ds ≤ 1048576)
def OpenSpec.upto (s : _root_.Go.ChangeSpec) : _root_.Go.OpenSpec := { _root_.Go.OpenSpec.ofChange s with cond := some uptoSmall }

/-- 'warplaw07.VerifyChecks', WHERE WHAT IT READS IS OF BULK AT MOST 1048576: true; the input reads as it did. -/
def verifyChecksUptoRow : OpenClaim := { program := "ytnhhgadihmlabaa", sum := "71fce0b837aa1f0accd46241a6482081fa52099746063dedcf88cddc5749a7b3", func := "warp/warplaw07.VerifyChecks", spec := "verifyChecks", unfollowed := true, recurses := true, apart := false, narrowed := true }
def VerifyChecksUptoSaid : Prop := verifyChecksUptoRow.holds Try.pinned (OpenSpec.upto verifyChecksSpec)

/-- 'warplaw07.VerifyDepths', WHERE WHAT IT READS IS OF BULK AT MOST 1048576: true; the input reads as it did. -/
def verifyDepthsUptoRow : OpenClaim := { program := "ytnhhgadihmlabaa", sum := "71fce0b837aa1f0accd46241a6482081fa52099746063dedcf88cddc5749a7b3", func := "warp/warplaw07.VerifyDepths", spec := "verifyDepths", unfollowed := true, recurses := true, apart := false, narrowed := true }
def VerifyDepthsUptoSaid : Prop := verifyDepthsUptoRow.holds Try.pinned (OpenSpec.upto verifyDepthsSpec)

/-- 'warplaw07.VerifyCodes', WHERE WHAT IT READS IS OF BULK AT MOST 1048576: true; the input reads as it did. -/
def verifyCodesUptoRow : OpenClaim := { program := "ytnhhgadihmlabaa", sum := "71fce0b837aa1f0accd46241a6482081fa52099746063dedcf88cddc5749a7b3", func := "warp/warplaw07.VerifyCodes", spec := "verifyCodes", unfollowed := true, recurses := true, apart := false, narrowed := true }
def VerifyCodesUptoSaid : Prop := verifyCodesUptoRow.holds Try.pinned (OpenSpec.upto verifyCodesSpec)

/-- 'warplaw07.VerifyTwo', WHERE WHAT IT READS IS OF BULK AT MOST 1048576: true; the input reads as it did. -/
def verifyTwoUptoRow : OpenClaim := { program := "ytnhhgadihmlabaa", sum := "71fce0b837aa1f0accd46241a6482081fa52099746063dedcf88cddc5749a7b3", func := "warp/warplaw07.VerifyTwo", spec := "verifyTwo", unfollowed := true, recurses := true, apart := false, narrowed := true }
def VerifyTwoUptoSaid : Prop := verifyTwoUptoRow.holds Try.pinned (OpenSpec.upto verifyTwoSpec)

/-- 'warplaw07.VerifyEffects', WHERE WHAT IT READS IS OF BULK AT MOST 1048576: true; the input reads as it did. -/
def verifyEffectsUptoRow : OpenClaim := { program := "ytnhhgadihmlabaa", sum := "71fce0b837aa1f0accd46241a6482081fa52099746063dedcf88cddc5749a7b3", func := "warp/warplaw07.VerifyEffects", spec := "verifyEffects", unfollowed := true, recurses := true, apart := false, narrowed := true }
def VerifyEffectsUptoSaid : Prop := verifyEffectsUptoRow.holds Try.pinned (OpenSpec.upto verifyEffectsSpec)

/-- 'warplaw07.VerifyGoes', WHERE WHAT IT READS IS OF BULK AT MOST 1048576: true; the input reads as it did. -/
def verifyGoesUptoRow : OpenClaim := { program := "ytnhhgadihmlabaa", sum := "71fce0b837aa1f0accd46241a6482081fa52099746063dedcf88cddc5749a7b3", func := "warp/warplaw07.VerifyGoes", spec := "verifyGoes", unfollowed := true, recurses := true, apart := false, narrowed := true }
def VerifyGoesUptoSaid : Prop := verifyGoesUptoRow.holds Try.pinned (OpenSpec.upto verifyGoesSpec)

end Rows
end Go.Proofs.Ytnhhgadihmlabaa
