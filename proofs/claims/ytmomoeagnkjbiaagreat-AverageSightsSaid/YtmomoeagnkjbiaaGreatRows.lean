/-
  No cell of these rows narrows 'for every input' (looked for: loops, veiled, ifaces, maps, wideKeys, modest, calm, conditions, laid).
  DERIVED. THE GIVEN ROWS OF THIS SEAT. 4 by the template 'for every input the law returns true; each argument reads behind the call as it read before'; 0 by the template 'total and deterministic' (their statements: YtmomoeagnkjbiaaGreatTotals.lean).
  GIVEN WITH THE SEED: the statements are not yours to turn. If you find one false, say at which input.
  Laid BY PROGRAM, IN A SANDBOX (cutbox-rows.mjs): the forced cells as the released guide's own fill.sh prints them over the translation 75a0bf58629a70c2… (all of the seat's roots in one cut). By AI agents, Wed Nov 11 2026. No macro, syntax, notation, axiom, sorry.
-/
import Derived.Test.YtmomoeagnkjbiaaGreatChecked
import GoSem.Claim
import GoSem.ClaimJoined
import GoSem.ClaimMapViews
import Derived.JoinedTies
import Derived.KernelRfl
namespace Go.Proofs.YtmomoeagnkjbiaaGreat
/- THE CELL 'sum', in the pinned program and in every row, IS THE sha256 OF THE DUMP (.gsa) THAT YtmomoeagnkjbiaaGreatProg.lean LOADS. Nothing in Lean hashes anything: it is a label: what it is worth is what the hold of that sum in a sandbox is worth. -/
noncomputable def Tryz.pinned : Pinned := { name := "ytmomoeagnkjbiaagreat", sum := "75a0bf58629a70c254044daf0ca1758babbe641e12cf4950c9d8b6ea512f9413", checked := Tryz.checked }
namespace Rows
def none {H : Type} : Left H := { results := [], args := [] }

/-- 'almucantarlaw23.AverageSlopes': WHATEVER THE INPUT: true; the input reads as it did. -/
def averageSlopesSpec : ChangeSpec := { name := "averageSlopes", fn := fun _ => fun
  | [d1, d2] => { results := [.lit (.bool true)], args := [d1, d2] }
  | _ => none }
def averageSlopesRow : OpenClaim := { program := "ytmomoeagnkjbiaagreat", sum := "75a0bf58629a70c254044daf0ca1758babbe641e12cf4950c9d8b6ea512f9413", func := "almucantar/almucantarlaw23.AverageSlopes", spec := "averageSlopes", inPlace := ["math/bits.Add64", "math/bits.Sub64"], unfollowed := true, recurses := true, named := ["math/bits.divideError", "math/bits.overflowError"], apart := false }
def AverageSlopesSaid : Prop := averageSlopesRow.holds Tryz.pinned (OpenSpec.ofChange averageSlopesSpec)

/-- ITS FALSE NEIGHBOUR: 'it returns false'. Refute it at one input. -/
def averageSlopesWrong : ChangeSpec := { name := "averageSlopes", fn := fun _ => fun
  | [d1, d2] => { results := [.lit (.bool false)], args := [d1, d2] }
  | _ => none }
def AverageSlopesWrongFalsely : Prop := averageSlopesRow.holds Tryz.pinned (OpenSpec.ofChange averageSlopesWrong)

/-- 'almucantarlaw23.AverageRates': WHATEVER THE INPUT: true; the input reads as it did. -/
def averageRatesSpec : ChangeSpec := { name := "averageRates", fn := fun _ => fun
  | [d1, d2, d3, d4] => { results := [.lit (.bool true)], args := [d1, d2, d3, d4] }
  | _ => none }
def averageRatesRow : OpenClaim := { program := "ytmomoeagnkjbiaagreat", sum := "75a0bf58629a70c254044daf0ca1758babbe641e12cf4950c9d8b6ea512f9413", func := "almucantar/almucantarlaw23.AverageRates", spec := "averageRates", inPlace := ["math/bits.Add64", "math/bits.Sub64"], unfollowed := true, recurses := true, named := ["math/bits.divideError", "math/bits.overflowError"], apart := false }
def AverageRatesSaid : Prop := averageRatesRow.holds Tryz.pinned (OpenSpec.ofChange averageRatesSpec)

/-- ITS FALSE NEIGHBOUR: 'it returns false'. Refute it at one input. -/
def averageRatesWrong : ChangeSpec := { name := "averageRates", fn := fun _ => fun
  | [d1, d2, d3, d4] => { results := [.lit (.bool false)], args := [d1, d2, d3, d4] }
  | _ => none }
def AverageRatesWrongFalsely : Prop := averageRatesRow.holds Tryz.pinned (OpenSpec.ofChange averageRatesWrong)

/-- 'almucantarlaw23.AverageLines': WHATEVER THE INPUT: true; the input reads as it did. -/
def averageLinesSpec : ChangeSpec := { name := "averageLines", fn := fun _ => fun
  | [d1, d2, d3] => { results := [.lit (.bool true)], args := [d1, d2, d3] }
  | _ => none }
def averageLinesRow : OpenClaim := { program := "ytmomoeagnkjbiaagreat", sum := "75a0bf58629a70c254044daf0ca1758babbe641e12cf4950c9d8b6ea512f9413", func := "almucantar/almucantarlaw23.AverageLines", spec := "averageLines", inPlace := ["math/bits.Add64", "math/bits.Sub64"], unfollowed := true, recurses := true, named := ["math/bits.divideError", "math/bits.overflowError"], apart := false }
def AverageLinesSaid : Prop := averageLinesRow.holds Tryz.pinned (OpenSpec.ofChange averageLinesSpec)

/-- ITS FALSE NEIGHBOUR: 'it returns false'. Refute it at one input. -/
def averageLinesWrong : ChangeSpec := { name := "averageLines", fn := fun _ => fun
  | [d1, d2, d3] => { results := [.lit (.bool false)], args := [d1, d2, d3] }
  | _ => none }
def AverageLinesWrongFalsely : Prop := averageLinesRow.holds Tryz.pinned (OpenSpec.ofChange averageLinesWrong)

/-- 'almucantarlaw23.AverageSights': WHATEVER THE INPUT: true; the input reads as it did. -/
def averageSightsSpec : ChangeSpec := { name := "averageSights", fn := fun _ => fun
  | [d1, d2, d3] => { results := [.lit (.bool true)], args := [d1, d2, d3] }
  | _ => none }
def averageSightsRow : OpenClaim := { program := "ytmomoeagnkjbiaagreat", sum := "75a0bf58629a70c254044daf0ca1758babbe641e12cf4950c9d8b6ea512f9413", func := "almucantar/almucantarlaw23.AverageSights", spec := "averageSights", inPlace := ["math/bits.Add64", "math/bits.Sub64"], unfollowed := true, recurses := true, named := ["math/bits.divideError", "math/bits.overflowError"], apart := false }
def AverageSightsSaid : Prop := averageSightsRow.holds Tryz.pinned (OpenSpec.ofChange averageSightsSpec)

/-- ITS FALSE NEIGHBOUR: 'it returns false'. Refute it at one input. -/
def averageSightsWrong : ChangeSpec := { name := "averageSights", fn := fun _ => fun
  | [d1, d2, d3] => { results := [.lit (.bool false)], args := [d1, d2, d3] }
  | _ => none }
def AverageSightsWrongFalsely : Prop := averageSightsRow.holds Tryz.pinned (OpenSpec.ofChange averageSightsWrong)

/- THE SECOND FORM. 'bulk': how many values and letters a reading holds, each counted each time it is reached (what is shared counts as often as it is met; a slice's spare places count too). A statement '..UptoSaid' is the law's where the arguments, and the package variables that the reading takes, are together of bulk at most 1048576: NARROWER than '..Said'. Prove '..Said' where nothing that the law and all that it calls make is longer than what came in: it says more and counts as full. Else prove '..UptoSaid'. A law counts once. -/
mutual
def uptoBulk {H : Type} : DataW H → Nat
  | .lit (.string bytes) => bytes.length + 1
  | .lit _ => 1
  | .nil => 1
  | .ptr d => uptoBulk d + 1
  | .slice elems spare => uptoBulkAll elems + uptoBulkAll spare + 1
  | .agg parts => uptoBulkAll parts + 1
  | .iface _ d => uptoBulk d + 1
  | .map entries => uptoBulkEntries entries + 1
  | .held _ => 1
def uptoBulkAll {H : Type} : List (DataW H) → Nat
  | [] => 0
  | d :: r => uptoBulk d + uptoBulkAll r
def uptoBulkEntries {H : Type} : List (Lit × DataW H) → Nat
  | [] => 0
  | x :: r => uptoBulkEntry x + uptoBulkEntries r
def uptoBulkEntry {H : Type} : Lit × DataW H → Nat
  | (.string bytes, d) => bytes.length + uptoBulk d + 1
  | (_, d) => uptoBulk d + 1
 end
def uptoSmall : (H : Type) → List (DataW H) → Bool := fun _ ds => decide (uptoBulkAll ds ≤ 1048576)
def OpenSpec.upto (s : _root_.Go.ChangeSpec) : _root_.Go.OpenSpec := { _root_.Go.OpenSpec.ofChange s with cond := some uptoSmall }

/-- 'almucantarlaw23.AverageSlopes', WHERE WHAT IT READS IS OF BULK AT MOST 1048576: true; the input reads as it did. -/
def averageSlopesUptoRow : OpenClaim := { program := "ytmomoeagnkjbiaagreat", sum := "75a0bf58629a70c254044daf0ca1758babbe641e12cf4950c9d8b6ea512f9413", func := "almucantar/almucantarlaw23.AverageSlopes", spec := "averageSlopes", inPlace := ["math/bits.Add64", "math/bits.Sub64"], unfollowed := true, recurses := true, named := ["math/bits.divideError", "math/bits.overflowError"], apart := false, narrowed := true }
def AverageSlopesUptoSaid : Prop := averageSlopesUptoRow.holds Tryz.pinned (OpenSpec.upto averageSlopesSpec)

/-- 'almucantarlaw23.AverageRates', WHERE WHAT IT READS IS OF BULK AT MOST 1048576: true; the input reads as it did. -/
def averageRatesUptoRow : OpenClaim := { program := "ytmomoeagnkjbiaagreat", sum := "75a0bf58629a70c254044daf0ca1758babbe641e12cf4950c9d8b6ea512f9413", func := "almucantar/almucantarlaw23.AverageRates", spec := "averageRates", inPlace := ["math/bits.Add64", "math/bits.Sub64"], unfollowed := true, recurses := true, named := ["math/bits.divideError", "math/bits.overflowError"], apart := false, narrowed := true }
def AverageRatesUptoSaid : Prop := averageRatesUptoRow.holds Tryz.pinned (OpenSpec.upto averageRatesSpec)

/-- 'almucantarlaw23.AverageLines', WHERE WHAT IT READS IS OF BULK AT MOST 1048576: true; the input reads as it did. -/
def averageLinesUptoRow : OpenClaim := { program := "ytmomoeagnkjbiaagreat", sum := "75a0bf58629a70c254044daf0ca1758babbe641e12cf4950c9d8b6ea512f9413", func := "almucantar/almucantarlaw23.AverageLines", spec := "averageLines", inPlace := ["math/bits.Add64", "math/bits.Sub64"], unfollowed := true, recurses := true, named := ["math/bits.divideError", "math/bits.overflowError"], apart := false, narrowed := true }
def AverageLinesUptoSaid : Prop := averageLinesUptoRow.holds Tryz.pinned (OpenSpec.upto averageLinesSpec)

/-- 'almucantarlaw23.AverageSights', WHERE WHAT IT READS IS OF BULK AT MOST 1048576: true; the input reads as it did. -/
def averageSightsUptoRow : OpenClaim := { program := "ytmomoeagnkjbiaagreat", sum := "75a0bf58629a70c254044daf0ca1758babbe641e12cf4950c9d8b6ea512f9413", func := "almucantar/almucantarlaw23.AverageSights", spec := "averageSights", inPlace := ["math/bits.Add64", "math/bits.Sub64"], unfollowed := true, recurses := true, named := ["math/bits.divideError", "math/bits.overflowError"], apart := false, narrowed := true }
def AverageSightsUptoSaid : Prop := averageSightsUptoRow.holds Tryz.pinned (OpenSpec.upto averageSightsSpec)

end Rows
end Go.Proofs.YtmomoeagnkjbiaaGreat
