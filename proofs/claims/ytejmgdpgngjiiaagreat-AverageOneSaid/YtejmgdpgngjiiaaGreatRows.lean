/-
  No cell of these rows narrows 'for every input' (looked for: loops, veiled, ifaces, maps, wideKeys, modest, calm, conditions, laid).
  DERIVED. THE GIVEN ROWS OF THIS SEAT. 9 by the template 'for every input the law returns true; each argument reads behind the call as it read before'; 0 by the template 'total and deterministic' (their statements: YtejmgdpgngjiiaaGreatTotals.lean).
  GIVEN WITH THE SEED: the statements are not yours to turn. If you find one false, say at which input.
  Laid BY PROGRAM, IN A SANDBOX (cutbox-rows.mjs): the forced cells as the released guide's own fill.sh prints them over the translation 5ee24e3e18bd3d7b… (all of the seat's roots in one cut). By AI agents, Wed Nov 11 2026. No macro, syntax, notation, axiom, sorry.
-/
import Derived.Test.YtejmgdpgngjiiaaGreatChecked
import GoSem.Claim
import GoSem.ClaimJoined
import GoSem.ClaimMapViews
import Derived.JoinedTies
import Derived.KernelRfl
namespace Go.Proofs.YtejmgdpgngjiiaaGreat
/- THE CELL 'sum', in the pinned program and in every row, IS THE sha256 OF THE DUMP (.gsa) THAT YtejmgdpgngjiiaaGreatProg.lean LOADS. Nothing in Lean hashes anything: it is a label: what it is worth is what the hold of that sum in a sandbox is worth. -/
noncomputable def Tryz.pinned : Pinned := { name := "ytejmgdpgngjiiaagreat", sum := "5ee24e3e18bd3d7bd493acc5e0001ddfb359e5582ee335d76bae359be4093111", checked := Tryz.checked }
namespace Rows
def none {H : Type} : Left H := { results := [], args := [] }

/-- 'almucantarlaw23.AverageRejects': WHATEVER THE INPUT: true; the input reads as it did. -/
def averageRejectsSpec : ChangeSpec := { name := "averageRejects", fn := fun _ => fun
  | [d1, d2] => { results := [.lit (.bool true)], args := [d1, d2] }
  | _ => none }
def averageRejectsRow : OpenClaim := { program := "ytejmgdpgngjiiaagreat", sum := "5ee24e3e18bd3d7bd493acc5e0001ddfb359e5582ee335d76bae359be4093111", func := "almucantar/almucantarlaw23.AverageRejects", spec := "averageRejects", inPlace := ["math/bits.Add64", "math/bits.Sub64"], unfollowed := true, recurses := true, named := ["math/bits.divideError", "math/bits.overflowError"], apart := false }
def AverageRejectsSaid : Prop := averageRejectsRow.holds Tryz.pinned (OpenSpec.ofChange averageRejectsSpec)

/-- ITS FALSE NEIGHBOUR: 'it returns false'. Refute it at one input. -/
def averageRejectsWrong : ChangeSpec := { name := "averageRejects", fn := fun _ => fun
  | [d1, d2] => { results := [.lit (.bool false)], args := [d1, d2] }
  | _ => none }
def AverageRejectsWrongFalsely : Prop := averageRejectsRow.holds Tryz.pinned (OpenSpec.ofChange averageRejectsWrong)

/-- 'almucantarlaw23.AverageSlopes': WHATEVER THE INPUT: true; the input reads as it did. -/
def averageSlopesSpec : ChangeSpec := { name := "averageSlopes", fn := fun _ => fun
  | [d1, d2] => { results := [.lit (.bool true)], args := [d1, d2] }
  | _ => none }
def averageSlopesRow : OpenClaim := { program := "ytejmgdpgngjiiaagreat", sum := "5ee24e3e18bd3d7bd493acc5e0001ddfb359e5582ee335d76bae359be4093111", func := "almucantar/almucantarlaw23.AverageSlopes", spec := "averageSlopes", inPlace := ["math/bits.Add64", "math/bits.Sub64"], unfollowed := true, recurses := true, named := ["math/bits.divideError", "math/bits.overflowError"], apart := false }
def AverageSlopesSaid : Prop := averageSlopesRow.holds Tryz.pinned (OpenSpec.ofChange averageSlopesSpec)

/-- ITS FALSE NEIGHBOUR: 'it returns false'. Refute it at one input. -/
def averageSlopesWrong : ChangeSpec := { name := "averageSlopes", fn := fun _ => fun
  | [d1, d2] => { results := [.lit (.bool false)], args := [d1, d2] }
  | _ => none }
def AverageSlopesWrongFalsely : Prop := averageSlopesRow.holds Tryz.pinned (OpenSpec.ofChange averageSlopesWrong)

/-- 'almucantarlaw23.AverageRates': WHATEVER THE INPUT: true; the input reads as it did. -/
def averageRatesSpec : ChangeSpec := { name := "averageRates", fn := fun _ => fun
  | [d1, d2, d3, d4] => { results := [.lit (.bool true)], args := [d1, d2, d3, d4] }
  | _ => none }
def averageRatesRow : OpenClaim := { program := "ytejmgdpgngjiiaagreat", sum := "5ee24e3e18bd3d7bd493acc5e0001ddfb359e5582ee335d76bae359be4093111", func := "almucantar/almucantarlaw23.AverageRates", spec := "averageRates", inPlace := ["math/bits.Add64", "math/bits.Sub64"], unfollowed := true, recurses := true, named := ["math/bits.divideError", "math/bits.overflowError"], apart := false }
def AverageRatesSaid : Prop := averageRatesRow.holds Tryz.pinned (OpenSpec.ofChange averageRatesSpec)

/-- ITS FALSE NEIGHBOUR: 'it returns false'. Refute it at one input. -/
def averageRatesWrong : ChangeSpec := { name := "averageRates", fn := fun _ => fun
  | [d1, d2, d3, d4] => { results := [.lit (.bool false)], args := [d1, d2, d3, d4] }
  | _ => none }
def AverageRatesWrongFalsely : Prop := averageRatesRow.holds Tryz.pinned (OpenSpec.ofChange averageRatesWrong)

/-- 'almucantarlaw23.AverageKeeps': WHATEVER THE INPUT: true; the input reads as it did. -/
def averageKeepsSpec : ChangeSpec := { name := "averageKeeps", fn := fun _ => fun
  | [d1, d2, d3, d4] => { results := [.lit (.bool true)], args := [d1, d2, d3, d4] }
  | _ => none }
def averageKeepsRow : OpenClaim := { program := "ytejmgdpgngjiiaagreat", sum := "5ee24e3e18bd3d7bd493acc5e0001ddfb359e5582ee335d76bae359be4093111", func := "almucantar/almucantarlaw23.AverageKeeps", spec := "averageKeeps", inPlace := ["math/bits.Add64", "math/bits.Sub64"], unfollowed := true, recurses := true, named := ["math/bits.divideError", "math/bits.overflowError"], apart := false }
def AverageKeepsSaid : Prop := averageKeepsRow.holds Tryz.pinned (OpenSpec.ofChange averageKeepsSpec)

/-- ITS FALSE NEIGHBOUR: 'it returns false'. Refute it at one input. -/
def averageKeepsWrong : ChangeSpec := { name := "averageKeeps", fn := fun _ => fun
  | [d1, d2, d3, d4] => { results := [.lit (.bool false)], args := [d1, d2, d3, d4] }
  | _ => none }
def AverageKeepsWrongFalsely : Prop := averageKeepsRow.holds Tryz.pinned (OpenSpec.ofChange averageKeepsWrong)

/-- 'almucantarlaw23.AverageLines': WHATEVER THE INPUT: true; the input reads as it did. -/
def averageLinesSpec : ChangeSpec := { name := "averageLines", fn := fun _ => fun
  | [d1, d2, d3] => { results := [.lit (.bool true)], args := [d1, d2, d3] }
  | _ => none }
def averageLinesRow : OpenClaim := { program := "ytejmgdpgngjiiaagreat", sum := "5ee24e3e18bd3d7bd493acc5e0001ddfb359e5582ee335d76bae359be4093111", func := "almucantar/almucantarlaw23.AverageLines", spec := "averageLines", inPlace := ["math/bits.Add64", "math/bits.Sub64"], unfollowed := true, recurses := true, named := ["math/bits.divideError", "math/bits.overflowError"], apart := false }
def AverageLinesSaid : Prop := averageLinesRow.holds Tryz.pinned (OpenSpec.ofChange averageLinesSpec)

/-- ITS FALSE NEIGHBOUR: 'it returns false'. Refute it at one input. -/
def averageLinesWrong : ChangeSpec := { name := "averageLines", fn := fun _ => fun
  | [d1, d2, d3] => { results := [.lit (.bool false)], args := [d1, d2, d3] }
  | _ => none }
def AverageLinesWrongFalsely : Prop := averageLinesRow.holds Tryz.pinned (OpenSpec.ofChange averageLinesWrong)

/-- 'almucantarlaw23.AverageStraight': WHATEVER THE INPUT: true; the input reads as it did. -/
def averageStraightSpec : ChangeSpec := { name := "averageStraight", fn := fun _ => fun
  | [d1, d2, d3] => { results := [.lit (.bool true)], args := [d1, d2, d3] }
  | _ => none }
def averageStraightRow : OpenClaim := { program := "ytejmgdpgngjiiaagreat", sum := "5ee24e3e18bd3d7bd493acc5e0001ddfb359e5582ee335d76bae359be4093111", func := "almucantar/almucantarlaw23.AverageStraight", spec := "averageStraight", inPlace := ["math/bits.Add64", "math/bits.Sub64"], unfollowed := true, recurses := true, named := ["math/bits.divideError", "math/bits.overflowError"], apart := false }
def AverageStraightSaid : Prop := averageStraightRow.holds Tryz.pinned (OpenSpec.ofChange averageStraightSpec)

/-- ITS FALSE NEIGHBOUR: 'it returns false'. Refute it at one input. -/
def averageStraightWrong : ChangeSpec := { name := "averageStraight", fn := fun _ => fun
  | [d1, d2, d3] => { results := [.lit (.bool false)], args := [d1, d2, d3] }
  | _ => none }
def AverageStraightWrongFalsely : Prop := averageStraightRow.holds Tryz.pinned (OpenSpec.ofChange averageStraightWrong)

/-- 'almucantarlaw23.AverageSights': WHATEVER THE INPUT: true; the input reads as it did. -/
def averageSightsSpec : ChangeSpec := { name := "averageSights", fn := fun _ => fun
  | [d1, d2, d3] => { results := [.lit (.bool true)], args := [d1, d2, d3] }
  | _ => none }
def averageSightsRow : OpenClaim := { program := "ytejmgdpgngjiiaagreat", sum := "5ee24e3e18bd3d7bd493acc5e0001ddfb359e5582ee335d76bae359be4093111", func := "almucantar/almucantarlaw23.AverageSights", spec := "averageSights", inPlace := ["math/bits.Add64", "math/bits.Sub64"], unfollowed := true, recurses := true, named := ["math/bits.divideError", "math/bits.overflowError"], apart := false }
def AverageSightsSaid : Prop := averageSightsRow.holds Tryz.pinned (OpenSpec.ofChange averageSightsSpec)

/-- ITS FALSE NEIGHBOUR: 'it returns false'. Refute it at one input. -/
def averageSightsWrong : ChangeSpec := { name := "averageSights", fn := fun _ => fun
  | [d1, d2, d3] => { results := [.lit (.bool false)], args := [d1, d2, d3] }
  | _ => none }
def AverageSightsWrongFalsely : Prop := averageSightsRow.holds Tryz.pinned (OpenSpec.ofChange averageSightsWrong)

/-- 'almucantarlaw23.AverageSound': WHATEVER THE INPUT: true; the input reads as it did. -/
def averageSoundSpec : ChangeSpec := { name := "averageSound", fn := fun _ => fun
  | [d1, d2, d3, d4, d5] => { results := [.lit (.bool true)], args := [d1, d2, d3, d4, d5] }
  | _ => none }
def averageSoundRow : OpenClaim := { program := "ytejmgdpgngjiiaagreat", sum := "5ee24e3e18bd3d7bd493acc5e0001ddfb359e5582ee335d76bae359be4093111", func := "almucantar/almucantarlaw23.AverageSound", spec := "averageSound", inPlace := ["math/bits.Add64", "math/bits.Sub64"], unfollowed := true, recurses := true, named := ["math/bits.divideError", "math/bits.overflowError"], apart := false }
def AverageSoundSaid : Prop := averageSoundRow.holds Tryz.pinned (OpenSpec.ofChange averageSoundSpec)

/-- ITS FALSE NEIGHBOUR: 'it returns false'. Refute it at one input. -/
def averageSoundWrong : ChangeSpec := { name := "averageSound", fn := fun _ => fun
  | [d1, d2, d3, d4, d5] => { results := [.lit (.bool false)], args := [d1, d2, d3, d4, d5] }
  | _ => none }
def AverageSoundWrongFalsely : Prop := averageSoundRow.holds Tryz.pinned (OpenSpec.ofChange averageSoundWrong)

/-- 'almucantarlaw23.AverageOne': WHATEVER THE INPUT: true; the input reads as it did. -/
def averageOneSpec : ChangeSpec := { name := "averageOne", fn := fun _ => fun
  | [d1, d2, d3] => { results := [.lit (.bool true)], args := [d1, d2, d3] }
  | _ => none }
def averageOneRow : OpenClaim := { program := "ytejmgdpgngjiiaagreat", sum := "5ee24e3e18bd3d7bd493acc5e0001ddfb359e5582ee335d76bae359be4093111", func := "almucantar/almucantarlaw23.AverageOne", spec := "averageOne", inPlace := ["math/bits.Add64", "math/bits.Sub64"], unfollowed := true, recurses := true, named := ["math/bits.divideError", "math/bits.overflowError"], apart := false }
def AverageOneSaid : Prop := averageOneRow.holds Tryz.pinned (OpenSpec.ofChange averageOneSpec)

/-- ITS FALSE NEIGHBOUR: 'it returns false'. Refute it at one input. -/
def averageOneWrong : ChangeSpec := { name := "averageOne", fn := fun _ => fun
  | [d1, d2, d3] => { results := [.lit (.bool false)], args := [d1, d2, d3] }
  | _ => none }
def AverageOneWrongFalsely : Prop := averageOneRow.holds Tryz.pinned (OpenSpec.ofChange averageOneWrong)

/- THE SECOND FORM. 'bulk': how many values and letters a reading holds, each counted each time it is reached (what is shared counts as often as it is met; a slice's spare places count too). A statement '..UptoSaid' is the law's where the arguments, and the package variables that the reading takes, are together of bulk at most 1048576: NARROWER than '..Said'. Prove '..Said' where nothing that the law and all that it calls make is longer than what came in: it says more and counts as full. Else prove '..UptoSaid'. A law counts once. -/
mutual
def uptoBulk {H : Type} : DataW H → Nat
  | .lit (.string bytes) => bytes.length + 1
  | .lit _ => 1
  | .nil => 1
  | .ptr d => uptoBulk d + 1
  | .slice elems spare => uptoBulkAll elems + uptoBulkAll spare + 1
  | .agg parts => uptoBulkAll parts + 1
  | .iface _ d => uptoBulk d + 1
  | .map entries => uptoBulkEntries entries + 1
  | .held _ => 1
def uptoBulkAll {H : Type} : List (DataW H) → Nat
  | [] => 0
  | d :: r => uptoBulk d + uptoBulkAll r
def uptoBulkEntries {H : Type} : List (Lit × DataW H) → Nat
  | [] => 0
  | x :: r => uptoBulkEntry x + uptoBulkEntries r
def uptoBulkEntry {H : Type} : Lit × DataW H → Nat
  | (.string bytes, d) => bytes.length + uptoBulk d + 1
  | (_, d) => uptoBulk d + 1
 end
def uptoSmall : (H : Type) → List (DataW H) → Bool := fun _ ds => decide (uptoBulkAll ds ≤ 1048576)
def OpenSpec.upto (s : _root_.Go.ChangeSpec) : _root_.Go.OpenSpec := { _root_.Go.OpenSpec.ofChange s with cond := some uptoSmall }

/-- 'almucantarlaw23.AverageRejects', WHERE WHAT IT READS IS OF BULK AT MOST 1048576: true; the input reads as it did. -/
def averageRejectsUptoRow : OpenClaim := { program := "ytejmgdpgngjiiaagreat", sum := "5ee24e3e18bd3d7bd493acc5e0001ddfb359e5582ee335d76bae359be4093111", func := "almucantar/almucantarlaw23.AverageRejects", spec := "averageRejects", inPlace := ["math/bits.Add64", "math/bits.Sub64"], unfollowed := true, recurses := true, named := ["math/bits.divideError", "math/bits.overflowError"], apart := false, narrowed := true }
def AverageRejectsUptoSaid : Prop := averageRejectsUptoRow.holds Tryz.pinned (OpenSpec.upto averageRejectsSpec)

/-- 'almucantarlaw23.AverageSlopes', WHERE WHAT IT READS IS OF BULK AT MOST 1048576: true; the input reads as it did. -/
def averageSlopesUptoRow : OpenClaim := { program := "ytejmgdpgngjiiaagreat", sum := "5ee24e3e18bd3d7bd493acc5e0001ddfb359e5582ee335d76bae359be4093111", func := "almucantar/almucantarlaw23.AverageSlopes", spec := "averageSlopes", inPlace := ["math/bits.Add64", "math/bits.Sub64"], unfollowed := true, recurses := true, named := ["math/bits.divideError", "math/bits.overflowError"], apart := false, narrowed := true }
def AverageSlopesUptoSaid : Prop := averageSlopesUptoRow.holds Tryz.pinned (OpenSpec.upto averageSlopesSpec)

/-- 'almucantarlaw23.AverageRates', WHERE WHAT IT READS IS OF BULK AT MOST 1048576: true; the input reads as it did. -/
def averageRatesUptoRow : OpenClaim := { program := "ytejmgdpgngjiiaagreat", sum := "5ee24e3e18bd3d7bd493acc5e0001ddfb359e5582ee335d76bae359be4093111", func := "almucantar/almucantarlaw23.AverageRates", spec := "averageRates", inPlace := ["math/bits.Add64", "math/bits.Sub64"], unfollowed := true, recurses := true, named := ["math/bits.divideError", "math/bits.overflowError"], apart := false, narrowed := true }
def AverageRatesUptoSaid : Prop := averageRatesUptoRow.holds Tryz.pinned (OpenSpec.upto averageRatesSpec)

/-- 'almucantarlaw23.AverageKeeps', WHERE WHAT IT READS IS OF BULK AT MOST 1048576: true; the input reads as it did. -/
def averageKeepsUptoRow : OpenClaim := { program := "ytejmgdpgngjiiaagreat", sum := "5ee24e3e18bd3d7bd493acc5e0001ddfb359e5582ee335d76bae359be4093111", func := "almucantar/almucantarlaw23.AverageKeeps", spec := "averageKeeps", inPlace := ["math/bits.Add64", "math/bits.Sub64"], unfollowed := true, recurses := true, named := ["math/bits.divideError", "math/bits.overflowError"], apart := false, narrowed := true }
def AverageKeepsUptoSaid : Prop := averageKeepsUptoRow.holds Tryz.pinned (OpenSpec.upto averageKeepsSpec)

/-- 'almucantarlaw23.AverageLines', WHERE WHAT IT READS IS OF BULK AT MOST 1048576: true; the input reads as it did. -/
def averageLinesUptoRow : OpenClaim := { program := "ytejmgdpgngjiiaagreat", sum := "5ee24e3e18bd3d7bd493acc5e0001ddfb359e5582ee335d76bae359be4093111", func := "almucantar/almucantarlaw23.AverageLines", spec := "averageLines", inPlace := ["math/bits.Add64", "math/bits.Sub64"], unfollowed := true, recurses := true, named := ["math/bits.divideError", "math/bits.overflowError"], apart := false, narrowed := true }
def AverageLinesUptoSaid : Prop := averageLinesUptoRow.holds Tryz.pinned (OpenSpec.upto averageLinesSpec)

/-- 'almucantarlaw23.AverageStraight', WHERE WHAT IT READS IS OF BULK AT MOST 1048576: true; the input reads as it did. -/
def averageStraightUptoRow : OpenClaim := { program := "ytejmgdpgngjiiaagreat", sum := "5ee24e3e18bd3d7bd493acc5e0001ddfb359e5582ee335d76bae359be4093111", func := "almucantar/almucantarlaw23.AverageStraight", spec := "averageStraight", inPlace := ["math/bits.Add64", "math/bits.Sub64"], unfollowed := true, recurses := true, named := ["math/bits.divideError", "math/bits.overflowError"], apart := false, narrowed := true }
def AverageStraightUptoSaid : Prop := averageStraightUptoRow.holds Tryz.pinned (OpenSpec.upto averageStraightSpec)

/-- 'almucantarlaw23.AverageSights', WHERE WHAT IT READS IS OF BULK AT MOST 1048576: true; the input reads as it did. -/
def averageSightsUptoRow : OpenClaim := { program := "ytejmgdpgngjiiaagreat", sum := "5ee24e3e18bd3d7bd493acc5e0001ddfb359e5582ee335d76bae359be4093111", func := "almucantar/almucantarlaw23.AverageSights", spec := "averageSights", inPlace := ["math/bits.Add64", "math/bits.Sub64"], unfollowed := true, recurses := true, named := ["math/bits.divideError", "math/bits.overflowError"], apart := false, narrowed := true }
def AverageSightsUptoSaid : Prop := averageSightsUptoRow.holds Tryz.pinned (OpenSpec.upto averageSightsSpec)

/-- 'almucantarlaw23.AverageSound', WHERE WHAT IT READS IS OF BULK AT MOST 1048576: true; the input reads as it did. -/
def averageSoundUptoRow : OpenClaim := { program := "ytejmgdpgngjiiaagreat", sum := "5ee24e3e18bd3d7bd493acc5e0001ddfb359e5582ee335d76bae359be4093111", func := "almucantar/almucantarlaw23.AverageSound", spec := "averageSound", inPlace := ["math/bits.Add64", "math/bits.Sub64"], unfollowed := true, recurses := true, named := ["math/bits.divideError", "math/bits.overflowError"], apart := false, narrowed := true }
def AverageSoundUptoSaid : Prop := averageSoundUptoRow.holds Tryz.pinned (OpenSpec.upto averageSoundSpec)

/-- 'almucantarlaw23.AverageOne', WHERE WHAT IT READS IS OF BULK AT MOST 1048576: true; the input reads as it did. -/
def averageOneUptoRow : OpenClaim := { program := "ytejmgdpgngjiiaagreat", sum := "5ee24e3e18bd3d7bd493acc5e0001ddfb359e5582ee335d76bae359be4093111", func := "almucantar/almucantarlaw23.AverageOne", spec := "averageOne", inPlace := ["math/bits.Add64", "math/bits.Sub64"], unfollowed := true, recurses := true, named := ["math/bits.divideError", "math/bits.overflowError"], apart := false, narrowed := true }
def AverageOneUptoSaid : Prop := averageOneUptoRow.holds Tryz.pinned (OpenSpec.upto averageOneSpec)

end Rows
end Go.Proofs.YtejmgdpgngjiiaaGreat
