/-
  No cell of these rows narrows 'for every input' (looked for: loops, veiled, ifaces, maps, wideKeys, modest, calm, conditions, laid).
  DERIVED. THE GIVEN ROWS OF THIS SEAT. 5 by the template 'for every input the law returns true; each argument reads behind the call as it read before'; 0 by the template 'total and deterministic' (their statements: YthjfadfebhjhbaaGreatTotals.lean).
  GIVEN WITH THE SEED: the statements are not yours to turn. If you find one false, say at which input.
  Laid BY PROGRAM, IN A SANDBOX (cutbox-rows.mjs): the forced cells as the released guide's own fill.sh prints them over the translation 9341f6abaec98f4d… (all of the seat's roots in one cut). By AI agents, Wed Nov 11 2026. No macro, syntax, notation, axiom, sorry.
-/
import Derived.Test.YthjfadfebhjhbaaGreatChecked
import GoSem.Claim
import GoSem.ClaimJoined
import GoSem.ClaimMapViews
import Derived.JoinedTies
import Derived.KernelRfl
namespace Go.Proofs.YthjfadfebhjhbaaGreat
/- THE CELL 'sum', in the pinned program and in every row, IS THE sha256 OF THE DUMP (.gsa) THAT YthjfadfebhjhbaaGreatProg.lean LOADS. Nothing in Lean hashes anything: it is a label: what it is worth is what the hold of that sum in a sandbox is worth. -/
noncomputable def Tryz.pinned : Pinned := { name := "ythjfadfebhjhbaagreat", sum := "9341f6abaec98f4da1c87b6d8fada102b99c25335cd9b591d0afcacf3058acbe", checked := Tryz.checked }
namespace Rows
def none {H : Type} : Left H := { results := [], args := [] }

/-- 'almucantarlaw50.HorizonSides': WHATEVER THE INPUT: true; the input reads as it did. -/
def horizonSidesSpec : ChangeSpec := { name := "horizonSides", fn := fun _ => fun
  | [d1, d2, d3, d4, d5, d6, d7] => { results := [.lit (.bool true)], args := [d1, d2, d3, d4, d5, d6, d7] }
  | _ => none }
def horizonSidesRow : OpenClaim := { program := "ythjfadfebhjhbaagreat", sum := "9341f6abaec98f4da1c87b6d8fada102b99c25335cd9b591d0afcacf3058acbe", func := "almucantar/almucantarlaw50.HorizonSides", spec := "horizonSides", inPlace := ["math/bits.Add64", "math/bits.Sub64"], unfollowed := true, recurses := true, named := ["math/bits.divideError", "math/bits.overflowError"], apart := false }
def HorizonSidesSaid : Prop := horizonSidesRow.holds Tryz.pinned (OpenSpec.ofChange horizonSidesSpec)

/-- ITS FALSE NEIGHBOUR: 'it returns false'. Refute it at one input. -/
def horizonSidesWrong : ChangeSpec := { name := "horizonSides", fn := fun _ => fun
  | [d1, d2, d3, d4, d5, d6, d7] => { results := [.lit (.bool false)], args := [d1, d2, d3, d4, d5, d6, d7] }
  | _ => none }
def HorizonSidesWrongFalsely : Prop := horizonSidesRow.holds Tryz.pinned (OpenSpec.ofChange horizonSidesWrong)

/-- 'almucantarlaw50.HorizonOrder': WHATEVER THE INPUT: true; the input reads as it did. -/
def horizonOrderSpec : ChangeSpec := { name := "horizonOrder", fn := fun _ => fun
  | [d1, d2, d3, d4, d5, d6] => { results := [.lit (.bool true)], args := [d1, d2, d3, d4, d5, d6] }
  | _ => none }
def horizonOrderRow : OpenClaim := { program := "ythjfadfebhjhbaagreat", sum := "9341f6abaec98f4da1c87b6d8fada102b99c25335cd9b591d0afcacf3058acbe", func := "almucantar/almucantarlaw50.HorizonOrder", spec := "horizonOrder", inPlace := ["math/bits.Add64", "math/bits.Sub64"], unfollowed := true, recurses := true, named := ["math/bits.divideError", "math/bits.overflowError"], apart := false }
def HorizonOrderSaid : Prop := horizonOrderRow.holds Tryz.pinned (OpenSpec.ofChange horizonOrderSpec)

/-- ITS FALSE NEIGHBOUR: 'it returns false'. Refute it at one input. -/
def horizonOrderWrong : ChangeSpec := { name := "horizonOrder", fn := fun _ => fun
  | [d1, d2, d3, d4, d5, d6] => { results := [.lit (.bool false)], args := [d1, d2, d3, d4, d5, d6] }
  | _ => none }
def HorizonOrderWrongFalsely : Prop := horizonOrderRow.holds Tryz.pinned (OpenSpec.ofChange horizonOrderWrong)

/-- 'almucantarlaw50.HorizonBetween': WHATEVER THE INPUT: true; the input reads as it did. -/
def horizonBetweenSpec : ChangeSpec := { name := "horizonBetween", fn := fun _ => fun
  | [d1, d2, d3, d4, d5, d6, d7] => { results := [.lit (.bool true)], args := [d1, d2, d3, d4, d5, d6, d7] }
  | _ => none }
def horizonBetweenRow : OpenClaim := { program := "ythjfadfebhjhbaagreat", sum := "9341f6abaec98f4da1c87b6d8fada102b99c25335cd9b591d0afcacf3058acbe", func := "almucantar/almucantarlaw50.HorizonBetween", spec := "horizonBetween", inPlace := ["math/bits.Add64", "math/bits.Sub64"], unfollowed := true, recurses := true, named := ["math/bits.divideError", "math/bits.overflowError"], apart := false }
def HorizonBetweenSaid : Prop := horizonBetweenRow.holds Tryz.pinned (OpenSpec.ofChange horizonBetweenSpec)

/-- ITS FALSE NEIGHBOUR: 'it returns false'. Refute it at one input. -/
def horizonBetweenWrong : ChangeSpec := { name := "horizonBetween", fn := fun _ => fun
  | [d1, d2, d3, d4, d5, d6, d7] => { results := [.lit (.bool false)], args := [d1, d2, d3, d4, d5, d6, d7] }
  | _ => none }
def HorizonBetweenWrongFalsely : Prop := horizonBetweenRow.holds Tryz.pinned (OpenSpec.ofChange horizonBetweenWrong)

/-- 'almucantarlaw50.HorizonCrosses': WHATEVER THE INPUT: true; the input reads as it did. -/
def horizonCrossesSpec : ChangeSpec := { name := "horizonCrosses", fn := fun _ => fun
  | [d1, d2, d3, d4, d5, d6, d7] => { results := [.lit (.bool true)], args := [d1, d2, d3, d4, d5, d6, d7] }
  | _ => none }
def horizonCrossesRow : OpenClaim := { program := "ythjfadfebhjhbaagreat", sum := "9341f6abaec98f4da1c87b6d8fada102b99c25335cd9b591d0afcacf3058acbe", func := "almucantar/almucantarlaw50.HorizonCrosses", spec := "horizonCrosses", inPlace := ["math/bits.Add64", "math/bits.Sub64"], unfollowed := true, recurses := true, named := ["math/bits.divideError", "math/bits.overflowError"], apart := false }
def HorizonCrossesSaid : Prop := horizonCrossesRow.holds Tryz.pinned (OpenSpec.ofChange horizonCrossesSpec)

/-- ITS FALSE NEIGHBOUR: 'it returns false'. Refute it at one input. -/
def horizonCrossesWrong : ChangeSpec := { name := "horizonCrosses", fn := fun _ => fun
  | [d1, d2, d3, d4, d5, d6, d7] => { results := [.lit (.bool false)], args := [d1, d2, d3, d4, d5, d6, d7] }
  | _ => none }
def HorizonCrossesWrongFalsely : Prop := horizonCrossesRow.holds Tryz.pinned (OpenSpec.ofChange horizonCrossesWrong)

/-- 'almucantarlaw50.HorizonDays': WHATEVER THE INPUT: true; the input reads as it did. -/
def horizonDaysSpec : ChangeSpec := { name := "horizonDays", fn := fun _ => fun
  | [d1, d2, d3, d4, d5, d6] => { results := [.lit (.bool true)], args := [d1, d2, d3, d4, d5, d6] }
  | _ => none }
def horizonDaysRow : OpenClaim := { program := "ythjfadfebhjhbaagreat", sum := "9341f6abaec98f4da1c87b6d8fada102b99c25335cd9b591d0afcacf3058acbe", func := "almucantar/almucantarlaw50.HorizonDays", spec := "horizonDays", inPlace := ["math/bits.Add64", "math/bits.Sub64"], unfollowed := true, recurses := true, named := ["math/bits.divideError", "math/bits.overflowError"], apart := false }
def HorizonDaysSaid : Prop := horizonDaysRow.holds Tryz.pinned (OpenSpec.ofChange horizonDaysSpec)

/-- ITS FALSE NEIGHBOUR: 'it returns false'. Refute it at one input. -/
def horizonDaysWrong : ChangeSpec := { name := "horizonDays", fn := fun _ => fun
  | [d1, d2, d3, d4, d5, d6] => { results := [.lit (.bool false)], args := [d1, d2, d3, d4, d5, d6] }
  | _ => none }
def HorizonDaysWrongFalsely : Prop := horizonDaysRow.holds Tryz.pinned (OpenSpec.ofChange horizonDaysWrong)

/- THE SECOND FORM. 'bulk': how many values and letters a reading holds, each counted each time it is reached (what is shared counts as often as it is met; a slice's spare places count too). A statement '..UptoSaid' is the law's where the arguments, and the package variables that the reading takes, are together of bulk at most 1048576: NARROWER than '..Said'. Prove '..Said' where nothing that the law and all that it calls make is longer than what came in: it says more and counts as full. Else prove '..UptoSaid'. A law counts once. -/
mutual
def uptoBulk {H : Type} : DataW H → Nat
  | .lit (.string bytes) => bytes.length + 1
  | .lit _ => 1
  | .nil => 1
  | .ptr d => uptoBulk d + 1
  | .slice elems spare => uptoBulkAll elems + uptoBulkAll spare + 1
  | .agg parts => uptoBulkAll parts + 1
  | .iface _ d => uptoBulk d + 1
  | .map entries => uptoBulkEntries entries + 1
  | .held _ => 1
def uptoBulkAll {H : Type} : List (DataW H) → Nat
  | [] => 0
  | d :: r => uptoBulk d + uptoBulkAll r
def uptoBulkEntries {H : Type} : List (Lit × DataW H) → Nat
  | [] => 0
  | x :: r => uptoBulkEntry x + uptoBulkEntries r
def uptoBulkEntry {H : Type} : Lit × DataW H → Nat
  | (.string bytes, d) => bytes.length + uptoBulk d + 1
  | (_, d) => uptoBulk d + 1
 end
def uptoSmall : (H : Type) → List (DataW H) → Bool := fun _ ds => decide (uptoBulkAll ds ≤ 1048576)
def OpenSpec.upto (s : _root_.Go.ChangeSpec) : _root_.Go.OpenSpec := { _root_.Go.OpenSpec.ofChange s with cond := some uptoSmall }

/-- 'almucantarlaw50.HorizonSides', WHERE WHAT IT READS IS OF BULK AT MOST 1048576: true; the input reads as it did. -/
def horizonSidesUptoRow : OpenClaim := { program := "ythjfadfebhjhbaagreat", sum := "9341f6abaec98f4da1c87b6d8fada102b99c25335cd9b591d0afcacf3058acbe", func := "almucantar/almucantarlaw50.HorizonSides", spec := "horizonSides", inPlace := ["math/bits.Add64", "math/bits.Sub64"], unfollowed := true, recurses := true, named := ["math/bits.divideError", "math/bits.overflowError"], apart := false, narrowed := true }
def HorizonSidesUptoSaid : Prop := horizonSidesUptoRow.holds Tryz.pinned (OpenSpec.upto horizonSidesSpec)

/-- 'almucantarlaw50.HorizonOrder', WHERE WHAT IT READS IS OF BULK AT MOST 1048576: true; the input reads as it did. -/
def horizonOrderUptoRow : OpenClaim := { program := "ythjfadfebhjhbaagreat", sum := "9341f6abaec98f4da1c87b6d8fada102b99c25335cd9b591d0afcacf3058acbe", func := "almucantar/almucantarlaw50.HorizonOrder", spec := "horizonOrder", inPlace := ["math/bits.Add64", "math/bits.Sub64"], unfollowed := true, recurses := true, named := ["math/bits.divideError", "math/bits.overflowError"], apart := false, narrowed := true }
def HorizonOrderUptoSaid : Prop := horizonOrderUptoRow.holds Tryz.pinned (OpenSpec.upto horizonOrderSpec)

/-- 'almucantarlaw50.HorizonBetween', WHERE WHAT IT READS IS OF BULK AT MOST 1048576: true; the input reads as it did. -/
def horizonBetweenUptoRow : OpenClaim := { program := "ythjfadfebhjhbaagreat", sum := "9341f6abaec98f4da1c87b6d8fada102b99c25335cd9b591d0afcacf3058acbe", func := "almucantar/almucantarlaw50.HorizonBetween", spec := "horizonBetween", inPlace := ["math/bits.Add64", "math/bits.Sub64"], unfollowed := true, recurses := true, named := ["math/bits.divideError", "math/bits.overflowError"], apart := false, narrowed := true }
def HorizonBetweenUptoSaid : Prop := horizonBetweenUptoRow.holds Tryz.pinned (OpenSpec.upto horizonBetweenSpec)

/-- 'almucantarlaw50.HorizonCrosses', WHERE WHAT IT READS IS OF BULK AT MOST 1048576: true; the input reads as it did. -/
def horizonCrossesUptoRow : OpenClaim := { program := "ythjfadfebhjhbaagreat", sum := "9341f6abaec98f4da1c87b6d8fada102b99c25335cd9b591d0afcacf3058acbe", func := "almucantar/almucantarlaw50.HorizonCrosses", spec := "horizonCrosses", inPlace := ["math/bits.Add64", "math/bits.Sub64"], unfollowed := true, recurses := true, named := ["math/bits.divideError", "math/bits.overflowError"], apart := false, narrowed := true }
def HorizonCrossesUptoSaid : Prop := horizonCrossesUptoRow.holds Tryz.pinned (OpenSpec.upto horizonCrossesSpec)

/-- 'almucantarlaw50.HorizonDays', WHERE WHAT IT READS IS OF BULK AT MOST 1048576: true; the input reads as it did. -/
def horizonDaysUptoRow : OpenClaim := { program := "ythjfadfebhjhbaagreat", sum := "9341f6abaec98f4da1c87b6d8fada102b99c25335cd9b591d0afcacf3058acbe", func := "almucantar/almucantarlaw50.HorizonDays", spec := "horizonDays", inPlace := ["math/bits.Add64", "math/bits.Sub64"], unfollowed := true, recurses := true, named := ["math/bits.divideError", "math/bits.overflowError"], apart := false, narrowed := true }
def HorizonDaysUptoSaid : Prop := horizonDaysUptoRow.holds Tryz.pinned (OpenSpec.upto horizonDaysSpec)

end Rows
end Go.Proofs.YthjfadfebhjhbaaGreat
