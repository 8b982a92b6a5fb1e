/-
  No cell of these rows narrows 'for every input' (looked for: loops, veiled, ifaces, maps, wideKeys, modest, calm, conditions, laid).
  DERIVED. THE GIVEN ROWS OF THIS SEAT. 6 by the template 'for every input the law returns true; each argument reads behind the call as it read before'; 0 by the template 'total and deterministic' (their statements: YtjfkaogjlfgelaaTotals.lean).
  GIVEN WITH THE SEED: the statements are not yours to turn. If you find one false, say at which input.
  Laid BY PROGRAM, IN A SANDBOX (cutbox-rows.mjs): the forced cells as the released guide's own fill.sh prints them over the translation 44e42eafce7c4cdc… (all of the seat's roots in one cut). By AI agents, Wed Nov 11 2026. No macro, syntax, notation, axiom, sorry.
-/
import Derived.Test.YtjfkaogjlfgelaaChecked
import GoSem.Claim
import GoSem.ClaimJoined
import GoSem.ClaimMapViews
import Derived.JoinedTies
import Derived.KernelRfl
namespace Go.Proofs.Ytjfkaogjlfgelaa
/- THE CELL 'sum', in the pinned program and in every row, IS THE sha256 OF THE DUMP (.gsa) THAT YtjfkaogjlfgelaaProg.lean LOADS. Nothing in Lean hashes anything: it is a label: what it is worth is what the hold of that sum in a sandbox is worth. -/
noncomputable def Try.pinned : Pinned := { name := "ytjfkaogjlfgelaa", sum := "44e42eafce7c4cdc4d4d6b644dd943994d9b981bad3ecca0f3dcb876605b0ea6", checked := Try.checked }
namespace Rows
def none {H : Type} : Left H := { results := [], args := [] }

/-- 'almucantarlaw34.CompassBetween': WHATEVER THE INPUT: true; the input reads as it did. -/
def compassBetweenSpec : ChangeSpec := { name := "compassBetween", fn := fun _ => fun
  | [d1, d2, d3, d4, d5] => { results := [.lit (.bool true)], args := [d1, d2, d3, d4, d5] }
  | _ => none }
def compassBetweenRow : OpenClaim := { program := "ytjfkaogjlfgelaa", sum := "44e42eafce7c4cdc4d4d6b644dd943994d9b981bad3ecca0f3dcb876605b0ea6", func := "almucantar/almucantarlaw34.CompassBetween", spec := "compassBetween", unfollowed := true, recurses := true, apart := false }
def CompassBetweenSaid : Prop := compassBetweenRow.holds Try.pinned (OpenSpec.ofChange compassBetweenSpec)

/-- ITS FALSE NEIGHBOUR: 'it returns false'. Refute it at one input. -/
def compassBetweenWrong : ChangeSpec := { name := "compassBetween", fn := fun _ => fun
  | [d1, d2, d3, d4, d5] => { results := [.lit (.bool false)], args := [d1, d2, d3, d4, d5] }
  | _ => none }
def CompassBetweenWrongFalsely : Prop := compassBetweenRow.holds Try.pinned (OpenSpec.ofChange compassBetweenWrong)

/-- 'almucantarlaw34.CompassCourses': WHATEVER THE INPUT: true; the input reads as it did. -/
def compassCoursesSpec : ChangeSpec := { name := "compassCourses", fn := fun _ => fun
  | [d1, d2, d3] => { results := [.lit (.bool true)], args := [d1, d2, d3] }
  | _ => none }
def compassCoursesRow : OpenClaim := { program := "ytjfkaogjlfgelaa", sum := "44e42eafce7c4cdc4d4d6b644dd943994d9b981bad3ecca0f3dcb876605b0ea6", func := "almucantar/almucantarlaw34.CompassCourses", spec := "compassCourses", unfollowed := true, recurses := true, apart := false }
def CompassCoursesSaid : Prop := compassCoursesRow.holds Try.pinned (OpenSpec.ofChange compassCoursesSpec)

/-- ITS FALSE NEIGHBOUR: 'it returns false'. Refute it at one input. -/
def compassCoursesWrong : ChangeSpec := { name := "compassCourses", fn := fun _ => fun
  | [d1, d2, d3] => { results := [.lit (.bool false)], args := [d1, d2, d3] }
  | _ => none }
def CompassCoursesWrongFalsely : Prop := compassCoursesRow.holds Try.pinned (OpenSpec.ofChange compassCoursesWrong)

/-- 'almucantarlaw34.CompassReturns': WHATEVER THE INPUT: true; the input reads as it did. -/
def compassReturnsSpec : ChangeSpec := { name := "compassReturns", fn := fun _ => fun
  | [d1, d2, d3] => { results := [.lit (.bool true)], args := [d1, d2, d3] }
  | _ => none }
def compassReturnsRow : OpenClaim := { program := "ytjfkaogjlfgelaa", sum := "44e42eafce7c4cdc4d4d6b644dd943994d9b981bad3ecca0f3dcb876605b0ea6", func := "almucantar/almucantarlaw34.CompassReturns", spec := "compassReturns", unfollowed := true, recurses := true, apart := false }
def CompassReturnsSaid : Prop := compassReturnsRow.holds Try.pinned (OpenSpec.ofChange compassReturnsSpec)

/-- ITS FALSE NEIGHBOUR: 'it returns false'. Refute it at one input. -/
def compassReturnsWrong : ChangeSpec := { name := "compassReturns", fn := fun _ => fun
  | [d1, d2, d3] => { results := [.lit (.bool false)], args := [d1, d2, d3] }
  | _ => none }
def CompassReturnsWrongFalsely : Prop := compassReturnsRow.holds Try.pinned (OpenSpec.ofChange compassReturnsWrong)

/-- 'almucantarlaw34.CompassAmplitude': WHATEVER THE INPUT: true; the input reads as it did. -/
def compassAmplitudeSpec : ChangeSpec := { name := "compassAmplitude", fn := fun _ => fun
  | [d1, d2, d3] => { results := [.lit (.bool true)], args := [d1, d2, d3] }
  | _ => none }
def compassAmplitudeRow : OpenClaim := { program := "ytjfkaogjlfgelaa", sum := "44e42eafce7c4cdc4d4d6b644dd943994d9b981bad3ecca0f3dcb876605b0ea6", func := "almucantar/almucantarlaw34.CompassAmplitude", spec := "compassAmplitude", inPlace := ["math/bits.Add64", "math/bits.Sub64"], unfollowed := true, recurses := true, named := ["math/bits.divideError", "math/bits.overflowError"], apart := false }
def CompassAmplitudeSaid : Prop := compassAmplitudeRow.holds Try.pinned (OpenSpec.ofChange compassAmplitudeSpec)

/-- ITS FALSE NEIGHBOUR: 'it returns false'. Refute it at one input. -/
def compassAmplitudeWrong : ChangeSpec := { name := "compassAmplitude", fn := fun _ => fun
  | [d1, d2, d3] => { results := [.lit (.bool false)], args := [d1, d2, d3] }
  | _ => none }
def CompassAmplitudeWrongFalsely : Prop := compassAmplitudeRow.holds Try.pinned (OpenSpec.ofChange compassAmplitudeWrong)

/-- 'almucantarlaw34.CompassSwings': WHATEVER THE INPUT: true; the input reads as it did. -/
def compassSwingsSpec : ChangeSpec := { name := "compassSwings", fn := fun _ => fun
  | [d1, d2, d3, d4] => { results := [.lit (.bool true)], args := [d1, d2, d3, d4] }
  | _ => none }
def compassSwingsRow : OpenClaim := { program := "ytjfkaogjlfgelaa", sum := "44e42eafce7c4cdc4d4d6b644dd943994d9b981bad3ecca0f3dcb876605b0ea6", func := "almucantar/almucantarlaw34.CompassSwings", spec := "compassSwings", unfollowed := true, recurses := true, apart := false }
def CompassSwingsSaid : Prop := compassSwingsRow.holds Try.pinned (OpenSpec.ofChange compassSwingsSpec)

/-- ITS FALSE NEIGHBOUR: 'it returns false'. Refute it at one input. -/
def compassSwingsWrong : ChangeSpec := { name := "compassSwings", fn := fun _ => fun
  | [d1, d2, d3, d4] => { results := [.lit (.bool false)], args := [d1, d2, d3, d4] }
  | _ => none }
def CompassSwingsWrongFalsely : Prop := compassSwingsRow.holds Try.pinned (OpenSpec.ofChange compassSwingsWrong)

/-- 'almucantarlaw34.CompassFinds': WHATEVER THE INPUT: true; the input reads as it did. -/
def compassFindsSpec : ChangeSpec := { name := "compassFinds", fn := fun _ => fun
  | [d1, d2, d3, d4] => { results := [.lit (.bool true)], args := [d1, d2, d3, d4] }
  | _ => none }
def compassFindsRow : OpenClaim := { program := "ytjfkaogjlfgelaa", sum := "44e42eafce7c4cdc4d4d6b644dd943994d9b981bad3ecca0f3dcb876605b0ea6", func := "almucantar/almucantarlaw34.CompassFinds", spec := "compassFinds", unfollowed := true, recurses := true, apart := false }
def CompassFindsSaid : Prop := compassFindsRow.holds Try.pinned (OpenSpec.ofChange compassFindsSpec)

/-- ITS FALSE NEIGHBOUR: 'it returns false'. Refute it at one input. -/
def compassFindsWrong : ChangeSpec := { name := "compassFinds", fn := fun _ => fun
  | [d1, d2, d3, d4] => { results := [.lit (.bool false)], args := [d1, d2, d3, d4] }
  | _ => none }
def CompassFindsWrongFalsely : Prop := compassFindsRow.holds Try.pinned (OpenSpec.ofChange compassFindsWrong)

/- THE SECOND FORM. 'bulk': how many values and letters a reading holds, each counted each time it is reached (what is shared counts as often as it is met; a slice's spare places count too). A statement '..UptoSaid' is the law's where the arguments, and the package variables that the reading takes, are together of bulk at most 1048576: NARROWER than '..Said'. Prove '..Said' where nothing that the law and all that it calls make is longer than what came in: it says more and counts as full. Else prove '..UptoSaid'. A law counts once. -/
mutual
def uptoBulk {H : Type} : DataW H → Nat
  | .lit (.string bytes) => bytes.length + 1
  | .lit _ => 1
  | .nil => 1
  | .ptr d => uptoBulk d + 1
  | .slice elems spare => uptoBulkAll elems + uptoBulkAll spare + 1
  | .agg parts => uptoBulkAll parts + 1
  | .iface _ d => uptoBulk d + 1
  | .map entries => uptoBulkEntries entries + 1
  | .held _ => 1
def uptoBulkAll {H : Type} : List (DataW H) → Nat
  | [] => 0
  | d :: r => uptoBulk d + uptoBulkAll r
def uptoBulkEntries {H : Type} : List (Lit × DataW H) → Nat
  | [] => 0
  | x :: r => uptoBulkEntry x + uptoBulkEntries r
def uptoBulkEntry {H : Type} : Lit × DataW H → Nat
  | (.string bytes, d) => bytes.length + uptoBulk d + 1
  | (_, d) => uptoBulk d + 1
 end
def uptoSmall : (H : Type) → List (DataW H) → Bool := fun _ ds => decide (uptoBulkAll ds ≤ 1048576)
def OpenSpec.upto (s : _root_.Go.ChangeSpec) : _root_.Go.OpenSpec := { _root_.Go.OpenSpec.ofChange s with cond := some uptoSmall }

/-- 'almucantarlaw34.CompassBetween', WHERE WHAT IT READS IS OF BULK AT MOST 1048576: true; the input reads as it did. -/
def compassBetweenUptoRow : OpenClaim := { program := "ytjfkaogjlfgelaa", sum := "44e42eafce7c4cdc4d4d6b644dd943994d9b981bad3ecca0f3dcb876605b0ea6", func := "almucantar/almucantarlaw34.CompassBetween", spec := "compassBetween", unfollowed := true, recurses := true, apart := false, narrowed := true }
def CompassBetweenUptoSaid : Prop := compassBetweenUptoRow.holds Try.pinned (OpenSpec.upto compassBetweenSpec)

/-- 'almucantarlaw34.CompassCourses', WHERE WHAT IT READS IS OF BULK AT MOST 1048576: true; the input reads as it did. -/
def compassCoursesUptoRow : OpenClaim := { program := "ytjfkaogjlfgelaa", sum := "44e42eafce7c4cdc4d4d6b644dd943994d9b981bad3ecca0f3dcb876605b0ea6", func := "almucantar/almucantarlaw34.CompassCourses", spec := "compassCourses", unfollowed := true, recurses := true, apart := false, narrowed := true }
def CompassCoursesUptoSaid : Prop := compassCoursesUptoRow.holds Try.pinned (OpenSpec.upto compassCoursesSpec)

/-- 'almucantarlaw34.CompassReturns', WHERE WHAT IT READS IS OF BULK AT MOST 1048576: true; the input reads as it did. -/
def compassReturnsUptoRow : OpenClaim := { program := "ytjfkaogjlfgelaa", sum := "44e42eafce7c4cdc4d4d6b644dd943994d9b981bad3ecca0f3dcb876605b0ea6", func := "almucantar/almucantarlaw34.CompassReturns", spec := "compassReturns", unfollowed := true, recurses := true, apart := false, narrowed := true }
def CompassReturnsUptoSaid : Prop := compassReturnsUptoRow.holds Try.pinned (OpenSpec.upto compassReturnsSpec)

/-- 'almucantarlaw34.CompassAmplitude', WHERE WHAT IT READS IS OF BULK AT MOST 1048576: true; the input reads as it did. -/
def compassAmplitudeUptoRow : OpenClaim := { program := "ytjfkaogjlfgelaa", sum := "44e42eafce7c4cdc4d4d6b644dd943994d9b981bad3ecca0f3dcb876605b0ea6", func := "almucantar/almucantarlaw34.CompassAmplitude", spec := "compassAmplitude", inPlace := ["math/bits.Add64", "math/bits.Sub64"], unfollowed := true, recurses := true, named := ["math/bits.divideError", "math/bits.overflowError"], apart := false, narrowed := true }
def CompassAmplitudeUptoSaid : Prop := compassAmplitudeUptoRow.holds Try.pinned (OpenSpec.upto compassAmplitudeSpec)

/-- 'almucantarlaw34.CompassSwings', WHERE WHAT IT READS IS OF BULK AT MOST 1048576: true; the input reads as it did. -/
def compassSwingsUptoRow : OpenClaim := { program := "ytjfkaogjlfgelaa", sum := "44e42eafce7c4cdc4d4d6b644dd943994d9b981bad3ecca0f3dcb876605b0ea6", func := "almucantar/almucantarlaw34.CompassSwings", spec := "compassSwings", unfollowed := true, recurses := true, apart := false, narrowed := true }
def CompassSwingsUptoSaid : Prop := compassSwingsUptoRow.holds Try.pinned (OpenSpec.upto compassSwingsSpec)

/-- 'almucantarlaw34.CompassFinds', WHERE WHAT IT READS IS OF BULK AT MOST 1048576: true; the input reads as it did. -/
def compassFindsUptoRow : OpenClaim := { program := "ytjfkaogjlfgelaa", sum := "44e42eafce7c4cdc4d4d6b644dd943994d9b981bad3ecca0f3dcb876605b0ea6", func := "almucantar/almucantarlaw34.CompassFinds", spec := "compassFinds", unfollowed := true, recurses := true, apart := false, narrowed := true }
def CompassFindsUptoSaid : Prop := compassFindsUptoRow.holds Try.pinned (OpenSpec.upto compassFindsSpec)

end Rows
end Go.Proofs.Ytjfkaogjlfgelaa
