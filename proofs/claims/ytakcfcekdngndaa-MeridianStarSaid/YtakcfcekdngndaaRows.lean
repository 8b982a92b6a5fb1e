/-
  No cell of these rows narrows 'for every input' (looked for: loops, veiled, ifaces, maps, wideKeys, modest, calm, conditions, laid).
  DERIVED. THE GIVEN ROWS OF THIS SEAT. 4 by the template 'for every input the law returns true; each argument reads behind the call as it read before'; 0 by the template 'total and deterministic' (their statements: YtakcfcekdngndaaTotals.lean).
  GIVEN WITH THE SEED: the statements are not yours to turn. If you find one false, say at which input.
  Laid BY PROGRAM, IN A SANDBOX (cutbox-rows.mjs): the forced cells as the released guide's own fill.sh prints them over the translation 74b2b7a7aa5f4c4d… (all of the seat's roots in one cut). By AI agents, Wed Nov 11 2026. No macro, syntax, notation, axiom, sorry.
-/
import Derived.Test.YtakcfcekdngndaaChecked
import GoSem.Claim
import GoSem.ClaimJoined
import GoSem.ClaimMapViews
import Derived.JoinedTies
import Derived.KernelRfl
namespace Go.Proofs.Ytakcfcekdngndaa
/- THE CELL 'sum', in the pinned program and in every row, IS THE sha256 OF THE DUMP (.gsa) THAT YtakcfcekdngndaaProg.lean LOADS. Nothing in Lean hashes anything: it is a label: what it is worth is what the hold of that sum in a sandbox is worth. -/
noncomputable def Try.pinned : Pinned := { name := "ytakcfcekdngndaa", sum := "74b2b7a7aa5f4c4dc43ae4ddb5ad7842ab6bad076af2daa247af2fb0beeaf6c2", checked := Try.checked }
namespace Rows
def none {H : Type} : Left H := { results := [], args := [] }

/-- 'almucantarlaw33.MeridianBack': WHATEVER THE INPUT: true; the input reads as it did. -/
def meridianBackSpec : ChangeSpec := { name := "meridianBack", fn := fun _ => fun
  | [d1, d2] => { results := [.lit (.bool true)], args := [d1, d2] }
  | _ => none }
def meridianBackRow : OpenClaim := { program := "ytakcfcekdngndaa", sum := "74b2b7a7aa5f4c4dc43ae4ddb5ad7842ab6bad076af2daa247af2fb0beeaf6c2", func := "almucantar/almucantarlaw33.MeridianBack", spec := "meridianBack", inPlace := ["math/bits.Add64", "math/bits.Sub64"], named := ["math/bits.divideError", "math/bits.overflowError"], apart := false }
def MeridianBackSaid : Prop := meridianBackRow.holds Try.pinned (OpenSpec.ofChange meridianBackSpec)

/-- ITS FALSE NEIGHBOUR: 'it returns false'. Refute it at one input. -/
def meridianBackWrong : ChangeSpec := { name := "meridianBack", fn := fun _ => fun
  | [d1, d2] => { results := [.lit (.bool false)], args := [d1, d2] }
  | _ => none }
def MeridianBackWrongFalsely : Prop := meridianBackRow.holds Try.pinned (OpenSpec.ofChange meridianBackWrong)

/-- 'almucantarlaw33.MeridianNear': WHATEVER THE INPUT: true; the input reads as it did. -/
def meridianNearSpec : ChangeSpec := { name := "meridianNear", fn := fun _ => fun
  | [d1, d2, d3, d4, d5] => { results := [.lit (.bool true)], args := [d1, d2, d3, d4, d5] }
  | _ => none }
def meridianNearRow : OpenClaim := { program := "ytakcfcekdngndaa", sum := "74b2b7a7aa5f4c4dc43ae4ddb5ad7842ab6bad076af2daa247af2fb0beeaf6c2", func := "almucantar/almucantarlaw33.MeridianNear", spec := "meridianNear", inPlace := ["math/bits.Add64", "math/bits.Sub64"], named := ["math/bits.divideError", "math/bits.overflowError"], apart := false }
def MeridianNearSaid : Prop := meridianNearRow.holds Try.pinned (OpenSpec.ofChange meridianNearSpec)

/-- ITS FALSE NEIGHBOUR: 'it returns false'. Refute it at one input. -/
def meridianNearWrong : ChangeSpec := { name := "meridianNear", fn := fun _ => fun
  | [d1, d2, d3, d4, d5] => { results := [.lit (.bool false)], args := [d1, d2, d3, d4, d5] }
  | _ => none }
def MeridianNearWrongFalsely : Prop := meridianNearRow.holds Try.pinned (OpenSpec.ofChange meridianNearWrong)

/-- 'almucantarlaw34.CompassAmplitude': WHATEVER THE INPUT: true; the input reads as it did. -/
def compassAmplitudeSpec : ChangeSpec := { name := "compassAmplitude", fn := fun _ => fun
  | [d1, d2, d3] => { results := [.lit (.bool true)], args := [d1, d2, d3] }
  | _ => none }
def compassAmplitudeRow : OpenClaim := { program := "ytakcfcekdngndaa", sum := "74b2b7a7aa5f4c4dc43ae4ddb5ad7842ab6bad076af2daa247af2fb0beeaf6c2", func := "almucantar/almucantarlaw34.CompassAmplitude", spec := "compassAmplitude", inPlace := ["math/bits.Add64", "math/bits.Sub64"], unfollowed := true, recurses := true, named := ["math/bits.divideError", "math/bits.overflowError"], apart := false }
def CompassAmplitudeSaid : Prop := compassAmplitudeRow.holds Try.pinned (OpenSpec.ofChange compassAmplitudeSpec)

/-- ITS FALSE NEIGHBOUR: 'it returns false'. Refute it at one input. -/
def compassAmplitudeWrong : ChangeSpec := { name := "compassAmplitude", fn := fun _ => fun
  | [d1, d2, d3] => { results := [.lit (.bool false)], args := [d1, d2, d3] }
  | _ => none }
def CompassAmplitudeWrongFalsely : Prop := compassAmplitudeRow.holds Try.pinned (OpenSpec.ofChange compassAmplitudeWrong)

/-- 'almucantarlaw33.MeridianStar': WHATEVER THE INPUT: true; the input reads as it did. -/
def meridianStarSpec : ChangeSpec := { name := "meridianStar", fn := fun _ => fun
  | [d1, d2, d3] => { results := [.lit (.bool true)], args := [d1, d2, d3] }
  | _ => none }
def meridianStarRow : OpenClaim := { program := "ytakcfcekdngndaa", sum := "74b2b7a7aa5f4c4dc43ae4ddb5ad7842ab6bad076af2daa247af2fb0beeaf6c2", func := "almucantar/almucantarlaw33.MeridianStar", spec := "meridianStar", inPlace := ["math/bits.Add64", "math/bits.Sub64"], recurses := true, named := ["math/bits.divideError", "math/bits.overflowError"], apart := false }
def MeridianStarSaid : Prop := meridianStarRow.holds Try.pinned (OpenSpec.ofChange meridianStarSpec)

/-- ITS FALSE NEIGHBOUR: 'it returns false'. Refute it at one input. -/
def meridianStarWrong : ChangeSpec := { name := "meridianStar", fn := fun _ => fun
  | [d1, d2, d3] => { results := [.lit (.bool false)], args := [d1, d2, d3] }
  | _ => none }
def MeridianStarWrongFalsely : Prop := meridianStarRow.holds Try.pinned (OpenSpec.ofChange meridianStarWrong)

/- THE SECOND FORM. 'bulk': how many values and letters a reading holds, each counted each time it is reached (what is shared counts as often as it is met; a slice's spare places count too). A statement '..UptoSaid' is the law's where the arguments, and the package variables that the reading takes, are together of bulk at most 1048576: NARROWER than '..Said'. Prove '..Said' where nothing that the law and all that it calls make is longer than what came in: it says more and counts as full. Else prove '..UptoSaid'. A law counts once. -/
mutual
def uptoBulk {H : Type} : DataW H → Nat
  | .lit (.string bytes) => bytes.length + 1
  | .lit _ => 1
  | .nil => 1
  | .ptr d => uptoBulk d + 1
  | .slice elems spare => uptoBulkAll elems + uptoBulkAll spare + 1
  | .agg parts => uptoBulkAll parts + 1
  | .iface _ d => uptoBulk d + 1
  | .map entries => uptoBulkEntries entries + 1
  | .held _ => 1
def uptoBulkAll {H : Type} : List (DataW H) → Nat
  | [] => 0
  | d :: r => uptoBulk d + uptoBulkAll r
def uptoBulkEntries {H : Type} : List (Lit × DataW H) → Nat
  | [] => 0
  | x :: r => uptoBulkEntry x + uptoBulkEntries r
def uptoBulkEntry {H : Type} : Lit × DataW H → Nat
  | (.string bytes, d) => bytes.length + uptoBulk d + 1
  | (_, d) => uptoBulk d + 1
 end
def uptoSmall : (H : Type) → List (DataW H) → Bool := fun _ ds => decide (uptoBulkAll ds ≤ 1048576)
def OpenSpec.upto (s : _root_.Go.ChangeSpec) : _root_.Go.OpenSpec := { _root_.Go.OpenSpec.ofChange s with cond := some uptoSmall }

/-- 'almucantarlaw33.MeridianBack', WHERE WHAT IT READS IS OF BULK AT MOST 1048576: true; the input reads as it did. -/
def meridianBackUptoRow : OpenClaim := { program := "ytakcfcekdngndaa", sum := "74b2b7a7aa5f4c4dc43ae4ddb5ad7842ab6bad076af2daa247af2fb0beeaf6c2", func := "almucantar/almucantarlaw33.MeridianBack", spec := "meridianBack", inPlace := ["math/bits.Add64", "math/bits.Sub64"], named := ["math/bits.divideError", "math/bits.overflowError"], apart := false, narrowed := true }
def MeridianBackUptoSaid : Prop := meridianBackUptoRow.holds Try.pinned (OpenSpec.upto meridianBackSpec)

/-- 'almucantarlaw33.MeridianNear', WHERE WHAT IT READS IS OF BULK AT MOST 1048576: true; the input reads as it did. -/
def meridianNearUptoRow : OpenClaim := { program := "ytakcfcekdngndaa", sum := "74b2b7a7aa5f4c4dc43ae4ddb5ad7842ab6bad076af2daa247af2fb0beeaf6c2", func := "almucantar/almucantarlaw33.MeridianNear", spec := "meridianNear", inPlace := ["math/bits.Add64", "math/bits.Sub64"], named := ["math/bits.divideError", "math/bits.overflowError"], apart := false, narrowed := true }
def MeridianNearUptoSaid : Prop := meridianNearUptoRow.holds Try.pinned (OpenSpec.upto meridianNearSpec)

/-- 'almucantarlaw34.CompassAmplitude', WHERE WHAT IT READS IS OF BULK AT MOST 1048576: true; the input reads as it did. -/
def compassAmplitudeUptoRow : OpenClaim := { program := "ytakcfcekdngndaa", sum := "74b2b7a7aa5f4c4dc43ae4ddb5ad7842ab6bad076af2daa247af2fb0beeaf6c2", func := "almucantar/almucantarlaw34.CompassAmplitude", spec := "compassAmplitude", inPlace := ["math/bits.Add64", "math/bits.Sub64"], unfollowed := true, recurses := true, named := ["math/bits.divideError", "math/bits.overflowError"], apart := false, narrowed := true }
def CompassAmplitudeUptoSaid : Prop := compassAmplitudeUptoRow.holds Try.pinned (OpenSpec.upto compassAmplitudeSpec)

/-- 'almucantarlaw33.MeridianStar', WHERE WHAT IT READS IS OF BULK AT MOST 1048576: true; the input reads as it did. -/
def meridianStarUptoRow : OpenClaim := { program := "ytakcfcekdngndaa", sum := "74b2b7a7aa5f4c4dc43ae4ddb5ad7842ab6bad076af2daa247af2fb0beeaf6c2", func := "almucantar/almucantarlaw33.MeridianStar", spec := "meridianStar", inPlace := ["math/bits.Add64", "math/bits.Sub64"], recurses := true, named := ["math/bits.divideError", "math/bits.overflowError"], apart := false, narrowed := true }
def MeridianStarUptoSaid : Prop := meridianStarUptoRow.holds Try.pinned (OpenSpec.upto meridianStarSpec)

end Rows
end Go.Proofs.Ytakcfcekdngndaa
