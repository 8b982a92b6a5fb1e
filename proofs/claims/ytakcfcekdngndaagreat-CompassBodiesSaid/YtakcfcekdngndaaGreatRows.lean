/-
  No cell of these rows narrows 'for every input' (looked for: loops, veiled, ifaces, maps, wideKeys, modest, calm, conditions, laid).
  DERIVED. THE GIVEN ROWS OF THIS SEAT. 3 by the template 'for every input the law returns true; each argument reads behind the call as it read before'; 0 by the template 'total and deterministic' (their statements: YtakcfcekdngndaaGreatTotals.lean).
  GIVEN WITH THE SEED: the statements are not yours to turn. If you find one false, say at which input.
  Laid BY PROGRAM, IN A SANDBOX (cutbox-rows.mjs): the forced cells as the released guide's own fill.sh prints them over the translation 41f9aa7b3f2cd69a… (all of the seat's roots in one cut). By AI agents, Wed Nov 11 2026. No macro, syntax, notation, axiom, sorry.
-/
import Derived.Test.YtakcfcekdngndaaGreatChecked
import GoSem.Claim
import GoSem.ClaimJoined
import GoSem.ClaimMapViews
import Derived.JoinedTies
import Derived.KernelRfl
namespace Go.Proofs.YtakcfcekdngndaaGreat
/- THE CELL 'sum', in the pinned program and in every row, IS THE sha256 OF THE DUMP (.gsa) THAT YtakcfcekdngndaaGreatProg.lean LOADS. Nothing in Lean hashes anything: it is a label: what it is worth is what the hold of that sum in a sandbox is worth. -/
noncomputable def Tryz.pinned : Pinned := { name := "ytakcfcekdngndaagreat", sum := "41f9aa7b3f2cd69a0b9337edd40b3980f866d2d982366a880830fc91f1f5c775", checked := Tryz.checked }
namespace Rows
def none {H : Type} : Left H := { results := [], args := [] }

/-- 'almucantarlaw33.MeridianExes': WHATEVER THE INPUT: true; the input reads as it did. -/
def meridianExesSpec : ChangeSpec := { name := "meridianExes", fn := fun _ => fun
  | [d1, d2, d3, d4] => { results := [.lit (.bool true)], args := [d1, d2, d3, d4] }
  | _ => none }
def meridianExesRow : OpenClaim := { program := "ytakcfcekdngndaagreat", sum := "41f9aa7b3f2cd69a0b9337edd40b3980f866d2d982366a880830fc91f1f5c775", func := "almucantar/almucantarlaw33.MeridianExes", spec := "meridianExes", inPlace := ["math/bits.Add64", "math/bits.Sub64"], recurses := true, named := ["math/bits.divideError", "math/bits.overflowError"], apart := false }
def MeridianExesSaid : Prop := meridianExesRow.holds Tryz.pinned (OpenSpec.ofChange meridianExesSpec)

/-- ITS FALSE NEIGHBOUR: 'it returns false'. Refute it at one input. -/
def meridianExesWrong : ChangeSpec := { name := "meridianExes", fn := fun _ => fun
  | [d1, d2, d3, d4] => { results := [.lit (.bool false)], args := [d1, d2, d3, d4] }
  | _ => none }
def MeridianExesWrongFalsely : Prop := meridianExesRow.holds Tryz.pinned (OpenSpec.ofChange meridianExesWrong)

/-- 'almucantarlaw34.CompassBodies': WHATEVER THE INPUT: true; the input reads as it did. -/
def compassBodiesSpec : ChangeSpec := { name := "compassBodies", fn := fun _ => fun
  | [d1, d2] => { results := [.lit (.bool true)], args := [d1, d2] }
  | _ => none }
def compassBodiesRow : OpenClaim := { program := "ytakcfcekdngndaagreat", sum := "41f9aa7b3f2cd69a0b9337edd40b3980f866d2d982366a880830fc91f1f5c775", func := "almucantar/almucantarlaw34.CompassBodies", spec := "compassBodies", inPlace := ["math/bits.Add64", "math/bits.Sub64"], unfollowed := true, recurses := true, named := ["math/bits.divideError", "math/bits.overflowError"], apart := false }
def CompassBodiesSaid : Prop := compassBodiesRow.holds Tryz.pinned (OpenSpec.ofChange compassBodiesSpec)

/-- ITS FALSE NEIGHBOUR: 'it returns false'. Refute it at one input. -/
def compassBodiesWrong : ChangeSpec := { name := "compassBodies", fn := fun _ => fun
  | [d1, d2] => { results := [.lit (.bool false)], args := [d1, d2] }
  | _ => none }
def CompassBodiesWrongFalsely : Prop := compassBodiesRow.holds Tryz.pinned (OpenSpec.ofChange compassBodiesWrong)

/-- 'almucantarlaw33.MeridianPolaris': WHATEVER THE INPUT: true; the input reads as it did. -/
def meridianPolarisSpec : ChangeSpec := { name := "meridianPolaris", fn := fun _ => fun
  | [d1, d2, d3] => { results := [.lit (.bool true)], args := [d1, d2, d3] }
  | _ => none }
def meridianPolarisRow : OpenClaim := { program := "ytakcfcekdngndaagreat", sum := "41f9aa7b3f2cd69a0b9337edd40b3980f866d2d982366a880830fc91f1f5c775", func := "almucantar/almucantarlaw33.MeridianPolaris", spec := "meridianPolaris", inPlace := ["math/bits.Add64", "math/bits.Sub64"], recurses := true, named := ["math/bits.divideError", "math/bits.overflowError"], apart := false }
def MeridianPolarisSaid : Prop := meridianPolarisRow.holds Tryz.pinned (OpenSpec.ofChange meridianPolarisSpec)

/-- ITS FALSE NEIGHBOUR: 'it returns false'. Refute it at one input. -/
def meridianPolarisWrong : ChangeSpec := { name := "meridianPolaris", fn := fun _ => fun
  | [d1, d2, d3] => { results := [.lit (.bool false)], args := [d1, d2, d3] }
  | _ => none }
def MeridianPolarisWrongFalsely : Prop := meridianPolarisRow.holds Tryz.pinned (OpenSpec.ofChange meridianPolarisWrong)

/- THE SECOND FORM. 'bulk': how many values and letters a reading holds, each counted each time it is reached (what is shared counts as often as it is met; a slice's spare places count too). A statement '..UptoSaid' is the law's where the arguments, and the package variables that the reading takes, are together of bulk at most 1048576: NARROWER than '..Said'. Prove '..Said' where nothing that the law and all that it calls make is longer than what came in: it says more and counts as full. Else prove '..UptoSaid'. A law counts once. -/
mutual
def uptoBulk {H : Type} : DataW H → Nat
  | .lit (.string bytes) => bytes.length + 1
  | .lit _ => 1
  | .nil => 1
  | .ptr d => uptoBulk d + 1
  | .slice elems spare => uptoBulkAll elems + uptoBulkAll spare + 1
  | .agg parts => uptoBulkAll parts + 1
  | .iface _ d => uptoBulk d + 1
  | .map entries => uptoBulkEntries entries + 1
  | .held _ => 1
def uptoBulkAll {H : Type} : List (DataW H) → Nat
  | [] => 0
  | d :: r => uptoBulk d + uptoBulkAll r
def uptoBulkEntries {H : Type} : List (Lit × DataW H) → Nat
  | [] => 0
  | x :: r => uptoBulkEntry x + uptoBulkEntries r
def uptoBulkEntry {H : Type} : Lit × DataW H → Nat
  | (.string bytes, d) => bytes.length + uptoBulk d + 1
  | (_, d) => uptoBulk d + 1
 end
def uptoSmall : (H : Type) → List (DataW H) → Bool := fun _ ds => decide (uptoBulkAll ds ≤ 1048576)
def OpenSpec.upto (s : _root_.Go.ChangeSpec) : _root_.Go.OpenSpec := { _root_.Go.OpenSpec.ofChange s with cond := some uptoSmall }

/-- 'almucantarlaw33.MeridianExes', WHERE WHAT IT READS IS OF BULK AT MOST 1048576: true; the input reads as it did. -/
def meridianExesUptoRow : OpenClaim := { program := "ytakcfcekdngndaagreat", sum := "41f9aa7b3f2cd69a0b9337edd40b3980f866d2d982366a880830fc91f1f5c775", func := "almucantar/almucantarlaw33.MeridianExes", spec := "meridianExes", inPlace := ["math/bits.Add64", "math/bits.Sub64"], recurses := true, named := ["math/bits.divideError", "math/bits.overflowError"], apart := false, narrowed := true }
def MeridianExesUptoSaid : Prop := meridianExesUptoRow.holds Tryz.pinned (OpenSpec.upto meridianExesSpec)

/-- 'almucantarlaw34.CompassBodies', WHERE WHAT IT READS IS OF BULK AT MOST 1048576: true; the input reads as it did. -/
def compassBodiesUptoRow : OpenClaim := { program := "ytakcfcekdngndaagreat", sum := "41f9aa7b3f2cd69a0b9337edd40b3980f866d2d982366a880830fc91f1f5c775", func := "almucantar/almucantarlaw34.CompassBodies", spec := "compassBodies", inPlace := ["math/bits.Add64", "math/bits.Sub64"], unfollowed := true, recurses := true, named := ["math/bits.divideError", "math/bits.overflowError"], apart := false, narrowed := true }
def CompassBodiesUptoSaid : Prop := compassBodiesUptoRow.holds Tryz.pinned (OpenSpec.upto compassBodiesSpec)

/-- 'almucantarlaw33.MeridianPolaris', WHERE WHAT IT READS IS OF BULK AT MOST 1048576: true; the input reads as it did. -/
def meridianPolarisUptoRow : OpenClaim := { program := "ytakcfcekdngndaagreat", sum := "41f9aa7b3f2cd69a0b9337edd40b3980f866d2d982366a880830fc91f1f5c775", func := "almucantar/almucantarlaw33.MeridianPolaris", spec := "meridianPolaris", inPlace := ["math/bits.Add64", "math/bits.Sub64"], recurses := true, named := ["math/bits.divideError", "math/bits.overflowError"], apart := false, narrowed := true }
def MeridianPolarisUptoSaid : Prop := meridianPolarisUptoRow.holds Tryz.pinned (OpenSpec.upto meridianPolarisSpec)

end Rows
end Go.Proofs.YtakcfcekdngndaaGreat
