/-
  No cell of these rows narrows 'for every input' (looked for: loops, veiled, ifaces, maps, wideKeys, modest, calm, conditions, laid).
  DERIVED. THE GIVEN ROWS OF THIS SEAT. 8 by the template 'for every input the law returns true; each argument reads behind the call as it read before'; 0 by the template 'total and deterministic' (their statements: YtknammeehedbdaaTotals.lean).
  GIVEN WITH THE SEED: the statements are not yours to turn. If you find one false, say at which input.
  Laid BY PROGRAM, IN A SANDBOX (cutbox-rows.mjs): the forced cells as the released guide's own fill.sh prints them over the translation aaeb2f4bfb60ff45… (all of the seat's roots in one cut). By AI agents, Wed Nov 11 2026. No macro, syntax, notation, axiom, sorry.
-/
import Derived.Test.YtknammeehedbdaaChecked
import GoSem.Claim
import GoSem.ClaimJoined
import GoSem.ClaimMapViews
import Derived.JoinedTies
import Derived.KernelRfl
namespace Go.Proofs.Ytknammeehedbdaa
/- THE CELL 'sum', in the pinned program and in every row, IS THE sha256 OF THE DUMP (.gsa) THAT YtknammeehedbdaaProg.lean LOADS. Nothing in Lean hashes anything: it is a label: what it is worth is what the hold of that sum in a sandbox is worth. -/
noncomputable def Try.pinned : Pinned := { name := "ytknammeehedbdaa", sum := "aaeb2f4bfb60ff45ca396fa9293e29092a2653a1ad4b98349411a5d0c038d6c9", checked := Try.checked }
namespace Rows
def none {H : Type} : Left H := { results := [], args := [] }

/-- 'almucantarlaw14.IncrementsLinear': WHATEVER THE INPUT: true; the input reads as it did. -/
def incrementsLinearSpec : ChangeSpec := { name := "incrementsLinear", fn := fun _ => fun
  | [d1, d2, d3, d4] => { results := [.lit (.bool true)], args := [d1, d2, d3, d4] }
  | _ => none }
def incrementsLinearRow : OpenClaim := { program := "ytknammeehedbdaa", sum := "aaeb2f4bfb60ff45ca396fa9293e29092a2653a1ad4b98349411a5d0c038d6c9", func := "almucantar/almucantarlaw14.IncrementsLinear", spec := "incrementsLinear", apart := false }
def IncrementsLinearSaid : Prop := incrementsLinearRow.holds Try.pinned (OpenSpec.ofChange incrementsLinearSpec)

/-- ITS FALSE NEIGHBOUR: 'it returns false'. Refute it at one input. -/
def incrementsLinearWrong : ChangeSpec := { name := "incrementsLinear", fn := fun _ => fun
  | [d1, d2, d3, d4] => { results := [.lit (.bool false)], args := [d1, d2, d3, d4] }
  | _ => none }
def IncrementsLinearWrongFalsely : Prop := incrementsLinearRow.holds Try.pinned (OpenSpec.ofChange incrementsLinearWrong)

/-- 'almucantarlaw14.IncrementsSums': WHATEVER THE INPUT: true; the input reads as it did. -/
def incrementsSumsSpec : ChangeSpec := { name := "incrementsSums", fn := fun _ => fun
  | [d1, d2, d3, d4] => { results := [.lit (.bool true)], args := [d1, d2, d3, d4] }
  | _ => none }
def incrementsSumsRow : OpenClaim := { program := "ytknammeehedbdaa", sum := "aaeb2f4bfb60ff45ca396fa9293e29092a2653a1ad4b98349411a5d0c038d6c9", func := "almucantar/almucantarlaw14.IncrementsSums", spec := "incrementsSums", apart := false }
def IncrementsSumsSaid : Prop := incrementsSumsRow.holds Try.pinned (OpenSpec.ofChange incrementsSumsSpec)

/-- ITS FALSE NEIGHBOUR: 'it returns false'. Refute it at one input. -/
def incrementsSumsWrong : ChangeSpec := { name := "incrementsSums", fn := fun _ => fun
  | [d1, d2, d3, d4] => { results := [.lit (.bool false)], args := [d1, d2, d3, d4] }
  | _ => none }
def IncrementsSumsWrongFalsely : Prop := incrementsSumsRow.holds Try.pinned (OpenSpec.ofChange incrementsSumsWrong)

/-- 'almucantarlaw14.IncrementsBetween': WHATEVER THE INPUT: true; the input reads as it did. -/
def incrementsBetweenSpec : ChangeSpec := { name := "incrementsBetween", fn := fun _ => fun
  | [d1, d2, d3, d4] => { results := [.lit (.bool true)], args := [d1, d2, d3, d4] }
  | _ => none }
def incrementsBetweenRow : OpenClaim := { program := "ytknammeehedbdaa", sum := "aaeb2f4bfb60ff45ca396fa9293e29092a2653a1ad4b98349411a5d0c038d6c9", func := "almucantar/almucantarlaw14.IncrementsBetween", spec := "incrementsBetween", apart := false }
def IncrementsBetweenSaid : Prop := incrementsBetweenRow.holds Try.pinned (OpenSpec.ofChange incrementsBetweenSpec)

/-- ITS FALSE NEIGHBOUR: 'it returns false'. Refute it at one input. -/
def incrementsBetweenWrong : ChangeSpec := { name := "incrementsBetween", fn := fun _ => fun
  | [d1, d2, d3, d4] => { results := [.lit (.bool false)], args := [d1, d2, d3, d4] }
  | _ => none }
def IncrementsBetweenWrongFalsely : Prop := incrementsBetweenRow.holds Try.pinned (OpenSpec.ofChange incrementsBetweenWrong)

/-- 'almucantarlaw14.IncrementsTables': WHATEVER THE INPUT: true; the input reads as it did. -/
def incrementsTablesSpec : ChangeSpec := { name := "incrementsTables", fn := fun _ => fun
  | [d1, d2] => { results := [.lit (.bool true)], args := [d1, d2] }
  | _ => none }
def incrementsTablesRow : OpenClaim := { program := "ytknammeehedbdaa", sum := "aaeb2f4bfb60ff45ca396fa9293e29092a2653a1ad4b98349411a5d0c038d6c9", func := "almucantar/almucantarlaw14.IncrementsTables", spec := "incrementsTables", apart := false }
def IncrementsTablesSaid : Prop := incrementsTablesRow.holds Try.pinned (OpenSpec.ofChange incrementsTablesSpec)

/-- ITS FALSE NEIGHBOUR: 'it returns false'. Refute it at one input. -/
def incrementsTablesWrong : ChangeSpec := { name := "incrementsTables", fn := fun _ => fun
  | [d1, d2] => { results := [.lit (.bool false)], args := [d1, d2] }
  | _ => none }
def IncrementsTablesWrongFalsely : Prop := incrementsTablesRow.holds Try.pinned (OpenSpec.ofChange incrementsTablesWrong)

/-- 'almucantarlaw14.IncrementsValues': WHATEVER THE INPUT: true; the input reads as it did. -/
def incrementsValuesSpec : ChangeSpec := { name := "incrementsValues", fn := fun _ => fun
  | [d1, d2] => { results := [.lit (.bool true)], args := [d1, d2] }
  | _ => none }
def incrementsValuesRow : OpenClaim := { program := "ytknammeehedbdaa", sum := "aaeb2f4bfb60ff45ca396fa9293e29092a2653a1ad4b98349411a5d0c038d6c9", func := "almucantar/almucantarlaw14.IncrementsValues", spec := "incrementsValues", unfollowed := true, recurses := true, apart := false }
def IncrementsValuesSaid : Prop := incrementsValuesRow.holds Try.pinned (OpenSpec.ofChange incrementsValuesSpec)

/-- ITS FALSE NEIGHBOUR: 'it returns false'. Refute it at one input. -/
def incrementsValuesWrong : ChangeSpec := { name := "incrementsValues", fn := fun _ => fun
  | [d1, d2] => { results := [.lit (.bool false)], args := [d1, d2] }
  | _ => none }
def IncrementsValuesWrongFalsely : Prop := incrementsValuesRow.holds Try.pinned (OpenSpec.ofChange incrementsValuesWrong)

/-- 'almucantarlaw14.IncrementsTrue': WHATEVER THE INPUT: true; the input reads as it did. -/
def incrementsTrueSpec : ChangeSpec := { name := "incrementsTrue", fn := fun _ => fun
  | [d1, d2, d3, d4, d5, d6] => { results := [.lit (.bool true)], args := [d1, d2, d3, d4, d5, d6] }
  | _ => none }
def incrementsTrueRow : OpenClaim := { program := "ytknammeehedbdaa", sum := "aaeb2f4bfb60ff45ca396fa9293e29092a2653a1ad4b98349411a5d0c038d6c9", func := "almucantar/almucantarlaw14.IncrementsTrue", spec := "incrementsTrue", unfollowed := true, recurses := true, apart := false }
def IncrementsTrueSaid : Prop := incrementsTrueRow.holds Try.pinned (OpenSpec.ofChange incrementsTrueSpec)

/-- ITS FALSE NEIGHBOUR: 'it returns false'. Refute it at one input. -/
def incrementsTrueWrong : ChangeSpec := { name := "incrementsTrue", fn := fun _ => fun
  | [d1, d2, d3, d4, d5, d6] => { results := [.lit (.bool false)], args := [d1, d2, d3, d4, d5, d6] }
  | _ => none }
def IncrementsTrueWrongFalsely : Prop := incrementsTrueRow.holds Try.pinned (OpenSpec.ofChange incrementsTrueWrong)

/-- 'almucantarlaw14.IncrementsSpans': WHATEVER THE INPUT: true; the input reads as it did. -/
def incrementsSpansSpec : ChangeSpec := { name := "incrementsSpans", fn := fun _ => fun
  | [d1, d2, d3] => { results := [.lit (.bool true)], args := [d1, d2, d3] }
  | _ => none }
def incrementsSpansRow : OpenClaim := { program := "ytknammeehedbdaa", sum := "aaeb2f4bfb60ff45ca396fa9293e29092a2653a1ad4b98349411a5d0c038d6c9", func := "almucantar/almucantarlaw14.IncrementsSpans", spec := "incrementsSpans", unfollowed := true, recurses := true, apart := false }
def IncrementsSpansSaid : Prop := incrementsSpansRow.holds Try.pinned (OpenSpec.ofChange incrementsSpansSpec)

/-- ITS FALSE NEIGHBOUR: 'it returns false'. Refute it at one input. -/
def incrementsSpansWrong : ChangeSpec := { name := "incrementsSpans", fn := fun _ => fun
  | [d1, d2, d3] => { results := [.lit (.bool false)], args := [d1, d2, d3] }
  | _ => none }
def IncrementsSpansWrongFalsely : Prop := incrementsSpansRow.holds Try.pinned (OpenSpec.ofChange incrementsSpansWrong)

/-- 'almucantarlaw14.IncrementsParts': WHATEVER THE INPUT: true; the input reads as it did. -/
def incrementsPartsSpec : ChangeSpec := { name := "incrementsParts", fn := fun _ => fun
  | [d1, d2, d3, d4, d5] => { results := [.lit (.bool true)], args := [d1, d2, d3, d4, d5] }
  | _ => none }
def incrementsPartsRow : OpenClaim := { program := "ytknammeehedbdaa", sum := "aaeb2f4bfb60ff45ca396fa9293e29092a2653a1ad4b98349411a5d0c038d6c9", func := "almucantar/almucantarlaw14.IncrementsParts", spec := "incrementsParts", unfollowed := true, recurses := true, apart := false }
def IncrementsPartsSaid : Prop := incrementsPartsRow.holds Try.pinned (OpenSpec.ofChange incrementsPartsSpec)

/-- ITS FALSE NEIGHBOUR: 'it returns false'. Refute it at one input. -/
def incrementsPartsWrong : ChangeSpec := { name := "incrementsParts", fn := fun _ => fun
  | [d1, d2, d3, d4, d5] => { results := [.lit (.bool false)], args := [d1, d2, d3, d4, d5] }
  | _ => none }
def IncrementsPartsWrongFalsely : Prop := incrementsPartsRow.holds Try.pinned (OpenSpec.ofChange incrementsPartsWrong)

/- THE SECOND FORM. 'bulk': how many values and letters a reading holds, each counted each time it is reached (what is shared counts as often as it is met; a slice's spare places count too). A statement '..UptoSaid' is the law's where the arguments, and the package variables that the reading takes, are together of bulk at most 1048576: NARROWER than '..Said'. Prove '..Said' where nothing that the law and all that it calls make is longer than what came in: it says more and counts as full. Else prove '..UptoSaid'. A law counts once. -/
mutual
def uptoBulk {H : Type} : DataW H → Nat
  | .lit (.string bytes) => bytes.length + 1
  | .lit _ => 1
  | .nil => 1
  | .ptr d => uptoBulk d + 1
  | .slice elems spare => uptoBulkAll elems + uptoBulkAll spare + 1
  | .agg parts => uptoBulkAll parts + 1
  | .iface _ d => uptoBulk d + 1
  | .map entries => uptoBulkEntries entries + 1
  | .held _ => 1
def uptoBulkAll {H : Type} : List (DataW H) → Nat
  | [] => 0
  | d :: r => uptoBulk d + uptoBulkAll r
def uptoBulkEntries {H : Type} : List (Lit × DataW H) → Nat
  | [] => 0
  | x :: r => uptoBulkEntry x + uptoBulkEntries r
def uptoBulkEntry {H : Type} : Lit × DataW H → Nat
  | (.string bytes, d) => bytes.length + uptoBulk d + 1
  | (_, d) => uptoBulk d + 1
 end
def uptoSmall : (H : Type) → List (DataW H) → Bool := fun _ ds => decide (uptoBulkAll ds ≤ 1048576)
def OpenSpec.upto (s : _root_.Go.ChangeSpec) : _root_.Go.OpenSpec := { _root_.Go.OpenSpec.ofChange s with cond := some uptoSmall }

/-- 'almucantarlaw14.IncrementsLinear', WHERE WHAT IT READS IS OF BULK AT MOST 1048576: true; the input reads as it did. -/
def incrementsLinearUptoRow : OpenClaim := { program := "ytknammeehedbdaa", sum := "aaeb2f4bfb60ff45ca396fa9293e29092a2653a1ad4b98349411a5d0c038d6c9", func := "almucantar/almucantarlaw14.IncrementsLinear", spec := "incrementsLinear", apart := false, narrowed := true }
def IncrementsLinearUptoSaid : Prop := incrementsLinearUptoRow.holds Try.pinned (OpenSpec.upto incrementsLinearSpec)

/-- 'almucantarlaw14.IncrementsSums', WHERE WHAT IT READS IS OF BULK AT MOST 1048576: true; the input reads as it did. -/
def incrementsSumsUptoRow : OpenClaim := { program := "ytknammeehedbdaa", sum := "aaeb2f4bfb60ff45ca396fa9293e29092a2653a1ad4b98349411a5d0c038d6c9", func := "almucantar/almucantarlaw14.IncrementsSums", spec := "incrementsSums", apart := false, narrowed := true }
def IncrementsSumsUptoSaid : Prop := incrementsSumsUptoRow.holds Try.pinned (OpenSpec.upto incrementsSumsSpec)

/-- 'almucantarlaw14.IncrementsBetween', WHERE WHAT IT READS IS OF BULK AT MOST 1048576: true; the input reads as it did. -/
def incrementsBetweenUptoRow : OpenClaim := { program := "ytknammeehedbdaa", sum := "aaeb2f4bfb60ff45ca396fa9293e29092a2653a1ad4b98349411a5d0c038d6c9", func := "almucantar/almucantarlaw14.IncrementsBetween", spec := "incrementsBetween", apart := false, narrowed := true }
def IncrementsBetweenUptoSaid : Prop := incrementsBetweenUptoRow.holds Try.pinned (OpenSpec.upto incrementsBetweenSpec)

/-- 'almucantarlaw14.IncrementsTables', WHERE WHAT IT READS IS OF BULK AT MOST 1048576: true; the input reads as it did. -/
def incrementsTablesUptoRow : OpenClaim := { program := "ytknammeehedbdaa", sum := "aaeb2f4bfb60ff45ca396fa9293e29092a2653a1ad4b98349411a5d0c038d6c9", func := "almucantar/almucantarlaw14.IncrementsTables", spec := "incrementsTables", apart := false, narrowed := true }
def IncrementsTablesUptoSaid : Prop := incrementsTablesUptoRow.holds Try.pinned (OpenSpec.upto incrementsTablesSpec)

/-- 'almucantarlaw14.IncrementsValues', WHERE WHAT IT READS IS OF BULK AT MOST 1048576: true; the input reads as it did. -/
def incrementsValuesUptoRow : OpenClaim := { program := "ytknammeehedbdaa", sum := "aaeb2f4bfb60ff45ca396fa9293e29092a2653a1ad4b98349411a5d0c038d6c9", func := "almucantar/almucantarlaw14.IncrementsValues", spec := "incrementsValues", unfollowed := true, recurses := true, apart := false, narrowed := true }
def IncrementsValuesUptoSaid : Prop := incrementsValuesUptoRow.holds Try.pinned (OpenSpec.upto incrementsValuesSpec)

/-- 'almucantarlaw14.IncrementsTrue', WHERE WHAT IT READS IS OF BULK AT MOST 1048576: true; the input reads as it did. -/
def incrementsTrueUptoRow : OpenClaim := { program := "ytknammeehedbdaa", sum := "aaeb2f4bfb60ff45ca396fa9293e29092a2653a1ad4b98349411a5d0c038d6c9", func := "almucantar/almucantarlaw14.IncrementsTrue", spec := "incrementsTrue", unfollowed := true, recurses := true, apart := false, narrowed := true }
def IncrementsTrueUptoSaid : Prop := incrementsTrueUptoRow.holds Try.pinned (OpenSpec.upto incrementsTrueSpec)

/-- 'almucantarlaw14.IncrementsSpans', WHERE WHAT IT READS IS OF BULK AT MOST 1048576: true; the input reads as it did. -/
def incrementsSpansUptoRow : OpenClaim := { program := "ytknammeehedbdaa", sum := "aaeb2f4bfb60ff45ca396fa9293e29092a2653a1ad4b98349411a5d0c038d6c9", func := "almucantar/almucantarlaw14.IncrementsSpans", spec := "incrementsSpans", unfollowed := true, recurses := true, apart := false, narrowed := true }
def IncrementsSpansUptoSaid : Prop := incrementsSpansUptoRow.holds Try.pinned (OpenSpec.upto incrementsSpansSpec)

/-- 'almucantarlaw14.IncrementsParts', WHERE WHAT IT READS IS OF BULK AT MOST 1048576: true; the input reads as it did. -/
def incrementsPartsUptoRow : OpenClaim := { program := "ytknammeehedbdaa", sum := "aaeb2f4bfb60ff45ca396fa9293e29092a2653a1ad4b98349411a5d0c038d6c9", func := "almucantar/almucantarlaw14.IncrementsParts", spec := "incrementsParts", unfollowed := true, recurses := true, apart := false, narrowed := true }
def IncrementsPartsUptoSaid : Prop := incrementsPartsUptoRow.holds Try.pinned (OpenSpec.upto incrementsPartsSpec)

end Rows
end Go.Proofs.Ytknammeehedbdaa
