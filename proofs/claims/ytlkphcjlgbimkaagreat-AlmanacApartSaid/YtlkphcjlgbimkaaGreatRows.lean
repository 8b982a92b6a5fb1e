/-
  No cell of these rows narrows 'for every input' (looked for: loops, veiled, ifaces, maps, wideKeys, modest, calm, conditions, laid).
  DERIVED. THE GIVEN ROWS OF THIS SEAT. 8 by the template 'for every input the law returns true; each argument reads behind the call as it read before'; 0 by the template 'total and deterministic' (their statements: YtlkphcjlgbimkaaGreatTotals.lean).
  GIVEN WITH THE SEED: the statements are not yours to turn. If you find one false, say at which input.
  Laid BY PROGRAM, IN A SANDBOX (cutbox-rows.mjs): the forced cells as the released guide's own fill.sh prints them over the translation 1cb01580ceeda1b1… (all of the seat's roots in one cut). By AI agents, Wed Nov 11 2026. No macro, syntax, notation, axiom, sorry.
-/
import Derived.Test.YtlkphcjlgbimkaaGreatChecked
import GoSem.Claim
import GoSem.ClaimJoined
import GoSem.ClaimMapViews
import Derived.JoinedTies
import Derived.KernelRfl
namespace Go.Proofs.YtlkphcjlgbimkaaGreat
/- THE CELL 'sum', in the pinned program and in every row, IS THE sha256 OF THE DUMP (.gsa) THAT YtlkphcjlgbimkaaGreatProg.lean LOADS. Nothing in Lean hashes anything: it is a label: what it is worth is what the hold of that sum in a sandbox is worth. -/
noncomputable def Tryz.pinned : Pinned := { name := "ytlkphcjlgbimkaagreat", sum := "1cb01580ceeda1b1f87090418083c5c8f70d9e8ab9ed055e577a97be5c92566d", checked := Tryz.checked }
namespace Rows
def none {H : Type} : Left H := { results := [], args := [] }

/-- 'almucantarlaw17.AlmanacWhere': WHATEVER THE INPUT: true; the input reads as it did. -/
def almanacWhereSpec : ChangeSpec := { name := "almanacWhere", fn := fun _ => fun
  | [d1, d2, d3, d4] => { results := [.lit (.bool true)], args := [d1, d2, d3, d4] }
  | _ => none }
def almanacWhereRow : OpenClaim := { program := "ytlkphcjlgbimkaagreat", sum := "1cb01580ceeda1b1f87090418083c5c8f70d9e8ab9ed055e577a97be5c92566d", func := "almucantar/almucantarlaw17.AlmanacWhere", spec := "almanacWhere", unfollowed := true, recurses := true, named := ["math/bits.divideError", "math/bits.overflowError"], apart := false }
def AlmanacWhereSaid : Prop := almanacWhereRow.holds Tryz.pinned (OpenSpec.ofChange almanacWhereSpec)

/-- ITS FALSE NEIGHBOUR: 'it returns false'. Refute it at one input. -/
def almanacWhereWrong : ChangeSpec := { name := "almanacWhere", fn := fun _ => fun
  | [d1, d2, d3, d4] => { results := [.lit (.bool false)], args := [d1, d2, d3, d4] }
  | _ => none }
def AlmanacWhereWrongFalsely : Prop := almanacWhereRow.holds Tryz.pinned (OpenSpec.ofChange almanacWhereWrong)

/-- 'almucantarlaw17.AlmanacParts': WHATEVER THE INPUT: true; the input reads as it did. -/
def almanacPartsSpec : ChangeSpec := { name := "almanacParts", fn := fun _ => fun
  | [d1, d2, d3, d4, d5] => { results := [.lit (.bool true)], args := [d1, d2, d3, d4, d5] }
  | _ => none }
def almanacPartsRow : OpenClaim := { program := "ytlkphcjlgbimkaagreat", sum := "1cb01580ceeda1b1f87090418083c5c8f70d9e8ab9ed055e577a97be5c92566d", func := "almucantar/almucantarlaw17.AlmanacParts", spec := "almanacParts", unfollowed := true, recurses := true, named := ["math/bits.divideError", "math/bits.overflowError"], apart := false }
def AlmanacPartsSaid : Prop := almanacPartsRow.holds Tryz.pinned (OpenSpec.ofChange almanacPartsSpec)

/-- ITS FALSE NEIGHBOUR: 'it returns false'. Refute it at one input. -/
def almanacPartsWrong : ChangeSpec := { name := "almanacParts", fn := fun _ => fun
  | [d1, d2, d3, d4, d5] => { results := [.lit (.bool false)], args := [d1, d2, d3, d4, d5] }
  | _ => none }
def AlmanacPartsWrongFalsely : Prop := almanacPartsRow.holds Tryz.pinned (OpenSpec.ofChange almanacPartsWrong)

/-- 'almucantarlaw17.AlmanacMidnight': WHATEVER THE INPUT: true; the input reads as it did. -/
def almanacMidnightSpec : ChangeSpec := { name := "almanacMidnight", fn := fun _ => fun
  | [d1, d2, d3] => { results := [.lit (.bool true)], args := [d1, d2, d3] }
  | _ => none }
def almanacMidnightRow : OpenClaim := { program := "ytlkphcjlgbimkaagreat", sum := "1cb01580ceeda1b1f87090418083c5c8f70d9e8ab9ed055e577a97be5c92566d", func := "almucantar/almucantarlaw17.AlmanacMidnight", spec := "almanacMidnight", unfollowed := true, recurses := true, named := ["math/bits.divideError", "math/bits.overflowError"], apart := false }
def AlmanacMidnightSaid : Prop := almanacMidnightRow.holds Tryz.pinned (OpenSpec.ofChange almanacMidnightSpec)

/-- ITS FALSE NEIGHBOUR: 'it returns false'. Refute it at one input. -/
def almanacMidnightWrong : ChangeSpec := { name := "almanacMidnight", fn := fun _ => fun
  | [d1, d2, d3] => { results := [.lit (.bool false)], args := [d1, d2, d3] }
  | _ => none }
def AlmanacMidnightWrongFalsely : Prop := almanacMidnightRow.holds Tryz.pinned (OpenSpec.ofChange almanacMidnightWrong)

/-- 'almucantarlaw17.AlmanacHours': WHATEVER THE INPUT: true; the input reads as it did. -/
def almanacHoursSpec : ChangeSpec := { name := "almanacHours", fn := fun _ => fun
  | [d1, d2, d3, d4, d5] => { results := [.lit (.bool true)], args := [d1, d2, d3, d4, d5] }
  | _ => none }
def almanacHoursRow : OpenClaim := { program := "ytlkphcjlgbimkaagreat", sum := "1cb01580ceeda1b1f87090418083c5c8f70d9e8ab9ed055e577a97be5c92566d", func := "almucantar/almucantarlaw17.AlmanacHours", spec := "almanacHours", unfollowed := true, recurses := true, named := ["math/bits.divideError", "math/bits.overflowError"], apart := false }
def AlmanacHoursSaid : Prop := almanacHoursRow.holds Tryz.pinned (OpenSpec.ofChange almanacHoursSpec)

/-- ITS FALSE NEIGHBOUR: 'it returns false'. Refute it at one input. -/
def almanacHoursWrong : ChangeSpec := { name := "almanacHours", fn := fun _ => fun
  | [d1, d2, d3, d4, d5] => { results := [.lit (.bool false)], args := [d1, d2, d3, d4, d5] }
  | _ => none }
def AlmanacHoursWrongFalsely : Prop := almanacHoursRow.holds Tryz.pinned (OpenSpec.ofChange almanacHoursWrong)

/-- 'almucantarlaw17.AlmanacStars': WHATEVER THE INPUT: true; the input reads as it did. -/
def almanacStarsSpec : ChangeSpec := { name := "almanacStars", fn := fun _ => fun
  | [d1, d2, d3] => { results := [.lit (.bool true)], args := [d1, d2, d3] }
  | _ => none }
def almanacStarsRow : OpenClaim := { program := "ytlkphcjlgbimkaagreat", sum := "1cb01580ceeda1b1f87090418083c5c8f70d9e8ab9ed055e577a97be5c92566d", func := "almucantar/almucantarlaw17.AlmanacStars", spec := "almanacStars", unfollowed := true, recurses := true, named := ["math/bits.divideError", "math/bits.overflowError"], apart := false }
def AlmanacStarsSaid : Prop := almanacStarsRow.holds Tryz.pinned (OpenSpec.ofChange almanacStarsSpec)

/-- ITS FALSE NEIGHBOUR: 'it returns false'. Refute it at one input. -/
def almanacStarsWrong : ChangeSpec := { name := "almanacStars", fn := fun _ => fun
  | [d1, d2, d3] => { results := [.lit (.bool false)], args := [d1, d2, d3] }
  | _ => none }
def AlmanacStarsWrongFalsely : Prop := almanacStarsRow.holds Tryz.pinned (OpenSpec.ofChange almanacStarsWrong)

/-- 'almucantarlaw17.AlmanacMakes': WHATEVER THE INPUT: true; the input reads as it did. -/
def almanacMakesSpec : ChangeSpec := { name := "almanacMakes", fn := fun _ => fun
  | [d1, d2, d3] => { results := [.lit (.bool true)], args := [d1, d2, d3] }
  | _ => none }
def almanacMakesRow : OpenClaim := { program := "ytlkphcjlgbimkaagreat", sum := "1cb01580ceeda1b1f87090418083c5c8f70d9e8ab9ed055e577a97be5c92566d", func := "almucantar/almucantarlaw17.AlmanacMakes", spec := "almanacMakes", unfollowed := true, recurses := true, named := ["math/bits.divideError", "math/bits.overflowError"], apart := false }
def AlmanacMakesSaid : Prop := almanacMakesRow.holds Tryz.pinned (OpenSpec.ofChange almanacMakesSpec)

/-- ITS FALSE NEIGHBOUR: 'it returns false'. Refute it at one input. -/
def almanacMakesWrong : ChangeSpec := { name := "almanacMakes", fn := fun _ => fun
  | [d1, d2, d3] => { results := [.lit (.bool false)], args := [d1, d2, d3] }
  | _ => none }
def AlmanacMakesWrongFalsely : Prop := almanacMakesRow.holds Tryz.pinned (OpenSpec.ofChange almanacMakesWrong)

/-- 'almucantarlaw17.AlmanacApart': WHATEVER THE INPUT: true; the input reads as it did. -/
def almanacApartSpec : ChangeSpec := { name := "almanacApart", fn := fun _ => fun
  | [d1, d2] => { results := [.lit (.bool true)], args := [d1, d2] }
  | _ => none }
def almanacApartRow : OpenClaim := { program := "ytlkphcjlgbimkaagreat", sum := "1cb01580ceeda1b1f87090418083c5c8f70d9e8ab9ed055e577a97be5c92566d", func := "almucantar/almucantarlaw17.AlmanacApart", spec := "almanacApart", unfollowed := true, recurses := true, named := ["math/bits.divideError", "math/bits.overflowError"], apart := false }
def AlmanacApartSaid : Prop := almanacApartRow.holds Tryz.pinned (OpenSpec.ofChange almanacApartSpec)

/-- ITS FALSE NEIGHBOUR: 'it returns false'. Refute it at one input. -/
def almanacApartWrong : ChangeSpec := { name := "almanacApart", fn := fun _ => fun
  | [d1, d2] => { results := [.lit (.bool false)], args := [d1, d2] }
  | _ => none }
def AlmanacApartWrongFalsely : Prop := almanacApartRow.holds Tryz.pinned (OpenSpec.ofChange almanacApartWrong)

/-- 'almucantarlaw33.MeridianPasses': WHATEVER THE INPUT: true; the input reads as it did. -/
def meridianPassesSpec : ChangeSpec := { name := "meridianPasses", fn := fun _ => fun
  | [d1, d2, d3, d4, d5] => { results := [.lit (.bool true)], args := [d1, d2, d3, d4, d5] }
  | _ => none }
def meridianPassesRow : OpenClaim := { program := "ytlkphcjlgbimkaagreat", sum := "1cb01580ceeda1b1f87090418083c5c8f70d9e8ab9ed055e577a97be5c92566d", func := "almucantar/almucantarlaw33.MeridianPasses", spec := "meridianPasses", unfollowed := true, recurses := true, named := ["math/bits.divideError", "math/bits.overflowError"], apart := false }
def MeridianPassesSaid : Prop := meridianPassesRow.holds Tryz.pinned (OpenSpec.ofChange meridianPassesSpec)

/-- ITS FALSE NEIGHBOUR: 'it returns false'. Refute it at one input. -/
def meridianPassesWrong : ChangeSpec := { name := "meridianPasses", fn := fun _ => fun
  | [d1, d2, d3, d4, d5] => { results := [.lit (.bool false)], args := [d1, d2, d3, d4, d5] }
  | _ => none }
def MeridianPassesWrongFalsely : Prop := meridianPassesRow.holds Tryz.pinned (OpenSpec.ofChange meridianPassesWrong)

/- THE SECOND FORM. 'bulk': how many values and letters a reading holds, each counted each time it is reached (what is shared counts as often as it is met; a slice's spare places count too). A statement '..UptoSaid' is the law's where the arguments, and the package variables that the reading takes, are together of bulk at most 1048576: NARROWER than '..Said'. Prove '..Said' where nothing that the law and all that it calls make is longer than what came in: it says more and counts as full. Else prove '..UptoSaid'. A law counts once. -/
mutual
def uptoBulk {H : Type} : DataW H → Nat
  | .lit (.string bytes) => bytes.length + 1
  | .lit _ => 1
  | .nil => 1
  | .ptr d => uptoBulk d + 1
  | .slice elems spare => uptoBulkAll elems + uptoBulkAll spare + 1
  | .agg parts => uptoBulkAll parts + 1
  | .iface _ d => uptoBulk d + 1
  | .map entries => uptoBulkEntries entries + 1
  | .held _ => 1
def uptoBulkAll {H : Type} : List (DataW H) → Nat
  | [] => 0
  | d :: r => uptoBulk d + uptoBulkAll r
def uptoBulkEntries {H : Type} : List (Lit × DataW H) → Nat
  | [] => 0
  | x :: r => uptoBulkEntry x + uptoBulkEntries r
def uptoBulkEntry {H : Type} : Lit × DataW H → Nat
  | (.string bytes, d) => bytes.length + uptoBulk d + 1
  | (_, d) => uptoBulk d + 1
 end
def uptoSmall : (H : Type) → List (DataW H) → Bool := fun _ ds => decide (uptoBulkAll ds ≤ 1048576)
def OpenSpec.upto (s : _root_.Go.ChangeSpec) : _root_.Go.OpenSpec := { _root_.Go.OpenSpec.ofChange s with cond := some uptoSmall }

/-- 'almucantarlaw17.AlmanacWhere', WHERE WHAT IT READS IS OF BULK AT MOST 1048576: true; the input reads as it did. -/
def almanacWhereUptoRow : OpenClaim := { program := "ytlkphcjlgbimkaagreat", sum := "1cb01580ceeda1b1f87090418083c5c8f70d9e8ab9ed055e577a97be5c92566d", func := "almucantar/almucantarlaw17.AlmanacWhere", spec := "almanacWhere", unfollowed := true, recurses := true, named := ["math/bits.divideError", "math/bits.overflowError"], apart := false, narrowed := true }
def AlmanacWhereUptoSaid : Prop := almanacWhereUptoRow.holds Tryz.pinned (OpenSpec.upto almanacWhereSpec)

/-- 'almucantarlaw17.AlmanacParts', WHERE WHAT IT READS IS OF BULK AT MOST 1048576: true; the input reads as it did. -/
def almanacPartsUptoRow : OpenClaim := { program := "ytlkphcjlgbimkaagreat", sum := "1cb01580ceeda1b1f87090418083c5c8f70d9e8ab9ed055e577a97be5c92566d", func := "almucantar/almucantarlaw17.AlmanacParts", spec := "almanacParts", unfollowed := true, recurses := true, named := ["math/bits.divideError", "math/bits.overflowError"], apart := false, narrowed := true }
def AlmanacPartsUptoSaid : Prop := almanacPartsUptoRow.holds Tryz.pinned (OpenSpec.upto almanacPartsSpec)

/-- 'almucantarlaw17.AlmanacMidnight', WHERE WHAT IT READS IS OF BULK AT MOST 1048576: true; the input reads as it did. -/
def almanacMidnightUptoRow : OpenClaim := { program := "ytlkphcjlgbimkaagreat", sum := "1cb01580ceeda1b1f87090418083c5c8f70d9e8ab9ed055e577a97be5c92566d", func := "almucantar/almucantarlaw17.AlmanacMidnight", spec := "almanacMidnight", unfollowed := true, recurses := true, named := ["math/bits.divideError", "math/bits.overflowError"], apart := false, narrowed := true }
def AlmanacMidnightUptoSaid : Prop := almanacMidnightUptoRow.holds Tryz.pinned (OpenSpec.upto almanacMidnightSpec)

/-- 'almucantarlaw17.AlmanacHours', WHERE WHAT IT READS IS OF BULK AT MOST 1048576: true; the input reads as it did. -/
def almanacHoursUptoRow : OpenClaim := { program := "ytlkphcjlgbimkaagreat", sum := "1cb01580ceeda1b1f87090418083c5c8f70d9e8ab9ed055e577a97be5c92566d", func := "almucantar/almucantarlaw17.AlmanacHours", spec := "almanacHours", unfollowed := true, recurses := true, named := ["math/bits.divideError", "math/bits.overflowError"], apart := false, narrowed := true }
def AlmanacHoursUptoSaid : Prop := almanacHoursUptoRow.holds Tryz.pinned (OpenSpec.upto almanacHoursSpec)

/-- 'almucantarlaw17.AlmanacStars', WHERE WHAT IT READS IS OF BULK AT MOST 1048576: true; the input reads as it did. -/
def almanacStarsUptoRow : OpenClaim := { program := "ytlkphcjlgbimkaagreat", sum := "1cb01580ceeda1b1f87090418083c5c8f70d9e8ab9ed055e577a97be5c92566d", func := "almucantar/almucantarlaw17.AlmanacStars", spec := "almanacStars", unfollowed := true, recurses := true, named := ["math/bits.divideError", "math/bits.overflowError"], apart := false, narrowed := true }
def AlmanacStarsUptoSaid : Prop := almanacStarsUptoRow.holds Tryz.pinned (OpenSpec.upto almanacStarsSpec)

/-- 'almucantarlaw17.AlmanacMakes', WHERE WHAT IT READS IS OF BULK AT MOST 1048576: true; the input reads as it did. -/
def almanacMakesUptoRow : OpenClaim := { program := "ytlkphcjlgbimkaagreat", sum := "1cb01580ceeda1b1f87090418083c5c8f70d9e8ab9ed055e577a97be5c92566d", func := "almucantar/almucantarlaw17.AlmanacMakes", spec := "almanacMakes", unfollowed := true, recurses := true, named := ["math/bits.divideError", "math/bits.overflowError"], apart := false, narrowed := true }
def AlmanacMakesUptoSaid : Prop := almanacMakesUptoRow.holds Tryz.pinned (OpenSpec.upto almanacMakesSpec)

/-- 'almucantarlaw17.AlmanacApart', WHERE WHAT IT READS IS OF BULK AT MOST 1048576: true; the input reads as it did. -/
def almanacApartUptoRow : OpenClaim := { program := "ytlkphcjlgbimkaagreat", sum := "1cb01580ceeda1b1f87090418083c5c8f70d9e8ab9ed055e577a97be5c92566d", func := "almucantar/almucantarlaw17.AlmanacApart", spec := "almanacApart", unfollowed := true, recurses := true, named := ["math/bits.divideError", "math/bits.overflowError"], apart := false, narrowed := true }
def AlmanacApartUptoSaid : Prop := almanacApartUptoRow.holds Tryz.pinned (OpenSpec.upto almanacApartSpec)

/-- 'almucantarlaw33.MeridianPasses', WHERE WHAT IT READS IS OF BULK AT MOST 1048576: true; the input reads as it did. -/
def meridianPassesUptoRow : OpenClaim := { program := "ytlkphcjlgbimkaagreat", sum := "1cb01580ceeda1b1f87090418083c5c8f70d9e8ab9ed055e577a97be5c92566d", func := "almucantar/almucantarlaw33.MeridianPasses", spec := "meridianPasses", unfollowed := true, recurses := true, named := ["math/bits.divideError", "math/bits.overflowError"], apart := false, narrowed := true }
def MeridianPassesUptoSaid : Prop := meridianPassesUptoRow.holds Tryz.pinned (OpenSpec.upto meridianPassesSpec)

end Rows
end Go.Proofs.YtlkphcjlgbimkaaGreat
