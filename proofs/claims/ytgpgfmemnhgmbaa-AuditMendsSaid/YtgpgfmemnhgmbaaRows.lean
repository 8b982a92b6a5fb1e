/-
  No cell of these rows narrows 'for every input' (looked for: loops, veiled, ifaces, maps, wideKeys, modest, calm, conditions, laid).
  DERIVED. THE GIVEN ROWS OF THIS SEAT. 7 by the template 'for every input the law returns true; each argument reads behind the call as it read before'; 0 by the template 'total and deterministic' (their statements: YtgpgfmemnhgmbaaTotals.lean).
  GIVEN WITH THE SEED: the statements are not yours to turn. If you find one false, say at which input.
  Laid BY PROGRAM, IN A SANDBOX (cutbox-rows.mjs): the forced cells as the released guide's own fill.sh prints them over the translation dc31bdd80f57bc42… (all of the seat's roots in one cut). By AI agents, Wed Nov 11 2026. No macro, syntax, notation, axiom, sorry.
-/
import Derived.Test.YtgpgfmemnhgmbaaChecked
import GoSem.Claim
import GoSem.ClaimJoined
import GoSem.ClaimMapViews
import Derived.JoinedTies
import Derived.KernelRfl
namespace Go.Proofs.Ytgpgfmemnhgmbaa
/- THE CELL 'sum', in the pinned program and in every row, IS THE sha256 OF THE DUMP (.gsa) THAT YtgpgfmemnhgmbaaProg.lean LOADS. Nothing in Lean hashes anything: it is a label: what it is worth is what the hold of that sum in a sandbox is worth. -/
noncomputable def Try.pinned : Pinned := { name := "ytgpgfmemnhgmbaa", sum := "dc31bdd80f57bc42f99a2f7fe34eb79ab2a4a419e952774af826223768971bf8", checked := Try.checked }
namespace Rows
def none {H : Type} : Left H := { results := [], args := [] }

/-- 'almucantarlaw15.AuditDifferences': WHATEVER THE INPUT: true; the input reads as it did. -/
def auditDifferencesSpec : ChangeSpec := { name := "auditDifferences", fn := fun _ => fun
  | [d1, d2, d3] => { results := [.lit (.bool true)], args := [d1, d2, d3] }
  | _ => none }
def auditDifferencesRow : OpenClaim := { program := "ytgpgfmemnhgmbaa", sum := "dc31bdd80f57bc42f99a2f7fe34eb79ab2a4a419e952774af826223768971bf8", func := "almucantar/almucantarlaw15.AuditDifferences", spec := "auditDifferences", unfollowed := true, recurses := true, apart := false }
def AuditDifferencesSaid : Prop := auditDifferencesRow.holds Try.pinned (OpenSpec.ofChange auditDifferencesSpec)

/-- ITS FALSE NEIGHBOUR: 'it returns false'. Refute it at one input. -/
def auditDifferencesWrong : ChangeSpec := { name := "auditDifferences", fn := fun _ => fun
  | [d1, d2, d3] => { results := [.lit (.bool false)], args := [d1, d2, d3] }
  | _ => none }
def AuditDifferencesWrongFalsely : Prop := auditDifferencesRow.holds Try.pinned (OpenSpec.ofChange auditDifferencesWrong)

/-- 'almucantarlaw15.AuditPossible': WHATEVER THE INPUT: true; the input reads as it did. -/
def auditPossibleSpec : ChangeSpec := { name := "auditPossible", fn := fun _ => fun
  | [d1, d2, d3] => { results := [.lit (.bool true)], args := [d1, d2, d3] }
  | _ => none }
def auditPossibleRow : OpenClaim := { program := "ytgpgfmemnhgmbaa", sum := "dc31bdd80f57bc42f99a2f7fe34eb79ab2a4a419e952774af826223768971bf8", func := "almucantar/almucantarlaw15.AuditPossible", spec := "auditPossible", unfollowed := true, recurses := true, apart := false }
def AuditPossibleSaid : Prop := auditPossibleRow.holds Try.pinned (OpenSpec.ofChange auditPossibleSpec)

/-- ITS FALSE NEIGHBOUR: 'it returns false'. Refute it at one input. -/
def auditPossibleWrong : ChangeSpec := { name := "auditPossible", fn := fun _ => fun
  | [d1, d2, d3] => { results := [.lit (.bool false)], args := [d1, d2, d3] }
  | _ => none }
def AuditPossibleWrongFalsely : Prop := auditPossibleRow.holds Try.pinned (OpenSpec.ofChange auditPossibleWrong)

/-- 'almucantarlaw15.AuditRepairs': WHATEVER THE INPUT: true; the input reads as it did. -/
def auditRepairsSpec : ChangeSpec := { name := "auditRepairs", fn := fun _ => fun
  | [d1, d2, d3, d4] => { results := [.lit (.bool true)], args := [d1, d2, d3, d4] }
  | _ => none }
def auditRepairsRow : OpenClaim := { program := "ytgpgfmemnhgmbaa", sum := "dc31bdd80f57bc42f99a2f7fe34eb79ab2a4a419e952774af826223768971bf8", func := "almucantar/almucantarlaw15.AuditRepairs", spec := "auditRepairs", unfollowed := true, recurses := true, apart := false }
def AuditRepairsSaid : Prop := auditRepairsRow.holds Try.pinned (OpenSpec.ofChange auditRepairsSpec)

/-- ITS FALSE NEIGHBOUR: 'it returns false'. Refute it at one input. -/
def auditRepairsWrong : ChangeSpec := { name := "auditRepairs", fn := fun _ => fun
  | [d1, d2, d3, d4] => { results := [.lit (.bool false)], args := [d1, d2, d3, d4] }
  | _ => none }
def AuditRepairsWrongFalsely : Prop := auditRepairsRow.holds Try.pinned (OpenSpec.ofChange auditRepairsWrong)

/-- 'almucantarlaw15.AuditSilent': WHATEVER THE INPUT: true; the input reads as it did. -/
def auditSilentSpec : ChangeSpec := { name := "auditSilent", fn := fun _ => fun
  | [d1, d2, d3, d4, d5] => { results := [.lit (.bool true)], args := [d1, d2, d3, d4, d5] }
  | _ => none }
def auditSilentRow : OpenClaim := { program := "ytgpgfmemnhgmbaa", sum := "dc31bdd80f57bc42f99a2f7fe34eb79ab2a4a419e952774af826223768971bf8", func := "almucantar/almucantarlaw15.AuditSilent", spec := "auditSilent", unfollowed := true, recurses := true, apart := false }
def AuditSilentSaid : Prop := auditSilentRow.holds Try.pinned (OpenSpec.ofChange auditSilentSpec)

/-- ITS FALSE NEIGHBOUR: 'it returns false'. Refute it at one input. -/
def auditSilentWrong : ChangeSpec := { name := "auditSilent", fn := fun _ => fun
  | [d1, d2, d3, d4, d5] => { results := [.lit (.bool false)], args := [d1, d2, d3, d4, d5] }
  | _ => none }
def AuditSilentWrongFalsely : Prop := auditSilentRow.holds Try.pinned (OpenSpec.ofChange auditSilentWrong)

/-- 'almucantarlaw15.AuditMends': WHATEVER THE INPUT: true; the input reads as it did. -/
def auditMendsSpec : ChangeSpec := { name := "auditMends", fn := fun _ => fun
  | [d1, d2, d3, d4, d5] => { results := [.lit (.bool true)], args := [d1, d2, d3, d4, d5] }
  | _ => none }
def auditMendsRow : OpenClaim := { program := "ytgpgfmemnhgmbaa", sum := "dc31bdd80f57bc42f99a2f7fe34eb79ab2a4a419e952774af826223768971bf8", func := "almucantar/almucantarlaw15.AuditMends", spec := "auditMends", unfollowed := true, recurses := true, apart := false }
def AuditMendsSaid : Prop := auditMendsRow.holds Try.pinned (OpenSpec.ofChange auditMendsSpec)

/-- ITS FALSE NEIGHBOUR: 'it returns false'. Refute it at one input. -/
def auditMendsWrong : ChangeSpec := { name := "auditMends", fn := fun _ => fun
  | [d1, d2, d3, d4, d5] => { results := [.lit (.bool false)], args := [d1, d2, d3, d4, d5] }
  | _ => none }
def AuditMendsWrongFalsely : Prop := auditMendsRow.holds Try.pinned (OpenSpec.ofChange auditMendsWrong)

/-- 'almucantarlaw15.AuditSuspects': WHATEVER THE INPUT: true; the input reads as it did. -/
def auditSuspectsSpec : ChangeSpec := { name := "auditSuspects", fn := fun _ => fun
  | [d] => { results := [.lit (.bool true)], args := [d] }
  | _ => none }
def auditSuspectsRow : OpenClaim := { program := "ytgpgfmemnhgmbaa", sum := "dc31bdd80f57bc42f99a2f7fe34eb79ab2a4a419e952774af826223768971bf8", func := "almucantar/almucantarlaw15.AuditSuspects", spec := "auditSuspects", unfollowed := true, recurses := true, apart := false }
def AuditSuspectsSaid : Prop := auditSuspectsRow.holds Try.pinned (OpenSpec.ofChange auditSuspectsSpec)

/-- ITS FALSE NEIGHBOUR: 'it returns false'. Refute it at one input. -/
def auditSuspectsWrong : ChangeSpec := { name := "auditSuspects", fn := fun _ => fun
  | [d] => { results := [.lit (.bool false)], args := [d] }
  | _ => none }
def AuditSuspectsWrongFalsely : Prop := auditSuspectsRow.holds Try.pinned (OpenSpec.ofChange auditSuspectsWrong)

/-- 'almucantarlaw15.AuditFinds': WHATEVER THE INPUT: true; the input reads as it did. -/
def auditFindsSpec : ChangeSpec := { name := "auditFinds", fn := fun _ => fun
  | [d1, d2, d3, d4] => { results := [.lit (.bool true)], args := [d1, d2, d3, d4] }
  | _ => none }
def auditFindsRow : OpenClaim := { program := "ytgpgfmemnhgmbaa", sum := "dc31bdd80f57bc42f99a2f7fe34eb79ab2a4a419e952774af826223768971bf8", func := "almucantar/almucantarlaw15.AuditFinds", spec := "auditFinds", unfollowed := true, recurses := true, apart := false }
def AuditFindsSaid : Prop := auditFindsRow.holds Try.pinned (OpenSpec.ofChange auditFindsSpec)

/-- ITS FALSE NEIGHBOUR: 'it returns false'. Refute it at one input. -/
def auditFindsWrong : ChangeSpec := { name := "auditFinds", fn := fun _ => fun
  | [d1, d2, d3, d4] => { results := [.lit (.bool false)], args := [d1, d2, d3, d4] }
  | _ => none }
def AuditFindsWrongFalsely : Prop := auditFindsRow.holds Try.pinned (OpenSpec.ofChange auditFindsWrong)

/- THE SECOND FORM. 'bulk': how many values and letters a reading holds, each counted each time it is reached (what is shared counts as often as it is met; a slice's spare places count too). A statement '..UptoSaid' is the law's where the arguments, and the package variables that the reading takes, are together of bulk at most 1048576: NARROWER than '..Said'. Prove '..Said' where nothing that the law and all that it calls make is longer than what came in: it says more and counts as full. Else prove '..UptoSaid'. A law counts once. -/
mutual
def uptoBulk {H : Type} : DataW H → Nat
  | .lit (.string bytes) => bytes.length + 1
  | .lit _ => 1
  | .nil => 1
  | .ptr d => uptoBulk d + 1
  | .slice elems spare => uptoBulkAll elems + uptoBulkAll spare + 1
  | .agg parts => uptoBulkAll parts + 1
  | .iface _ d => uptoBulk d + 1
  | .map entries => uptoBulkEntries entries + 1
  | .held _ => 1
def uptoBulkAll {H : Type} : List (DataW H) → Nat
  | [] => 0
  | d :: r => uptoBulk d + uptoBulkAll r
def uptoBulkEntries {H : Type} : List (Lit × DataW H) → Nat
  | [] => 0
  | x :: r => uptoBulkEntry x + uptoBulkEntries r
def uptoBulkEntry {H : Type} : Lit × DataW H → Nat
  | (.string bytes, d) => bytes.length + uptoBulk d + 1
  | (_, d) => uptoBulk d + 1
 end
def uptoSmall : (H : Type) → List (DataW H) → Bool := fun _ ds => decide (uptoBulkAll ds ≤ 1048576)
def OpenSpec.upto (s : _root_.Go.ChangeSpec) : _root_.Go.OpenSpec := { _root_.Go.OpenSpec.ofChange s with cond := some uptoSmall }

/-- 'almucantarlaw15.AuditDifferences', WHERE WHAT IT READS IS OF BULK AT MOST 1048576: true; the input reads as it did. -/
def auditDifferencesUptoRow : OpenClaim := { program := "ytgpgfmemnhgmbaa", sum := "dc31bdd80f57bc42f99a2f7fe34eb79ab2a4a419e952774af826223768971bf8", func := "almucantar/almucantarlaw15.AuditDifferences", spec := "auditDifferences", unfollowed := true, recurses := true, apart := false, narrowed := true }
def AuditDifferencesUptoSaid : Prop := auditDifferencesUptoRow.holds Try.pinned (OpenSpec.upto auditDifferencesSpec)

/-- 'almucantarlaw15.AuditPossible', WHERE WHAT IT READS IS OF BULK AT MOST 1048576: true; the input reads as it did. -/
def auditPossibleUptoRow : OpenClaim := { program := "ytgpgfmemnhgmbaa", sum := "dc31bdd80f57bc42f99a2f7fe34eb79ab2a4a419e952774af826223768971bf8", func := "almucantar/almucantarlaw15.AuditPossible", spec := "auditPossible", unfollowed := true, recurses := true, apart := false, narrowed := true }
def AuditPossibleUptoSaid : Prop := auditPossibleUptoRow.holds Try.pinned (OpenSpec.upto auditPossibleSpec)

/-- 'almucantarlaw15.AuditRepairs', WHERE WHAT IT READS IS OF BULK AT MOST 1048576: true; the input reads as it did. -/
def auditRepairsUptoRow : OpenClaim := { program := "ytgpgfmemnhgmbaa", sum := "dc31bdd80f57bc42f99a2f7fe34eb79ab2a4a419e952774af826223768971bf8", func := "almucantar/almucantarlaw15.AuditRepairs", spec := "auditRepairs", unfollowed := true, recurses := true, apart := false, narrowed := true }
def AuditRepairsUptoSaid : Prop := auditRepairsUptoRow.holds Try.pinned (OpenSpec.upto auditRepairsSpec)

/-- 'almucantarlaw15.AuditSilent', WHERE WHAT IT READS IS OF BULK AT MOST 1048576: true; the input reads as it did. -/
def auditSilentUptoRow : OpenClaim := { program := "ytgpgfmemnhgmbaa", sum := "dc31bdd80f57bc42f99a2f7fe34eb79ab2a4a419e952774af826223768971bf8", func := "almucantar/almucantarlaw15.AuditSilent", spec := "auditSilent", unfollowed := true, recurses := true, apart := false, narrowed := true }
def AuditSilentUptoSaid : Prop := auditSilentUptoRow.holds Try.pinned (OpenSpec.upto auditSilentSpec)

/-- 'almucantarlaw15.AuditMends', WHERE WHAT IT READS IS OF BULK AT MOST 1048576: true; the input reads as it did. -/
def auditMendsUptoRow : OpenClaim := { program := "ytgpgfmemnhgmbaa", sum := "dc31bdd80f57bc42f99a2f7fe34eb79ab2a4a419e952774af826223768971bf8", func := "almucantar/almucantarlaw15.AuditMends", spec := "auditMends", unfollowed := true, recurses := true, apart := false, narrowed := true }
def AuditMendsUptoSaid : Prop := auditMendsUptoRow.holds Try.pinned (OpenSpec.upto auditMendsSpec)

/-- 'almucantarlaw15.AuditSuspects', WHERE WHAT IT READS IS OF BULK AT MOST 1048576: true; the input reads as it did. -/
def auditSuspectsUptoRow : OpenClaim := { program := "ytgpgfmemnhgmbaa", sum := "dc31bdd80f57bc42f99a2f7fe34eb79ab2a4a419e952774af826223768971bf8", func := "almucantar/almucantarlaw15.AuditSuspects", spec := "auditSuspects", unfollowed := true, recurses := true, apart := false, narrowed := true }
def AuditSuspectsUptoSaid : Prop := auditSuspectsUptoRow.holds Try.pinned (OpenSpec.upto auditSuspectsSpec)

/-- 'almucantarlaw15.AuditFinds', WHERE WHAT IT READS IS OF BULK AT MOST 1048576: true; the input reads as it did. -/
def auditFindsUptoRow : OpenClaim := { program := "ytgpgfmemnhgmbaa", sum := "dc31bdd80f57bc42f99a2f7fe34eb79ab2a4a419e952774af826223768971bf8", func := "almucantar/almucantarlaw15.AuditFinds", spec := "auditFinds", unfollowed := true, recurses := true, apart := false, narrowed := true }
def AuditFindsUptoSaid : Prop := auditFindsUptoRow.holds Try.pinned (OpenSpec.upto auditFindsSpec)

end Rows
end Go.Proofs.Ytgpgfmemnhgmbaa
