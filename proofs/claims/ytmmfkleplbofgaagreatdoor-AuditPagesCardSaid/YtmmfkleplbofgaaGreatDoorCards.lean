/-
  DERIVED. GIVEN WITH THE SEED: THE CARDS: each row of YtmmfkleplbofgaaGreatDoorRows.lean that lists a variable, with what it lists TIED to the program's text (the seventh form; the later family's looks); each row that meets fmt, with fmt's text TOLD by the authors' own Lean function (tested against real Go, not proved from fmt's source: count such statements apart). THE CARD IS WHAT COUNTS. Prove the row's statement (the work); the ties are given (YtmmfkleplbofgaaGreatDoorTie.lean); close each card by the builder's one call (the guide's Derived/Test/ToyasCard.lean, 'card_holds'). Laid BY PROGRAM, IN A SANDBOX (cutbox-door.mjs). By AI agents, Wed Nov 11 2026. No macro, syntax, notation, axiom, sorry.
-/
import Derived.Test.YtmmfkleplbofgaaGreatDoorRows
import GoSem.ClaimSeven
namespace Go.Proofs.YtmmfkleplbofgaaGreatDoor
namespace Rows

/-- THE TIED CARD OF 'almucantarlaw15.AuditPages'. -/
def auditPagesCard : Claim7 := { stood := { row := auditPagesRow, standIns := [], harness := (true, "e9fa112b8dac151dfd0c70e9ca1aec5b0ae3a6cdc5f048b0b589b4b9451398da"), looks := false }, kinds := [], alts := [], laidByText := true, laidKinds := [.data, .data, .data], laidTests := true, laidLooks := .later }
def AuditPagesCardSaid : Prop := Claim7.holds Tryz.pinned (.plain (OpenSpec.ofChange auditPagesSpec)) auditPagesCard

/-- THE SECOND FORM's CARD OF 'almucantarlaw15.AuditPages'. -/
def auditPagesUptoCard : Claim7 := { stood := { row := auditPagesUptoRow, standIns := [], harness := (true, "e9fa112b8dac151dfd0c70e9ca1aec5b0ae3a6cdc5f048b0b589b4b9451398da"), looks := false }, kinds := [], alts := [], laidByText := true, laidKinds := [.data, .data, .data], laidTests := true, laidLooks := .later }
def AuditPagesUptoCardSaid : Prop := Claim7.holds Tryz.pinned (.plain (OpenSpec.upto auditPagesSpec)) auditPagesUptoCard
end Rows
end Go.Proofs.YtmmfkleplbofgaaGreatDoor
