/- Contracts and plain laws, several texts in one: CPs -/
import Derived.Test.YtcbicpbbjbkiaaaGreatDoorRows
import Derived.Test.YtcbicpbbjbkiaaaGreatDoorCards
import Derived.Test.YtcbicpbbjbkiaaaGreatDoorTie
import Derived.JoinedOf
import Derived.RowKit
import Derived.SevenTiedAt
namespace Go.Proofs.YtcbicpbbjbkiaaaGreatDoor
set_option maxRecDepth 100000
open Go.RowKit

theorem cl_topPrinted_inPlace : (Rows.topPrintedRow.inPlace == Tryz.pinned.checked.prog.inPlace 3) = true := by kernel_rfl
theorem cl_topPrinted_unfollowed : (Rows.topPrintedRow.unfollowed == Tryz.pinned.checked.prog.unfollowed 3) = true := by kernel_rfl
theorem cl_topPrinted_recurses : (Rows.topPrintedRow.recurses == Tryz.pinned.checked.prog.recurses 3) = true := by kernel_rfl
theorem cl_topPrinted_named : (Rows.topPrintedRow.named == Tryz.pinned.checked.prog.varsNamed 3) = true := by kernel_rfl
theorem cl_topPrinted : Go.joinedFacts Tryz.pinned.checked.prog 3 Tryz.f3 Rows.topPrintedSpec Rows.topPrintedRow = true := by
 unfold Go.joinedFacts
 rw [cl_topPrinted_inPlace, cl_topPrinted_unfollowed, cl_topPrinted_recurses, cl_topPrinted_named]
 kernel_rfl
theorem cw_wf : Rows.topPrintedRow.wfByText (OpenSpec.ofChange Rows.topPrintedSpec) = true := by kernel_rfl
theorem cw_main : Tryz.pinned.checked.prog.mainIs = some (true, ("4c216e889ac5a51372a1b99abf8a92f8378dabdff93a9cc555f1224a95450c41" : String).toList) := by kernel_rfl
theorem cw_looks : false = Tryz.pinned.checked.prog.looks [] := by kernel_rfl
theorem cw_goes : false = Rows.topPrintedRow.goesBy Tryz.pinned.checked.prog := by kernel_rfl
end Go.Proofs.YtcbicpbbjbkiaaaGreatDoor
