/- TopPrinted: for every instrument, sight, place of a body and triangle, every printed number is a rounding of what was computed (the law returns true, and its arguments read as before). Conditions: the three listed variables of the library (two tables of bits, the powers of ten) are as the program text lays them, as the card ties them; of the other named variables the statement speaks for every value. -/
import Derived.Test.YtcbicpbbjbkiaaaGreatDoorZmAW
import Derived.Test.YtcbicpbbjbkiaaaGreatDoorZmAX
namespace Go.Proofs.YtcbicpbbjbkiaaaGreatDoor
open Go.ChangeShapes Go.WideShapes Go.ChangeAt Go.RowKit Go.Joins

theorem row_TopPrinted : Rows.TopPrintedSaid :=
 OpenClaim.holds_of_wide 3 Tryz.f3 rfl rfl rfl rfl rfl rfl rfl ⟨rfl, rfl, rfl, rfl, rfl⟩ rfl rfl rfl rfl rfl (by kernel_rfl) Tryz.func3 cl_topPrinted
  (of_decide_eq_true (by kernel_rfl)) (by unfold Func.isWrapper; first | (rw [if_pos (by decide +kernel)]; kernel_rfl) | (rw [if_neg (by decide +kernel)]; exact ⟨rfl, rfl⟩))
  (fun os started H enc _ => lifted_TopPrinted os started H enc)
theorem holds_TopPrinted : Rows.TopPrintedCardSaid :=
 Claim7.holds_tied_plain_at .later [] [.data, .data, .data] true (true, "4c216e889ac5a51372a1b99abf8a92f8378dabdff93a9cc555f1224a95450c41") false
  row_TopPrinted (fun _ h => by cases h) cw_wf (fun _ h => by cases h) topPrinted_row_tie rfl ⟨rfl, rfl⟩ cw_main rfl
  (fun f fn hf hfn => by
   obtain rfl : f = 3 := Option.some.inj ((show Tryz.prog.funcNamed "almucantar/almucantartop.TopPrinted" = some 3 by kernel_rfl).symm.trans hf) |>.symm
   obtain rfl : fn = Tryz.f3 := (Option.some.inj (Tryz.func3.symm.trans hfn)).symm
   exact ⟨cw_looks, fun j t ht => by
    rw [Tryz.params3] at ht
    have h3 : t = 24 ∨ t = 28 ∨ t = 31 ∨ t = 33 := by
     rcases j with _ | _ | _ | _ | j
     ·left; simpa using ht.symm
     ·right; left; simpa using ht.symm
     ·right; right; left; simpa using ht.symm
     ·right; right; right; simpa using ht.symm
     ·simp at ht
    rcases h3 with rfl | rfl | rfl | rfl
    ·exact (show Tryz.prog.wantsStandIn 24 = false by kernel_rfl)
    ·exact (show Tryz.prog.wantsStandIn 28 = false by kernel_rfl)
    ·exact (show Tryz.prog.wantsStandIn 31 = false by kernel_rfl)
    ·exact (show Tryz.prog.wantsStandIn 33 = false by kernel_rfl)⟩)
  cw_goes
#print axioms holds_TopPrinted
end Go.Proofs.YtcbicpbbjbkiaaaGreatDoor
