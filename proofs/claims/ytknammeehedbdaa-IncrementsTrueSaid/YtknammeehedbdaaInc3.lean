/- The laws of layer 14 on Linear, Increment and Table, walked. -/
import Derived.Test.YtknammeehedbdaaProg
import Derived.Test.YtknammeehedbdaaLay
import Derived.Test.YtknammeehedbdaaRegion
import Derived.Test.YtknammeehedbdaaMix
import Derived.WalkKit
import Derived.WalkSpells
import Derived.WalkLawsBesides
import Derived.Lib.Hide
import Derived.BigQuiet
import Derived.Test.YtknammeehedbdaaPlain
import Derived.Test.YtknammeehedbdaaAngle
import Derived.Test.YtknammeehedbdaaInc1
import Derived.Test.YtknammeehedbdaaInc2
import Derived.Test.YtknammeehedbdaaInts
namespace Go.Proofs.Ytknammeehedbdaa
open Go.RowKit

set_option maxHeartbeats 2000000 in
set_option maxRecDepth 100000 in
theorem law14_awake (w : World) :
    Calls Try.prog 11 #[] w fun e w' => e = .returned (.bool true) ∧ ∃ d, w' = bw w d := by
  have HL : Hid (linLo 0 100 1 3 = 33 ∧ linHi 10 110 1 3 = 44 ∧ incLo 1800000 900000 = 450000 ∧ incHi 1800000 900000 = 450000) := by
    refine ⟨by decide, by decide, by decide, by decide⟩
  refine lay_start ?_
  go_enter Try.func11, Try.ntmps11
  go_wp2_with fail
  refine (inc_Linear_ok _ _ _ _ _ _ _ (by decide) (by decide) (by decide)).mono ?_
  rintro e w' ⟨rfl, d, rfl⟩
  rw [HL.out.1, HL.out.2.1]
  go_wp2_with fail
  refine (inc_Increment_ok _ _ _ (by decide)).mono ?_
  rintro e w' ⟨rfl, d, rfl⟩
  rw [HL.out.2.2.1, HL.out.2.2.2]
  go_wp2_with fail
  refine (inc_Table_ok _ _ (by decide) (by decide)).mono ?_
  rintro e w' ⟨v, d, rfl, rfl, hown⟩
  obtain ⟨a, cap, rfl, g1, g2⟩ := Ints.of_row (l := (List.range 61).map fun m : Nat => ((900000 * (m : Int) + 3000) / 6000)) (by simpa [tab, Function.comp_def] using hown) (by simp)
  obtain ⟨b, o, rfl, g3, g4⟩ := g2 (by simp)
  have g5 := g4 1 (by simp)
  clear hown g1 g2 g4
  rw [lay_bw] at g5
  simp at g5
  rw [show ((List.range 61).map fun m : Nat => ((900000 * (m : Int) + 3000) / 6000)).length = 61 by simp]
  go_wp2
  go_ret
  exact ⟨rfl, lay_ex _ _⟩

set_option maxHeartbeats 2000000 in
set_option maxRecDepth 100000 in
theorem law14_Linear (x0 y0 x1 y1 num den : Int) (w : World) :
    Calls Try.prog 3 #[(.agg #[.int .i64 (x0), .int .i64 (y0)]), (.agg #[.int .i64 (x1), .int .i64 (y1)]), .int .i64 num, .int .i64 den] w fun e w' => e = .returned (.bool true) ∧ ∃ d, w' = bw w d := by
  cases h1 : validB x0 y0
  · refine lay_start ?_
    go_enter Try.func3, Try.ntmps3
    go_wp2_with (first | (go_at_call 11; refine (law14_awake _).mono ?_; rintro e w' ⟨rfl, d, rfl⟩) | (go_at_call 12; refine (inc_Linear_arg _ _ _ _ _ _ _ (by simp [h1])).mono ?_; rintro e w' ⟨rfl, d, rfl⟩) | (go_at_call 13; refine (ref05_Valid _ _ _).mono ?_; rintro e w' ⟨rfl, d, rfl⟩))
    go_ret
    exact ⟨rfl, lay_ex _ _⟩
  · cases h2 : validB x1 y1
    · refine lay_start ?_
      go_enter Try.func3, Try.ntmps3
      go_wp2_with (first | (go_at_call 11; refine (law14_awake _).mono ?_; rintro e w' ⟨rfl, d, rfl⟩) | (go_at_call 12; refine (inc_Linear_arg _ _ _ _ _ _ _ (by simp [h2])).mono ?_; rintro e w' ⟨rfl, d, rfl⟩) | (go_at_call 13; refine (ref05_Valid _ _ _).mono ?_; rintro e w' ⟨rfl, d, rfl⟩))
      go_ret
      exact ⟨rfl, lay_ex _ _⟩
    · cases h3 : ranB num den
      · have h4 : ¬ (1 ≤ den ∧ den ≤ 4194304 ∧ 0 ≤ num ∧ num ≤ den) := fun h => by rw [ranB_iff.2 h] at h3; cases h3
        refine lay_start ?_
        go_enter Try.func3, Try.ntmps3
        go_wp2_with (first | (go_at_call 11; refine (law14_awake _).mono ?_; rintro e w' ⟨rfl, d, rfl⟩) | (go_at_call 12; refine (inc_Linear_range _ _ _ _ _ _ _ h1 h2 h3).mono ?_; rintro e w' ⟨rfl, d, rfl⟩) | (go_at_call 13; refine (ref05_Valid _ _ _).mono ?_; rintro e w' ⟨rfl, d, rfl⟩))
        all_goals go_ret
        all_goals exact ⟨rfl, lay_ex _ _⟩
      · obtain ⟨m0, m1, n0, n1⟩ := ranB_iff.1 h3
        have HL := Lib.hid (linOk_of h1 h2 h3)
        refine lay_start ?_
        go_enter Try.func3, Try.ntmps3
        go_wp2_with (first | (go_at_call 11; refine (law14_awake _).mono ?_; rintro e w' ⟨rfl, d, rfl⟩) | (go_at_call 12; refine (inc_Linear_ok _ _ _ _ _ _ _ h1 h2 h3).mono ?_; rintro e w' ⟨rfl, d, rfl⟩) | (go_at_call 13; refine (ref05_Valid _ _ _).mono ?_; rintro e w' ⟨rfl, d, rfl⟩))
        refine region_bw (by kernel_rfl) (by kernel_rfl) ?_
        repeat (go_big_quiet_step ((go_at_call 14; exact bq (ref14_Linear _ _ _ _ _ _ _ HL.out) (fun d => lay_join _ _ _ d))))
        refine wpQuiet_nil ?_
        rintro w' ⟨d, rfl⟩
        rw [lay_bw]
        go_wp2
        go_ret
        exact ⟨rfl, lay_ex _ _⟩

end Go.Proofs.Ytknammeehedbdaa
