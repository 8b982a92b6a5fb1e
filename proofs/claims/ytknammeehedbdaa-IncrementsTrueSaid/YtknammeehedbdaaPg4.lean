/- The first day of 2000; a page of one track. -/
import Derived.Test.YtknammeehedbdaaProg
import Derived.Test.YtknammeehedbdaaLay
import Derived.Test.YtknammeehedbdaaRegion
import Derived.Test.YtknammeehedbdaaMix
import Derived.WalkKit
import Derived.WalkSpells
import Derived.WalkLawsBesides
import Derived.Lib.Hide
import Derived.BigQuiet
import Derived.Deep.RegionWith
import Derived.Test.YtknammeehedbdaaPlain
import Derived.Test.YtknammeehedbdaaTrk
import Derived.Test.YtknammeehedbdaaPg1
import Derived.Test.YtknammeehedbdaaPg2
namespace Go.Proofs.Ytknammeehedbdaa
open Go.RowKit

set_option maxHeartbeats 400000 in
theorem cal_right (w : World) : Calls Try.prog 78 #[.int .i64 2000, .int .i64 1] w fun e w' => e = .returned (.bool true) ∧ w' = w := by
  go_enter Try.func78, Try.ntmps78
  go_wp2
  go_ret
  exact ⟨rfl, rfl⟩
set_option maxHeartbeats 400000 in
theorem cal_before (w : World) : Calls Try.prog 80 #[.int .i64 2000] w fun e w' => e = .returned (.int .i64 730119) ∧ w' = w := by
  go_enter Try.func80, Try.ntmps80
  go_wp2
  go_ret
  exact ⟨rfl, rfl⟩
set_option maxHeartbeats 400000 in
theorem cal_lengths (w : World) : Calls Try.prog 88 #[] w fun e w' => e = .returned (.agg #[.int .i64 31, .int .i64 28, .int .i64 31, .int .i64 30, .int .i64 31, .int .i64 30, .int .i64 31, .int .i64 31, .int .i64 30, .int .i64 31, .int .i64 30, .int .i64 31]) ∧ ∃ d, w' = bw w d := by
  refine lay_start ?_
  go_enter Try.func88, Try.ntmps88
  go_wp2
  exact bodyPost_ret (v := .agg #[.int .i64 31, .int .i64 28, .int .i64 31, .int .i64 30, .int .i64 31, .int .i64 30, .int .i64 31, .int .i64 31, .int .i64 30, .int .i64 31, .int .i64 30, .int .i64 31]) (by simp [results, Try.results88, go_sem]) rfl ⟨rfl, lay_ex _ _⟩
set_option maxHeartbeats 400000 in
theorem cal_days (w : World) : Calls Try.prog 79 #[.int .i64 2000, .int .i64 1] w fun e w' => e = .returned (.int .i64 31) ∧ ∃ d, w' = bw w d := by
  have i0 : ∀ w, (Instr.index 93 (.agg #[.int .i64 31, .int .i64 28, .int .i64 31, .int .i64 30, .int .i64 31, .int .i64 30, .int .i64 31, .int .i64 31, .int .i64 30, .int .i64 31, .int .i64 30, .int .i64 31]) (.int .i64 0)).run Try.prog w = .ok (.int .i64 31) w := fun _ => by kernel_rfl
  refine lay_start ?_
  go_enter Try.func79, Try.ntmps79
  go_wp2_with (go_at_call 88; refine (cal_lengths _).mono ?_; rintro e w' ⟨rfl, d, rfl⟩)
  go_ret
  exact ⟨rfl, lay_ex _ _⟩
set_option maxHeartbeats 400000 in
theorem cal_Valid (w : World) : Calls Try.prog 74 #[.agg #[.int .i64 2000, .int .i64 1, .int .i64 1]] w fun e w' => e = .returned (.bool true) ∧ ∃ d, w' = bw w d := by
  refine lay_start ?_
  go_enter Try.func74, Try.ntmps74
  go_wp2_with fail
  refine region_bw (by kernel_rfl) (by kernel_rfl) ?_
  repeat (go_big_quiet_step ((first | (go_at_call 78; exact bqs (cal_right _) ⟨_, rfl⟩) | (go_at_call 79; exact bq (cal_days _) (fun d => lay_join _ _ _ d)))))
  refine wpQuiet_nil ?_
  rintro w' ⟨d, rfl⟩
  rw [lay_bw]
  go_wp2
  go_ret
  exact ⟨rfl, lay_ex _ _⟩
set_option maxHeartbeats 400000 in
theorem cal_dayOfYear (w : World) : Calls Try.prog 81 #[.agg #[.int .i64 2000, .int .i64 1, .int .i64 1]] w fun e w' => e = .returned (.int .i64 1) ∧ ∃ d, w' = bw w d := by
  refine lay_start ?_
  go_enter Try.func81, Try.ntmps81
  go_wp2_with fail
  refine wp_loop_rounds 1 ?_
  rw [rounds_succ]
  go_wp2
  go_ret
  exact ⟨rfl, lay_ex _ _⟩
set_option maxHeartbeats 400000 in
theorem cal_number (w : World) : Calls Try.prog 75 #[.agg #[.int .i64 2000, .int .i64 1, .int .i64 1]] w fun e w' => e = .returned (.int .i64 0) ∧ ∃ d, w' = bw w d := by
  refine lay_start ?_
  go_enter Try.func75, Try.ntmps75
  go_wp2_with fail
  refine region_bw (by kernel_rfl) (by kernel_rfl) ?_
  repeat (go_big_quiet_step ((first | (go_at_call 80; exact bqs (cal_before _) ⟨_, rfl⟩) | (go_at_call 81; exact bq (cal_dayOfYear _) (fun d => lay_join _ _ _ d)))))
  refine wpQuiet_nil ?_
  rintro w' ⟨d, rfl⟩
  rw [lay_bw]
  go_wp2
  go_ret
  exact ⟨rfl, lay_ex _ _⟩
set_option maxHeartbeats 400000 in
theorem cal_Number (w : World) : Calls Try.prog 70 #[.agg #[.int .i64 2000, .int .i64 1, .int .i64 1]] w fun e w' => e = .returned (.tuple #[.int .i64 0, .int .i64 0]) ∧ ∃ d, w' = bw w d := by
  refine lay_start ?_
  go_enter Try.func70, Try.ntmps70
  go_wp2_with (first | (go_at_call 74; refine (cal_Valid _).mono ?_; rintro e w' ⟨rfl, d, rfl⟩) | (go_at_call 75; refine (cal_number _).mono ?_; rintro e w' ⟨rfl, d, rfl⟩))
  go_ret2
  exact ⟨rfl, lay_ex _ _⟩
end Go.Proofs.Ytknammeehedbdaa
