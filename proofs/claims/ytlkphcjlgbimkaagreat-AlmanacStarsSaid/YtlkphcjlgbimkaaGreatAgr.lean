/- angle.Agree. -/
import Derived.Test.YtlkphcjlgbimkaaGreatProg
import Derived.Test.YtlkphcjlgbimkaaGreatLay
import Derived.Test.YtlkphcjlgbimkaaGreatRegion
import Derived.Test.YtlkphcjlgbimkaaGreatMix
import Derived.WalkKit
import Derived.WalkSpells
import Derived.WalkLawsBesides
import Derived.Lib.Hide
import Derived.BigQuiet
import Derived.Test.YtlkphcjlgbimkaaGreatPlain
import Derived.Test.YtlkphcjlgbimkaaGreatAngle
namespace Go.Proofs.YtlkphcjlgbimkaaGreat
open Go.RowKit

def agrB (a0 a1 b0 b1 : Int) : Bool := decide ((b0 - a0) % 21600000 ≤ a1 - a0) || decide ((a0 - b0) % 21600000 ≤ b1 - b0)
set_option maxHeartbeats 1000000 in
theorem angle_Agree (a0 a1 b0 b1 : Int) (w : World) (va : validB a0 a1 = true) (vb : validB b0 b1 = true) :
    Calls Tryz.prog 24 #[(.agg #[.int .i64 (a0), .int .i64 (a1)]), (.agg #[.int .i64 (b0), .int .i64 (b1)])] w fun e w' => e = .returned (.tuple #[.bool (agrB a0 a1 b0 b1), .int .i64 0]) ∧ ∃ d, w' = bw w d := by
  have HV1 : Hid (∀ W, Calls Tryz.prog 85 #[(.agg #[.int .i64 (a0), .int .i64 (a1)])] W fun e w' => e = .returned (.bool true) ∧ ∃ d, w' = bw W d) := Lib.hid (fun W => by rw [← va]; exact angle_Valid a0 a1 W)
  have HV2 : Hid (∀ W, Calls Tryz.prog 85 #[(.agg #[.int .i64 (b0), .int .i64 (b1)])] W fun e w' => e = .returned (.bool true) ∧ ∃ d, w' = bw W d) := Lib.hid (fun W => by rw [← vb]; exact angle_Valid b0 b1 W)
  obtain ⟨p0, p1, p2⟩ := validB_iff.1 va
  obtain ⟨p3, p4, p5⟩ := validB_iff.1 vb
  have w1 : IntKind.i64.wrap (b0 - a0) = b0 - a0 := IntWalk.i64_in _ (by omega)
  have w2 : IntKind.i64.wrap (a1 - a0) = a1 - a0 := IntWalk.i64_in _ (by omega)
  have w3 : IntKind.i64.wrap (a0 - b0) = a0 - b0 := IntWalk.i64_in _ (by omega)
  have w4 : IntKind.i64.wrap (b1 - b0) = b1 - b0 := IntWalk.i64_in _ (by omega)
  have HW1 := Lib.hid (fun W => angle_Wrap (b0 - a0) W)
  have HW2 := Lib.hid (fun W => angle_Wrap (a0 - b0) W)
  unfold agrB
  clear va vb
  by_cases h1 : (b0 - a0) % 21600000 ≤ a1 - a0
  · have t1 : decide ((b0 - a0) % 21600000 ≤ a1 - a0) = true := decide_eq_true h1
    rw [t1, Bool.true_or]
    clear h1
    generalize (b0 - a0) % 21600000 = X at *
    refine lay_start ?_
    go_enter Tryz.func24, Tryz.ntmps24
    go_wp2_with (go_at_call 85; first | (with_reducible refine (HV1.out _).mono ?_; rintro e w' ⟨rfl, d, rfl⟩) | (with_reducible refine (HV2.out _).mono ?_; rintro e w' ⟨rfl, d, rfl⟩))
    refine region_bw (by kernel_rfl) (by kernel_rfl) ?_
    repeat (go_big_quiet_step ((first | (go_at_call 86; exact bqs (HW1.out _) ⟨_, rfl⟩))))
    refine wpQuiet_nil ?_
    rintro w' ⟨d, rfl⟩
    rw [lay_bw]
    go_wp2
    go_ret2
    exact ⟨rfl, lay_ex _ _⟩
  · have t1 : decide ((b0 - a0) % 21600000 ≤ a1 - a0) = false := decide_eq_false h1
    rw [t1, Bool.false_or]
    clear h1
    generalize (b0 - a0) % 21600000 = X at *
    generalize (a0 - b0) % 21600000 = Y at *
    refine lay_start ?_
    go_enter Tryz.func24, Tryz.ntmps24
    go_wp2_with (go_at_call 85; first | (with_reducible refine (HV1.out _).mono ?_; rintro e w' ⟨rfl, d, rfl⟩) | (with_reducible refine (HV2.out _).mono ?_; rintro e w' ⟨rfl, d, rfl⟩))
    refine region_bw (by kernel_rfl) (by kernel_rfl) ?_
    repeat (go_big_quiet_step ((first | (go_at_call 86; first | (with_reducible refine bqs (HW1.out _) ?_; exact ⟨_, rfl⟩) | (with_reducible refine bqs (HW2.out _) ?_; exact ⟨_, rfl⟩)))))
    refine wpQuiet_nil ?_
    rintro w' ⟨d, rfl⟩
    rw [lay_bw]
    go_wp2
    go_ret2
    exact ⟨rfl, lay_ex _ _⟩
end Go.Proofs.YtlkphcjlgbimkaaGreat
