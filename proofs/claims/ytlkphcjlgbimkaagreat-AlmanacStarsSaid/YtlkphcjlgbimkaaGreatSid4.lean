/- The length of a sidereal day, the interval of a time (package sidereal). -/
import Derived.Test.YtlkphcjlgbimkaaGreatProg
import Derived.Test.YtlkphcjlgbimkaaGreatLay
import Derived.Test.YtlkphcjlgbimkaaGreatRegion
import Derived.Test.YtlkphcjlgbimkaaGreatMix
import Derived.WalkKit
import Derived.WalkSpells
import Derived.WalkLawsBesides
import Derived.Lib.Hide
import Derived.BigQuiet
import Derived.Test.YtlkphcjlgbimkaaGreatPlain
import Derived.Test.YtlkphcjlgbimkaaGreatAngle
import Derived.Test.YtlkphcjlgbimkaaGreatSid3
namespace Go.Proofs.YtlkphcjlgbimkaaGreat
open Go.RowKit

theorem ariF_le {a b : Int} (h : a ≤ b) : ariF a ≤ ariU b := by
  have h1 : ariV a ≤ ariV b := by unfold ariV; omega
  have h2 : ariF a ≤ ariF b := by
    have := Int.ediv_le_ediv (c := 86400000000000) (by decide) h1
    unfold ariF; omega
  unfold ariU
  split <;> omega
set_option maxHeartbeats 1000000 in
theorem sid_Length (w : World) :
    Calls Tryz.prog 29 #[] w fun e w' => e = .returned (.agg #[.int .i64 (86164090), .int .i64 (86164091)]) ∧ ∃ d, w' = bw w d := by
  refine lay_start ?_
  have c1 : ∀ w, Calls Tryz.prog 91 #[.int .u64 21600000, .int .u64 86400000000000] w fun e w' => e = .returned (.tuple #[.int .u64 101, .int .u64 3118848555335286784]) ∧ w' = w := fun w =>
    Tryz.bits_Mul64 21600000 86400000000000 (by decide) (by decide) w
  have c2 : ∀ w, Calls Tryz.prog 92 #[.int .u64 101, .int .u64 3118848555335286784, .int .u64 21659138841977] w fun e w' => e = .returned (.tuple #[.int .u64 86164090, .int .u64 11497397994070]) ∧ ∃ d, w' = bw w d := fun w =>
    div64' 101 3118848555335286784 21659138841977 86164090 11497397994070 (by decide) (by decide) (by decide) (by decide) (by decide) w
  go_enter Tryz.func29, Tryz.ntmps29
  go_wp2_with (first | (go_at_call 91; refine (c1 _).mono ?_; rintro e w' ⟨rfl, rfl⟩) | (go_at_call 92; refine (c2 _).mono ?_; rintro e w' ⟨rfl, d, rfl⟩))
  all_goals exact bodyPost_ret (v := (.agg #[.int .i64 (86164090), .int .i64 (86164091)])) (by simp [results, Tryz.results29, go_sem]) rfl ⟨rfl, lay_ex _ _⟩
end Go.Proofs.YtlkphcjlgbimkaaGreat
