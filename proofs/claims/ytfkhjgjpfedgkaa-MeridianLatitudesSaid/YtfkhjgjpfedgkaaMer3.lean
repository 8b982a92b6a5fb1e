/- MeridianLatitudes: for any arcs, on either side, Latitude and Below return what the reference specifies. No condition. -/
import Derived.Test.YtfkhjgjpfedgkaaProg
import Derived.Test.YtfkhjgjpfedgkaaLay
import Derived.Test.YtfkhjgjpfedgkaaRegion
import Derived.WalkKit
import Derived.WalkSpells
import Derived.WalkLawsBesides
import Derived.Lib.Hide
import Derived.BigQuiet
import Derived.Test.YtfkhjgjpfedgkaaPlain
import Derived.Test.YtfkhjgjpfedgkaaAngle
import Derived.Test.YtfkhjgjpfedgkaaMer1
import Derived.Test.YtfkhjgjpfedgkaaMer2
namespace Go.Proofs.Ytfkhjgjpfedgkaa
open Go.RowKit

set_option maxHeartbeats 4000000 in
set_option maxRecDepth 100000 in
theorem law33_awake (w : World) :
    Calls Try.prog 7 #[] w fun e w' => e = .returned (.bool true) ∧ ∃ d, w' = bw w d := by
  have h1 : lsLo 3000000 3000000 = 3000000 ∧ lsHi 3000000 3000000 = 3000000 ∧ lsE 3000000 3000000 = 0 := by decide
  have h2 : lsLo (-600000) (-600000) = -600000 ∧ lsHi (-600000) (-600000) = -600000 ∧ lsE (-600000) (-600000) = 0 := by decide
  have h3 : lsLo 1200000 1200000 = 1200000 ∧ lsHi 1200000 1200000 = 1200000 ∧ lsE 1200000 1200000 = 0 := by decide
  obtain ⟨a1, a2, a3⟩ := h1
  obtain ⟨b1, b2, b3⟩ := h2
  obtain ⟨c1, c2, c3⟩ := h3
  refine lay_start ?_
  go_enter Try.func7, Try.ntmps7
  go_wp2_with (go_at_call 13; refine (law33_one _ _).mono ?_; rintro e w' ⟨rfl, d, rfl⟩)
  refine (mer_Latitude_true _ _ _ _ _ (by decide) (by decide)).mono ?_
  rintro e w' ⟨rfl, d, rfl⟩
  go_wp2_with (go_at_call 13; refine (law33_one _ _).mono ?_; rintro e w' ⟨rfl, d, rfl⟩)
  refine (mer_Latitude_false _ _ _ _ _ (by decide) (by decide)).mono ?_
  rintro e w' ⟨rfl, d, rfl⟩
  go_wp2_with (go_at_call 13; refine (law33_one _ _).mono ?_; rintro e w' ⟨rfl, d, rfl⟩)
  refine (mer_Below_false _ _ _ _ _ (by decide) (by decide)).mono ?_
  rintro e w' ⟨rfl, d, rfl⟩
  go_wp2_with fail
  refine region_bw (by kernel_rfl) (by kernel_rfl) ?_
  repeat (go_big_quiet_step ((first | (go_at_call 13; exact bq (law33_one _ _) (fun d => lay_join _ _ _ d)))))
  refine wpQuiet_nil ?_
  rintro w' ⟨d, rfl⟩
  rw [lay_bw]
  go_wp2
  go_ret
  exact ⟨rfl, lay_ex _ _⟩

set_option maxHeartbeats 4000000 in
set_option maxRecDepth 100000 in
theorem law33_Latitudes (x0 y0 x1 y1 : Int) (b : Bool) (w : World) :
    Calls Try.prog 3 #[(.agg #[.int .i64 (x0), .int .i64 (y0)]), (.agg #[.int .i64 (x1), .int .i64 (y1)]), .bool b] w fun e w' => e = .returned (.bool true) ∧ ∃ d, w' = bw w d := by
  by_cases h : (latB x0 y0 && latB x1 y1) = false
  · refine lay_start ?_
    go_enter Try.func3, Try.ntmps3
    go_wp2_with (first | (go_at_call 7; refine (law33_awake _).mono ?_; rintro e w' ⟨rfl, d, rfl⟩) | (go_at_call 8; refine (mer_Latitude_arg _ _ _ _ _ _ h).mono ?_; rintro e w' ⟨rfl, d, rfl⟩) | (go_at_call 9; refine (ref33_Latitude_arg _ _ _ _ _ _ h).mono ?_; rintro e w' ⟨rfl, d, rfl⟩) | (go_at_call 10; refine (mer_Below_arg _ _ _ _ _ _ h).mono ?_; rintro e w' ⟨rfl, d, rfl⟩) | (go_at_call 11; refine (ref33_Below_arg _ _ _ _ _ _ h).mono ?_; rintro e w' ⟨rfl, d, rfl⟩))
    go_ret
    exact ⟨rfl, lay_ex _ _⟩
  · obtain ⟨h1, h2⟩ : latB x0 y0 = true ∧ latB x1 y1 = true := by simpa using h
    clear h
    cases b
    · refine lay_start ?_
      go_enter Try.func3, Try.ntmps3
      go_wp2_with (first | (go_at_call 7; refine (law33_awake _).mono ?_; rintro e w' ⟨rfl, d, rfl⟩) | (go_at_call 8; refine (mer_Latitude_false _ _ _ _ _ h1 h2).mono ?_; rintro e w' ⟨rfl, d, rfl⟩) | (go_at_call 9; refine (ref33_Latitude_false _ _ _ _ _ h1 h2).mono ?_; rintro e w' ⟨rfl, d, rfl⟩) | (go_at_call 10; refine (mer_Below_false _ _ _ _ _ h1 h2).mono ?_; rintro e w' ⟨rfl, d, rfl⟩) | (go_at_call 11; refine (ref33_Below_false _ _ _ _ _ h1 h2).mono ?_; rintro e w' ⟨rfl, d, rfl⟩))
      go_ret
      exact ⟨rfl, lay_ex _ _⟩
    · refine lay_start ?_
      go_enter Try.func3, Try.ntmps3
      go_wp2_with (first | (go_at_call 7; refine (law33_awake _).mono ?_; rintro e w' ⟨rfl, d, rfl⟩) | (go_at_call 8; refine (mer_Latitude_true _ _ _ _ _ h1 h2).mono ?_; rintro e w' ⟨rfl, d, rfl⟩) | (go_at_call 9; refine (ref33_Latitude_true _ _ _ _ _ h1 h2).mono ?_; rintro e w' ⟨rfl, d, rfl⟩) | (go_at_call 10; refine (mer_Below_true _ _ _ _ _ h1 h2).mono ?_; rintro e w' ⟨rfl, d, rfl⟩) | (go_at_call 11; refine (ref33_Below_true _ _ _ _ _ h1 h2).mono ?_; rintro e w' ⟨rfl, d, rfl⟩))
      go_ret
      exact ⟨rfl, lay_ex _ _⟩
end Go.Proofs.Ytfkhjgjpfedgkaa
