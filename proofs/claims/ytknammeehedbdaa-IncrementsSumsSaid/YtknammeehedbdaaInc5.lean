/- The law of layer 14 on Increment and Table against the reference, walked. -/
import Derived.Test.YtknammeehedbdaaProg
import Derived.Test.YtknammeehedbdaaLay
import Derived.WalkKit
import Derived.WalkSpells
import Derived.WalkLawsBesides
import Derived.Lib.Hide
import Derived.BigQuiet
import Derived.Test.YtknammeehedbdaaPlain
import Derived.Test.YtknammeehedbdaaAngle
import Derived.Test.YtknammeehedbdaaInc1
import Derived.Test.YtknammeehedbdaaInc2
import Derived.Test.YtknammeehedbdaaInts
import Derived.Test.YtknammeehedbdaaInc3
namespace Go.Proofs.Ytknammeehedbdaa
open Go.RowKit

/-- The table as ints. -/
def tabI (rate : Int) : List Int := (List.range 61).map fun m : Nat => (rate * (m : Int) + 3000) / 6000
theorem tabI_len (rate : Int) : (tabI rate).length = 61 := by simp [tabI]
theorem tab_ints {w : World} {base : Nat} {v : Value} {rate : Int} (h : w.ownsRow base 3 1 v 61 (tab rate 61)) : Ints w v (tabI rate) :=
  Ints.of_row (by simpa [tab, tabI, Function.comp_def] using h) (by rw [tabI_len]; decide)

set_option maxHeartbeats 4000000 in
set_option maxRecDepth 100000 in
theorem law14_Tables (ms rate : Int) (w : World) :
    Calls Try.prog 6 #[.int .i64 ms, .int .i64 rate] w fun e w' => e = .returned (.bool true) ∧ ∃ d, w' = bw w d := by
  by_cases hr : -21600000 ≤ rate ∧ rate ≤ 21600000
  · obtain ⟨r1, r2⟩ := hr
    cases hi : incB ms rate
    · have h4 : ¬ (0 ≤ ms ∧ ms ≤ 3600000 ∧ -21600000 ≤ rate ∧ rate ≤ 21600000) := fun hh => by rw [incB_iff.2 hh] at hi; cases hi
      refine lay_start ?_
      go_enter Try.func6, Try.ntmps6
      go_wp2_with (first | (go_at_call 11; refine (law14_awake _).mono ?_; rintro e w' ⟨rfl, d, rfl⟩) | (go_at_call 15; refine (inc_Increment_range _ _ _ hi).mono ?_; rintro e w' ⟨rfl, d, rfl⟩))
      refine (inc_Table_ok _ _ r1 r2).mono ?_
      rintro e w' ⟨v, d, rfl, rfl, hown⟩
      have HT := tab_ints hown
      clear hown
      rw [lay_bw] at HT
      go_wp2_with fail
      refine (ref14_Table _ _ r1 r2).mono ?_
      rintro e w' ⟨v', d', rfl, rfl, hown⟩
      have HT' := tab_ints hown
      clear hown
      rw [lay_bw] at HT'
      go_wp2_with fail
      refine (slices_Equal _ _ _ _ _ (HT.bw _) HT').mono ?_
      rintro e w' ⟨rfl, d, rfl⟩
      go_wp2_with fail
      all_goals go_ret
      all_goals exact ⟨rfl, lay_ex _ _⟩
    · obtain ⟨m0, m1, _, _⟩ := incB_iff.1 hi
      refine lay_start ?_
      go_enter Try.func6, Try.ntmps6
      go_wp2_with (first | (go_at_call 11; refine (law14_awake _).mono ?_; rintro e w' ⟨rfl, d, rfl⟩) | (go_at_call 15; refine (inc_Increment_ok _ _ _ hi).mono ?_; rintro e w' ⟨rfl, d, rfl⟩))
      refine (inc_Table_ok _ _ r1 r2).mono ?_
      rintro e w' ⟨v, d, rfl, rfl, hown⟩
      have HT := tab_ints hown
      clear hown
      rw [lay_bw] at HT
      go_wp2_with fail
      refine (ref14_Table _ _ r1 r2).mono ?_
      rintro e w' ⟨v', d', rfl, rfl, hown⟩
      have HT' := tab_ints hown
      clear hown
      rw [lay_bw] at HT'
      go_wp2_with fail
      refine (slices_Equal _ _ _ _ _ (HT.bw _) HT').mono ?_
      rintro e w' ⟨rfl, d, rfl⟩
      go_wp2_with fail
      refine region_bw (by kernel_rfl) (by kernel_rfl) ?_
      repeat (go_big_quiet_step ((go_at_call 21; exact bq (ref14_Increment _ _ _ hi) (fun d => lay_join _ _ _ d))))
      refine wpQuiet_nil ?_
      rintro w' ⟨d, rfl⟩
      rw [lay_bw]
      go_wp2
      go_ret
      exact ⟨rfl, lay_ex _ _⟩
  · have hr' : rate < -21600000 ∨ 21600000 < rate := by omega
    have hi : incB ms rate = false := by
      cases h : incB ms rate
      · rfl
      · have := incB_iff.1 h; omega
    refine lay_start ?_
    go_enter Try.func6, Try.ntmps6
    go_wp2_with (first | (go_at_call 11; refine (law14_awake _).mono ?_; rintro e w' ⟨rfl, d, rfl⟩) | (go_at_call 15; refine (inc_Increment_range _ _ _ hi).mono ?_; rintro e w' ⟨rfl, d, rfl⟩) | (go_at_call 16; refine (inc_Table_range _ _ hr').mono ?_; rintro e w' ⟨rfl, d, rfl⟩))
    all_goals go_ret
    all_goals exact ⟨rfl, lay_ex _ _⟩
end Go.Proofs.Ytknammeehedbdaa
