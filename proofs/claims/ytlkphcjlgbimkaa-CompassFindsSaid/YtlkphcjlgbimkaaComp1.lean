/- Contracts of package compass: the small functions. -/
import Derived.Test.YtlkphcjlgbimkaaProg
import Derived.Test.YtlkphcjlgbimkaaLay
import Derived.Test.YtlkphcjlgbimkaaRegion
import Derived.Test.YtlkphcjlgbimkaaMix
import Derived.WalkKit
import Derived.WalkSpells
import Derived.WalkLawsBesides
import Derived.Lib.Hide
import Derived.BigQuiet
import Derived.Test.YtlkphcjlgbimkaaPlain
import Derived.Test.YtlkphcjlgbimkaaAngle
import Derived.Test.YtlkphcjlgbimkaaCompPlain
import Derived.Test.YtlkphcjlgbimkaaTabs
namespace Go.Proofs.Ytlkphcjlgbimkaa
open Go.RowKit

def headB (n : Int) : Bool := decide (0 ≤ n ∧ n < 21600000)
theorem head_yes {n : Int} (h : 0 ≤ n) : decide (n < 21600000) = headB n := by unfold headB; simp [h]
theorem head_no {n : Int} (h : n < 0) : false = headB n := by unfold headB; simp; omega
set_option maxHeartbeats 400000 in
theorem comp_heading (n : Int) (w : World) :
    Calls Try.prog 18 #[.int .i64 n] w fun e w' => e = .returned (.bool (headB n)) ∧ w' = w := by
  go_enter Try.func18, Try.ntmps18
  go_wp2
  · go_ret
    exact ⟨ret_bool (head_yes ‹_›), rfl⟩
  · go_ret
    exact ⟨ret_bool (head_no ‹_›), rfl⟩
def withB (n k : Int) : Bool := decide (-k ≤ n ∧ n ≤ k)
theorem with_yes {n k : Int} (h : -k ≤ n) : decide (n ≤ k) = withB n k := by unfold withB; simp [h]
theorem with_no {n k : Int} (h : n < -k) : false = withB n k := by unfold withB; simp; omega
set_option maxHeartbeats 400000 in
theorem comp_within (n k : Int) (w : World) (h1 : -9223372036854775807 ≤ k) (h2 : k ≤ 9223372036854775807) :
    Calls Try.prog 20 #[.int .i64 n, .int .i64 k] w fun e w' => e = .returned (.bool (withB n k)) ∧ w' = w := by
  go_enter Try.func20, Try.ntmps20
  go_wp2
  · go_ret
    exact ⟨ret_bool (with_yes ‹_›), rfl⟩
  · go_ret
    exact ⟨ret_bool (with_no ‹_›), rfl⟩
set_option maxHeartbeats 400000 in
theorem comp_floor (a b : Int) (w : World) (hb : 1 ≤ b) (h1 : -9223372036854775807 ≤ a) (h2 : a ≤ 9223372036854775807) :
    Calls Try.prog 52 #[.int .i64 a, .int .i64 b] w fun e w' => e = .returned (.int .i64 (a / b)) ∧ w' = w := by
  go_enter Try.func52, Try.ntmps52
  go_wp2
  · go_ret
    refine ⟨ret_int ?_, rfl⟩
    rw [IntWalk.wrap64_in]
    · exact floor_neg hb ‹_›
    · rw [floor_neg hb ‹_›]; have := ediv_bd hb 9223372036854775807 (by decide) h1 h2; omega
  · go_ret
    exact ⟨ret_int (floor_pos hb ‹_›), rfl⟩
set_option maxHeartbeats 400000 in
theorem cmp_isNaN (n : Int) (w : World) :
    Calls Try.prog 34 #[.int .i64 n] w fun e w' => e = .returned (.bool false) ∧ w' = w := by
  go_enter Try.func34, Try.ntmps34
  go_wp2
  all_goals go_ret
  all_goals first | exact ⟨rfl, rfl⟩ | exact ⟨ret_bool (by simp), rfl⟩
def cmpI (a b : Int) : Int := if a < b then -1 else if b < a then 1 else 0
theorem cmpI_lt {a b : Int} (h : a < b) : cmpI a b = -1 := by simp [cmpI, h]
theorem cmpI_gt {a b : Int} (h : b < a) : cmpI a b = 1 := by
  unfold cmpI; rw [if_neg (by omega), if_pos h]
theorem cmpI_eq {a b : Int} (h : a = b) : cmpI a b = 0 := by simp [cmpI, h]
set_option maxHeartbeats 400000 in
theorem cmp_Compare (a b : Int) (w : World) :
    Calls Try.prog 24 #[.int .i64 a, .int .i64 b] w fun e w' => e = .returned (.int .i64 (cmpI a b)) ∧ w' = w := by
  go_enter Try.func24, Try.ntmps24
  go_wp2_with (go_at_call 34; refine (cmp_isNaN _ _).mono ?_; rintro e w' ⟨rfl, rfl⟩)
  all_goals go_ret
  all_goals exact ⟨ret_int (by first | exact (cmpI_lt ‹_›).symm | exact (cmpI_gt ‹_›).symm | exact (cmpI_eq (by omega)).symm), rfl⟩
set_option maxHeartbeats 400000 in
theorem comp_at1 (a b n : Int) (w : World) :
    Calls Try.prog 51 #[(.agg #[.int .i64 (a), .int .i64 (b)]), .int .i64 n] w fun e w' => e = .returned (.int .i64 (cmpI a n)) ∧ ∃ d, w' = bw w d := by
  refine lay_start ?_
  go_enter Try.func51, Try.ntmps51
  go_wp2_with (go_at_call 24; refine (cmp_Compare _ _ _).mono ?_; rintro e w' ⟨rfl, rfl⟩)
  all_goals go_ret
  all_goals exact ⟨rfl, lay_ex _ _⟩
set_option maxHeartbeats 400000 in
theorem comp_hull (x0 y0 x1 y1 : Int) (w : World) :
    Calls Try.prog 38 #[(.agg #[.int .i64 (x0), .int .i64 (y0)]), (.agg #[.int .i64 (x1), .int .i64 (y1)])] w fun e w' => e = .returned ((.agg #[.int .i64 (mn x0 x1), .int .i64 (mx y0 y1)])) ∧ ∃ d, w' = bw w d := by
  refine lay_start ?_
  go_enter Try.func38, Try.ntmps38
  go_wp2
  exact bodyPost_ret (v := (.agg #[.int .i64 (mn x0 x1), .int .i64 (mx y0 y1)])) (by simp [results, Try.results38, go_sem]) rfl ⟨rfl, lay_ex _ _⟩
set_option maxHeartbeats 400000 in
theorem comp_near (x0 y0 : Int) (w : World) :
    Calls Try.prog 28 #[(.agg #[.int .i64 (x0), .int .i64 (y0)])] w fun e w' => e = .returned (.bool (withB x0 274877906944 && withB y0 274877906944)) ∧ ∃ d, w' = bw w d := by
  refine lay_start ?_
  go_enter Try.func28, Try.ntmps28
  go_wp2_with (go_at_call 20; refine (comp_within _ _ _ (by omega) (by omega)).mono ?_; rintro e w' ⟨rfl, rfl⟩)
  all_goals go_ret
  all_goals exact ⟨ret_bool (by simp [*]), lay_ex _ _⟩
end Go.Proofs.Ytlkphcjlgbimkaa
