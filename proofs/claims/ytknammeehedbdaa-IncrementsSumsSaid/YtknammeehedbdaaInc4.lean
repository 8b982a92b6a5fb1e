/- The laws of layer 14 on Linear, Increment and Table that need plain laws: Between, Tables, Sums; walked. -/
import Derived.Test.YtknammeehedbdaaProg
import Derived.Test.YtknammeehedbdaaLay
import Derived.WalkKit
import Derived.WalkSpells
import Derived.WalkLawsBesides
import Derived.Lib.Hide
import Derived.BigQuiet
import Derived.Test.YtknammeehedbdaaPlain
import Derived.Test.YtknammeehedbdaaAngle
import Derived.Test.YtknammeehedbdaaInc1
import Derived.Test.YtknammeehedbdaaInc2
import Derived.Test.YtknammeehedbdaaInts
import Derived.Test.YtknammeehedbdaaInc3
namespace Go.Proofs.Ytknammeehedbdaa
open Go.RowKit

theorem div_le_cdiv {a a' b : Int} (hb : 1 ≤ b) (h : a ≤ a') : a / b ≤ cdiv a' b := by
  unfold cdiv
  have h1 := Int.ediv_mul_le a (show b ≠ 0 by omega)
  have h2 := Int.ediv_mul_le (-a') (show b ≠ 0 by omega)
  have : (a / b + (-a') / b) * b ≤ 0 := by rw [Int.add_mul]; omega
  have h3 : a / b + (-a') / b ≤ 0 := by
    apply Int.not_lt.1
    intro hlt
    have := Int.mul_pos hlt (show 0 < b by omega)
    omega
  omega
theorem lin_comm (x0 x1 num den : Int) : linLo x1 x0 (den - num) den = linLo x0 x1 num den ∧ linHi x1 x0 (den - num) den = linHi x0 x1 num den := by
  unfold linLo linHi
  rw [show den - (den - num) = num by omega, Int.add_comm]
  exact ⟨rfl, rfl⟩
theorem lin_zero (x0 x1 den : Int) (h : 1 ≤ den) : linLo x0 x1 0 den = x0 ∧ linHi x0 x1 0 den = x0 := by
  unfold linLo linHi cdiv
  rw [Int.sub_zero, Int.mul_zero, Int.add_zero, Int.mul_ediv_cancel _ (by omega), ← Int.neg_mul, Int.mul_ediv_cancel _ (by omega)]
  omega
theorem lin_full (x0 x1 den : Int) (h : 1 ≤ den) : linLo x0 x1 den den = x1 ∧ linHi x0 x1 den den = x1 := by
  unfold linLo linHi cdiv
  rw [Int.sub_self, Int.mul_zero, Int.zero_add, Int.mul_ediv_cancel _ (by omega), ← Int.neg_mul, Int.mul_ediv_cancel _ (by omega)]
  omega
theorem lin_between {x0 y0 x1 y1 num den : Int} (h : LinOk x0 y0 x1 y1 num den) (hx : x0 ≤ y0) (hy : x1 ≤ y1) :
    mn x0 x1 ≤ linLo x0 x1 num den ∧ linHi y0 y1 num den ≤ mx y0 y1 ∧ linLo x0 x1 num den ≤ linHi y0 y1 num den := by
  obtain ⟨a0, a1, b0, b1, c0, c1, d0, d1, n0, n1, m0, m1⟩ := h
  rw [mn_eq, mx_eq]
  have e1 : min x0 x1 * (den - num) ≤ x0 * (den - num) := Int.mul_le_mul_of_nonneg_right (by omega) (by omega)
  have e2 : min x0 x1 * num ≤ x1 * num := Int.mul_le_mul_of_nonneg_right (by omega) (by omega)
  have e3 : y0 * (den - num) ≤ max y0 y1 * (den - num) := Int.mul_le_mul_of_nonneg_right (by omega) (by omega)
  have e4 : y1 * num ≤ max y0 y1 * num := Int.mul_le_mul_of_nonneg_right (by omega) (by omega)
  have e5 : x0 * (den - num) ≤ y0 * (den - num) := Int.mul_le_mul_of_nonneg_right hx (by omega)
  have e6 : x1 * num ≤ y1 * num := Int.mul_le_mul_of_nonneg_right hy (by omega)
  have s1 : min x0 x1 * (den - num) + min x0 x1 * num = min x0 x1 * den := by rw [← Int.mul_add]; congr 1; omega
  have s2 : max y0 y1 * (den - num) + max y0 y1 * num = max y0 y1 * den := by rw [← Int.mul_add]; congr 1; omega
  refine ⟨?_, ?_, ?_⟩
  · unfold linLo; rw [Int.le_ediv_iff_mul_le (by omega)]; omega
  · unfold linHi cdiv
    have : -(max y0 y1) ≤ -(y0 * (den - num) + y1 * num) / den := by
      rw [Int.le_ediv_iff_mul_le (by omega), Int.neg_mul]; omega
    omega
  · exact div_le_cdiv m0 (by omega)
theorem between_facts {x0 y0 x1 y1 num den : Int} (h1 : validB x0 y0 = true) (h2 : validB x1 y1 = true) (h3 : ranB num den = true) :
    inside2B (linLo x0 x1 num den) (linHi y0 y1 num den) (mn x0 x1) (mx y0 y1) = true := by
  have g := lin_between (linOk_of h1 h2 h3) (validB_iff.1 h1).1 (validB_iff.1 h2).1
  have := validB_iff.1 h1; have := validB_iff.1 h2
  rw [mn_eq, mx_eq] at *
  rw [inside2B_iff, validB_iff, validB_iff]
  omega

set_option maxHeartbeats 4000000 in
set_option maxRecDepth 100000 in
theorem law14_Between (x0 y0 x1 y1 num den : Int) (w : World) :
    Calls Try.prog 5 #[(.agg #[.int .i64 (x0), .int .i64 (y0)]), (.agg #[.int .i64 (x1), .int .i64 (y1)]), .int .i64 num, .int .i64 den] w fun e w' => e = .returned (.bool true) ∧ ∃ d, w' = bw w d := by
  by_cases hv : (validB x0 y0 && validB x1 y1) = false
  · refine lay_start ?_
    go_enter Try.func5, Try.ntmps5
    go_wp2_with (first | (go_at_call 11; refine (law14_awake _).mono ?_; rintro e w' ⟨rfl, d, rfl⟩) | (go_at_call 12; refine (inc_Linear_arg _ _ _ _ _ _ _ hv).mono ?_; rintro e w' ⟨rfl, d, rfl⟩))
    go_ret
    exact ⟨rfl, lay_ex _ _⟩
  · obtain ⟨h1, h2⟩ : validB x0 y0 = true ∧ validB x1 y1 = true := by simpa using hv
    clear hv
    cases h3 : ranB num den
    · refine lay_start ?_
      go_enter Try.func5, Try.ntmps5
      go_wp2_with (first | (go_at_call 11; refine (law14_awake _).mono ?_; rintro e w' ⟨rfl, d, rfl⟩) | (go_at_call 12; refine (inc_Linear_range _ _ _ _ _ _ _ h1 h2 h3).mono ?_; rintro e w' ⟨rfl, d, rfl⟩))
      go_ret
      exact ⟨rfl, lay_ex _ _⟩
    · obtain ⟨m0, m1, n0, n1⟩ := ranB_iff.1 h3
      have r1 : ranB (den - num) den = true := by rw [ranB_iff]; omega
      have r2 : ranB 0 den = true := by rw [ranB_iff]; omega
      have r3 : ranB den den = true := by rw [ranB_iff]; omega
      have HI := between_facts h1 h2 h3
      obtain ⟨c1, _⟩ := lin_comm x0 x1 num den
      obtain ⟨_, c2⟩ := lin_comm y0 y1 num den
      obtain ⟨z1, _⟩ := lin_zero x0 x1 den m0
      obtain ⟨_, z2⟩ := lin_zero y0 y1 den m0
      obtain ⟨f1, _⟩ := lin_full x0 x1 den m0
      obtain ⟨_, f2⟩ := lin_full y0 y1 den m0
      refine lay_start ?_
      go_enter Try.func5, Try.ntmps5
      go_wp2_with (first | (go_at_call 11; refine (law14_awake _).mono ?_; rintro e w' ⟨rfl, d, rfl⟩) | (go_at_call 12; refine (inc_Linear_ok _ _ _ _ _ _ _ (by assumption) (by assumption) (by assumption)).mono ?_; rintro e w' ⟨rfl, d, rfl⟩) | (go_at_call 18; refine (angle_Hull _ _ _ _ _ h1 h2).mono ?_; rintro e w' ⟨rfl, d, rfl⟩) | (go_at_call 17; refine (angle_Inside _ _ _ _ _).mono ?_; rintro e w' ⟨rfl, d, rfl⟩))
      go_ret
      exact ⟨rfl, lay_ex _ _⟩
end Go.Proofs.Ytknammeehedbdaa
