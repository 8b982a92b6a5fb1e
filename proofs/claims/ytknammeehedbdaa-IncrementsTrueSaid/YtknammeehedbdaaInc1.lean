/- Contracts of package increments: Linear, Increment, and their references. -/
import Derived.Test.YtknammeehedbdaaProg
import Derived.Test.YtknammeehedbdaaLay
import Derived.Test.YtknammeehedbdaaRegion
import Derived.Test.YtknammeehedbdaaMix
import Derived.WalkKit
import Derived.WalkSpells
import Derived.WalkLawsBesides
import Derived.Lib.Hide
import Derived.BigQuiet
import Derived.Test.YtknammeehedbdaaPlain
import Derived.Test.YtknammeehedbdaaAngle
namespace Go.Proofs.Ytknammeehedbdaa
open Go.RowKit

theorem mul_bd {x k : Int} (M : Int) (h1 : -M ≤ x) (h2 : x ≤ M) (hk : 0 ≤ k) : -(M * k) ≤ x * k ∧ x * k ≤ M * k := by
  have := Int.mul_le_mul_of_nonneg_right h1 hk
  have := Int.mul_le_mul_of_nonneg_right h2 hk
  rw [Int.neg_mul] at *
  omega

/-- The ends of the interpolation. -/
def linLo (x0 x1 num den : Int) : Int := (x0 * (den - num) + x1 * num) / den
def linHi (y0 y1 num den : Int) : Int := cdiv (y0 * (den - num) + y1 * num) den
structure LinOk (x0 y0 x1 y1 num den : Int) : Prop where
  a0 : -1099511627776 ≤ x0
  a1 : x0 ≤ 1099511627776
  b0 : -1099511627776 ≤ y0
  b1 : y0 ≤ 1099511627776
  c0 : -1099511627776 ≤ x1
  c1 : x1 ≤ 1099511627776
  d0 : -1099511627776 ≤ y1
  d1 : y1 ≤ 1099511627776
  n0 : 0 ≤ num
  n1 : num ≤ den
  m0 : 1 ≤ den
  m1 : den ≤ 4194304
structure LinBd (x0 y0 x1 y1 num den : Int) : Prop where
  a0 : -4611686018427387904 ≤ x0 * (den - num)
  a1 : x0 * (den - num) ≤ 4611686018427387904
  b0 : -4611686018427387904 ≤ y0 * (den - num)
  b1 : y0 * (den - num) ≤ 4611686018427387904
  c0 : -4611686018427387904 ≤ x1 * num
  c1 : x1 * num ≤ 4611686018427387904
  d0 : -4611686018427387904 ≤ y1 * num
  d1 : y1 * num ≤ 4611686018427387904
  s0 : -4611686018427387904 ≤ x0 * (den - num) + x1 * num
  s1 : x0 * (den - num) + x1 * num ≤ 4611686018427387904
  t0 : -4611686018427387904 ≤ y0 * (den - num) + y1 * num
  t1 : y0 * (den - num) + y1 * num ≤ 4611686018427387904
theorem linBd {x0 y0 x1 y1 num den : Int} (h : LinOk x0 y0 x1 y1 num den) : LinBd x0 y0 x1 y1 num den := by
  obtain ⟨a0, a1, b0, b1, c0, c1, d0, d1, n0, n1, m0, m1⟩ := h
  have p := mul_bd (x := x0) (k := den - num) 1099511627776 a0 a1 (by omega)
  have q := mul_bd (x := y0) (k := den - num) 1099511627776 b0 b1 (by omega)
  have r := mul_bd (x := x1) (k := num) 1099511627776 c0 c1 (by omega)
  have s := mul_bd (x := y1) (k := num) 1099511627776 d0 d1 (by omega)
  constructor <;> omega

set_option maxHeartbeats 400000 in
theorem inc_floor (a b : Int) (w : World) (hb : 1 ≤ b) (h1 : -9223372036854775807 ≤ a) (h2 : a ≤ 9223372036854775807) :
    Calls Try.prog 38 #[.int .i64 a, .int .i64 b] w fun e w' => e = .returned (.int .i64 (a / b)) ∧ w' = w := by
  go_enter Try.func38, Try.ntmps38
  go_wp2
  · go_ret
    refine ⟨ret_int ?_, rfl⟩
    rw [IntWalk.wrap64_in]
    · exact floor_neg hb ‹_›
    · rw [floor_neg hb ‹_›]; have := ediv_bd hb 9223372036854775807 (by decide) h1 h2; omega
  · go_ret
    exact ⟨ret_int (floor_pos hb ‹_›), rfl⟩
set_option maxHeartbeats 400000 in
theorem inc_ceil (a b : Int) (w : World) (hb : 1 ≤ b) (h1 : -9223372036854775807 ≤ a) (h2 : a ≤ 9223372036854775807) :
    Calls Try.prog 39 #[.int .i64 a, .int .i64 b] w fun e w' => e = .returned (.int .i64 (cdiv a b)) ∧ w' = w := by
  have h3 := ediv_bd (a := -a) hb 9223372036854775807 (by decide) (by omega) (by omega)
  go_enter Try.func39, Try.ntmps39
  go_wp2_with (go_at_call 38; refine (inc_floor _ _ _ (by omega) (by omega) (by omega)).mono ?_; rintro e w' ⟨rfl, rfl⟩)
  go_ret
  exact ⟨rfl, rfl⟩

set_option maxHeartbeats 1000000 in
theorem inc_linear (x0 y0 x1 y1 num den : Int) (w : World) (h : LinOk x0 y0 x1 y1 num den) :
    Calls Try.prog 36 #[(.agg #[.int .i64 (x0), .int .i64 (y0)]), (.agg #[.int .i64 (x1), .int .i64 (y1)]), .int .i64 num, .int .i64 den] w fun e w' => e = .returned (.agg #[.int .i64 (linLo x0 x1 num den), .int .i64 (linHi y0 y1 num den)]) ∧ ∃ d, w' = bw w d := by
  obtain ⟨q1, q2, q3, q4, q5, q6, q7, q8, q9, q10, q11, q12⟩ := linBd h
  obtain ⟨a0, a1, b0, b1, c0, c1, d0, d1, n0, n1, m0, m1⟩ := h
  refine lay_start ?_
  go_enter Try.func36, Try.ntmps36
  go_wp2_with fail
  refine region_bw_tail 27 (by kernel_rfl) (by kernel_rfl) ?_
  simp only [List.take_succ_cons, List.take_zero, List.drop_succ_cons, List.drop_zero]
  repeat (go_big_quiet_step ((first | (go_at_call 38; exact bqs (inc_floor _ _ _ (by omega) (by omega) (by omega)) ⟨_, rfl⟩) | (go_at_call 39; exact bqs (inc_ceil _ _ _ (by omega) (by omega) (by omega)) ⟨_, rfl⟩))))
  refine wpQuiet_nil ?_
  rintro w' ⟨d, rfl⟩
  go_wp2
  exact bodyPost_ret (v := (.agg #[.int .i64 (linLo x0 x1 num den), .int .i64 (linHi y0 y1 num den)])) (by simp [results, Try.results36, go_sem, linLo, linHi]) rfl ⟨rfl, lay_ex _ _⟩

set_option maxHeartbeats 1000000 in
theorem ref14_Linear (x0 y0 x1 y1 num den : Int) (w : World) (h : LinOk x0 y0 x1 y1 num den) :
    Calls Try.prog 14 #[(.agg #[.int .i64 (x0), .int .i64 (y0)]), (.agg #[.int .i64 (x1), .int .i64 (y1)]), .int .i64 num, .int .i64 den] w fun e w' => e = .returned (.agg #[.int .i64 (linLo x0 x1 num den), .int .i64 (linHi y0 y1 num den)]) ∧ ∃ d, w' = bw w d := by
  obtain ⟨q1, q2, q3, q4, q5, q6, q7, q8, q9, q10, q11, q12⟩ := linBd h
  obtain ⟨a0, a1, b0, b1, c0, c1, d0, d1, n0, n1, m0, m1⟩ := h
  refine lay_start ?_
  go_enter Try.func14, Try.ntmps14
  go_wp2_with fail
  refine region_bw_tail 27 (by kernel_rfl) (by kernel_rfl) ?_
  simp only [List.take_succ_cons, List.take_zero, List.drop_succ_cons, List.drop_zero]
  repeat (go_big_quiet_step ((first | (go_at_call 30; exact bqs (ref05_Floor _ _ _ (by omega) (by omega) (by omega)) ⟨_, rfl⟩) | (go_at_call 37; exact bqs (ref05_Ceil _ _ _ (by omega) (by omega) (by omega)) ⟨_, rfl⟩))))
  refine wpQuiet_nil ?_
  rintro w' ⟨d, rfl⟩
  go_wp2
  exact bodyPost_ret (v := (.agg #[.int .i64 (linLo x0 x1 num den), .int .i64 (linHi y0 y1 num den)])) (by simp [results, Try.results14, go_sem, linLo, linHi]) rfl ⟨rfl, lay_ex _ _⟩

def ranB (num den : Int) : Bool := decide (1 ≤ den ∧ den ≤ 4194304 ∧ 0 ≤ num ∧ num ≤ den)
theorem ranB_iff {num den : Int} : ranB num den = true ↔ 1 ≤ den ∧ den ≤ 4194304 ∧ 0 ≤ num ∧ num ≤ den := by simp [ranB]
theorem linOk_of {x0 y0 x1 y1 num den : Int} (h1 : validB x0 y0 = true) (h2 : validB x1 y1 = true) (h3 : ranB num den = true) : LinOk x0 y0 x1 y1 num den := by
  have := validB_iff.1 h1; have := validB_iff.1 h2; have := ranB_iff.1 h3
  constructor <;> omega
set_option maxHeartbeats 1000000 in
theorem inc_Linear_ok (x0 y0 x1 y1 num den : Int) (w : World) (h1 : validB x0 y0 = true) (h2 : validB x1 y1 = true) (h3 : ranB num den = true) :
    Calls Try.prog 12 #[(.agg #[.int .i64 (x0), .int .i64 (y0)]), (.agg #[.int .i64 (x1), .int .i64 (y1)]), .int .i64 num, .int .i64 den] w fun e w' => e = .returned (.tuple #[(.agg #[.int .i64 (linLo x0 x1 num den), .int .i64 (linHi y0 y1 num den)]), .int .i64 0]) ∧ ∃ d, w' = bw w d := by
  have HL := Lib.hid (linOk_of h1 h2 h3)
  obtain ⟨m0, m1, n0, n1⟩ := ranB_iff.1 h3
  refine lay_start ?_
  go_enter Try.func12, Try.ntmps12
  go_wp2_with (first | (go_at_call 35; refine (angle_Valid _ _ _).mono ?_; rintro e w' ⟨rfl, d, rfl⟩) | (go_at_call 36; refine (inc_linear _ _ _ _ _ _ _ HL.out).mono ?_; rintro e w' ⟨rfl, d, rfl⟩))
  exact bodyPost_ret (v := .tuple #[(.agg #[.int .i64 (linLo x0 x1 num den), .int .i64 (linHi y0 y1 num den)]), .int .i64 0]) (by simp [results, Try.results12, go_sem]) rfl ⟨rfl, lay_ex _ _⟩
set_option maxHeartbeats 1000000 in
theorem inc_Linear_arg (x0 y0 x1 y1 num den : Int) (w : World) (h1 : (validB x0 y0 && validB x1 y1) = false) :
    Calls Try.prog 12 #[(.agg #[.int .i64 (x0), .int .i64 (y0)]), (.agg #[.int .i64 (x1), .int .i64 (y1)]), .int .i64 num, .int .i64 den] w fun e w' => e = .returned (.tuple #[(.agg #[.int .i64 (0), .int .i64 (0)]), .int .i64 1]) ∧ ∃ d, w' = bw w d := by
  cases h2 : validB x0 y0
  · clear h1
    refine lay_start ?_
    go_enter Try.func12, Try.ntmps12
    go_wp2_with (go_at_call 35; refine (angle_Valid _ _ _).mono ?_; rintro e w' ⟨rfl, d, rfl⟩)
    exact bodyPost_ret (v := .tuple #[(.agg #[.int .i64 (0), .int .i64 (0)]), .int .i64 1]) (by simp [results, Try.results12, go_sem]) rfl ⟨rfl, lay_ex _ _⟩
  · have h3 : validB x1 y1 = false := by simpa [h2] using h1
    clear h1
    refine lay_start ?_
    go_enter Try.func12, Try.ntmps12
    go_wp2_with (go_at_call 35; refine (angle_Valid _ _ _).mono ?_; rintro e w' ⟨rfl, d, rfl⟩)
    exact bodyPost_ret (v := .tuple #[(.agg #[.int .i64 (0), .int .i64 (0)]), .int .i64 1]) (by simp [results, Try.results12, go_sem]) rfl ⟨rfl, lay_ex _ _⟩
set_option maxHeartbeats 1000000 in
theorem inc_Linear_range (x0 y0 x1 y1 num den : Int) (w : World) (h1 : validB x0 y0 = true) (h2 : validB x1 y1 = true) (h3 : ranB num den = false) :
    Calls Try.prog 12 #[(.agg #[.int .i64 (x0), .int .i64 (y0)]), (.agg #[.int .i64 (x1), .int .i64 (y1)]), .int .i64 num, .int .i64 den] w fun e w' => e = .returned (.tuple #[(.agg #[.int .i64 (0), .int .i64 (0)]), .int .i64 2]) ∧ ∃ d, w' = bw w d := by
  have h4 : ¬ (1 ≤ den ∧ den ≤ 4194304 ∧ 0 ≤ num ∧ num ≤ den) := fun h => by rw [ranB_iff.2 h] at h3; cases h3
  refine lay_start ?_
  go_enter Try.func12, Try.ntmps12
  go_wp2_with (go_at_call 35; refine (angle_Valid _ _ _).mono ?_; rintro e w' ⟨rfl, d, rfl⟩)
  all_goals exact bodyPost_ret (v := .tuple #[(.agg #[.int .i64 (0), .int .i64 (0)]), .int .i64 2]) (by simp [results, Try.results12, go_sem]) rfl ⟨rfl, lay_ex _ _⟩

def incLo (ms rate : Int) : Int := (rate * ms) / 3600000
def incHi (ms rate : Int) : Int := cdiv (rate * ms) 3600000
def incB (ms rate : Int) : Bool := decide (0 ≤ ms ∧ ms ≤ 3600000 ∧ -21600000 ≤ rate ∧ rate ≤ 21600000)
theorem incB_iff {ms rate : Int} : incB ms rate = true ↔ 0 ≤ ms ∧ ms ≤ 3600000 ∧ -21600000 ≤ rate ∧ rate ≤ 21600000 := by simp [incB]
theorem incBd {ms rate : Int} (h : incB ms rate = true) : -77760000000000 ≤ rate * ms ∧ rate * ms ≤ 77760000000000 := by
  obtain ⟨a, b, c, d⟩ := incB_iff.1 h
  have := mul_bd (x := rate) (k := ms) 21600000 c d a
  omega
set_option maxHeartbeats 1000000 in
theorem inc_Increment_ok (ms rate : Int) (w : World) (h : incB ms rate = true) :
    Calls Try.prog 15 #[.int .i64 ms, .int .i64 rate] w fun e w' => e = .returned (.tuple #[(.agg #[.int .i64 (incLo ms rate), .int .i64 (incHi ms rate)]), .int .i64 0]) ∧ ∃ d, w' = bw w d := by
  obtain ⟨q1, q2⟩ := incBd h
  obtain ⟨a, b, c, d⟩ := incB_iff.1 h
  clear h
  refine lay_start ?_
  go_enter Try.func15, Try.ntmps15
  go_wp2_with (first | (go_at_call 38; refine (inc_floor _ _ _ (by omega) (by omega) (by omega)).mono ?_; rintro e w' ⟨rfl, rfl⟩) | (go_at_call 39; refine (inc_ceil _ _ _ (by omega) (by omega) (by omega)).mono ?_; rintro e w' ⟨rfl, rfl⟩))
  exact bodyPost_ret (v := .tuple #[(.agg #[.int .i64 (incLo ms rate), .int .i64 (incHi ms rate)]), .int .i64 0]) (by simp [results, Try.results15, go_sem, incLo, incHi]) rfl ⟨rfl, lay_ex _ _⟩
set_option maxHeartbeats 1000000 in
theorem inc_Increment_range (ms rate : Int) (w : World) (h : incB ms rate = false) :
    Calls Try.prog 15 #[.int .i64 ms, .int .i64 rate] w fun e w' => e = .returned (.tuple #[(.agg #[.int .i64 (0), .int .i64 (0)]), .int .i64 2]) ∧ ∃ d, w' = bw w d := by
  have h4 : ¬ (0 ≤ ms ∧ ms ≤ 3600000 ∧ -21600000 ≤ rate ∧ rate ≤ 21600000) := fun hh => by rw [incB_iff.2 hh] at h; cases h
  refine lay_start ?_
  go_enter Try.func15, Try.ntmps15
  go_wp2_with fail
  all_goals exact bodyPost_ret (v := .tuple #[(.agg #[.int .i64 (0), .int .i64 (0)]), .int .i64 2]) (by simp [results, Try.results15, go_sem]) rfl ⟨rfl, lay_ex _ _⟩
set_option maxHeartbeats 1000000 in
theorem ref14_Increment (ms rate : Int) (w : World) (h : incB ms rate = true) :
    Calls Try.prog 21 #[.int .i64 ms, .int .i64 rate] w fun e w' => e = .returned (.agg #[.int .i64 (incLo ms rate), .int .i64 (incHi ms rate)]) ∧ ∃ d, w' = bw w d := by
  obtain ⟨q1, q2⟩ := incBd h
  obtain ⟨a, b, c, d⟩ := incB_iff.1 h
  clear h
  refine lay_start ?_
  go_enter Try.func21, Try.ntmps21
  go_wp2_with (first | (go_at_call 30; refine (ref05_Floor _ _ _ (by omega) (by omega) (by omega)).mono ?_; rintro e w' ⟨rfl, rfl⟩) | (go_at_call 37; refine (ref05_Ceil _ _ _ (by omega) (by omega) (by omega)).mono ?_; rintro e w' ⟨rfl, rfl⟩))
  exact bodyPost_ret (v := (.agg #[.int .i64 (incLo ms rate), .int .i64 (incHi ms rate)])) (by simp [results, Try.results21, go_sem, incLo, incHi]) rfl ⟨rfl, lay_ex _ _⟩

end Go.Proofs.Ytknammeehedbdaa
