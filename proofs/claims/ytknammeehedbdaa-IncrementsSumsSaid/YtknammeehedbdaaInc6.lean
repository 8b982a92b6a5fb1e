/- The law of layer 14 that increments add up, walked. -/
import Derived.Test.YtknammeehedbdaaProg
import Derived.Test.YtknammeehedbdaaLay
import Derived.WalkKit
import Derived.WalkSpells
import Derived.WalkLawsBesides
import Derived.Lib.Hide
import Derived.BigQuiet
import Derived.Test.YtknammeehedbdaaPlain
import Derived.Test.YtknammeehedbdaaAngle
import Derived.Test.YtknammeehedbdaaInc1
import Derived.Test.YtknammeehedbdaaInc2
import Derived.Test.YtknammeehedbdaaInts
import Derived.Test.YtknammeehedbdaaInc3
import Derived.Test.YtknammeehedbdaaInc4
import Derived.Test.YtknammeehedbdaaInc5
namespace Go.Proofs.Ytknammeehedbdaa
open Go.RowKit

theorem floor_add {p q b : Int} (hb : 1 ≤ b) : p / b + q / b ≤ (p + q) / b := by
  rw [Int.le_ediv_iff_mul_le (by omega), Int.add_mul]
  have := Int.ediv_mul_le p (show b ≠ 0 by omega)
  have := Int.ediv_mul_le q (show b ≠ 0 by omega)
  omega
theorem ceil_add {p q b : Int} (hb : 1 ≤ b) : cdiv (p + q) b ≤ cdiv p b + cdiv q b := by
  unfold cdiv
  have := floor_add (p := -p) (q := -q) hb
  rw [show -(p + q) = -p + -q by omega]
  omega
theorem inc_bd {ms rate : Int} (h : incB ms rate = true) : -21600000 ≤ incLo ms rate ∧ incLo ms rate ≤ 21600000 ∧ -21600000 ≤ incHi ms rate ∧ incHi ms rate ≤ 21600000 ∧ incLo ms rate ≤ incHi ms rate := by
  have hb := incBd h
  unfold incLo incHi
  refine ⟨?_, ?_, ?_, ?_, div_le_cdiv (by decide) (Int.le_refl _)⟩ <;> (try unfold cdiv) <;> omega
theorem inc_time {a b rate : Int} : incLo a rate + incLo b rate ≤ incLo (a + b) rate ∧ incHi (a + b) rate ≤ incHi a rate + incHi b rate := by
  unfold incLo incHi
  rw [Int.mul_add]
  exact ⟨floor_add (by decide), ceil_add (by decide)⟩
theorem inc_rate {a r s : Int} : incLo a r + incLo a s ≤ incLo a (r + s) ∧ incHi a (r + s) ≤ incHi a r + incHi a s := by
  unfold incLo incHi
  rw [Int.add_mul]
  exact ⟨floor_add (by decide), ceil_add (by decide)⟩
theorem inc_hour {rate : Int} : incLo 3600000 rate = rate ∧ incHi 3600000 rate = rate := by
  unfold incLo incHi cdiv; omega
theorem tab_near {m rate : Int} : incLo (60000 * m) rate ≤ 100 * ((rate * m + 3000) / 6000) + 50 ∧ 100 * ((rate * m + 3000) / 6000) - 50 ≤ incHi (60000 * m) rate := by
  unfold incLo incHi cdiv
  rw [show rate * (60000 * m) = 60000 * (rate * m) by rw [Int.mul_left_comm]]
  generalize rate * m = x
  omega
def incE (ms rate : Int) : Int := if incB ms rate = true then 0 else 2
def incL (ms rate : Int) : Int := if incB ms rate = true then incLo ms rate else 0
def incH (ms rate : Int) : Int := if incB ms rate = true then incHi ms rate else 0
theorem inc_Increment_any (ms rate : Int) (w : World) :
    Calls Try.prog 15 #[.int .i64 ms, .int .i64 rate] w fun e w' => e = .returned (.tuple #[(.agg #[.int .i64 (incL ms rate), .int .i64 (incH ms rate)]), .int .i64 (incE ms rate)]) ∧ ∃ d, w' = bw w d := by
  unfold incE incL incH
  cases h : incB ms rate
  · exact inc_Increment_range ms rate w h
  · exact inc_Increment_ok ms rate w h

set_option maxHeartbeats 8000000 in
set_option maxRecDepth 100000 in
theorem law14_Sums (a b rate other : Int) (w : World) :
    Calls Try.prog 4 #[.int .i64 a, .int .i64 b, .int .i64 rate, .int .i64 other] w fun e w' => e = .returned (.bool true) ∧ ∃ d, w' = bw w d := by
  by_cases hab : 0 ≤ a ∧ 0 ≤ b ∧ a ≤ 3600000 ∧ b ≤ 3600000 ∧ a + b ≤ 3600000
  · obtain ⟨a0, b0, a1, b1, ab⟩ := hab
    by_cases hr : -21600000 ≤ rate ∧ rate ≤ 21600000
    · obtain ⟨r0, r1⟩ := hr
      obtain ⟨n, rfl⟩ := Int.eq_ofNat_of_zero_le a0
      have i1 : incB (n : Int) rate = true := by rw [incB_iff]; omega
      have i2 : incB b rate = true := by rw [incB_iff]; omega
      have i3 : incB (↑n + b) rate = true := by rw [incB_iff]; omega
      have i4 : incB 3600000 rate = true := by rw [incB_iff]; omega
      have i5 : incB (60000 * (↑n / 60000)) rate = true := by rw [incB_iff]; omega
      obtain ⟨j1, j2, j3, j4, j5⟩ := inc_bd i1
      obtain ⟨k1, k2, k3, k4, k5⟩ := inc_bd i2
      obtain ⟨l1, l2, l3, l4, l5⟩ := inc_bd i3
      obtain ⟨t1, t2⟩ := inc_time (a := (n : Int)) (b := b) (rate := rate)
      have HIn : inside2B (incLo (↑n + b) rate) (incHi (↑n + b) rate) (incLo ↑n rate + incLo b rate) (incHi ↑n rate + incHi b rate) = true := by
        rw [inside2B_iff, validB_iff, validB_iff]; omega
      obtain ⟨w1, w2⟩ := inc_hour (rate := rate)
      obtain ⟨T, hT⟩ : ∃ T, T = (rate * (↑n / 60000) + 3000) / 6000 := ⟨_, rfl⟩
      have hm0 : (n : Int) / 60000 < 61 := by omega
      have hm1 : n / 60000 < 61 := by omega
      have Tb : -216000 ≤ T ∧ T ≤ 216001 := by
        have := mul_bd (x := rate) (k := (n : Int) / 60000) 21600000 r0 r1 (by omega)
        rw [hT]; omega
      obtain ⟨T0, T1⟩ := Tb
      have N := tab_near (m := (n : Int) / 60000) (rate := rate)
      rw [← hT] at N
      obtain ⟨N0, N1⟩ := N
      have HT := Lib.hid hT
      clear hT t1 t2
      have HC : Hid (incE (↑n) other = 2 ∨ (incE (↑n) other = 0 ∧ incE (↑n) (wrap64 (rate + other)) = 2) ∨ (incE (↑n) other = 0 ∧ incE (↑n) (wrap64 (rate + other)) = 0 ∧ inside2B (incL ↑n (wrap64 (rate + other))) (incH ↑n (wrap64 (rate + other))) (incLo ↑n rate + incL ↑n other) (incHi ↑n rate + incH ↑n other) = true ∧ -21600000 ≤ incL ↑n other ∧ incL ↑n other ≤ 21600000 ∧ -21600000 ≤ incH ↑n other ∧ incH ↑n other ≤ 21600000 ∧ -21600000 ≤ other ∧ other ≤ 21600000)) := by
        by_cases hc : incB (n : Int) other = true
        · have := (incB_iff.1 hc)
          rw [IntWalk.wrap64_in (rate + other) (by omega)]
          by_cases hd : incB (n : Int) (rate + other) = true
          · right; right
            have q1 := inc_bd hc
            have q2 := inc_bd hd
            have q3 := inc_rate (a := (n : Int)) (r := rate) (s := other)
            simp only [incE, incL, incH, hc, hd, if_true, true_and]
            refine ⟨?_, by omega, by omega, by omega, by omega, by omega, by omega⟩
            rw [inside2B_iff, validB_iff, validB_iff]; omega
          · right; left; simp [incE, hc, hd]
        · left; simp [incE, hc]
      refine lay_start ?_
      go_enter Try.func4, Try.ntmps4
      go_wp2_with (first | (go_at_call 11; refine (law14_awake _).mono ?_; rintro e w' ⟨rfl, d, rfl⟩) | (go_at_call 15; refine (inc_Increment_ok _ _ _ (by assumption)).mono ?_; rintro e w' ⟨rfl, d, rfl⟩))
      refine (inc_Table_ok _ _ r0 r1).mono ?_
      rintro e w' ⟨v, d, rfl, rfl, hown⟩
      obtain ⟨ad, cap, rfl, _, g2⟩ := tab_ints hown
      have hne : tabI rate ≠ [] := fun h => by have := tabI_len rate; rw [h] at this; cases this
      obtain ⟨bb, o, rfl, g3, g4⟩ := g2 hne
      have g5 := g4 (n / 60000) (by rw [tabI_len]; exact hm1)
      have e5 : (tabI rate).getD (n / 60000) 0 = T := by
        rw [HT.out]
        simp [tabI, List.getD, hm1]
      rw [e5] at g5
      clear hown g2 g4 e5 hne
      rw [lay_bw] at g5
      obtain ⟨g50, g51, g52, g53, g54, g55, g56⟩ := cell_more g5
      clear g5 g3
      rw [tabI_len]
      go_wp2_with (first | (go_at_call 17; refine (angle_Inside _ _ _ _ _).mono ?_; rintro e w' ⟨rfl, d, rfl⟩) | (go_at_call 15; refine (inc_Increment_ok _ _ _ (by assumption)).mono ?_; rintro e w' ⟨rfl, d, rfl⟩))
      have D1 : decide (100 * T + 50 < incLo (60000 * (↑n / 60000)) rate) = false := by simp; omega
      have D2 : decide (incHi (60000 * (↑n / 60000)) rate < 100 * T - 50) = false := by simp; omega
      refine region_bw (by kernel_rfl) (by kernel_rfl) ?_
      repeat (go_big_quiet_step (fail))
      refine wpQuiet_nil ?_
      rintro w' ⟨d, rfl⟩
      clear D1 D2 g50 g51 g52 g53 g54 g55 g56
      rcases HC.out with h | ⟨h, h'⟩ | ⟨h, h', hin, o1, o2, o3, o4, o5, o6⟩
      · go_wp2_with (first | (go_at_call 15; refine (inc_Increment_any _ _ _).mono ?_; rintro e w' ⟨rfl, d, rfl⟩))
        go_ret
        exact ⟨rfl, lay_ex _ _⟩
      · go_wp2_with (first | (go_at_call 15; refine (inc_Increment_any _ _ _).mono ?_; rintro e w' ⟨rfl, d, rfl⟩))
        go_ret
        exact ⟨rfl, lay_ex _ _⟩
      · rw [IntWalk.wrap64_in (rate + other) (by omega)] at h' hin
        go_wp2_with (first | (go_at_call 15; refine (inc_Increment_any _ _ _).mono ?_; rintro e w' ⟨rfl, d, rfl⟩) | (go_at_call 17; refine (angle_Inside _ _ _ _ _).mono ?_; rintro e w' ⟨rfl, d, rfl⟩))
        go_ret
        exact ⟨rfl, lay_ex _ _⟩
    · have hr' : rate < -21600000 ∨ 21600000 < rate := by omega
      have nb : ∀ x, incB x rate = false := fun x => by
        cases h : incB x rate
        · rfl
        · have := incB_iff.1 h; omega
      have NB := Lib.hid nb
      clear nb
      refine lay_start ?_
      go_enter Try.func4, Try.ntmps4
      go_wp2_with (first | (go_at_call 11; refine (law14_awake _).mono ?_; rintro e w' ⟨rfl, d, rfl⟩) | (go_at_call 15; refine (inc_Increment_range _ _ _ (NB.out _)).mono ?_; rintro e w' ⟨rfl, d, rfl⟩) | (go_at_call 16; refine (inc_Table_range _ _ hr').mono ?_; rintro e w' ⟨rfl, d, rfl⟩))
      all_goals go_ret
      all_goals exact ⟨rfl, lay_ex _ _⟩
  · refine lay_start ?_
    go_enter Try.func4, Try.ntmps4
    go_wp2_with (first | (go_at_call 11; refine (law14_awake _).mono ?_; rintro e w' ⟨rfl, d, rfl⟩))
    all_goals go_ret
    all_goals exact ⟨rfl, lay_ex _ _⟩
end Go.Proofs.Ytknammeehedbdaa
