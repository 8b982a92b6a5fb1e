/- Contracts and plain laws, several texts in one: We -/
import Derived.Test.YtmomoeagnkjbiaaGreatProg
import Derived.WalkKit
import Derived.WalkSpells
import Derived.WalkLawsBesides
import Derived.Lib.Hide
import Derived.BigQuiet
import Derived.Test.YtmomoeagnkjbiaaGreatBAA
import Derived.Test.YtmomoeagnkjbiaaGreatBAB
import Derived.Test.YtmomoeagnkjbiaaGreatBAL
/- wide: product, size, quotient; fixed.enclose, for products of less than 2^60. -/
namespace Go.Proofs.YtmomoeagnkjbiaaGreat
open Go.RowKit

theorem prod_abs (a b : Int) : (a * b).natAbs = a.natAbs * b.natAbs := Int.natAbs_mul a b
theorem prod_sgn {a b : Int} : ((decide (a < 0) != decide (b < 0)) && decide (a ≠ 0) && decide (b ≠ 0)) = decide (a * b < 0) := by
  by_cases ha : a < 0
  · by_cases hb : b < 0
    · have := Int.mul_pos_of_neg_of_neg ha hb
      simp [ha, hb]; omega
    · by_cases hb0 : b = 0
      · subst hb0; simp
      · have := Int.mul_neg_of_neg_of_pos ha (show 0 < b by omega)
        simp [ha, hb, hb0, this]; omega
  · by_cases ha0 : a = 0
    · subst ha0; simp
    · by_cases hb : b < 0
      · have := Int.mul_neg_of_pos_of_neg (show 0 < a by omega) hb
        simp [ha, hb, ha0, this]; omega
      · have := Int.mul_nonneg (show 0 ≤ a by omega) (show 0 ≤ b by omega)
        simp [ha, hb]; omega
set_option maxHeartbeats 1000000 in
set_option maxRecDepth 100000 in
theorem wd_Product2 (a b p : Int) (hp : a * b = p) (ha : -4611686018427387904 ≤ a ∧ a ≤ 4611686018427387904) (hb : -4611686018427387904 ≤ b ∧ b ≤ 4611686018427387904) (h1 : -1152921504606846976 < p) (h2 : p < 1152921504606846976) (w : World) :
    Calls Tryz.prog 124 #[.int .i64 a, .int .i64 b] w fun e w' => e = .returned (.tuple #[(.agg #[.int .i64 (p / 1152921504606846976), .int .i64 (p % 1152921504606846976)]), .int .i64 0]) ∧ ∃ d, w' = bw w d := by
  have HA := Lib.hid (fun W => wd_abs2 a W ha.1 ha.2)
  have HB := Lib.hid (fun W => wd_abs2 b W hb.1 hb.2)
  obtain ⟨x, hx⟩ : ∃ x, a.natAbs = x := ⟨_, rfl⟩
  obtain ⟨y, hy⟩ : ∃ y, b.natAbs = y := ⟨_, rfl⟩
  have hm : x * y = p.natAbs := by rw [← hp, prod_abs, hx, hy]
  have hs := prod_sgn (a := a) (b := b)
  rw [hp] at hs
  obtain ⟨m, hm2⟩ : ∃ m, p.natAbs = m := ⟨_, rfl⟩
  rw [hm2] at hm
  have hmb : m < 1152921504606846976 := by omega
  have HM : Hid (∀ W, Calls Tryz.prog 158 #[.int .u64 (x : Int), .int .u64 (y : Int)] W fun e w' => e = .returned (.tuple #[.int .u64 0, .int .u64 (m : Int)]) ∧ w' = W) := Lib.hid fun W => by
    have := Tryz.bits_Mul64 x y (by omega) (by omega) W
    rw [hm] at this
    rw [show m / 18446744073709551616 = 0 by omega, show m % 18446744073709551616 = m by omega] at this
    exact this
  rw [hx] at HA
  rw [hy] at HB
  have HW := Lib.hid (fun W => wd_wide2 m hmb (decide (p < 0)) p (by by_cases hn : p < 0 <;> simp [hn] <;> omega) W)
  generalize p / 1152921504606846976 = q at *
  generalize p % 1152921504606846976 = r at *
  have e1 : (a != 0) = decide (a ≠ 0) := by by_cases h : a = 0 <;> simp [h]
  have e2 : (b != 0) = decide (b ≠ 0) := by by_cases h : b = 0 <;> simp [h]
  rw [← e1, ← e2] at hs
  clear hx hy hm hm2 hmb hp h1 h2 ha hb e1 e2
  obtain ⟨A0, hA0⟩ : ∃ x, decide (a < 0) = x := ⟨_, rfl⟩
  obtain ⟨B0, hB0⟩ : ∃ x, decide (b < 0) = x := ⟨_, rfl⟩
  obtain ⟨A1, hA1⟩ : ∃ x, (a != 0) = x := ⟨_, rfl⟩
  obtain ⟨B1, hB1⟩ : ∃ x, (b != 0) = x := ⟨_, rfl⟩
  rw [hA0, hB0, hA1, hB1] at hs
  obtain ⟨N, hN⟩ : ∃ x, decide (p < 0) = x := ⟨_, rfl⟩
  rw [hN] at hs HW
  clear hN
  cases A0 <;> cases B0 <;> cases A1 <;> cases B1
  all_goals
    first
      | (obtain rfl : N = true := hs.symm.trans rfl)
      | (obtain rfl : N = false := hs.symm.trans rfl)
    clear hs
    refine lay_start ?_
    go_enter Tryz.func124, Tryz.ntmps124
    go_wp2_with (first | (go_at_call 159; first | (with_reducible refine (HA.out _).mono ?_; rintro e w' ⟨rfl, hw⟩; rw [hw]; clear hw) | (with_reducible refine (HB.out _).mono ?_; rintro e w' ⟨rfl, hw⟩; rw [hw]; clear hw)) | (go_at_call 158; refine (HM.out _).mono ?_; rintro e w' ⟨rfl, hw⟩; rw [hw]; clear hw) | (go_at_call 160; refine (HW.out _).mono ?_; rintro e w' ⟨rfl, d, rfl⟩))
    exact bodyPost_ret (v := .tuple #[(.agg #[.int .i64 (q), .int .i64 (r)]), .int .i64 0]) (by simp [results, Tryz.results124, go_sem]) rfl ⟨rfl, lay_ex _ _⟩
set_option maxHeartbeats 1000000 in
set_option maxRecDepth 100000 in
theorem wd_sizeOf2 (p : Int) (h1 : -1152921504606846976 < p) (h2 : p < 1152921504606846976) (w : World) :
    Calls Tryz.prog 178 #[(.agg #[.int .i64 (p / 1152921504606846976), .int .i64 (p % 1152921504606846976)])] w fun e w' => e = .returned (.agg #[.int .u64 0, .int .u64 (p.natAbs : Int), .bool (decide (p < 0))]) ∧ ∃ d, w' = bw w d := by
  obtain ⟨m, hm⟩ : ∃ m, p.natAbs = m := ⟨_, rfl⟩
  have kb2 := u64_or0 m (by omega)
  have km : IntKind.u64.wrap (m : Int) = (m : Int) := IntWalk.u64_in _ (by omega)
  rw [hm]
  by_cases hn : p < 0
  · rw [decide_eq_true hn, show p / 1152921504606846976 = -1 by omega]
    obtain ⟨r, hr⟩ : ∃ r, p % 1152921504606846976 = r := ⟨_, rfl⟩
    rw [hr]
    have kr : IntKind.i64.wrap (-r) = -r := IntWalk.i64_in _ (by omega)
    have kd : -r / 1152921504606846976 = -1 := by omega
    have ka := i64_and60 (-r)
    rw [show -r % 1152921504606846976 = (m : Int) by omega] at ka
    obtain ⟨R, hR⟩ : ∃ R, -r = R := ⟨_, rfl⟩
    rw [hR] at kr kd ka
    clear hr hm hn h1 h2
    refine lay_start ?_
    go_enter Tryz.func178, Tryz.ntmps178
    go_wp2_with fail
    refine region_bw (by kernel_rfl) (by kernel_rfl) ?_
    repeat (go_big_quiet_step ((first | fail)))
    refine wpQuiet_nil ?_
    rintro w' ⟨d, rfl⟩
    rw [lay_bw]
    go_wp2_with fail
    exact bodyPost_ret (v := .agg #[.int .u64 0, .int .u64 (m : Int), .bool true]) (by simp [results, Tryz.results178, go_sem]) rfl ⟨rfl, lay_ex _ _⟩
  · rw [decide_eq_false hn, show p / 1152921504606846976 = 0 by omega, show p % 1152921504606846976 = (m : Int) by omega]
    clear hm hn h1 h2
    refine lay_start ?_
    go_enter Tryz.func178, Tryz.ntmps178
    go_wp2_with fail
    refine region_bw (by kernel_rfl) (by kernel_rfl) ?_
    repeat (go_big_quiet_step ((first | fail)))
    refine wpQuiet_nil ?_
    rintro w' ⟨d, rfl⟩
    rw [lay_bw]
    go_wp2_with fail
    exact bodyPost_ret (v := .agg #[.int .u64 0, .int .u64 (m : Int), .bool false]) (by simp [results, Tryz.results178, go_sem]) rfl ⟨rfl, lay_ex _ _⟩
/-- The quotient, rounded down or up. -/
def wdQ (p b : Int) (up : Bool) : Int := if up then -((-p) / b) else p / b
theorem wdQ_neg {p b : Int} {m d q r : Nat} (hp : p < 0) (hm : p.natAbs = m) (hd : b.natAbs = d) (hb : 0 < b) (hq : m / d = q) (hr : m % d = r) : wdQ p b true = -(q : Int) ∧ wdQ p b false = if 0 < r then -((q + 1 : Nat) : Int) else -(q : Int) := by
  have e1 : -p = (m : Int) := by omega
  have e2 : b = (d : Int) := by omega
  have h1 := Nat.div_add_mod m d
  have h2 := Nat.mod_lt m (show 0 < d by omega)
  rw [hq, hr] at h1
  rw [hr] at h2
  have e3 : (m : Int) / (d : Int) = (q : Int) := by rw [← hq]; exact (Int.natCast_ediv m d).symm
  unfold wdQ
  rw [if_pos rfl, if_neg (by decide), e1, e2, e3]
  refine ⟨rfl, ?_⟩
  have e4 : p = -((m : Nat) : Int) := by omega
  have h3 : (m : Int) = (d : Int) * (q : Int) + (r : Int) := by exact_mod_cast h1.symm
  split
  · rw [e4, h3]
    rw [show -((d : Int) * (q : Int) + (r : Int)) = ((d : Int) - (r : Int)) + (d : Int) * (-((q : Int) + 1)) by rw [Int.mul_neg, Int.mul_add]; omega]
    rw [Int.add_mul_ediv_left _ _ (by omega), Int.ediv_eq_zero_of_lt (by omega) (by omega)]
    omega
  · have : r = 0 := by omega
    subst this
    rw [e4, h3]
    rw [show -((d : Int) * (q : Int) + ((0 : Nat) : Int)) = (d : Int) * (-(q : Int)) by rw [Int.mul_neg]; omega]
    rw [Int.mul_ediv_cancel_left _ (by omega)]
theorem wdQ_pos {p b : Int} {m d q r : Nat} (hp : ¬ p < 0) (hm : p.natAbs = m) (hd : b.natAbs = d) (hb : 0 < b) (hq : m / d = q) (hr : m % d = r) : wdQ p b false = (q : Int) ∧ wdQ p b true = if 0 < r then ((q + 1 : Nat) : Int) else (q : Int) := by
  have e1 : p = (m : Int) := by omega
  have e2 : b = (d : Int) := by omega
  have h1 := Nat.div_add_mod m d
  have h2 := Nat.mod_lt m (show 0 < d by omega)
  rw [hq, hr] at h1
  rw [hr] at h2
  have e3 : (m : Int) / (d : Int) = (q : Int) := by rw [← hq]; exact (Int.natCast_ediv m d).symm
  have h3 : (m : Int) = (d : Int) * (q : Int) + (r : Int) := by exact_mod_cast h1.symm
  unfold wdQ
  rw [if_pos rfl, if_neg (by decide), e1, e2, e3]
  refine ⟨rfl, ?_⟩
  split
  · rw [h3]
    rw [show -((d : Int) * (q : Int) + (r : Int)) = ((d : Int) - (r : Int)) + (d : Int) * (-((q : Int) + 1)) by rw [Int.mul_neg, Int.mul_add]; omega]
    rw [Int.add_mul_ediv_left _ _ (by omega), Int.ediv_eq_zero_of_lt (by omega) (by omega)]
    omega
  · have : r = 0 := by omega
    subst this
    rw [h3]
    rw [show -((d : Int) * (q : Int) + ((0 : Nat) : Int)) = (d : Int) * (-(q : Int)) by rw [Int.mul_neg]; omega]
    rw [Int.mul_ediv_cancel_left _ (by omega)]
    omega
theorem neg_wrap {n : Int} (h0 : 0 ≤ n) (h : n ≤ 9223372036854775808) : IntKind.i64.wrap (IntKind.u64.wrap (-n)) = -n := by
  rw [IntKind.wrap_u64, IntKind.wrap_i64]
  omega
set_option maxHeartbeats 2000000 in
set_option maxRecDepth 100000 in
theorem wd_quotient2 (p b : Int) (up : Bool) (h1 : -1152921504606846976 < p) (h2 : p < 1152921504606846976) (hb : 0 < b) (hb2 : b ≤ 4611686018427387904) (w : World) :
    Calls Tryz.prog 161 #[(.agg #[.int .i64 (p / 1152921504606846976), .int .i64 (p % 1152921504606846976)]), .int .i64 b, .bool up] w fun e w' => e = .returned (.tuple #[.int .i64 (wdQ p b up), .int .i64 0]) ∧ ∃ d, w' = bw w d := by
  have HV := Lib.hid (fun W => wd_Valid2 (p / 1152921504606846976) (p % 1152921504606846976) (by omega) (by omega) (by omega) W)
  have HS := Lib.hid (fun W => wd_sizeOf2 p h1 h2 W)
  have HA := Lib.hid (fun W => wd_abs2 b W (by omega) (by omega))
  obtain ⟨m, hm⟩ : ∃ m, p.natAbs = m := ⟨_, rfl⟩
  obtain ⟨d, hd⟩ : ∃ d, b.natAbs = d := ⟨_, rfl⟩
  have hd0 : 0 < d := by omega
  have hdb : d ≤ 4611686018427387904 := by omega
  have hmb : m < 1152921504606846976 := by omega
  obtain ⟨q, hq⟩ : ∃ q, m / d = q := ⟨_, rfl⟩
  obtain ⟨r, hr⟩ : ∃ r, m % d = r := ⟨_, rfl⟩
  have hqm : q ≤ m := by rw [← hq]; exact Nat.div_le_self _ _
  have HD : Hid (∀ W, Calls Tryz.prog 179 #[.int .u64 0, .int .u64 (m : Int), .int .u64 (d : Int)] W fun e w' => e = .returned (.tuple #[.int .u64 (q : Int), .int .u64 (r : Int)]) ∧ ∃ d, w' = bw W d) := Lib.hid fun W => by
    have := div64' 0 m d q r (by rw [← hq]; simp) (by rw [← hr]; simp) hd0 (by omega) (by omega) W
    exact this
  rw [hm] at HS
  rw [hd] at HA
  have kb : (b == 0) = false := beq_eq_false_iff_ne.2 (by omega)
  have kb0 : ¬ b < 0 := by omega
  have kb1 : decide (b < 0) = false := decide_eq_false kb0
  have kd : ¬ (0 : Int) ≥ (d : Int) := by omega
  have kd' : ¬ (d : Int) ≤ 0 := by omega
  obtain ⟨Q, hQ0⟩ : ∃ Q : Int, (q : Int) = Q := ⟨_, rfl⟩
  have hQb : 0 ≤ Q ∧ Q < 1152921504606846976 := by omega
  rw [hQ0] at HD
  obtain ⟨q1, hq1⟩ : ∃ q1 : Int, Q + 1 = q1 := ⟨_, rfl⟩
  obtain ⟨nq, hnq⟩ : ∃ nq : Int, -Q = nq := ⟨_, rfl⟩
  obtain ⟨nq1, hnq1⟩ : ∃ nq1 : Int, -q1 = nq1 := ⟨_, rfl⟩
  have kq : IntKind.i64.wrap Q = Q := IntWalk.i64_in _ (by omega)
  have ku : IntKind.u64.wrap q1 = q1 := IntWalk.u64_in _ (by omega)
  have ku2 : IntKind.i64.wrap q1 = q1 := IntWalk.i64_in _ (by omega)
  have ku3 : (q1 == 0) = false := beq_eq_false_iff_ne.2 (by omega)
  have kl1 : Q ≤ 9223372036854775808 := by omega
  have kl2 : q1 ≤ 9223372036854775808 := by omega
  have kl3 : Q < 9223372036854775808 := by omega
  have kl4 : q1 < 9223372036854775808 := by omega
  have kn1 : IntKind.i64.wrap (IntKind.u64.wrap nq) = nq := by rw [← hnq]; exact neg_wrap (by omega) (by omega)
  have kn2 : IntKind.i64.wrap (IntKind.u64.wrap nq1) = nq1 := by rw [← hnq1]; exact neg_wrap (by omega) (by omega)
  by_cases hn : p < 0
  · have hQ := wdQ_neg hn hm hd hb hq hr
    rw [decide_eq_true hn] at HS
    generalize p / 1152921504606846976 = P at *
    generalize p % 1152921504606846976 = R at *
    cases up
    · rw [hQ.2]
      by_cases hr0 : 0 < r
      · rw [if_pos hr0]
        have hr1 : (0 : Int) < (r : Int) := by omega
        rw [show -((q + 1 : Nat) : Int) = nq1 by omega]
        clear hQ hQ0 hQb hq hr hm hd hd0 hdb hmb hqm hr0 hn h1 h2 hb hb2
        refine lay_start ?_
        go_enter Tryz.func161, Tryz.ntmps161
        go_wp2_with (first | (go_at_call 177; refine (HV.out _).mono ?_; rintro e w' ⟨rfl, d, rfl⟩) | (go_at_call 178; refine (HS.out _).mono ?_; rintro e w' ⟨rfl, d, rfl⟩) | (go_at_call 159; refine (HA.out _).mono ?_; rintro e w' ⟨rfl, rfl⟩) | (go_at_call 179; refine (HD.out _).mono ?_; rintro e w' ⟨rfl, d, rfl⟩))
        exact bodyPost_ret (v := .tuple #[.int .i64 (nq1), .int .i64 0]) (by simp [results, Tryz.results161, go_sem]) rfl ⟨rfl, lay_ex _ _⟩
      · rw [if_neg hr0]
        have hr1 : ¬ (0 : Int) < (r : Int) := by omega
        first | rw [hQ0, hnq] | skip
        clear hQ hQ0 hQb hq hr hm hd hd0 hdb hmb hqm hr0 hn h1 h2 hb hb2
        refine lay_start ?_
        go_enter Tryz.func161, Tryz.ntmps161
        go_wp2_with (first | (go_at_call 177; refine (HV.out _).mono ?_; rintro e w' ⟨rfl, d, rfl⟩) | (go_at_call 178; refine (HS.out _).mono ?_; rintro e w' ⟨rfl, d, rfl⟩) | (go_at_call 159; refine (HA.out _).mono ?_; rintro e w' ⟨rfl, rfl⟩) | (go_at_call 179; refine (HD.out _).mono ?_; rintro e w' ⟨rfl, d, rfl⟩))
        exact bodyPost_ret (v := .tuple #[.int .i64 (nq), .int .i64 0]) (by simp [results, Tryz.results161, go_sem]) rfl ⟨rfl, lay_ex _ _⟩
    · rw [hQ.1]
      by_cases hr0 : 0 < r
      · have hr1 : (0 : Int) < (r : Int) := by omega
        first | rw [hQ0, hnq] | skip
        clear hQ hQ0 hQb hq hr hm hd hd0 hdb hmb hqm hr0 hn h1 h2 hb hb2
        refine lay_start ?_
        go_enter Tryz.func161, Tryz.ntmps161
        go_wp2_with (first | (go_at_call 177; refine (HV.out _).mono ?_; rintro e w' ⟨rfl, d, rfl⟩) | (go_at_call 178; refine (HS.out _).mono ?_; rintro e w' ⟨rfl, d, rfl⟩) | (go_at_call 159; refine (HA.out _).mono ?_; rintro e w' ⟨rfl, rfl⟩) | (go_at_call 179; refine (HD.out _).mono ?_; rintro e w' ⟨rfl, d, rfl⟩))
        exact bodyPost_ret (v := .tuple #[.int .i64 (nq), .int .i64 0]) (by simp [results, Tryz.results161, go_sem]) rfl ⟨rfl, lay_ex _ _⟩
      · have hr1 : ¬ (0 : Int) < (r : Int) := by omega
        first | rw [hQ0, hnq] | skip
        clear hQ hQ0 hQb hq hr hm hd hd0 hdb hmb hqm hr0 hn h1 h2 hb hb2
        refine lay_start ?_
        go_enter Tryz.func161, Tryz.ntmps161
        go_wp2_with (first | (go_at_call 177; refine (HV.out _).mono ?_; rintro e w' ⟨rfl, d, rfl⟩) | (go_at_call 178; refine (HS.out _).mono ?_; rintro e w' ⟨rfl, d, rfl⟩) | (go_at_call 159; refine (HA.out _).mono ?_; rintro e w' ⟨rfl, rfl⟩) | (go_at_call 179; refine (HD.out _).mono ?_; rintro e w' ⟨rfl, d, rfl⟩))
        exact bodyPost_ret (v := .tuple #[.int .i64 (nq), .int .i64 0]) (by simp [results, Tryz.results161, go_sem]) rfl ⟨rfl, lay_ex _ _⟩
  · have hQ := wdQ_pos hn hm hd hb hq hr
    rw [decide_eq_false hn] at HS
    generalize p / 1152921504606846976 = P at *
    generalize p % 1152921504606846976 = R at *
    cases up
    · rw [hQ.1]
      by_cases hr0 : 0 < r
      · have hr1 : (0 : Int) < (r : Int) := by omega
        rw [hQ0]
        clear hQ hQ0 hQb hq hr hm hd hd0 hdb hmb hqm hr0 hn h1 h2 hb hb2
        refine lay_start ?_
        go_enter Tryz.func161, Tryz.ntmps161
        go_wp2_with (first | (go_at_call 177; refine (HV.out _).mono ?_; rintro e w' ⟨rfl, d, rfl⟩) | (go_at_call 178; refine (HS.out _).mono ?_; rintro e w' ⟨rfl, d, rfl⟩) | (go_at_call 159; refine (HA.out _).mono ?_; rintro e w' ⟨rfl, rfl⟩) | (go_at_call 179; refine (HD.out _).mono ?_; rintro e w' ⟨rfl, d, rfl⟩))
        exact bodyPost_ret (v := .tuple #[.int .i64 (Q), .int .i64 0]) (by simp [results, Tryz.results161, go_sem]) rfl ⟨rfl, lay_ex _ _⟩
      · have hr1 : ¬ (0 : Int) < (r : Int) := by omega
        rw [hQ0]
        clear hQ hQ0 hQb hq hr hm hd hd0 hdb hmb hqm hr0 hn h1 h2 hb hb2
        refine lay_start ?_
        go_enter Tryz.func161, Tryz.ntmps161
        go_wp2_with (first | (go_at_call 177; refine (HV.out _).mono ?_; rintro e w' ⟨rfl, d, rfl⟩) | (go_at_call 178; refine (HS.out _).mono ?_; rintro e w' ⟨rfl, d, rfl⟩) | (go_at_call 159; refine (HA.out _).mono ?_; rintro e w' ⟨rfl, rfl⟩) | (go_at_call 179; refine (HD.out _).mono ?_; rintro e w' ⟨rfl, d, rfl⟩))
        exact bodyPost_ret (v := .tuple #[.int .i64 (Q), .int .i64 0]) (by simp [results, Tryz.results161, go_sem]) rfl ⟨rfl, lay_ex _ _⟩
    · rw [hQ.2]
      by_cases hr0 : 0 < r
      · rw [if_pos hr0]
        have hr1 : (0 : Int) < (r : Int) := by omega
        rw [show ((q + 1 : Nat) : Int) = q1 by omega]
        clear hQ hQ0 hQb hq hr hm hd hd0 hdb hmb hqm hr0 hn h1 h2 hb hb2
        refine lay_start ?_
        go_enter Tryz.func161, Tryz.ntmps161
        go_wp2_with (first | (go_at_call 177; refine (HV.out _).mono ?_; rintro e w' ⟨rfl, d, rfl⟩) | (go_at_call 178; refine (HS.out _).mono ?_; rintro e w' ⟨rfl, d, rfl⟩) | (go_at_call 159; refine (HA.out _).mono ?_; rintro e w' ⟨rfl, rfl⟩) | (go_at_call 179; refine (HD.out _).mono ?_; rintro e w' ⟨rfl, d, rfl⟩))
        exact bodyPost_ret (v := .tuple #[.int .i64 (q1), .int .i64 0]) (by simp [results, Tryz.results161, go_sem]) rfl ⟨rfl, lay_ex _ _⟩
      · rw [if_neg hr0]
        have hr1 : ¬ (0 : Int) < (r : Int) := by omega
        rw [hQ0]
        clear hQ hQ0 hQb hq hr hm hd hd0 hdb hmb hqm hr0 hn h1 h2 hb hb2
        refine lay_start ?_
        go_enter Tryz.func161, Tryz.ntmps161
        go_wp2_with (first | (go_at_call 177; refine (HV.out _).mono ?_; rintro e w' ⟨rfl, d, rfl⟩) | (go_at_call 178; refine (HS.out _).mono ?_; rintro e w' ⟨rfl, d, rfl⟩) | (go_at_call 159; refine (HA.out _).mono ?_; rintro e w' ⟨rfl, rfl⟩) | (go_at_call 179; refine (HD.out _).mono ?_; rintro e w' ⟨rfl, d, rfl⟩))
        exact bodyPost_ret (v := .tuple #[.int .i64 (Q), .int .i64 0]) (by simp [results, Tryz.results161, go_sem]) rfl ⟨rfl, lay_ex _ _⟩
set_option maxRecDepth 100000 in
theorem wd_Floor2 (p b : Int) (h1 : -1152921504606846976 < p) (h2 : p < 1152921504606846976) (hb : 0 < b) (hb2 : b ≤ 4611686018427387904) (w : World) :
    Calls Tryz.prog 125 #[(.agg #[.int .i64 (p / 1152921504606846976), .int .i64 (p % 1152921504606846976)]), .int .i64 b] w fun e w' => e = .returned (.tuple #[.int .i64 (p / b), .int .i64 0]) ∧ ∃ d, w' = bw w d := by
  have HQ := Lib.hid (fun W => wd_quotient2 p b false h1 h2 hb hb2 W)
  rw [show wdQ p b false = p / b from if_neg (by decide)] at HQ
  generalize p / 1152921504606846976 = P at *
  generalize p % 1152921504606846976 = R at *
  generalize p / b = Q at *
  refine lay_start ?_
  go_enter Tryz.func125, Tryz.ntmps125
  go_wp2_with (go_at_call 161; refine (HQ.out _).mono ?_; rintro e w' ⟨rfl, d, rfl⟩)
  exact bodyPost_ret (v := .tuple #[.int .i64 Q, .int .i64 0]) (by simp [results, Tryz.results125, go_sem]) rfl ⟨rfl, lay_ex _ _⟩
set_option maxRecDepth 100000 in
theorem wd_Ceil2 (p b : Int) (h1 : -1152921504606846976 < p) (h2 : p < 1152921504606846976) (hb : 0 < b) (hb2 : b ≤ 4611686018427387904) (w : World) :
    Calls Tryz.prog 126 #[(.agg #[.int .i64 (p / 1152921504606846976), .int .i64 (p % 1152921504606846976)]), .int .i64 b] w fun e w' => e = .returned (.tuple #[.int .i64 (-((-p) / b)), .int .i64 0]) ∧ ∃ d, w' = bw w d := by
  have HQ := Lib.hid (fun W => wd_quotient2 p b true h1 h2 hb hb2 W)
  rw [show wdQ p b true = -((-p) / b) from if_pos rfl] at HQ
  generalize p / 1152921504606846976 = P at *
  generalize p % 1152921504606846976 = R at *
  generalize -((-p) / b) = Q at *
  refine lay_start ?_
  go_enter Tryz.func126, Tryz.ntmps126
  go_wp2_with (go_at_call 161; refine (HQ.out _).mono ?_; rintro e w' ⟨rfl, d, rfl⟩)
  exact bodyPost_ret (v := .tuple #[.int .i64 Q, .int .i64 0]) (by simp [results, Tryz.results126, go_sem]) rfl ⟨rfl, lay_ex _ _⟩
set_option maxRecDepth 100000 in
theorem fx_enclose2 (a b c p : Int) (hp : a * b = p) (ha : -4611686018427387904 ≤ a ∧ a ≤ 4611686018427387904) (hb : -4611686018427387904 ≤ b ∧ b ≤ 4611686018427387904) (h1 : -1152921504606846976 < p) (h2 : p < 1152921504606846976) (hc : 0 < c) (hc2 : c ≤ 4611686018427387904) (w : World) :
    Calls Tryz.prog 78 #[.int .i64 a, .int .i64 b, .int .i64 c] w fun e w' => e = .returned (.tuple #[.int .i64 (p / c), .int .i64 (-((-p) / c)), .int .i64 0]) ∧ ∃ d, w' = bw w d := by
  have HP := Lib.hid (fun W => wd_Product2 a b p hp ha hb h1 h2 W)
  have HF := Lib.hid (fun W => wd_Floor2 p c h1 h2 hc hc2 W)
  have HC := Lib.hid (fun W => wd_Ceil2 p c h1 h2 hc hc2 W)
  clear hp ha hb hc hc2 h1 h2
  generalize p / 1152921504606846976 = P at *
  generalize p % 1152921504606846976 = R at *
  generalize p / c = Q at *
  generalize -((-p) / c) = U at *
  refine lay_start ?_
  go_enter Tryz.func78, Tryz.ntmps78
  go_wp2_with (first | (go_at_call 124; refine (HP.out _).mono ?_; rintro e w' ⟨rfl, d, rfl⟩) | (go_at_call 125; refine (HF.out _).mono ?_; rintro e w' ⟨rfl, d, rfl⟩) | (go_at_call 126; refine (HC.out _).mono ?_; rintro e w' ⟨rfl, d, rfl⟩))
  exact bodyPost_ret (v := .tuple #[.int .i64 Q, .int .i64 U, .int .i64 0]) (by simp [results, Tryz.results78, go_sem]) rfl ⟨rfl, lay_ex _ _⟩
end Go.Proofs.YtmomoeagnkjbiaaGreat
