/- Contracts and plain laws, several texts in one: WdC; AvR; Rat -/
import Derived.Test.YtmomoeagnkjbiaaGreatProg
import Derived.WalkKit
import Derived.WalkSpells
import Derived.WalkLawsBesides
import Derived.Lib.Hide
import Derived.BigQuiet
import Derived.Test.YtmomoeagnkjbiaaGreatBAA
import Derived.Test.YtmomoeagnkjbiaaGreatBAB
import Derived.Test.YtmomoeagnkjbiaaGreatBAG
import Derived.Test.YtmomoeagnkjbiaaGreatBAJ
/- fixed and wide at the numbers of a quarter turn. -/
namespace Go.Proofs.YtmomoeagnkjbiaaGreat
open Go.RowKit

set_option maxRecDepth 100000 in
theorem wd_abs (n : Nat) (w : World) (h : n < 9223372036854775808) :
    Calls Tryz.prog 159 #[.int .i64 (n : Int)] w fun e w' => e = .returned (.int .u64 (n : Int)) ∧ w' = w := by
  have h1 : ¬ (n : Int) < 0 := by omega
  have k1 : IntKind.u64.wrap (n : Int) = n := IntWalk.u64_in _ (by omega)
  go_enter Tryz.func159, Tryz.ntmps159
  go_wp2_with fail
  go_ret
  exact ⟨rfl, rfl⟩
set_option maxRecDepth 100000 in
theorem wd_Valid (w : World) :
    Calls Tryz.prog 177 #[(.agg #[.int .i64 (0), .int .i64 (268435456000000)])] w fun e w' => e = .returned (.bool true) ∧ ∃ d, w' = bw w d := by
  refine lay_start ?_
  go_enter Tryz.func177, Tryz.ntmps177
  go_wp2_with fail
  go_ret
  exact ⟨rfl, lay_ex _ _⟩
set_option maxRecDepth 100000 in
theorem wd_fit (w : World) :
    Calls Tryz.prog 176 #[.int .i64 0, .int .i64 268435456000000] w fun e w' => e = .returned (.tuple #[(.agg #[.int .i64 (0), .int .i64 (268435456000000)]), .int .i64 0]) ∧ ∃ d, w' = bw w d := by
  have kb : bits .and .i64 268435456000000 1152921504606846975 = 268435456000000 := by decide
  refine lay_start ?_
  go_enter Tryz.func176, Tryz.ntmps176
  go_wp2_with (go_at_call 177; refine (wd_Valid _).mono ?_; rintro e w' ⟨rfl, d, rfl⟩)
  exact bodyPost_ret (v := .tuple #[(.agg #[.int .i64 (0), .int .i64 (268435456000000)]), .int .i64 0]) (by simp [results, Tryz.results176, go_sem]) rfl ⟨rfl, lay_ex _ _⟩
set_option maxRecDepth 100000 in
theorem wd_wide (w : World) :
    Calls Tryz.prog 160 #[.agg #[.int .u64 0, .int .u64 268435456000000, .bool false]] w fun e w' => e = .returned (.tuple #[(.agg #[.int .i64 (0), .int .i64 (268435456000000)]), .int .i64 0]) ∧ ∃ d, w' = bw w d := by
  have kb : bits .and .u64 268435456000000 1152921504606846975 = 268435456000000 := by decide
  have kb2 : bits .or .u64 0 0 = 0 := by decide
  refine lay_start ?_
  go_enter Tryz.func160, Tryz.ntmps160
  go_wp2_with fail
  refine region_bw (by kernel_rfl) (by kernel_rfl) ?_
  repeat (go_big_quiet_step ((first | fail)))
  refine wpQuiet_nil ?_
  rintro w' ⟨d, rfl⟩
  rw [lay_bw]
  go_wp2_with (go_at_call 176; refine (wd_fit _).mono ?_; rintro e w' ⟨rfl, d, rfl⟩)
  exact bodyPost_ret (v := .tuple #[(.agg #[.int .i64 (0), .int .i64 (268435456000000)]), .int .i64 0]) (by simp [results, Tryz.results160, go_sem]) rfl ⟨rfl, lay_ex _ _⟩
set_option maxRecDepth 100000 in
theorem wd_Product (w : World) :
    Calls Tryz.prog 124 #[.int .i64 1073741824, .int .i64 250000] w fun e w' => e = .returned (.tuple #[(.agg #[.int .i64 (0), .int .i64 (268435456000000)]), .int .i64 0]) ∧ ∃ d, w' = bw w d := by
  have H1 : Hid (∀ W, Calls Tryz.prog 159 #[.int .i64 1073741824] W fun e w' => e = .returned (.int .u64 1073741824) ∧ w' = W) := Lib.hid fun W => wd_abs 1073741824 W (by decide)
  have H2 : Hid (∀ W, Calls Tryz.prog 159 #[.int .i64 250000] W fun e w' => e = .returned (.int .u64 250000) ∧ w' = W) := Lib.hid fun W => wd_abs 250000 W (by decide)
  have H3 : Hid (∀ W, Calls Tryz.prog 158 #[.int .u64 1073741824, .int .u64 250000] W fun e w' => e = .returned (.tuple #[.int .u64 0, .int .u64 268435456000000]) ∧ w' = W) := Lib.hid fun W => Tryz.bits_Mul64 1073741824 250000 (by decide) (by decide) W
  refine lay_start ?_
  go_enter Tryz.func124, Tryz.ntmps124
  go_wp2_with (first | (go_at_call 159; first | (with_reducible refine (H1.out _).mono ?_; rintro e w' ⟨rfl, rfl⟩) | (with_reducible refine (H2.out _).mono ?_; rintro e w' ⟨rfl, rfl⟩)) | (go_at_call 158; refine (H3.out _).mono ?_; rintro e w' ⟨rfl, rfl⟩) | (go_at_call 160; refine (wd_wide _).mono ?_; rintro e w' ⟨rfl, d, rfl⟩))
  exact bodyPost_ret (v := .tuple #[(.agg #[.int .i64 (0), .int .i64 (268435456000000)]), .int .i64 0]) (by simp [results, Tryz.results124, go_sem]) rfl ⟨rfl, lay_ex _ _⟩
set_option maxRecDepth 100000 in
theorem wd_sizeOf (w : World) :
    Calls Tryz.prog 178 #[(.agg #[.int .i64 (0), .int .i64 (268435456000000)])] w fun e w' => e = .returned (.agg #[.int .u64 0, .int .u64 268435456000000, .bool false]) ∧ ∃ d, w' = bw w d := by
  have kb2 : bits .or .u64 0 268435456000000 = 268435456000000 := by decide
  refine lay_start ?_
  go_enter Tryz.func178, Tryz.ntmps178
  go_wp2_with fail
  refine region_bw (by kernel_rfl) (by kernel_rfl) ?_
  repeat (go_big_quiet_step ((first | fail)))
  refine wpQuiet_nil ?_
  rintro w' ⟨d, rfl⟩
  rw [lay_bw]
  go_wp2_with fail
  exact bodyPost_ret (v := .agg #[.int .u64 0, .int .u64 268435456000000, .bool false]) (by simp [results, Tryz.results178, go_sem]) rfl ⟨rfl, lay_ex _ _⟩
set_option maxRecDepth 100000 in
theorem wd_quotient (up : Bool) (w : World) :
    Calls Tryz.prog 161 #[(.agg #[.int .i64 (0), .int .i64 (268435456000000)]), .int .i64 1073741824, .bool up] w fun e w' => e = .returned (.tuple #[.int .i64 250000, .int .i64 0]) ∧ ∃ d, w' = bw w d := by
  have H1 : Hid (∀ W, Calls Tryz.prog 159 #[.int .i64 1073741824] W fun e w' => e = .returned (.int .u64 1073741824) ∧ w' = W) := Lib.hid fun W => wd_abs 1073741824 W (by decide)
  have H3 : Hid (∀ W, Calls Tryz.prog 179 #[.int .u64 0, .int .u64 268435456000000, .int .u64 1073741824] W fun e w' => e = .returned (.tuple #[.int .u64 250000, .int .u64 0]) ∧ ∃ d, w' = bw W d) := Lib.hid fun W => div64' 0 268435456000000 1073741824 250000 0 (by decide) (by decide) (by decide) (by decide) (by decide) W
  cases up
  all_goals
    refine lay_start ?_
    go_enter Tryz.func161, Tryz.ntmps161
    go_wp2_with (first | (go_at_call 177; refine (wd_Valid _).mono ?_; rintro e w' ⟨rfl, d, rfl⟩) | (go_at_call 178; refine (wd_sizeOf _).mono ?_; rintro e w' ⟨rfl, d, rfl⟩) | (go_at_call 159; refine (H1.out _).mono ?_; rintro e w' ⟨rfl, rfl⟩) | (go_at_call 179; refine (H3.out _).mono ?_; rintro e w' ⟨rfl, d, rfl⟩))
    go_ret2
    exact ⟨rfl, lay_ex _ _⟩
set_option maxRecDepth 100000 in
theorem wd_Floor (w : World) :
    Calls Tryz.prog 125 #[(.agg #[.int .i64 (0), .int .i64 (268435456000000)]), .int .i64 1073741824] w fun e w' => e = .returned (.tuple #[.int .i64 250000, .int .i64 0]) ∧ ∃ d, w' = bw w d := by
  refine lay_start ?_
  go_enter Tryz.func125, Tryz.ntmps125
  go_wp2_with (go_at_call 161; refine (wd_quotient _ _).mono ?_; rintro e w' ⟨rfl, d, rfl⟩)
  go_ret2
  exact ⟨rfl, lay_ex _ _⟩
set_option maxRecDepth 100000 in
theorem wd_Ceil (w : World) :
    Calls Tryz.prog 126 #[(.agg #[.int .i64 (0), .int .i64 (268435456000000)]), .int .i64 1073741824] w fun e w' => e = .returned (.tuple #[.int .i64 250000, .int .i64 0]) ∧ ∃ d, w' = bw w d := by
  refine lay_start ?_
  go_enter Tryz.func126, Tryz.ntmps126
  go_wp2_with (go_at_call 161; refine (wd_quotient _ _).mono ?_; rintro e w' ⟨rfl, d, rfl⟩)
  go_ret2
  exact ⟨rfl, lay_ex _ _⟩
set_option maxRecDepth 100000 in
theorem fx_enclose (w : World) :
    Calls Tryz.prog 78 #[.int .i64 1073741824, .int .i64 250000, .int .i64 1073741824] w fun e w' => e = .returned (.tuple #[.int .i64 250000, .int .i64 250000, .int .i64 0]) ∧ ∃ d, w' = bw w d := by
  refine lay_start ?_
  go_enter Tryz.func78, Tryz.ntmps78
  go_wp2_with (first | (go_at_call 124; refine (wd_Product _).mono ?_; rintro e w' ⟨rfl, d, rfl⟩) | (go_at_call 125; refine (wd_Floor _).mono ?_; rintro e w' ⟨rfl, d, rfl⟩) | (go_at_call 126; refine (wd_Ceil _).mono ?_; rintro e w' ⟨rfl, d, rfl⟩))
  exact bodyPost_ret (v := .tuple #[.int .i64 250000, .int .i64 250000, .int .i64 0]) (by simp [results, Tryz.results78, go_sem]) rfl ⟨rfl, lay_ex _ _⟩
end Go.Proofs.YtmomoeagnkjbiaaGreat
/- Fractions in lowest terms: the plain law. No function of the program. -/
namespace Go.Proofs.YtmomoeagnkjbiaaGreat

theorem red_eq {a b c d : Nat} (hb : 0 < b) (hd : 0 < d) (h : a * d = c * b) : a / Nat.gcd a b = c / Nat.gcd c d ∧ b / Nat.gcd a b = d / Nat.gcd c d := by
  have e1 : a / Nat.gcd a b = (a * d) / Nat.gcd (a * d) (b * d) := by rw [Nat.gcd_mul_right, Nat.mul_div_mul_right _ _ hd]
  have e2 : b / Nat.gcd a b = (b * d) / Nat.gcd (a * d) (b * d) := by rw [Nat.gcd_mul_right, Nat.mul_div_mul_right _ _ hd]
  have e3 : c / Nat.gcd c d = (c * b) / Nat.gcd (c * b) (d * b) := by rw [Nat.gcd_mul_right, Nat.mul_div_mul_right _ _ hb]
  have e4 : d / Nat.gcd c d = (d * b) / Nat.gcd (c * b) (d * b) := by rw [Nat.gcd_mul_right, Nat.mul_div_mul_right _ _ hb]
  rw [e1, e2, e3, e4, h, Nat.mul_comm d b]
  exact ⟨rfl, rfl⟩
/-- Numerator and denominator in lowest terms, not yet bounded. -/
def mkN (a b : Int) : Int := let n : Int := ((a.natAbs / Nat.gcd a.natAbs b.natAbs : Nat) : Int); if decide (a < 0) != decide (b < 0) then -n else n
def mkD (a b : Int) : Int := ((b.natAbs / Nat.gcd a.natAbs b.natAbs : Nat) : Int)
def mkBig (a b : Int) : Bool := decide (1073741824 < (a.natAbs / Nat.gcd a.natAbs b.natAbs : Nat)) || decide (1073741824 < (b.natAbs / Nat.gcd a.natAbs b.natAbs : Nat))
/-- One value, one fraction. -/
theorem mk_same {a b c d : Int} (hb : 0 < b) (hd : 0 < d) (h : a * d = c * b) : mkN a b = mkN c d ∧ mkD a b = mkD c d ∧ mkBig a b = mkBig c d := by
  have hn : a.natAbs * d.natAbs = c.natAbs * b.natAbs := by rw [← Int.natAbs_mul, ← Int.natAbs_mul, h]
  obtain ⟨e1, e2⟩ := red_eq (a := a.natAbs) (b := b.natAbs) (c := c.natAbs) (d := d.natAbs) (by omega) (by omega) hn
  have hs : a < 0 ↔ c < 0 := by
    constructor
    · intro ha
      have h1 := Int.mul_neg_of_neg_of_pos ha hd
      rw [h] at h1
      exact Int.lt_of_not_ge fun hc => by have := Int.mul_nonneg hc (Int.le_of_lt hb); omega
    · intro hc
      have h1 := Int.mul_neg_of_neg_of_pos hc hb
      rw [← h] at h1
      exact Int.lt_of_not_ge fun ha => by have := Int.mul_nonneg ha (Int.le_of_lt hd); omega
  have hs2 : decide (a < 0) = decide (c < 0) := decide_eq_decide.2 hs
  have hb2 : decide (b < 0) = false := decide_eq_false (by omega)
  have hd2 : decide (d < 0) = false := decide_eq_false (by omega)
  unfold mkN mkD mkBig
  rw [e1, e2, hs2, hb2, hd2]
  exact ⟨rfl, rfl, rfl⟩
/-- A fraction with denominator 1. -/
theorem mk_whole {s d : Int} (hd : 0 < d) : mkN (s * d) d = s ∧ mkD (s * d) d = 1 := by
  obtain ⟨h1, h2, -⟩ := mk_same (a := s * d) (b := d) (c := s) (d := 1) hd (by omega) (by rw [Int.mul_one])
  rw [h1, h2]
  unfold mkN mkD
  have e : Nat.gcd s.natAbs (1 : Int).natAbs = 1 := by show Nat.gcd s.natAbs 1 = 1; exact Nat.gcd_one_right _
  rw [e]
  have e1 : decide ((1 : Int) < 0) = false := by decide
  rw [e1, Nat.div_one]
  refine ⟨?_, rfl⟩
  by_cases hs : s < 0
  · rw [decide_eq_true hs]
    show -((s.natAbs : Nat) : Int) = s
    omega
  · rw [decide_eq_false hs]
    show ((s.natAbs : Nat) : Int) = s
    omega
/-- The signed quotients are the numerator and the denominator. -/
theorem mk_div {a b : Int} : (a.natAbs / Nat.gcd a.natAbs b.natAbs) * Nat.gcd a.natAbs b.natAbs = a.natAbs ∧ (b.natAbs / Nat.gcd a.natAbs b.natAbs) * Nat.gcd a.natAbs b.natAbs = b.natAbs :=
  ⟨Nat.div_mul_cancel (Nat.gcd_dvd_left _ _), Nat.div_mul_cancel (Nat.gcd_dvd_right _ _)⟩
end Go.Proofs.YtmomoeagnkjbiaaGreat
/- ratio: gcd, size, Make. -/
namespace Go.Proofs.YtmomoeagnkjbiaaGreat
open Go.RowKit

set_option maxHeartbeats 400000 in
theorem rt_size (n : Int) (w : World) (h1 : -4611686018427387904 ≤ n) (h2 : n ≤ 4611686018427387904) :
    Calls Tryz.prog 79 #[.int .i64 n] w fun e w' => e = .returned (.int .u64 (n.natAbs : Int)) ∧ ∃ d, w' = bw w d := by
  by_cases hn : n < 0
  · have k1 : IntKind.u64.wrap n = n + 18446744073709551616 := by rw [IntKind.wrap_u64]; omega
    obtain ⟨X, hX⟩ : ∃ X, n + 18446744073709551616 = X := ⟨_, rfl⟩
    obtain ⟨Y, hY⟩ : ∃ Y : Int, ((n.natAbs : Nat) : Int) = Y := ⟨_, rfl⟩
    have k2 : IntKind.u64.wrap (-X) = Y := by rw [IntKind.wrap_u64]; omega
    have k3 : IntKind.u64.wrap X = X := IntWalk.u64_in _ (by omega)
    rw [hX] at k1
    rw [hY]
    clear hX hY
    refine lay_start ?_
    go_enter Tryz.func79, Tryz.ntmps79
    go_wp2_with fail
    go_ret
    exact ⟨rfl, lay_ex _ _⟩
  · have k1 : IntKind.u64.wrap n = n := IntWalk.u64_in _ (by omega)
    rw [show ((n.natAbs : Nat) : Int) = n by omega]
    refine lay_start ?_
    go_enter Tryz.func79, Tryz.ntmps79
    go_wp2_with fail
    go_ret
    exact ⟨rfl, lay_ex _ _⟩
set_option maxHeartbeats 1000000 in
set_option maxRecDepth 100000 in
theorem rt_gcd (a b : Nat) (w : World) (ha : a < 18446744073709551616) (hb : b < 18446744073709551616) :
    Calls Tryz.prog 80 #[.int .u64 (a : Int), .int .u64 (b : Int)] w fun e w' => e = .returned (.int .u64 ((Nat.gcd a b : Nat) : Int)) ∧ ∃ d, w' = bw w d := by
  obtain ⟨G, hG⟩ : ∃ G, Nat.gcd a b = G := ⟨_, rfl⟩
  rw [hG]
  refine lay_start ?_
  go_enter Tryz.func80, Tryz.ntmps80
  go_wp2_with fail
  go_loopw [0, 1] (fun v0 v1 wr => ∃ (x y : Nat) (dd : Ext), x < 18446744073709551616 ∧ y < 18446744073709551616 ∧ v0 = .int .u64 (x : Int) ∧ v1 = .int .u64 (y : Int) ∧ wr = lay w [.inr dd] ∧ Nat.gcd x y = G) (fun _ v1 _ => (intOf v1).toNat)
  case atStart => exact ⟨a, b, noExt _, ha, hb, rfl, rfl, (bw_noExt _).symm, hG⟩
  case round =>
    obtain ⟨x, y, dd, hx, hy, rfl, rfl, rfl, hg⟩ := hrel
    by_cases hy0 : y = 0
    · subst hy0
      have hgx : x = G := by rw [← hg, Nat.gcd_zero_right]
      clear hg hG
      go_wp2_with fail
      go_ret
      exact ⟨by rw [← hgx]; rfl, lay_ex _ _⟩
    · have t1 : ((y : Int) == 0) = false := beq_eq_false_iff_ne.2 (by omega)
      have t2 : ((y : Int) != 0) = true := by rw [bne, t1]; rfl
      have t3 : (y : Int) ≠ 0 := by omega
      obtain ⟨r, hr⟩ : ∃ r, x % y = r := ⟨_, rfl⟩
      have hrb : r < y := by rw [← hr]; exact Nat.mod_lt _ (by omega)
      have k1 : ((x : Int).tmod (y : Int)) = (r : Int) := by rw [← hr, Int.tmod_eq_emod_of_nonneg (by omega)]; omega
      have k2 : IntKind.u64.wrap (r : Int) = (r : Int) := IntWalk.u64_in _ (by omega)
      have k3 : ((x : Int) % (y : Int)) = (r : Int) := by rw [← hr]; omega
      have HG := Lib.hid (show Nat.gcd y r = G by rw [← hg, ← hr, Nat.gcd_comm y, ← Nat.gcd_rec, Nat.gcd_comm])
      have HR := Lib.hid hrb
      clear hr hg hG hrb
      go_wp2_with fail
      refine region_bw (by kernel_rfl) (by kernel_rfl) ?_
      repeat (go_big_quiet_step ((first | fail)))
      refine wpQuiet_nil ?_
      rintro w' ⟨d, rfl⟩
      rw [lay_bw]
      obtain ⟨d3, e3⟩ : ∃ x, lay w [.inr d, .inr dd] = lay w [.inr x] := ⟨_, bw_bw _ _ _⟩
      rw [e3]
      clear e3
      go_wp2_with fail
      go_roundw
      case rel => exact ⟨y, r, d3, by omega, by have := HR.out; omega, rfl, rfl, rfl, HG.out⟩
      case measure => have := HR.out; simp [intOf]; omega
/-- The fraction that is made: error, numerator, denominator. -/
def mkE (a b : Int) : Int := if b = 0 then 16 else if mkBig a b = true then 5 else 0
def mkNN (a b : Int) : Int := if mkE a b = 0 then mkN a b else 0
def mkDD (a b : Int) : Int := if mkE a b = 0 then mkD a b else 0
set_option maxHeartbeats 2000000 in
set_option maxRecDepth 100000 in
theorem rt_Make (a b : Int) (w : World) (ha : -4611686018427387904 ≤ a ∧ a ≤ 4611686018427387904) (hb : -4611686018427387904 ≤ b ∧ b ≤ 4611686018427387904) :
    Calls Tryz.prog 32 #[.int .i64 a, .int .i64 b] w fun e w' => e = .returned (.tuple #[(.agg #[.int .i64 (mkNN a b), .int .i64 (mkDD a b)]), .int .i64 (mkE a b)]) ∧ ∃ d, w' = bw w d := by
  by_cases hb0 : b = 0
  · subst hb0
    have e1 : mkE a 0 = 16 := if_pos rfl
    unfold mkNN mkDD
    rw [e1, if_neg (by decide), if_neg (by decide)]
    refine lay_start ?_
    go_enter Tryz.func32, Tryz.ntmps32
    go_wp2_with fail
    exact bodyPost_ret (v := .tuple #[(.agg #[.int .i64 (0), .int .i64 (0)]), .int .i64 16]) (by simp [results, Tryz.results32, go_sem]) rfl ⟨rfl, lay_ex _ _⟩
  · have HA := Lib.hid (fun W => rt_size a W ha.1 ha.2)
    have HB := Lib.hid (fun W => rt_size b W hb.1 hb.2)
    have t1 : (b == 0) = false := beq_eq_false_iff_ne.2 hb0
    obtain ⟨p, hp⟩ : ∃ p, a.natAbs = p := ⟨_, rfl⟩
    obtain ⟨q, hq⟩ : ∃ q, b.natAbs = q := ⟨_, rfl⟩
    have hpb : p ≤ 4611686018427387904 := by omega
    have hqb : 1 ≤ q ∧ q ≤ 4611686018427387904 := by omega
    have HG := Lib.hid (fun W => rt_gcd p q W (by omega) (by omega))
    obtain ⟨g, hg⟩ : ∃ g, Nat.gcd p q = g := ⟨_, rfl⟩
    have hg0 : 1 ≤ g := by rw [← hg]; exact Nat.gcd_pos_of_pos_right _ (by omega)
    have hgq : g ≤ q := by rw [← hg]; exact Nat.gcd_le_right _ (by omega)
    obtain ⟨x, hx⟩ : ∃ x, p / g = x := ⟨_, rfl⟩
    obtain ⟨y, hy⟩ : ∃ y, q / g = y := ⟨_, rfl⟩
    have hxb : x ≤ 4611686018427387904 := by rw [← hx]; exact Nat.le_trans (Nat.div_le_self _ _) hpb
    have hyb : y ≤ 4611686018427387904 := by rw [← hy]; exact Nat.le_trans (Nat.div_le_self _ _) hqb.2
    have eN : mkN a b = if decide (a < 0) != decide (b < 0) then -(x : Int) else (x : Int) := by unfold mkN; rw [hp, hq, hg, hx]
    have eD : mkD a b = (y : Int) := by unfold mkD; rw [hp, hq, hg, hy]
    have eB : mkBig a b = (decide (1073741824 < x) || decide (1073741824 < y)) := by unfold mkBig; rw [hp, hq, hg, hx, hy]
    rw [hg] at HG
    rw [hp] at HA
    rw [hq] at HB
    have k0 : (g : Int) ≠ 0 := by omega
    have k00 : g ≠ 0 := by omega
    have k1 : (p : Int).tdiv (g : Int) = (x : Int) := by rw [Int.tdiv_eq_ediv_of_nonneg (by omega), ← hx]; omega
    have k2 : (q : Int).tdiv (g : Int) = (y : Int) := by rw [Int.tdiv_eq_ediv_of_nonneg (by omega), ← hy]; omega
    have k3 : IntKind.u64.wrap (x : Int) = (x : Int) := IntWalk.u64_in _ (by omega)
    have k4 : IntKind.u64.wrap (y : Int) = (y : Int) := IntWalk.u64_in _ (by omega)
    have k5 : IntKind.i64.wrap (x : Int) = (x : Int) := IntWalk.i64_in _ (by omega)
    have k6 : IntKind.i64.wrap (y : Int) = (y : Int) := IntWalk.i64_in _ (by omega)
    have k7 : IntKind.i64.wrap (-(x : Int)) = -(x : Int) := IntWalk.i64_in _ (by omega)
    have eE : mkE a b = if mkBig a b = true then 5 else 0 := if_neg hb0
    unfold mkNN mkDD
    rw [eE, eN, eD, eB]
    clear eE eN eD eB hx hy hg hp hq hxb hyb hgq hg0 hpb hqb ha hb
    by_cases c1 : 1073741824 < x
    · rw [decide_eq_true c1, Bool.true_or, if_pos rfl, if_neg (by decide), if_neg (by decide)]
      have c1' : (1073741824 : Int) < (x : Int) := by omega
      refine lay_start ?_
      go_enter Tryz.func32, Tryz.ntmps32
      go_wp2_with (first | (go_at_call 79; first | (with_reducible refine (HA.out _).mono ?_; rintro e w' ⟨rfl, dA, rfl⟩) | (with_reducible refine (HB.out _).mono ?_; rintro e w' ⟨rfl, dB, rfl⟩)) | (go_at_call 80; refine (HG.out _).mono ?_; rintro e w' ⟨rfl, dC, rfl⟩))
      refine region_bw (by kernel_rfl) (by kernel_rfl) ?_
      repeat (go_big_quiet_step ((first | fail)))
      refine wpQuiet_nil ?_
      rintro w' ⟨d, rfl⟩
      rw [lay_bw]
      go_wp2_with fail
      exact bodyPost_ret (v := .tuple #[(.agg #[.int .i64 (0), .int .i64 (0)]), .int .i64 5]) (by simp [results, Tryz.results32, go_sem]) rfl ⟨rfl, lay_ex _ _⟩
    · have c1' : ¬ (1073741824 : Int) < (x : Int) := by omega
      by_cases c2 : 1073741824 < y
      · rw [decide_eq_false c1, decide_eq_true c2, Bool.false_or, if_pos rfl, if_neg (by decide), if_neg (by decide)]
        have c2' : (1073741824 : Int) < (y : Int) := by omega
        refine lay_start ?_
        go_enter Tryz.func32, Tryz.ntmps32
        go_wp2_with (first | (go_at_call 79; first | (with_reducible refine (HA.out _).mono ?_; rintro e w' ⟨rfl, dA, rfl⟩) | (with_reducible refine (HB.out _).mono ?_; rintro e w' ⟨rfl, dB, rfl⟩)) | (go_at_call 80; refine (HG.out _).mono ?_; rintro e w' ⟨rfl, dC, rfl⟩))
        refine region_bw (by kernel_rfl) (by kernel_rfl) ?_
        repeat (go_big_quiet_step ((first | fail)))
        refine wpQuiet_nil ?_
        rintro w' ⟨d, rfl⟩
        rw [lay_bw]
        go_wp2_with fail
        exact bodyPost_ret (v := .tuple #[(.agg #[.int .i64 (0), .int .i64 (0)]), .int .i64 5]) (by simp [results, Tryz.results32, go_sem]) rfl ⟨rfl, lay_ex _ _⟩
      · have c2' : ¬ (1073741824 : Int) < (y : Int) := by omega
        rw [decide_eq_false c1, decide_eq_false c2]
        simp only [Bool.false_or, Bool.false_eq_true, ↓reduceIte]
        by_cases s1 : a < 0
        · by_cases s2 : b < 0
          · rw [decide_eq_true s1, decide_eq_true s2, if_neg (by decide)]
            have d1 := decide_eq_true s1
            have d2 := decide_eq_true s2
            refine lay_start ?_
            go_enter Tryz.func32, Tryz.ntmps32
            go_wp2_with (first | (go_at_call 79; first | (with_reducible refine (HA.out _).mono ?_; rintro e w' ⟨rfl, dA, rfl⟩) | (with_reducible refine (HB.out _).mono ?_; rintro e w' ⟨rfl, dB, rfl⟩)) | (go_at_call 80; refine (HG.out _).mono ?_; rintro e w' ⟨rfl, dC, rfl⟩))
            refine region_bw (by kernel_rfl) (by kernel_rfl) ?_
            repeat (go_big_quiet_step ((first | fail)))
            refine wpQuiet_nil ?_
            rintro w' ⟨d, rfl⟩
            rw [lay_bw]
            go_wp2_with fail
            exact bodyPost_ret (v := .tuple #[(.agg #[.int .i64 ((x : Int)), .int .i64 ((y : Int))]), .int .i64 0]) (by simp [results, Tryz.results32, go_sem]) rfl ⟨rfl, lay_ex _ _⟩
          · rw [decide_eq_true s1, decide_eq_false s2, if_pos (by decide)]
            have d1 := decide_eq_true s1
            have d2 := decide_eq_false s2
            refine lay_start ?_
            go_enter Tryz.func32, Tryz.ntmps32
            go_wp2_with (first | (go_at_call 79; first | (with_reducible refine (HA.out _).mono ?_; rintro e w' ⟨rfl, dA, rfl⟩) | (with_reducible refine (HB.out _).mono ?_; rintro e w' ⟨rfl, dB, rfl⟩)) | (go_at_call 80; refine (HG.out _).mono ?_; rintro e w' ⟨rfl, dC, rfl⟩))
            refine region_bw (by kernel_rfl) (by kernel_rfl) ?_
            repeat (go_big_quiet_step ((first | fail)))
            refine wpQuiet_nil ?_
            rintro w' ⟨d, rfl⟩
            rw [lay_bw]
            go_wp2_with fail
            exact bodyPost_ret (v := .tuple #[(.agg #[.int .i64 (-(x : Int)), .int .i64 ((y : Int))]), .int .i64 0]) (by simp [results, Tryz.results32, go_sem]) rfl ⟨rfl, lay_ex _ _⟩
        · by_cases s2 : b < 0
          · rw [decide_eq_false s1, decide_eq_true s2, if_pos (by decide)]
            have d1 := decide_eq_false s1
            have d2 := decide_eq_true s2
            refine lay_start ?_
            go_enter Tryz.func32, Tryz.ntmps32
            go_wp2_with (first | (go_at_call 79; first | (with_reducible refine (HA.out _).mono ?_; rintro e w' ⟨rfl, dA, rfl⟩) | (with_reducible refine (HB.out _).mono ?_; rintro e w' ⟨rfl, dB, rfl⟩)) | (go_at_call 80; refine (HG.out _).mono ?_; rintro e w' ⟨rfl, dC, rfl⟩))
            refine region_bw (by kernel_rfl) (by kernel_rfl) ?_
            repeat (go_big_quiet_step ((first | fail)))
            refine wpQuiet_nil ?_
            rintro w' ⟨d, rfl⟩
            rw [lay_bw]
            go_wp2_with fail
            exact bodyPost_ret (v := .tuple #[(.agg #[.int .i64 (-(x : Int)), .int .i64 ((y : Int))]), .int .i64 0]) (by simp [results, Tryz.results32, go_sem]) rfl ⟨rfl, lay_ex _ _⟩
          · rw [decide_eq_false s1, decide_eq_false s2, if_neg (by decide)]
            have d1 := decide_eq_false s1
            have d2 := decide_eq_false s2
            refine lay_start ?_
            go_enter Tryz.func32, Tryz.ntmps32
            go_wp2_with (first | (go_at_call 79; first | (with_reducible refine (HA.out _).mono ?_; rintro e w' ⟨rfl, dA, rfl⟩) | (with_reducible refine (HB.out _).mono ?_; rintro e w' ⟨rfl, dB, rfl⟩)) | (go_at_call 80; refine (HG.out _).mono ?_; rintro e w' ⟨rfl, dC, rfl⟩))
            refine region_bw (by kernel_rfl) (by kernel_rfl) ?_
            repeat (go_big_quiet_step ((first | fail)))
            refine wpQuiet_nil ?_
            rintro w' ⟨d, rfl⟩
            rw [lay_bw]
            go_wp2_with fail
            exact bodyPost_ret (v := .tuple #[(.agg #[.int .i64 ((x : Int)), .int .i64 ((y : Int))]), .int .i64 0]) (by simp [results, Tryz.results32, go_sem]) rfl ⟨rfl, lay_ex _ _⟩
end Go.Proofs.YtmomoeagnkjbiaaGreat
