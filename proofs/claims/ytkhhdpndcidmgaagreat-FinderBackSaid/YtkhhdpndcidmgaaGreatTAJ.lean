/- Contracts and plain laws, several texts in one: Angle; RtP; FxM; Mer1 -/
import Derived.Test.YtkhhdpndcidmgaaGreatProg
import Derived.WalkKit
import Derived.WalkSpells
import Derived.WalkLawsBesides
import Derived.Lib.Hide
import Derived.BigQuiet
import Derived.Test.YtkhhdpndcidmgaaGreatTAE
import Derived.Test.YtkhhdpndcidmgaaGreatTAF
import Derived.Test.YtkhhdpndcidmgaaGreatTAH
import Derived.Test.YtkhhdpndcidmgaaGreatTAI
/- Contracts of package angle and of its reference, as far as the translation has them. -/
namespace Go.Proofs.YtkhhdpndcidmgaaGreat
set_option maxHeartbeats 400000
open Go.RowKit

def fitsB (n : Int) : Bool := decide (-1099511627776 ≤ n ∧ n ≤ 1099511627776)
theorem fits_yes {n : Int} (h1 : -1099511627776 ≤ n) : decide (n ≤ 1099511627776) = fitsB n := by
  unfold fitsB; simp [h1]
theorem fits_no {n : Int} (h1 : n < -1099511627776) : false = fitsB n := by
  unfold fitsB; simp; omega
def validB (lo hi : Int) : Bool := decide (lo ≤ hi ∧ -1099511627776 ≤ lo ∧ hi ≤ 1099511627776)
theorem validB_iff {lo hi : Int} : validB lo hi = true ↔ lo ≤ hi ∧ -1099511627776 ≤ lo ∧ hi ≤ 1099511627776 := by simp [validB]
theorem validB_eq {lo hi : Int} : validB lo hi = (decide (lo ≤ hi) && fitsB lo && fitsB hi) := by
  rw [Bool.eq_iff_iff]; simp [validB, fitsB]; omega
theorem angle_fits (n : Int) (w : World) :
    Calls Tryz.prog 74 #[.int .i64 n] w fun e w' => e = .returned (.bool (fitsB n)) ∧ w' = w := by
  go_enter Tryz.func74, Tryz.ntmps74
  go_wp2
  · go_ret
    exact ⟨ret_bool (fits_yes ‹_›), rfl⟩
  · go_ret
    exact ⟨ret_bool (fits_no ‹_›), rfl⟩
theorem valid_ways1 {lo hi : Int} (h : lo ≤ hi) (h2 : fitsB lo = true) : fitsB hi = validB lo hi := by simp [validB_eq, *]
theorem valid_ways2 {lo hi : Int} (h2 : ¬ fitsB lo = true) : false = validB lo hi := by simp [validB_eq, *]
theorem valid_ways3 {lo hi : Int} (h2 : hi < lo) : false = validB lo hi := by
  have : ¬ lo ≤ hi := by omega
  simp [validB_eq, *]
theorem angle_Valid (lo hi : Int) (w : World) :
    Calls Tryz.prog 32 #[(.agg #[.int .i64 (lo), .int .i64 (hi)])] w fun e w' => e = .returned (.bool (validB lo hi)) ∧ ∃ d, w' = bw w d := by
  refine lay_start ?_
  go_enter Tryz.func32, Tryz.ntmps32
  go_wp2_with (go_at_call 74; refine (angle_fits _ _).mono ?_; rintro e w' ⟨rfl, rfl⟩)
  all_goals go_ret
  all_goals exact ⟨ret_bool (by first | exact valid_ways1 ‹_› ‹_› | exact valid_ways2 ‹_› | exact valid_ways3 ‹_›), lay_ex _ _⟩
theorem angle_Wrap (n : Int) (w : World) :
    Calls Tryz.prog 33 #[.int .i64 n] w fun e w' => e = .returned (.int .i64 (n % 21600000)) ∧ w' = w := by
  have hb := tmod_bd n 21600000 (by decide)
  go_enter Tryz.func33, Tryz.ntmps33
  go_wp2
  · go_ret
    exact ⟨ret_int ((tmod_wrap n 21600000 (by decide)).1 ‹_›), rfl⟩
  · go_ret
    exact ⟨ret_int ((tmod_wrap n 21600000 (by decide)).2 ‹_›), rfl⟩

def mn (x y : Int) : Int := if y < x then y else x
def mx (x y : Int) : Int := if x < y then y else x
theorem mn_eq (x y : Int) : mn x y = min x y := by unfold mn; split <;> omega
theorem mx_eq (x y : Int) : mx x y = max x y := by unfold mx; split <;> omega
section
variable {P : Program} {w : World}
theorem run_mn (ts : Array TypeId) (t : TypeId) (k k' : IntKind) (x y : Int) : (Builtin.min_ ts t #[.int k x, .int k' y]).run P w = .ok (.int k (mn x y)) w := run_min_int2 w ts t k k' x y
theorem run_mx (ts : Array TypeId) (t : TypeId) (k k' : IntKind) (x y : Int) : (Builtin.max_ ts t #[.int k x, .int k' y]).run P w = .ok (.int k (mx x y)) w := run_max_int2 w ts t k k' x y
end
attribute [go_sem ↓] run_mn run_mx

def turnLo (x0 y0 : Int) : Int := if 21600000 ≤ y0 - x0 then 0 else x0 % 21600000
def turnHi (x0 y0 : Int) : Int := if 21600000 ≤ y0 - x0 then 21600000 else x0 % 21600000 + (y0 - x0)
theorem angle_Turn (x0 y0 : Int) (w : World) (h1 : validB x0 y0 = true) :
    Calls Tryz.prog 8 #[(.agg #[.int .i64 (x0), .int .i64 (y0)])] w fun e w' => e = .returned (.tuple #[(.agg #[.int .i64 (turnLo x0 y0), .int .i64 (turnHi x0 y0)]), .int .i64 0]) ∧ ∃ d, w' = bw w d := by
  obtain ⟨g1, g2, g3⟩ := validB_iff.1 h1
  refine lay_start ?_
  go_enter Tryz.func8, Tryz.ntmps8
  go_wp2_with (first | (go_at_call 32; refine (angle_Valid _ _ _).mono ?_; rintro e w' ⟨rfl, d, rfl⟩) | (go_at_call 33; refine (angle_Wrap _ _).mono ?_; rintro e w' ⟨rfl, rfl⟩))
  all_goals exact bodyPost_ret (v := .tuple #[(.agg #[.int .i64 (turnLo x0 y0), .int .i64 (turnHi x0 y0)]), .int .i64 0]) (by simp [results, Tryz.results8, go_sem, turnLo, turnHi]; omega) rfl ⟨rfl, lay_ex _ _⟩

end Go.Proofs.YtkhhdpndcidmgaaGreat
/- Products of intervals, scaled by a rate: plain laws, no walk. -/
namespace Go.Proofs.YtkhhdpndcidmgaaGreat
open Go.RowKit

def m4 (a0 a1 b0 b1 : Int) : Int := mn (mn (mn (a0 * b0) (a0 * b1)) (a1 * b0)) (a1 * b1)
def x4 (a0 a1 b0 b1 : Int) : Int := mx (mx (mx (a0 * b0) (a0 * b1)) (a1 * b0)) (a1 * b1)
theorem mn4_is (x y z u : Int) : (mn (mn (mn x y) z) u ≤ x ∧ mn (mn (mn x y) z) u ≤ y ∧ mn (mn (mn x y) z) u ≤ z ∧ mn (mn (mn x y) z) u ≤ u) ∧ (mn (mn (mn x y) z) u = x ∨ mn (mn (mn x y) z) u = y ∨ mn (mn (mn x y) z) u = z ∨ mn (mn (mn x y) z) u = u) := by
  simp only [mn_eq]; omega
theorem mx4_is (x y z u : Int) : (x ≤ mx (mx (mx x y) z) u ∧ y ≤ mx (mx (mx x y) z) u ∧ z ≤ mx (mx (mx x y) z) u ∧ u ≤ mx (mx (mx x y) z) u) ∧ (mx (mx (mx x y) z) u = x ∨ mx (mx (mx x y) z) u = y ∨ mx (mx (mx x y) z) u = z ∨ mx (mx (mx x y) z) u = u) := by
  simp only [mx_eq]; omega
theorem lin1 {a0 a1 x k : Int} (h0 : a0 ≤ x) (h1 : x ≤ a1) : (a0 * k ≤ x * k ∨ a1 * k ≤ x * k) ∧ (x * k ≤ a0 * k ∨ x * k ≤ a1 * k) := by
  rcases Int.le_total 0 k with h | h
  · exact ⟨.inl (Int.mul_le_mul_of_nonneg_right h0 h), .inr (Int.mul_le_mul_of_nonneg_right h1 h)⟩
  · exact ⟨.inr (Int.mul_le_mul_of_nonpos_right h1 h), .inl (Int.mul_le_mul_of_nonpos_right h0 h)⟩
theorem box_mul {a0 a1 b0 b1 x y : Int} (h0 : a0 ≤ x) (h1 : x ≤ a1) (g0 : b0 ≤ y) (g1 : y ≤ b1) : m4 a0 a1 b0 b1 ≤ x * y ∧ x * y ≤ x4 a0 a1 b0 b1 := by
  obtain ⟨e1, e2⟩ := lin1 (k := y) h0 h1
  obtain ⟨f1, f2⟩ := lin1 (k := a0) g0 g1
  obtain ⟨i1, i2⟩ := lin1 (k := a1) g0 g1
  rw [Int.mul_comm b0 a0, Int.mul_comm b1 a0, Int.mul_comm y a0] at f1 f2
  rw [Int.mul_comm b0 a1, Int.mul_comm b1 a1, Int.mul_comm y a1] at i1 i2
  have hm := (mn4_is (a0 * b0) (a0 * b1) (a1 * b0) (a1 * b1)).1
  have hx := (mx4_is (a0 * b0) (a0 * b1) (a1 * b0) (a1 * b1)).1
  unfold m4 x4
  omega
theorem box_part {a0 a1 b0 b1 c0 c1 d0 d1 : Int} (h0 : a0 ≤ c0) (h : c0 ≤ c1) (h1 : c1 ≤ a1) (g0 : b0 ≤ d0) (g : d0 ≤ d1) (g1 : d1 ≤ b1) : m4 a0 a1 b0 b1 ≤ m4 c0 c1 d0 d1 ∧ x4 c0 c1 d0 d1 ≤ x4 a0 a1 b0 b1 := by
  have p1 := box_mul (a0 := a0) (a1 := a1) (b0 := b0) (b1 := b1) (x := c0) (y := d0) h0 (by omega) g0 (by omega)
  have p2 := box_mul (a0 := a0) (a1 := a1) (b0 := b0) (b1 := b1) (x := c0) (y := d1) h0 (by omega) (show b0 ≤ d1 by omega) g1
  have p3 := box_mul (a0 := a0) (a1 := a1) (b0 := b0) (b1 := b1) (x := c1) (y := d0) (show a0 ≤ c1 by omega) h1 g0 (by omega)
  have p4 := box_mul (a0 := a0) (a1 := a1) (b0 := b0) (b1 := b1) (x := c1) (y := d1) (show a0 ≤ c1 by omega) h1 (show b0 ≤ d1 by omega) g1
  have hm := (mn4_is (c0 * d0) (c0 * d1) (c1 * d0) (c1 * d1)).2
  have hx := (mx4_is (c0 * d0) (c0 * d1) (c1 * d0) (c1 * d1)).2
  constructor
  · show m4 a0 a1 b0 b1 ≤ mn (mn (mn (c0 * d0) (c0 * d1)) (c1 * d0)) (c1 * d1); omega
  · show mx (mx (mx (c0 * d0) (c0 * d1)) (c1 * d0)) (c1 * d1) ≤ x4 a0 a1 b0 b1; omega
theorem prod_in {X x k : Int} (h0 : 0 ≤ X) (hX : -X ≤ x ∧ x ≤ X) (hK : -X ≤ k ∧ k ≤ X) : -(X * X) ≤ x * k ∧ x * k ≤ X * X := by
  have h1 : (x * k).natAbs ≤ X.natAbs * X.natAbs := by rw [Int.natAbs_mul]; exact Nat.mul_le_mul (by omega) (by omega)
  have h2 : ((X.natAbs * X.natAbs : Nat) : Int) = X * X := by rw [Int.natCast_mul, Int.natAbs_of_nonneg h0]
  rw [← h2]
  omega
theorem box_in {X a0 a1 b0 b1 : Int} (h0 : 0 ≤ X) (ha : -X ≤ a0 ∧ a0 ≤ X) (ha1 : -X ≤ a1 ∧ a1 ≤ X) (hb : -X ≤ b0 ∧ b0 ≤ X) (hb1 : -X ≤ b1 ∧ b1 ≤ X) : -(X * X) ≤ m4 a0 a1 b0 b1 ∧ m4 a0 a1 b0 b1 ≤ x4 a0 a1 b0 b1 ∧ x4 a0 a1 b0 b1 ≤ X * X := by
  have p1 := prod_in h0 ha hb
  have p2 := prod_in h0 ha hb1
  have p3 := prod_in h0 ha1 hb
  have p4 := prod_in h0 ha1 hb1
  have hm := mn4_is (a0 * b0) (a0 * b1) (a1 * b0) (a1 * b1)
  have hx := mx4_is (a0 * b0) (a0 * b1) (a1 * b0) (a1 * b1)
  unfold m4 x4
  omega
def mulL (a0 a1 b0 b1 : Int) : Int := m4 a0 a1 b0 b1 / 1073741824
def mulH (a0 a1 b0 b1 : Int) : Int := -((-(x4 a0 a1 b0 b1)) / 1073741824)
theorem mul_unit {a0 a1 b0 b1 : Int} (ha : -1073741824 ≤ a0) (ha1 : a0 ≤ a1) (ha2 : a1 ≤ 1073741824) (hb : -1073741824 ≤ b0) (hb1 : b0 ≤ b1) (hb2 : b1 ≤ 1073741824) :
    -1073741824 ≤ mulL a0 a1 b0 b1 ∧ mulL a0 a1 b0 b1 ≤ mulH a0 a1 b0 b1 ∧ mulH a0 a1 b0 b1 ≤ 1073741824 := by
  have h := box_in (X := 1073741824) (by decide) (a0 := a0) (a1 := a1) (b0 := b0) (b1 := b1) ⟨ha, by omega⟩ ⟨by omega, ha2⟩ ⟨hb, by omega⟩ ⟨by omega, hb2⟩
  unfold mulL mulH
  omega
theorem mul_part {a0 a1 b0 b1 c0 c1 d0 d1 : Int} (h0 : a0 ≤ c0) (h : c0 ≤ c1) (h1 : c1 ≤ a1) (g0 : b0 ≤ d0) (g : d0 ≤ d1) (g1 : d1 ≤ b1) : mulL a0 a1 b0 b1 ≤ mulL c0 c1 d0 d1 ∧ mulH c0 c1 d0 d1 ≤ mulH a0 a1 b0 b1 := by
  have := box_part h0 h h1 g0 g g1
  unfold mulL mulH
  omega
theorem mul_pos {a0 a1 b0 b1 : Int} (h0 : 0 ≤ a0) (h : a0 ≤ a1) (g0 : 0 ≤ b0) (g : b0 ≤ b1) : 0 ≤ mulL a0 a1 b0 b1 := by
  have p1 := Int.mul_nonneg h0 g0
  have p2 := Int.mul_nonneg h0 (show 0 ≤ b1 by omega)
  have p3 := Int.mul_nonneg (show 0 ≤ a1 by omega) g0
  have p4 := Int.mul_nonneg (show 0 ≤ a1 by omega) (show 0 ≤ b1 by omega)
  have hm := (mn4_is (a0 * b0) (a0 * b1) (a1 * b0) (a1 * b1)).2
  unfold mulL m4
  omega
end Go.Proofs.YtkhhdpndcidmgaaGreat
/- fixed: Valid, floor, ceil, fit, Mul, Sub, Add, without average's functions. -/
namespace Go.Proofs.YtkhhdpndcidmgaaGreat
set_option maxRecDepth 100000
open Go.RowKit

section
variable {P : Program} {w : World}
theorem run_mn4 (ts : Array TypeId) (t : TypeId) (k k' k'' k3 : IntKind) (x y z u : Int) : (Builtin.min_ ts t #[.int k x, .int k' y, .int k'' z, .int k3 u]).run P w = .ok (.int k (mn (mn (mn x y) z) u)) w := by
  simp [Builtin.min_, Builtin.min2, mn]
  rfl
theorem run_mx4 (ts : Array TypeId) (t : TypeId) (k k' k'' k3 : IntKind) (x y z u : Int) : (Builtin.max_ ts t #[.int k x, .int k' y, .int k'' z, .int k3 u]).run P w = .ok (.int k (mx (mx (mx x y) z) u)) w := by
  simp [Builtin.max_, Builtin.max2, mx]
  rfl
end
attribute [go_sem ↓] run_mn4 run_mx4
def fxB (lo hi : Int) : Bool := decide (lo ≤ hi ∧ -2147483648 ≤ lo ∧ hi ≤ 2147483648)
theorem fxB_iff {lo hi : Int} : fxB lo hi = true ↔ lo ≤ hi ∧ -2147483648 ≤ lo ∧ hi ≤ 2147483648 := by simp [fxB]
theorem fx_ValidG (lo hi : Int) (w : World) :
    Calls Tryz.prog 71 #[(.agg #[.int .i64 (lo), .int .i64 (hi)])] w fun e w' => e = .returned (.bool (fxB lo hi)) ∧ ∃ d, w' = bw w d := by
  refine lay_start ?_
  go_enter Tryz.func71, Tryz.ntmps71
  go_wp2
  all_goals go_ret
  all_goals exact ⟨ret_bool (by rw [Bool.eq_iff_iff]; simp [fxB]; omega), lay_ex _ _⟩
theorem fx_bothG (a b c d : Int) (w : World) :
    Calls Tryz.prog 36 #[(.agg #[.int .i64 (a), .int .i64 (b)]), (.agg #[.int .i64 (c), .int .i64 (d)])] w fun e w' => e = .returned (.bool (fxB a b && fxB c d)) ∧ ∃ d, w' = bw w d := by
  have H1 := Lib.hid (fun W => fx_ValidG a b W)
  have H2 := Lib.hid (fun W => fx_ValidG c d W)
  generalize fxB a b = x at *
  generalize fxB c d = y at *
  cases x <;> cases y
  all_goals
    refine lay_start ?_
    go_enter Tryz.func36, Tryz.ntmps36
    go_wp2_with (go_at_call 71; first | (with_reducible refine (H1.out _).mono ?_; rintro e w' ⟨rfl, d1, rfl⟩) | (with_reducible refine (H2.out _).mono ?_; rintro e w' ⟨rfl, d2, rfl⟩))
    go_ret
    exact ⟨rfl, lay_ex _ _⟩
theorem fx_floorG (a b : Int) (w : World) (hb : 1 ≤ b) (h1 : -9223372036854775807 ≤ a) (h2 : a ≤ 9223372036854775807) :
    Calls Tryz.prog 38 #[.int .i64 a, .int .i64 b] w fun e w' => e = .returned (.int .i64 (a / b)) ∧ w' = w := by
  have hb0 : ¬ b < 0 := by omega
  by_cases hr : a.tmod b < 0
  · have e0 := floor_neg hb hr
    have hbd := ediv_bd hb 9223372036854775807 (by decide) h1 h2
    have hk : IntKind.i64.wrap (a / b) = a / b := IntWalk.i64_in _ (by omega)
    obtain ⟨q, hq⟩ : ∃ q, a / b = q := ⟨_, rfl⟩
    rw [hq] at e0 hk ⊢
    have ha : a < 0 := by
      rcases Int.lt_or_le a 0 with h | h
      · exact h
      · rw [Int.tmod_eq_emod_of_nonneg h] at hr; have := Int.emod_nonneg a (show b ≠ 0 by omega); omega
    have hz : (a.tmod b != 0) = true := bne_iff_ne.2 (by omega)
    go_enter Tryz.func38, Tryz.ntmps38
    go_wp2_with fail
    go_ret
    exact ⟨rfl, rfl⟩
  · have e0 := floor_pos (a := a) hb (by omega)
    obtain ⟨q, hq⟩ : ∃ q, a / b = q := ⟨_, rfl⟩
    have hbd := ediv_bd hb 9223372036854775807 (by decide) h1 h2
    have hk : IntKind.i64.wrap (a / b) = a / b := IntWalk.i64_in _ (by omega)
    rw [hq] at e0 hk ⊢
    by_cases ha : a < 0
    · have hz : (a.tmod b != 0) = false := by
        have h3 : a.tmod b = -((-a) % b) := by
          have := Int.neg_tmod (a := -a) (b := b)
          rw [Int.neg_neg] at this
          rw [this, Int.tmod_eq_emod_of_nonneg (by omega)]
        have h4 := Int.emod_nonneg (-a) (show b ≠ 0 by omega)
        have : a.tmod b = 0 := by omega
        rw [this]; rfl
      go_enter Tryz.func38, Tryz.ntmps38
      go_wp2_with fail
      go_ret
      exact ⟨rfl, rfl⟩
    · go_enter Tryz.func38, Tryz.ntmps38
      go_wp2_with fail
      all_goals
        go_ret
        exact ⟨rfl, rfl⟩
theorem fx_ceilG (a b : Int) (w : World) (hb : 1 ≤ b) (h1 : -9223372036854775807 ≤ a) (h2 : a ≤ 9223372036854775807) :
    Calls Tryz.prog 39 #[.int .i64 a, .int .i64 b] w fun e w' => e = .returned (.int .i64 (-((-a) / b))) ∧ w' = w := by
  have HF := Lib.hid (fun W => fx_floorG (-a) b W hb (by omega) (by omega))
  have k1 : IntKind.i64.wrap (-a) = -a := IntWalk.i64_in _ (by omega)
  have hbd := ediv_bd hb 9223372036854775807 (by decide) (show -9223372036854775807 ≤ -a by omega) (by omega)
  have k2 : IntKind.i64.wrap (-((-a) / b)) = -((-a) / b) := IntWalk.i64_in _ (by omega)
  obtain ⟨m, hm⟩ : ∃ m, -a = m := ⟨_, rfl⟩
  rw [hm] at HF k1 k2 hbd ⊢
  obtain ⟨q, hq⟩ : ∃ q, m / b = q := ⟨_, rfl⟩
  rw [hq] at HF k2 hbd ⊢
  obtain ⟨r, hr⟩ : ∃ r, -q = r := ⟨_, rfl⟩
  rw [hr] at k2 ⊢
  clear hbd hq h1 h2
  go_enter Tryz.func39, Tryz.ntmps39
  go_wp2_with (go_at_call 38; refine (HF.out _).mono ?_; rintro e w' ⟨rfl, rfl⟩)
  go_ret
  exact ⟨rfl, rfl⟩
theorem fx_fitG (lo hi : Int) (w : World) (h : fxB lo hi = true) :
    Calls Tryz.prog 37 #[.int .i64 lo, .int .i64 hi] w fun e w' => e = .returned (.tuple #[(.agg #[.int .i64 (lo), .int .i64 (hi)]), .int .i64 0]) ∧ ∃ d, w' = bw w d := by
  have HV := Lib.hid (fun W => fx_ValidG lo hi W)
  rw [h] at HV
  refine lay_start ?_
  go_enter Tryz.func37, Tryz.ntmps37
  go_wp2_with (go_at_call 71; refine (HV.out _).mono ?_; rintro e w' ⟨rfl, d, rfl⟩)
  exact bodyPost_ret (v := .tuple #[(.agg #[.int .i64 (lo), .int .i64 (hi)]), .int .i64 0]) (by simp [results, Tryz.results37, go_sem]) rfl ⟨rfl, lay_ex _ _⟩
set_option maxHeartbeats 1000000 in
theorem fx_MulG (a0 a1 b0 b1 : Int) (w : World) (ha : fxB a0 a1 = true) (hb : fxB b0 b1 = true) (hm : fxB (mulL a0 a1 b0 b1) (mulH a0 a1 b0 b1) = true) :
    Calls Tryz.prog 11 #[(.agg #[.int .i64 (a0), .int .i64 (a1)]), (.agg #[.int .i64 (b0), .int .i64 (b1)])] w fun e w' => e = .returned (.tuple #[(.agg #[.int .i64 (mulL a0 a1 b0 b1), .int .i64 (mulH a0 a1 b0 b1)]), .int .i64 0]) ∧ ∃ d, w' = bw w d := by
  have HB := Lib.hid (fun W => fx_bothG a0 a1 b0 b1 W)
  rw [ha, hb, Bool.and_self] at HB
  have hfa := fxB_iff.1 ha
  have hfb := fxB_iff.1 hb
  have hbx := box_in (X := 2147483648) (by decide) (a0 := a0) (a1 := a1) (b0 := b0) (b1 := b1) ⟨by omega, by omega⟩ ⟨by omega, by omega⟩ ⟨by omega, by omega⟩ ⟨by omega, by omega⟩
  have p1 := prod_in (X := 2147483648) (x := a0) (k := b0) (by decide) ⟨by omega, by omega⟩ ⟨by omega, by omega⟩
  have p2 := prod_in (X := 2147483648) (x := a0) (k := b1) (by decide) ⟨by omega, by omega⟩ ⟨by omega, by omega⟩
  have p3 := prod_in (X := 2147483648) (x := a1) (k := b0) (by decide) ⟨by omega, by omega⟩ ⟨by omega, by omega⟩
  have p4 := prod_in (X := 2147483648) (x := a1) (k := b1) (by decide) ⟨by omega, by omega⟩ ⟨by omega, by omega⟩
  have HT := Lib.hid (fun W => fx_fitG _ _ W hm)
  have HF := Lib.hid (fun W => fx_floorG (m4 a0 a1 b0 b1) 1073741824 W (by decide) (by omega) (by omega))
  have HC := Lib.hid (fun W => fx_ceilG (x4 a0 a1 b0 b1) 1073741824 W (by decide) (by omega) (by omega))
  rw [show m4 a0 a1 b0 b1 / 1073741824 = mulL a0 a1 b0 b1 from rfl] at HF
  rw [show -((-(x4 a0 a1 b0 b1)) / 1073741824) = mulH a0 a1 b0 b1 from rfl] at HC
  generalize mulL a0 a1 b0 b1 = Q at *
  generalize mulH a0 a1 b0 b1 = U at *
  have e1 : mn (mn (mn (a0 * b0) (a0 * b1)) (a1 * b0)) (a1 * b1) = m4 a0 a1 b0 b1 := rfl
  have e2 : mx (mx (mx (a0 * b0) (a0 * b1)) (a1 * b0)) (a1 * b1) = x4 a0 a1 b0 b1 := rfl
  generalize m4 a0 a1 b0 b1 = M at *
  generalize x4 a0 a1 b0 b1 = X at *
  have k1 : IntKind.i64.wrap (a0 * b0) = a0 * b0 := IntWalk.i64_in _ (by omega)
  have k2 : IntKind.i64.wrap (a0 * b1) = a0 * b1 := IntWalk.i64_in _ (by omega)
  have k3 : IntKind.i64.wrap (a1 * b0) = a1 * b0 := IntWalk.i64_in _ (by omega)
  have k4 : IntKind.i64.wrap (a1 * b1) = a1 * b1 := IntWalk.i64_in _ (by omega)
  clear hbx p1 p2 p3 p4 hfa hfb ha hb hm
  refine lay_start ?_
  go_enter Tryz.func11, Tryz.ntmps11
  go_wp2_with (go_at_call 36; refine (HB.out _).mono ?_; rintro e w' ⟨rfl, d, rfl⟩)
  refine region_bw (by kernel_rfl) (by kernel_rfl) ?_
  repeat (go_big_quiet_step ((first | fail)))
  refine wpQuiet_nil ?_
  rintro w' ⟨d, rfl⟩
  rw [lay_bw]
  go_wp2_with (first | (go_at_call 38; refine (HF.out _).mono ?_; rintro e w' ⟨rfl, rfl⟩) | (go_at_call 39; refine (HC.out _).mono ?_; rintro e w' ⟨rfl, rfl⟩) | (go_at_call 37; refine (HT.out _).mono ?_; rintro e w' ⟨rfl, d, rfl⟩))
  exact bodyPost_ret (v := .tuple #[(.agg #[.int .i64 (Q), .int .i64 (U)]), .int .i64 0]) (by simp [results, Tryz.results11, go_sem]) rfl ⟨rfl, lay_ex _ _⟩
end Go.Proofs.YtkhhdpndcidmgaaGreat
/- Contracts of package meridian and its reference: latitudes at the meridian. -/
namespace Go.Proofs.YtkhhdpndcidmgaaGreat
open Go.RowKit

def latB (x0 y0 : Int) : Bool := decide (x0 ≤ y0 ∧ -5400000 ≤ x0 ∧ y0 ≤ 5400000)
theorem latB_iff {x0 y0 : Int} : latB x0 y0 = true ↔ x0 ≤ y0 ∧ -5400000 ≤ x0 ∧ y0 ≤ 5400000 := by simp [latB]
theorem lat_valid {x0 y0 : Int} (h : latB x0 y0 = true) : validB x0 y0 = true := by
  have := latB_iff.1 h; rw [validB_iff]; omega
theorem lat_w1 {x0 y0 : Int} (h1 : validB x0 y0 = true) (h2 : -5400000 ≤ x0) : decide (y0 ≤ 5400000) = latB x0 y0 := by
  have := validB_iff.1 h1; rw [Bool.eq_iff_iff]; simp [latB]; omega
theorem lat_w2 {x0 y0 : Int} (h2 : x0 < -5400000) : false = latB x0 y0 := by rw [Bool.eq_iff_iff]; simp [latB]; omega
theorem lat_w3 {x0 y0 : Int} (h1 : ¬ validB x0 y0 = true) : false = latB x0 y0 := by
  rw [validB_iff] at h1; rw [Bool.eq_iff_iff]; simp [latB]; omega
end Go.Proofs.YtkhhdpndcidmgaaGreat
