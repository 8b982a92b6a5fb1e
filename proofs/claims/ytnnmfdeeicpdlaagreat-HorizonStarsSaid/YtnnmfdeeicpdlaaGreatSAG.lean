/- Contracts and plain laws, several texts in one: FxM; AmP; CiC; HvP; AsW1; AsW2 -/
import Derived.Test.YtnnmfdeeicpdlaaGreatProg
import Derived.WalkKit
import Derived.WalkSpells
import Derived.WalkLawsBesides
import Derived.Lib.Hide
import Derived.BigQuiet
import Derived.Test.YtnnmfdeeicpdlaaGreatSAA
import Derived.Test.YtnnmfdeeicpdlaaGreatSAC
import Derived.Test.YtnnmfdeeicpdlaaGreatSAD
import Derived.Test.YtnnmfdeeicpdlaaGreatSAF
/- fixed: Valid, floor, ceil, fit, Mul, Sub, Add, without average's functions. -/
namespace Go.Proofs.YtnnmfdeeicpdlaaGreat
set_option maxRecDepth 100000
open Go.RowKit

section
variable {P : Program} {w : World}
theorem run_mn4 (ts : Array TypeId) (t : TypeId) (k k' k'' k3 : IntKind) (x y z u : Int) : (Builtin.min_ ts t #[.int k x, .int k' y, .int k'' z, .int k3 u]).run P w = .ok (.int k (mn (mn (mn x y) z) u)) w := by
  simp [Builtin.min_, Builtin.min2, mn]
  rfl
theorem run_mx4 (ts : Array TypeId) (t : TypeId) (k k' k'' k3 : IntKind) (x y z u : Int) : (Builtin.max_ ts t #[.int k x, .int k' y, .int k'' z, .int k3 u]).run P w = .ok (.int k (mx (mx (mx x y) z) u)) w := by
  simp [Builtin.max_, Builtin.max2, mx]
  rfl
end
attribute [go_sem ↓] run_mn4 run_mx4
def fxB (lo hi : Int) : Bool := decide (lo ≤ hi ∧ -2147483648 ≤ lo ∧ hi ≤ 2147483648)
theorem fxB_iff {lo hi : Int} : fxB lo hi = true ↔ lo ≤ hi ∧ -2147483648 ≤ lo ∧ hi ≤ 2147483648 := by simp [fxB]
theorem fx_ValidG (lo hi : Int) (w : World) :
    Calls Tryz.prog 116 #[(.agg #[.int .i64 (lo), .int .i64 (hi)])] w fun e w' => e = .returned (.bool (fxB lo hi)) ∧ ∃ d, w' = bw w d := by
  refine lay_start ?_
  go_enter Tryz.func116, Tryz.ntmps116
  go_wp2
  all_goals go_ret
  all_goals exact ⟨ret_bool (by rw [Bool.eq_iff_iff]; simp [fxB]; omega), lay_ex _ _⟩
theorem fx_bothG (a b c d : Int) (w : World) :
    Calls Tryz.prog 94 #[(.agg #[.int .i64 (a), .int .i64 (b)]), (.agg #[.int .i64 (c), .int .i64 (d)])] w fun e w' => e = .returned (.bool (fxB a b && fxB c d)) ∧ ∃ d, w' = bw w d := by
  have H1 := Lib.hid (fun W => fx_ValidG a b W)
  have H2 := Lib.hid (fun W => fx_ValidG c d W)
  generalize fxB a b = x at *
  generalize fxB c d = y at *
  cases x <;> cases y
  all_goals
    refine lay_start ?_
    go_enter Tryz.func94, Tryz.ntmps94
    go_wp2_with (go_at_call 116; first | (with_reducible refine (H1.out _).mono ?_; rintro e w' ⟨rfl, d1, rfl⟩) | (with_reducible refine (H2.out _).mono ?_; rintro e w' ⟨rfl, d2, rfl⟩))
    go_ret
    exact ⟨rfl, lay_ex _ _⟩
theorem fx_floorG (a b : Int) (w : World) (hb : 1 ≤ b) (h1 : -9223372036854775807 ≤ a) (h2 : a ≤ 9223372036854775807) :
    Calls Tryz.prog 96 #[.int .i64 a, .int .i64 b] w fun e w' => e = .returned (.int .i64 (a / b)) ∧ w' = w := by
  have hb0 : ¬ b < 0 := by omega
  by_cases hr : a.tmod b < 0
  · have e0 := floor_neg hb hr
    have hbd := ediv_bd hb 9223372036854775807 (by decide) h1 h2
    have hk : IntKind.i64.wrap (a / b) = a / b := IntWalk.i64_in _ (by omega)
    obtain ⟨q, hq⟩ : ∃ q, a / b = q := ⟨_, rfl⟩
    rw [hq] at e0 hk ⊢
    have ha : a < 0 := by
      rcases Int.lt_or_le a 0 with h | h
      · exact h
      · rw [Int.tmod_eq_emod_of_nonneg h] at hr; have := Int.emod_nonneg a (show b ≠ 0 by omega); omega
    have hz : (a.tmod b != 0) = true := bne_iff_ne.2 (by omega)
    go_enter Tryz.func96, Tryz.ntmps96
    go_wp2_with fail
    go_ret
    exact ⟨rfl, rfl⟩
  · have e0 := floor_pos (a := a) hb (by omega)
    obtain ⟨q, hq⟩ : ∃ q, a / b = q := ⟨_, rfl⟩
    have hbd := ediv_bd hb 9223372036854775807 (by decide) h1 h2
    have hk : IntKind.i64.wrap (a / b) = a / b := IntWalk.i64_in _ (by omega)
    rw [hq] at e0 hk ⊢
    by_cases ha : a < 0
    · have hz : (a.tmod b != 0) = false := by
        have h3 : a.tmod b = -((-a) % b) := by
          have := Int.neg_tmod (a := -a) (b := b)
          rw [Int.neg_neg] at this
          rw [this, Int.tmod_eq_emod_of_nonneg (by omega)]
        have h4 := Int.emod_nonneg (-a) (show b ≠ 0 by omega)
        have : a.tmod b = 0 := by omega
        rw [this]; rfl
      go_enter Tryz.func96, Tryz.ntmps96
      go_wp2_with fail
      go_ret
      exact ⟨rfl, rfl⟩
    · go_enter Tryz.func96, Tryz.ntmps96
      go_wp2_with fail
      all_goals
        go_ret
        exact ⟨rfl, rfl⟩
theorem fx_ceilG (a b : Int) (w : World) (hb : 1 ≤ b) (h1 : -9223372036854775807 ≤ a) (h2 : a ≤ 9223372036854775807) :
    Calls Tryz.prog 97 #[.int .i64 a, .int .i64 b] w fun e w' => e = .returned (.int .i64 (-((-a) / b))) ∧ w' = w := by
  have HF := Lib.hid (fun W => fx_floorG (-a) b W hb (by omega) (by omega))
  have k1 : IntKind.i64.wrap (-a) = -a := IntWalk.i64_in _ (by omega)
  have hbd := ediv_bd hb 9223372036854775807 (by decide) (show -9223372036854775807 ≤ -a by omega) (by omega)
  have k2 : IntKind.i64.wrap (-((-a) / b)) = -((-a) / b) := IntWalk.i64_in _ (by omega)
  obtain ⟨m, hm⟩ : ∃ m, -a = m := ⟨_, rfl⟩
  rw [hm] at HF k1 k2 hbd ⊢
  obtain ⟨q, hq⟩ : ∃ q, m / b = q := ⟨_, rfl⟩
  rw [hq] at HF k2 hbd ⊢
  obtain ⟨r, hr⟩ : ∃ r, -q = r := ⟨_, rfl⟩
  rw [hr] at k2 ⊢
  clear hbd hq h1 h2
  go_enter Tryz.func97, Tryz.ntmps97
  go_wp2_with (go_at_call 96; refine (HF.out _).mono ?_; rintro e w' ⟨rfl, rfl⟩)
  go_ret
  exact ⟨rfl, rfl⟩
theorem fx_fitG (lo hi : Int) (w : World) (h : fxB lo hi = true) :
    Calls Tryz.prog 95 #[.int .i64 lo, .int .i64 hi] w fun e w' => e = .returned (.tuple #[(.agg #[.int .i64 (lo), .int .i64 (hi)]), .int .i64 0]) ∧ ∃ d, w' = bw w d := by
  have HV := Lib.hid (fun W => fx_ValidG lo hi W)
  rw [h] at HV
  refine lay_start ?_
  go_enter Tryz.func95, Tryz.ntmps95
  go_wp2_with (go_at_call 116; refine (HV.out _).mono ?_; rintro e w' ⟨rfl, d, rfl⟩)
  exact bodyPost_ret (v := .tuple #[(.agg #[.int .i64 (lo), .int .i64 (hi)]), .int .i64 0]) (by simp [results, Tryz.results95, go_sem]) rfl ⟨rfl, lay_ex _ _⟩
set_option maxHeartbeats 1000000 in
theorem fx_MulG (a0 a1 b0 b1 : Int) (w : World) (ha : fxB a0 a1 = true) (hb : fxB b0 b1 = true) (hm : fxB (mulL a0 a1 b0 b1) (mulH a0 a1 b0 b1) = true) :
    Calls Tryz.prog 24 #[(.agg #[.int .i64 (a0), .int .i64 (a1)]), (.agg #[.int .i64 (b0), .int .i64 (b1)])] w fun e w' => e = .returned (.tuple #[(.agg #[.int .i64 (mulL a0 a1 b0 b1), .int .i64 (mulH a0 a1 b0 b1)]), .int .i64 0]) ∧ ∃ d, w' = bw w d := by
  have HB := Lib.hid (fun W => fx_bothG a0 a1 b0 b1 W)
  rw [ha, hb, Bool.and_self] at HB
  have hfa := fxB_iff.1 ha
  have hfb := fxB_iff.1 hb
  have hbx := box_in (X := 2147483648) (by decide) (a0 := a0) (a1 := a1) (b0 := b0) (b1 := b1) ⟨by omega, by omega⟩ ⟨by omega, by omega⟩ ⟨by omega, by omega⟩ ⟨by omega, by omega⟩
  have p1 := prod_in (X := 2147483648) (x := a0) (k := b0) (by decide) ⟨by omega, by omega⟩ ⟨by omega, by omega⟩
  have p2 := prod_in (X := 2147483648) (x := a0) (k := b1) (by decide) ⟨by omega, by omega⟩ ⟨by omega, by omega⟩
  have p3 := prod_in (X := 2147483648) (x := a1) (k := b0) (by decide) ⟨by omega, by omega⟩ ⟨by omega, by omega⟩
  have p4 := prod_in (X := 2147483648) (x := a1) (k := b1) (by decide) ⟨by omega, by omega⟩ ⟨by omega, by omega⟩
  have HT := Lib.hid (fun W => fx_fitG _ _ W hm)
  have HF := Lib.hid (fun W => fx_floorG (m4 a0 a1 b0 b1) 1073741824 W (by decide) (by omega) (by omega))
  have HC := Lib.hid (fun W => fx_ceilG (x4 a0 a1 b0 b1) 1073741824 W (by decide) (by omega) (by omega))
  rw [show m4 a0 a1 b0 b1 / 1073741824 = mulL a0 a1 b0 b1 from rfl] at HF
  rw [show -((-(x4 a0 a1 b0 b1)) / 1073741824) = mulH a0 a1 b0 b1 from rfl] at HC
  generalize mulL a0 a1 b0 b1 = Q at *
  generalize mulH a0 a1 b0 b1 = U at *
  have e1 : mn (mn (mn (a0 * b0) (a0 * b1)) (a1 * b0)) (a1 * b1) = m4 a0 a1 b0 b1 := rfl
  have e2 : mx (mx (mx (a0 * b0) (a0 * b1)) (a1 * b0)) (a1 * b1) = x4 a0 a1 b0 b1 := rfl
  generalize m4 a0 a1 b0 b1 = M at *
  generalize x4 a0 a1 b0 b1 = X at *
  have k1 : IntKind.i64.wrap (a0 * b0) = a0 * b0 := IntWalk.i64_in _ (by omega)
  have k2 : IntKind.i64.wrap (a0 * b1) = a0 * b1 := IntWalk.i64_in _ (by omega)
  have k3 : IntKind.i64.wrap (a1 * b0) = a1 * b0 := IntWalk.i64_in _ (by omega)
  have k4 : IntKind.i64.wrap (a1 * b1) = a1 * b1 := IntWalk.i64_in _ (by omega)
  clear hbx p1 p2 p3 p4 hfa hfb ha hb hm
  refine lay_start ?_
  go_enter Tryz.func24, Tryz.ntmps24
  go_wp2_with (go_at_call 94; refine (HB.out _).mono ?_; rintro e w' ⟨rfl, d, rfl⟩)
  refine region_bw (by kernel_rfl) (by kernel_rfl) ?_
  repeat (go_big_quiet_step ((first | fail)))
  refine wpQuiet_nil ?_
  rintro w' ⟨d, rfl⟩
  rw [lay_bw]
  go_wp2_with (first | (go_at_call 96; refine (HF.out _).mono ?_; rintro e w' ⟨rfl, rfl⟩) | (go_at_call 97; refine (HC.out _).mono ?_; rintro e w' ⟨rfl, rfl⟩) | (go_at_call 95; refine (HT.out _).mono ?_; rintro e w' ⟨rfl, d, rfl⟩))
  exact bodyPost_ret (v := .tuple #[(.agg #[.int .i64 (Q), .int .i64 (U)]), .int .i64 0]) (by simp [results, Tryz.results24, go_sem]) rfl ⟨rfl, lay_ex _ _⟩
end Go.Proofs.YtnnmfdeeicpdlaaGreat
/- Amplitudes: what compass.Amplitude computes, and its laws. No walk. -/
namespace Go.Proofs.YtnnmfdeeicpdlaaGreat

theorem enc_point (n : Int) : encL n n = bLo n ∧ encH n n = bHi n := by
  have hd : ∀ k : Int, metB n n k = true → ∃ j : Int, n = k + 21600000 * j := fun k h => by
    unfold metB at h
    have h1 : (k - n) % 21600000 ≤ n - n := by simpa using h
    have h2 := Int.emod_nonneg (k - n) (show (21600000 : Int) ≠ 0 by decide)
    exact ⟨-((k - n) / 21600000), by omega⟩
  rw [encL_at, encH_at]
  constructor
  · cases h : metB n n 16200000
    · rw [if_neg (by decide), mn_eq]; omega
    · obtain ⟨j, rfl⟩ := hd _ h
      rw [if_pos rfl, (b_shift _ _).1]
      have := (b_three (n := 16200000) (by decide) (by decide)).1
      rw [this, show ((16200000 : Int) - 10800000).toNat = 5400000 from rfl]
      unfold hiQ oneQ
      rw [sinQ_q]; rfl
  · cases h : metB n n 5400000
    · rw [if_neg (by decide), mx_eq]; omega
    · obtain ⟨j, rfl⟩ := hd _ h
      rw [if_pos rfl, (b_shift _ _).2, b_topp]
theorem b_odd {n : Int} (h0 : -5400000 ≤ n) (h1 : n ≤ 5400000) : bLo (-n) = -(bHi n) ∧ bHi (-n) = -(bLo n) := by
  by_cases h : 0 ≤ n
  · have e1 := b_one h h1
    have e2 := b_four (n := -n) (by omega) (by omega)
    rw [Int.neg_neg] at e2
    rw [e1.1, e1.2, e2.1, e2.2]
    exact ⟨rfl, rfl⟩
  · have e1 := b_one (n := -n) (by omega) (by omega)
    have e2 := b_four (n := n) (by omega) (by omega)
    rw [e1.1, e1.2, e2.1, e2.2]
    omega
theorem b_even {x : Int} (h0 : -5400000 ≤ x) (h1 : x ≤ 5400000) : bLo (-x + 5400000) = bLo (x + 5400000) ∧ bHi (-x + 5400000) = bHi (x + 5400000) := by
  have key : ∀ y : Int, 0 ≤ y → y ≤ 5400000 → bLo (-y + 5400000) = bLo (y + 5400000) ∧ bHi (-y + 5400000) = bHi (y + 5400000) := fun y g0 g1 => by
    have e1 := b_one (n := -y + 5400000) (by omega) (by omega)
    have e2 := b_two (n := y + 5400000) (by omega) (by omega)
    rw [e1.1, e1.2, e2.1, e2.2, show (10800000 - (y + 5400000)).toNat = (-y + 5400000).toNat by omega]
    exact ⟨rfl, rfl⟩
  by_cases h : 0 ≤ x
  · exact key x h h1
  · have := key (-x) (by omega) (by omega)
    rw [Int.neg_neg] at this
    exact ⟨this.1.symm, this.2.symm⟩
theorem b_strict {n : Int} (h0 : -5400000 ≤ n) (h1 : n < 5400000) : bLo n < bHi (n + 1) := by
  have hm := b_up (a := n) (b := n + 1) h0 (by omega) (by omega)
  have hx : ∀ k : Int, -5400000 ≤ k → k ≤ 5400000 → bHi k = bLo k + 1 ∨ (k = 0 ∨ k = 1800000 ∨ k = 5400000 ∨ k = -1800000 ∨ k = -5400000) := fun k g0 g1 => by
    by_cases hk : 0 ≤ k
    · have e := b_one hk g1
      have e2 := oneQ_at k.toNat
      unfold hiQ at e
      rw [e.1, e.2]
      by_cases c : k.toNat = 0 ∨ k.toNat = 1800000 ∨ k.toNat = 5400000
      · right; omega
      · left; rw [e2, if_neg c]
    · have e := b_four (n := k) g0 (by omega)
      have e2 := oneQ_at (-k).toNat
      unfold hiQ at e
      rw [e.1, e.2]
      by_cases c : (-k).toNat = 0 ∨ (-k).toNat = 1800000 ∨ (-k).toNat = 5400000
      · right; omega
      · left; rw [e2, if_neg c]; omega
  rcases hx (n + 1) (by omega) (by omega) with h | h
  · omega
  · rcases hx n h0 (by omega) with g | g
    · omega
    · omega
theorem asn_sum {y : Int} (h0 : -1073741824 ≤ y) (h1 : y ≤ 1073741824) : asnI y + asnI (-y) ≤ 0 := by
  obtain ⟨a1, a2, a3, a4⟩ := asnI_is h0
  have hv : -1073741824 ≤ -y := by omega
  have hb := b_odd (n := asnI y) a1 a2
  have hi := asnI_in hv
  by_cases h : asnI y = -5400000
  · omega
  · have hs := b_strict (n := -(asnI y)) (by omega) (by omega)
    have := asnI_lt hv (n := -(asnI y) + 1) (by omega) (by omega)
    omega
end Go.Proofs.YtnnmfdeeicpdlaaGreat
/- The exact rotation's sines lie in the cells that the program finds, and not near to their borders. No program in sight. -/
namespace Go.Proofs.YtnnmfdeeicpdlaaGreat
open Go.RowKit

theorem thirdS_ab : (2 * evI lisS 1800000 - facW).natAbs * 1267650600228229401496703205376 ≤ 2 * facW := by decide +kernel
theorem sin_third : Nr (sinT 1800000) (1 / 2) eps := by
  have h2 : sinT 1800000 * (facW : Rat) = ((evI lisS 1800000 : Int) : Rat) := lisS_ok 1800000
  have hM := eps_of (M := (2 * evI lisS 1800000 - facW).natAbs) (W := 2 * facW) thirdS_ab
  have hW := facW_rat
  refine nr_of_int (W := 2 * (facW : Rat)) (x := 2 * evI lisS 1800000 - facW) (by grind) ?_ (Nat.le_refl _) (by push_cast at hM; exact hM)
  rw [show (sinT 1800000 - 1 / 2) * (2 * (facW : Rat)) = 2 * (sinT 1800000 * (facW : Rat)) - (facW : Rat) by grind, h2]
  generalize evI lisS 1800000 = u
  push_cast
  rfl
def e60 : Rat := 1 / 73786976294838206464
theorem near60 {r : Nat} (h : r ≤ 2700000) : 64 * (r : Rat) / k96 ≤ 1 / 442721857769029238784 := by
  have hr : (r : Rat) ≤ 2700000 := by exact_mod_cast h
  unfold k96
  grind
theorem q_near : -e60 ≤ zC 5400000 ∧ zC 5400000 ≤ e60 ∧ 1 - e60 ≤ zS 5400000 ∧ zS 5400000 ≤ 1 := by
  obtain ⟨h1, h2⟩ := z_near (r := 2700000) (by decide)
  have h3 := near60 (r := 2700000) (by decide)
  have h4 := (h1.trans sin_mid).trans h2.symm
  have he : eps ≤ 1 / 442721857769029238784 := by unfold eps; grind
  obtain ⟨a1, a2⟩ := z_add 2700000 2700000
  rw [show (5400000 : Int) = ((2700000 + 2700000 : Nat) : Int) from rfl, zS_nat, zC_nat, a1, a2]
  have u := z_unit 2700000
  obtain ⟨b1, b2⟩ := sq_one u
  obtain ⟨b3, b4⟩ := sq_one (x := zc 2700000) (y := zs 2700000) (by grind)
  generalize zs 2700000 = s at *
  generalize zc 2700000 = c at *
  have d : Nr s c (1 / 147573952589676412928) := h4.le (by grind)
  obtain ⟨d1, d2⟩ := d
  obtain ⟨p1, p2⟩ := rabs (m := 2) (f := 1 / 147573952589676412928) (x := c + s) (y := c - s) (by grind) (by grind) (by grind) (by grind)
  obtain ⟨q1, q2⟩ := rabs (m := 1 / 147573952589676412928) (f := 1 / 147573952589676412928) (x := c - s) (y := c - s) (by grind) (by grind) (by grind) (by grind)
  have sq0 : 0 ≤ (c - s) * (c - s) := by
    rcases (Rat.le_total : (0 : Rat) ≤ (c - s) ∨ (c - s) ≤ 0) with g | g
    · exact rmul0 g g
    · have := rmul0 (show 0 ≤ -(c - s) by grind) (show 0 ≤ -(c - s) by grind); grind
  unfold e60
  refine ⟨?_, ?_, ?_, ?_⟩ <;> grind
theorem q_natz : -e60 ≤ zc 5400000 ∧ zc 5400000 ≤ e60 ∧ 1 - e60 ≤ zs 5400000 ∧ zs 5400000 ≤ 1 := by
  have h := q_near
  rw [show (5400000 : Int) = ((5400000 : Nat) : Int) from rfl, zS_nat, zC_nat] at h
  exact h
structure CellE (n : Int) (t g : Rat) : Prop where
  lo : (bLo n : Rat) ≤ 1073741824 * zS n + t
  hi : 1073741824 * zS n ≤ (bHi n : Rat) + t
  up : 1073741824 * zS n + g ≤ (bLo n : Rat) + 1
  dn : (bHi n : Rat) + g ≤ 1073741824 * zS n + 1
theorem CellE.same {n m : Int} {t g d t' g' : Rat} (h : CellE n t g) (hn : Nr (zS m) (zS n) d) (h1 : bLo m = bLo n) (h2 : bHi m = bHi n) (ht : t + 1073741824 * d ≤ t') (hg : g' + 1073741824 * d ≤ g) : CellE m t' g' := by
  obtain ⟨a1, a2, a3, a4⟩ := h
  obtain ⟨n1, n2⟩ := hn
  have e1 : (bLo m : Rat) = (bLo n : Rat) := by rw [h1]
  have e2 : (bHi m : Rat) = (bHi n : Rat) := by rw [h2]
  constructor <;> simp only [e1, e2] <;> grind
theorem CellE.opp {n m : Int} {t g d t' g' : Rat} (h : CellE n t g) (hn : Nr (zS m) (-(zS n)) d) (h1 : bLo m = -(bHi n)) (h2 : bHi m = -(bLo n)) (ht : t + 1073741824 * d ≤ t') (hg : g' + 1073741824 * d ≤ g) : CellE m t' g' := by
  obtain ⟨a1, a2, a3, a4⟩ := h
  obtain ⟨n1, n2⟩ := hn
  have e1 : (bLo m : Rat) = -(bHi n : Rat) := by rw [h1]; push_cast; rfl
  have e2 : (bHi m : Rat) = -(bLo n : Rat) := by rw [h2]; push_cast; rfl
  constructor <;> simp only [e1, e2] <;> grind
theorem near_zs {r : Nat} (h : r ≤ 2700000) : Nr (zs r) (sinT r) (1 / 442721857769029238784) ∧ Nr (zc r) (cosT r) (1 / 442721857769029238784) :=
  ⟨(z_near h).1.le (near60 h), (z_near h).2.le (near60 h)⟩
theorem cell_bt {f : Nat} {v z : Rat} (hb : Bt f v) (hn : Nr z v (1 / 442721857769029238784)) : (f : Rat) + 1 / 8388608 ≤ 1073741824 * z ∧ 1073741824 * z + 1 / 8388608 ≤ (f : Rat) + 1 := by
  obtain ⟨b1, b2⟩ := hb
  obtain ⟨n1, n2⟩ := hn
  constructor <;> grind
theorem cell_q {m : Nat} (h : m ≤ 5400000) : ((sinQ m : Nat) : Rat) ≤ 1073741824 * zs m + 1 / 17179869184 ∧ 1073741824 * zs m ≤ ((hiQ m : Int) : Rat) + 1 / 17179869184 ∧ 1073741824 * zs m + 1 / 9000000 ≤ ((sinQ m : Nat) : Rat) + 1 ∧ ((hiQ m : Int) : Rat) + 1 / 9000000 ≤ 1073741824 * zs m + 1 := by
  have exact : ∀ {k : Nat}, sinQ m = k → hiQ m = (k : Int) → Nr (1073741824 * zs m) (k : Rat) (1 / 17179869184) → ((sinQ m : Nat) : Rat) ≤ 1073741824 * zs m + 1 / 17179869184 ∧ 1073741824 * zs m ≤ ((hiQ m : Int) : Rat) + 1 / 17179869184 ∧ 1073741824 * zs m + 1 / 9000000 ≤ ((sinQ m : Nat) : Rat) + 1 ∧ ((hiQ m : Int) : Rat) + 1 / 9000000 ≤ 1073741824 * zs m + 1 := fun {k} h1 h2 h3 => by
    rw [h1, h2]
    obtain ⟨n1, n2⟩ := h3
    push_cast
    refine ⟨?_, ?_, ?_, ?_⟩ <;> grind
  have inner : ∀ {f : Nat}, sinQ m = f → hiQ m = (f : Int) + 1 → (f : Rat) + 1 / 8500000 ≤ 1073741824 * zs m ∧ 1073741824 * zs m + 1 / 8500000 ≤ (f : Rat) + 1 → ((sinQ m : Nat) : Rat) ≤ 1073741824 * zs m + 1 / 17179869184 ∧ 1073741824 * zs m ≤ ((hiQ m : Int) : Rat) + 1 / 17179869184 ∧ 1073741824 * zs m + 1 / 9000000 ≤ ((sinQ m : Nat) : Rat) + 1 ∧ ((hiQ m : Int) : Rat) + 1 / 9000000 ≤ 1073741824 * zs m + 1 := fun {f} h1 h2 h3 => by
    rw [h1, h2]
    obtain ⟨n1, n2⟩ := h3
    push_cast
    refine ⟨?_, ?_, ?_, ?_⟩ <;> grind
  have hu : hiQ m = (sinQ m : Int) + oneQ m := rfl
  have ho := oneQ_at m
  by_cases c0 : m = 0
  · subst c0
    refine exact (k := 0) sinQ_0 (by rw [hu, ho, sinQ_0]; rfl) ?_
    rw [zs_0]
    constructor <;> grind
  by_cases c1 : m = 1800000
  · subst c1
    refine exact (k := 536870912) sinQ_h (by rw [hu, ho, sinQ_h, if_pos (.inr (.inl rfl)), Int.add_zero]) ?_
    have h1 := (near_zs (r := 1800000) (by decide)).1.trans sin_third
    have he : eps ≤ 1 / 442721857769029238784 := by unfold eps; grind
    obtain ⟨n1, n2⟩ := h1
    generalize zs 1800000 = z at *
    push_cast
    constructor <;> grind
  by_cases c2 : m = 5400000
  · subst c2
    refine exact (k := 1073741824) sinQ_q (by rw [hu, ho, sinQ_q, if_pos (.inr (.inr rfl)), Int.add_zero]) ?_
    obtain ⟨h1, h2, h3, h4⟩ := q_natz
    unfold e60 at h3
    generalize zs 5400000 = z at *
    push_cast
    constructor <;> grind
  rw [if_neg (by omega)] at ho
  rw [ho] at hu
  by_cases c3 : m ≤ 2700000
  · have hs := sinQ_s c0 c1 c3
    rw [hs] at hu
    have := cell_bt (octS_bt (r := m) (by omega) c3 c1) (near_zs c3).1
    exact inner hs hu (by obtain ⟨n1, n2⟩ := this; constructor <;> grind)
  · have hs := sinQ_c (n := m) (by omega) (by omega)
    rw [hs] at hu
    obtain ⟨k, hk⟩ : ∃ k, 5400000 - m = k := ⟨_, rfl⟩
    rw [hk] at hs hu
    have hb := cell_bt (octC_bt (r := k) (by omega) (by omega)) (near_zs (r := k) (by omega)).2
    refine inner hs hu ?_
    obtain ⟨z1, -⟩ := z_sub (a := 5400000) (b := k) (by omega)
    rw [show 5400000 - k = m by omega] at z1
    obtain ⟨q1, q2, q3, q4⟩ := q_natz
    generalize zs 5400000 = zq at *
    generalize zc 5400000 = cq at *
    have u := z_unit k
    obtain ⟨b1, b2⟩ := sq_one u
    obtain ⟨b3, b4⟩ := sq_one (x := zc k) (y := zs k) (by grind)
    obtain ⟨p1, p2⟩ := rabs (x := zq - 1) (y := zc k) (m := e60) (f := 1) (by grind) (by unfold e60 at *; grind) b3 b4
    obtain ⟨p3, p4⟩ := rabs (x := cq) (y := zs k) (m := e60) (f := 1) (by grind) (by grind) b1 b2
    rw [z1]
    unfold e60 at *
    obtain ⟨n1, n2⟩ := hb
    constructor <;> grind
theorem cell_1 {n : Int} (h0 : 0 ≤ n) (h1 : n ≤ 5400000) : CellE n (1 / 17179869184) (1 / 9000000) := by
  obtain ⟨m, rfl⟩ := Int.eq_ofNat_of_zero_le h0
  obtain ⟨e1, e2⟩ := b_one h0 h1
  have h := cell_q (m := m) (by omega)
  rw [Int.toNat_natCast] at e1 e2
  obtain ⟨a1, a2, a3, a4⟩ := h
  constructor
  · rw [e1, zS_nat]; push_cast; exact a1
  · rw [e2, zS_nat]; exact a2
  · rw [e1, zS_nat]; push_cast; exact a3
  · rw [e2, zS_nat]; exact a4
theorem cell_2 {n : Int} (h0 : -5400000 ≤ n) (h1 : n ≤ 5400000) : CellE n (1 / 17179869184) (1 / 9000000) := by
  by_cases h : 0 ≤ n
  · exact cell_1 h h1
  · obtain ⟨b1, b2⟩ := b_odd (n := -n) (by omega) (by omega)
    rw [Int.neg_neg] at b1 b2
    refine (cell_1 (n := -n) (by omega) (by omega)).opp (d := 0) ?_ b1 b2 (by grind) (by grind)
    rw [zS_neg]
    constructor <;> grind
theorem half_near : -(2 * e60) ≤ zS 10800000 ∧ zS 10800000 ≤ 2 * e60 ∧ -1 ≤ zC 10800000 ∧ zC 10800000 ≤ -1 + 3 * e60 := by
  obtain ⟨q1, q2, q3, q4⟩ := q_near
  obtain ⟨a1, a2⟩ := Z_add 5400000 5400000
  rw [show (5400000 : Int) + 5400000 = 10800000 from rfl] at a1 a2
  have hz := (Z_in 10800000).2.1
  rw [a2] at hz
  rw [a1, a2]
  clear a1 a2
  generalize zS 5400000 = s at *
  generalize zC 5400000 = c at *
  have he : (0 : Rat) < e60 ∧ e60 ≤ 1 / 1000 := by unfold e60; constructor <;> grind
  generalize e60 = e at *
  obtain ⟨p1, p2⟩ := rabs (x := s) (y := c) (m := 1) (f := e) (by grind) q4 q1 q2
  obtain ⟨p3, p4⟩ := rabs (x := c) (y := c) (m := e) (f := e) q1 q2 q1 q2
  have p5 := rmul (a := 1 - e) (b := s) (c := 1 - e) (d := s) (by grind) q3 (by grind) q3
  have p6 := rmul (a := e) (b := 1 / 1000) (c := e) (d := e) (by grind) (by grind) (by grind) (by grind)
  refine ⟨?_, ?_, hz, ?_⟩ <;> grind
theorem turn_near : -(5 * e60) ≤ zS 21600000 ∧ zS 21600000 ≤ 5 * e60 ∧ 1 - 7 * e60 ≤ zC 21600000 ∧ zC 21600000 ≤ 1 := by
  obtain ⟨q1, q2, q3, q4⟩ := half_near
  obtain ⟨a1, a2⟩ := Z_add 10800000 10800000
  rw [show (10800000 : Int) + 10800000 = 21600000 from rfl] at a1 a2
  have hz := (Z_in 21600000).2.2
  rw [a2] at hz
  rw [a1, a2]
  clear a1 a2
  generalize zS 10800000 = s at *
  generalize zC 10800000 = c at *
  have he : (0 : Rat) < e60 ∧ e60 ≤ 1 / 1000 := by unfold e60; constructor <;> grind
  generalize e60 = e at *
  obtain ⟨p1, p2⟩ := rabs (x := c) (y := s) (m := 1) (f := 2 * e) (by grind) (by grind) q1 q2
  obtain ⟨p3, p4⟩ := rabs (x := s) (y := s) (m := 2 * e) (f := 2 * e) q1 q2 q1 q2
  have p5 := rmul (a := 1 - 3 * e) (b := -c) (c := 1 - 3 * e) (d := -c) (by grind) (by grind) (by grind) (by grind)
  have p6 := rmul (a := e) (b := 1 / 1000) (c := e) (d := e) (by grind) (by grind) (by grind) (by grind)
  refine ⟨?_, ?_, ?_, hz⟩ <;> grind
def t31 : Rat := 1 / 2147483648
def g24 : Rat := 1 / 16777216
theorem zS_refl (m : Int) : Nr (zS (10800000 - m)) (zS m) (6 * e60) := by
  obtain ⟨q1, q2, q3, q4⟩ := half_near
  obtain ⟨a1, -⟩ := Z_sub 10800000 m
  obtain ⟨⟨b1, b2⟩, b3, b4⟩ := Z_in m
  rw [a1]
  clear a1
  generalize zS 10800000 = s at *
  generalize zC 10800000 = c at *
  generalize zS m = x at *
  generalize zC m = y at *
  have he : (0 : Rat) < e60 ∧ e60 ≤ 1 / 1000 := by unfold e60; constructor <;> grind
  generalize e60 = e at *
  obtain ⟨p1, p2⟩ := rabs (x := s) (y := y) (m := 2 * e) (f := 1) q1 q2 b3 b4
  obtain ⟨p3, p4⟩ := rabs (x := c + 1) (y := x) (m := 3 * e) (f := 1) (by grind) (by grind) b1 b2
  constructor <;> grind
theorem zS_turn (m : Int) : Nr (zS (m + 21600000)) (zS m) (12 * e60) := by
  obtain ⟨q1, q2, q3, q4⟩ := turn_near
  obtain ⟨a1, -⟩ := Z_add m 21600000
  obtain ⟨⟨b1, b2⟩, b3, b4⟩ := Z_in m
  rw [a1]
  clear a1
  generalize zS 21600000 = s at *
  generalize zC 21600000 = c at *
  generalize zS m = x at *
  generalize zC m = y at *
  have he : (0 : Rat) < e60 ∧ e60 ≤ 1 / 1000 := by unfold e60; constructor <;> grind
  generalize e60 = e at *
  obtain ⟨p1, p2⟩ := rabs (x := s) (y := y) (m := 5 * e) (f := 1) q1 q2 b3 b4
  obtain ⟨p3, p4⟩ := rabs (x := c - 1) (y := x) (m := 7 * e) (f := 1) (by grind) (by grind) b1 b2
  constructor <;> grind
theorem cell_3 {n : Int} (h0 : -5400000 ≤ n) (h1 : n ≤ 16200000) : CellE n (1 / 6000000000) (1 / 10000000) := by
  have he : 1073741824 * (6 * e60) ≤ 1 / 10000000000 := by unfold e60; grind
  by_cases h : n ≤ 5400000
  · refine (cell_2 h0 h).same (d := 0) ?_ rfl rfl (by grind) (by grind)
    constructor <;> grind
  · have hn := zS_refl (10800000 - n)
    rw [show 10800000 - (10800000 - n) = n by omega] at hn
    refine (cell_2 (n := 10800000 - n) (by omega) (by omega)).same hn ?_ ?_ (by grind) (by grind)
    · by_cases g : n ≤ 10800000
      · rw [(b_two (n := n) (by omega) g).1, (b_one (n := 10800000 - n) (by omega) (by omega)).1]
      · rw [(b_three (n := n) (by omega) h1).1, (b_four (n := 10800000 - n) (by omega) (by omega)).1, show (-(10800000 - n)) = n - 10800000 by omega]
    · by_cases g : n ≤ 10800000
      · rw [(b_two (n := n) (by omega) g).2, (b_one (n := 10800000 - n) (by omega) (by omega)).2]
      · rw [(b_three (n := n) (by omega) h1).2, (b_four (n := 10800000 - n) (by omega) (by omega)).2, show (-(10800000 - n)) = n - 10800000 by omega]
theorem cell_all {n : Int} (h0 : -5400000 ≤ n) (h1 : n ≤ 27000000) : CellE n t31 g24 := by
  have he : 1073741824 * (12 * e60) ≤ 1 / 5000000000 := by unfold e60; grind
  by_cases h : n ≤ 16200000
  · refine (cell_3 h0 h).same (d := 0) ?_ rfl rfl (by unfold t31; grind) (by unfold g24; grind)
    constructor <;> grind
  · have hn := zS_turn (n - 21600000)
    rw [show n - 21600000 + 21600000 = n by omega] at hn
    have hb := b_shift (n - 21600000) 1
    rw [show n - 21600000 + 21600000 * 1 = n by omega] at hb
    exact (cell_3 (n := n - 21600000) (by omega) (by omega)).same hn hb.1 hb.2 (by unfold t31; grind) (by unfold g24; grind)
end Go.Proofs.YtnnmfdeeicpdlaaGreat
/- Haversines: plain laws, no walk. -/
namespace Go.Proofs.YtnnmfdeeicpdlaaGreat

end Go.Proofs.YtnnmfdeeicpdlaaGreat
/- The program's arcsines. -/
namespace Go.Proofs.YtnnmfdeeicpdlaaGreat
set_option maxRecDepth 100000
open Go.RowKit

theorem tg_Below (n v : Int) (w : World) :
    Calls Tryz.prog 196 #[.int .i64 n, .int .i64 v] w fun e w' => e = .returned (.int .i64 (belI n v)) ∧ ∃ d, w' = bw w d := by
  have HB := Lib.hid (fun W => tg_bounds n W)
  have h1 := (bb_le n).1
  have h2 := bHi_one n
  unfold belI
  generalize bLo n = lo at *
  generalize bHi n = hi at *
  by_cases c1 : hi ≤ v
  · by_cases c2 : lo < v
    · rw [if_pos ⟨c1, c2⟩]
      have c3 : v ≥ hi := c1
      clear h1 h2
      refine lay_start ?_
      go_enter Tryz.func196, Tryz.ntmps196
      go_wp2_with (go_at_call 180; refine (HB.out _).mono ?_; rintro e w' ⟨rfl, d1, rfl⟩; rw [lay_bw])
      go_ret
      exact ⟨rfl, lay_ex _ _⟩
    · rw [if_neg (fun h => c2 h.2), if_neg (by omega), if_pos (by omega)]
      obtain rfl : v = lo := by omega
      have c4 : ¬ v < hi := by omega
      have c5 : (v == v) = true := beq_iff_eq.2 rfl
      clear h1 h2
      refine lay_start ?_
      go_enter Tryz.func196, Tryz.ntmps196
      go_wp2_with (go_at_call 180; refine (HB.out _).mono ?_; rintro e w' ⟨rfl, d1, rfl⟩; rw [lay_bw])
      go_ret
      exact ⟨rfl, lay_ex _ _⟩
  · by_cases c2 : v ≤ lo
    · rw [if_neg (fun h => c1 h.1), if_pos ⟨c2, by omega⟩]
      have c3 : v < hi := by omega
      clear h1 h2
      refine lay_start ?_
      go_enter Tryz.func196, Tryz.ntmps196
      go_wp2_with (go_at_call 180; refine (HB.out _).mono ?_; rintro e w' ⟨rfl, d1, rfl⟩; rw [lay_bw])
      go_ret
      exact ⟨rfl, lay_ex _ _⟩
    · exact False.elim (by omega)
set_option maxHeartbeats 1000000 in
theorem ar_asin (v : Int) (hv : -1073741824 ≤ v) (w : World) :
    Calls Tryz.prog 121 #[.int .i64 v] w fun e w' => e = .returned (.int .i64 (asnI v)) ∧ ∃ d, w' = bw w d := by
  have HB := Lib.hid (fun n W => tg_Below n v W)
  obtain ⟨R, hR⟩ : ∃ R, asnI v = R := ⟨_, rfl⟩
  have HR : Hid (∀ r, IsAsn v r → r = R) := Lib.hid fun r h => by rw [← hR]; exact (asnI_eq h).symm
  rw [hR]
  have HV := Lib.hid hv
  clear hR hv
  refine lay_start ?_
  go_enter Tryz.func121, Tryz.ntmps121
  go_wp2_with fail
  go_loopw [3, 4] (fun v3 v4 wr => ∃ (l h : Int) (dd : Ext), v3 = .int .i64 l ∧ v4 = .int .i64 h ∧ wr = lay w [.inr dd] ∧ -5400000 ≤ l ∧ l < h ∧ h ≤ 5400001 ∧ bHi l ≤ v ∧ (h = 5400001 ∨ v < bHi h)) (fun v3 v4 _ => (intOf v4 - intOf v3).toNat)
  case atStart => exact ⟨-5400000, 5400001, noExt _, rfl, rfl, (bw_noExt _).symm, by decide, by decide, by decide, by rw [b_bot]; exact HV.out, .inl rfl⟩
  case round =>
    obtain ⟨l, h, dd, rfl, rfl, rfl, hl, hlh, hh, hA, hB⟩ := hrel
    have HA := Lib.hid hA
    have HB2 := Lib.hid hB
    clear hA hB
    have k1 : IntKind.i64.wrap (h - l) = h - l := IntWalk.i64_in _ (by omega)
    by_cases c : 1 < h - l
    · obtain ⟨X, hX⟩ : ∃ X, l + h = X := ⟨_, rfl⟩
      obtain ⟨m, hm⟩ : ∃ m, X / 2 = m := ⟨_, rfl⟩
      have k2 : IntKind.i64.wrap (l + h) = X := by rw [hX]; exact IntWalk.i64_in _ (by omega)
      have hml : l < m ∧ m < h := by omega
      have HLH := Lib.hid (And.intro hl (And.intro hlh (And.intro hh hml)))
      have HI := Lib.hid (belI_iff m v)
      have HBm := Lib.hid (fun W => HB.out m W)
      clear hX hl hlh hh hml
      by_cases cb : belI m v ≤ 0
      · have HLe := Lib.hid (HI.out.1 cb)
        generalize belI m v = r at *
        go_wp2_with (go_at_call 196; refine (HBm.out _).mono ?_; rintro e w' ⟨rfl, d1, rfl⟩; rw [lay_bw])
        obtain ⟨g1, g2, g3, g4, g5⟩ := HLH.out
        obtain ⟨de, hde⟩ := lay_all w [.inr d1, .inr dd]
        exact ⟨⟨_, _, de, rfl, rfl, hde, by omega, by omega, g3, HLe.out, HB2.out⟩, by simp only [intOf]; omega⟩
      · have HLe := Lib.hid (fun h' => cb (HI.out.2 h'))
        generalize belI m v = r at *
        go_wp2_with (go_at_call 196; refine (HBm.out _).mono ?_; rintro e w' ⟨rfl, d1, rfl⟩; rw [lay_bw])
        obtain ⟨g1, g2, g3, g4, g5⟩ := HLH.out
        obtain ⟨de, hde⟩ := lay_all w [.inr d1, .inr dd]
        have hlt : v < bHi m := Int.not_le.1 HLe.out
        exact ⟨⟨_, _, de, rfl, rfl, hde, g1, by omega, by omega, HA.out, .inr hlt⟩, by simp only [intOf]; omega⟩
    · have hR : l = R := by
        refine HR.out l ⟨hl, by omega, HA.out, ?_⟩
        have hhl : h = l + 1 := by omega
        subst hhl
        rcases HB2.out with h1 | h1
        · left; omega
        · right; exact h1
      clear hl hlh hh HA HB2 HR
      subst hR
      go_wp2_with fail
      go_ret
      exact ⟨rfl, lay_ex _ _⟩
end Go.Proofs.YtnnmfdeeicpdlaaGreat
/- arctrig: part, Asin, Acos, Ahav. -/
namespace Go.Proofs.YtnnmfdeeicpdlaaGreat
set_option maxRecDepth 100000
open Go.RowKit

theorem asE_at (lo hi : Int) : asE lo hi = if fxB lo hi = false then 1 else if mn hi 1073741824 < mx lo (-1073741824) then 2 else 0 := by unfold asE fxB; rfl
theorem ar_part (a0 a1 lo hi : Int) (w : World) :
    Calls Tryz.prog 120 #[(.agg #[.int .i64 (a0), .int .i64 (a1)]), .int .i64 lo, .int .i64 hi] w fun e w' => e = .returned (.tuple #[(.agg #[.int .i64 (mx a0 lo), .int .i64 (mn a1 hi)]), .bool (decide (mx a0 lo ≤ mn a1 hi))]) ∧ ∃ d, w' = bw w d := by
  refine lay_start ?_
  go_enter Tryz.func120, Tryz.ntmps120
  go_wp2_with fail
  go_region
  go_wp2_with fail
  exact bodyPost_ret (v := .tuple #[(.agg #[.int .i64 (mx a0 lo), .int .i64 (mn a1 hi)]), .bool (decide (mx a0 lo ≤ mn a1 hi))]) (by simp [results, Tryz.results120, go_sem]) rfl ⟨rfl, by rw [bw_drewExt, lay_bw]; exact lay_ex _ _⟩
theorem ar_Asin (lo hi : Int) (w : World) :
    Calls Tryz.prog 46 #[(.agg #[.int .i64 (lo), .int .i64 (hi)])] w fun e w' => e = .returned (.tuple #[(.agg #[.int .i64 (asL lo hi), .int .i64 (asH lo hi)]), .int .i64 (asE lo hi)]) ∧ ∃ d, w' = bw w d := by
  have HV := Lib.hid (fun W => fx_ValidG lo hi W)
  have HP := Lib.hid (fun W => ar_part lo hi (-1073741824) 1073741824 W)
  unfold asL asH
  rw [asE_at]
  cases h : fxB lo hi
  · rw [h] at HV
    clear h HP
    rw [if_pos rfl, if_neg (show ¬ ((1 : Int) = 0) by decide), if_neg (show ¬ ((1 : Int) = 0) by decide)]
    refine lay_start ?_
    go_enter Tryz.func46, Tryz.ntmps46
    go_wp2_with (go_at_call 116; refine (HV.out _).mono ?_; rintro e w' ⟨rfl, d, rfl⟩)
    exact bodyPost_ret (v := .tuple #[(.agg #[.int .i64 (0), .int .i64 (0)]), .int .i64 1]) (by simp [results, Tryz.results46, go_sem]) rfl ⟨rfl, lay_ex _ _⟩
  · rw [h] at HV
    have hb := fxB_iff.1 h
    have hx : -1073741824 ≤ mx lo (-1073741824) := by rw [mx_eq]; omega
    have hn : mn hi 1073741824 ≤ 1073741824 := by rw [mn_eq]; omega
    have hn2 : -2147483648 ≤ mn hi 1073741824 := by rw [mn_eq]; omega
    have hd : (mn hi 1073741824 < mx lo (-1073741824)) ∨ mx lo (-1073741824) ≤ mn hi 1073741824 := by omega
    have H1 := Lib.hid (fun W => ar_asin (mx lo (-1073741824)) hx W)
    have H2 := Lib.hid (fun W => ar_asin (-(mn hi 1073741824)) (by omega) W)
    have i1 := asnI_in (v := mx lo (-1073741824)) hx
    have i2 := asnI_in (v := -(mn hi 1073741824)) (by omega)
    clear h
    generalize mx lo (-1073741824) = x at *
    generalize mn hi 1073741824 = y at *
    generalize asnI x = u at *
    obtain ⟨y', hy'⟩ : ∃ y', -y = y' := ⟨_, rfl⟩
    have ky : IntKind.i64.wrap (-y) = y' := by rw [hy']; exact IntWalk.i64_in _ (by omega)
    rw [hy'] at H2 i2
    rw [hy']
    generalize asnI y' = v at *
    have kv : IntKind.i64.wrap (-v) = -v := IntWalk.i64_in _ (by omega)
    clear hb hx hn hn2 i1 i2 hy'
    rcases hd with hd | hd
    · rw [show decide (x ≤ y) = false from decide_eq_false (by omega)] at HP
      rw [if_neg (show ¬ (true = false) by decide), if_pos hd, if_neg (show ¬ ((2 : Int) = 0) by decide), if_neg (show ¬ ((2 : Int) = 0) by decide)]
      refine lay_start ?_
      go_enter Tryz.func46, Tryz.ntmps46
      go_wp2_with (first | (go_at_call 116; refine (HV.out _).mono ?_; rintro e w' ⟨rfl, d, rfl⟩) | (go_at_call 120; refine (HP.out _).mono ?_; rintro e w' ⟨rfl, d2, rfl⟩))
      exact bodyPost_ret (v := .tuple #[(.agg #[.int .i64 (0), .int .i64 (0)]), .int .i64 2]) (by simp [results, Tryz.results46, go_sem]) rfl ⟨rfl, lay_ex _ _⟩
    · rw [show decide (x ≤ y) = true from decide_eq_true (by omega)] at HP
      rw [if_neg (show ¬ (true = false) by decide), if_neg (show ¬ (y < x) by omega), if_pos rfl, if_pos rfl]
      refine lay_start ?_
      go_enter Tryz.func46, Tryz.ntmps46
      go_wp2_with (first | (go_at_call 116; refine (HV.out _).mono ?_; rintro e w' ⟨rfl, d, rfl⟩) | (go_at_call 120; refine (HP.out _).mono ?_; rintro e w' ⟨rfl, d2, rfl⟩))
      refine region_bw_tail 9 (by kernel_rfl) (by kernel_rfl) ?_
      simp only [List.take_succ_cons, List.take_zero, List.drop_succ_cons, List.drop_zero]
      repeat (go_big_quiet_step ((first | (go_at_call 121; first | (with_reducible exact bq (H1.out _) (fun d => lay_join _ _ _ d)) | (with_reducible exact bq (H1.out _) (fun d => ⟨d, rfl⟩)) | (with_reducible exact bq (H2.out _) (fun d => lay_join _ _ _ d)) | (with_reducible exact bq (H2.out _) (fun d => ⟨d, rfl⟩))))))
      refine wpQuiet_nil ?_
      rintro w' ⟨d, rfl⟩
      rw [lay_bw]
      go_wp2_with fail
      exact bodyPost_ret (v := .tuple #[(.agg #[.int .i64 (u), .int .i64 (-v)]), .int .i64 0]) (by simp [results, Tryz.results46, go_sem]) rfl ⟨rfl, lay_ex _ _⟩
end Go.Proofs.YtnnmfdeeicpdlaaGreat
