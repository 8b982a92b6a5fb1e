/- Contracts and plain laws, several texts in one: FxG; F4; F5 -/
import Derived.Test.YtmomoeagnkjbiaaGreatProg
import Derived.WalkKit
import Derived.WalkSpells
import Derived.WalkLawsBesides
import Derived.Lib.Hide
import Derived.BigQuiet
import Derived.Test.YtmomoeagnkjbiaaGreatBAA
import Derived.Test.YtmomoeagnkjbiaaGreatBAB
import Derived.Test.YtmomoeagnkjbiaaGreatBAI
import Derived.Test.YtmomoeagnkjbiaaGreatBAL
import Derived.Test.YtmomoeagnkjbiaaGreatBAM
/- fixed: Valid, floor, ceil, fit, Mul, Scale, at all valid intervals. -/
namespace Go.Proofs.YtmomoeagnkjbiaaGreat
open Go.RowKit

/-- A valid interval. -/
def fxB (lo hi : Int) : Bool := decide (lo ≤ hi ∧ -2147483648 ≤ lo ∧ hi ≤ 2147483648)
theorem fxB_iff {lo hi : Int} : fxB lo hi = true ↔ lo ≤ hi ∧ -2147483648 ≤ lo ∧ hi ≤ 2147483648 := by simp [fxB]
set_option maxRecDepth 100000 in
theorem fx_ValidG (lo hi : Int) (w : World) :
    Calls Tryz.prog 76 #[(.agg #[.int .i64 (lo), .int .i64 (hi)])] w fun e w' => e = .returned (.bool (fxB lo hi)) ∧ ∃ d, w' = bw w d := by
  refine lay_start ?_
  go_enter Tryz.func76, Tryz.ntmps76
  go_wp2
  all_goals go_ret
  all_goals exact ⟨ret_bool (by rw [Bool.eq_iff_iff]; simp [fxB]; omega), lay_ex _ _⟩
set_option maxRecDepth 100000 in
theorem fx_bothG (a b c d : Int) (w : World) :
    Calls Tryz.prog 72 #[(.agg #[.int .i64 (a), .int .i64 (b)]), (.agg #[.int .i64 (c), .int .i64 (d)])] w fun e w' => e = .returned (.bool (fxB a b && fxB c d)) ∧ ∃ d, w' = bw w d := by
  have H1 := Lib.hid (fun W => fx_ValidG a b W)
  have H2 := Lib.hid (fun W => fx_ValidG c d W)
  generalize fxB a b = x at *
  generalize fxB c d = y at *
  cases x <;> cases y
  all_goals
    refine lay_start ?_
    go_enter Tryz.func72, Tryz.ntmps72
    go_wp2_with (go_at_call 76; first | (with_reducible refine (H1.out _).mono ?_; rintro e w' ⟨rfl, d1, rfl⟩) | (with_reducible refine (H2.out _).mono ?_; rintro e w' ⟨rfl, d2, rfl⟩))
    go_ret
    exact ⟨rfl, lay_ex _ _⟩
set_option maxRecDepth 100000 in
theorem fx_floorG (a b : Int) (w : World) (hb : 1 ≤ b) (h1 : -9223372036854775807 ≤ a) (h2 : a ≤ 9223372036854775807) :
    Calls Tryz.prog 74 #[.int .i64 a, .int .i64 b] w fun e w' => e = .returned (.int .i64 (a / b)) ∧ w' = w := by
  have hb0 : ¬ b < 0 := by omega
  by_cases hr : a.tmod b < 0
  · have e0 := floor_neg hb hr
    have hbd := ediv_bd hb 9223372036854775807 (by decide) h1 h2
    have hk : IntKind.i64.wrap (a / b) = a / b := IntWalk.i64_in _ (by omega)
    obtain ⟨q, hq⟩ : ∃ q, a / b = q := ⟨_, rfl⟩
    rw [hq] at e0 hk ⊢
    have ha : a < 0 := by
      rcases Int.lt_or_le a 0 with h | h
      · exact h
      · rw [Int.tmod_eq_emod_of_nonneg h] at hr; have := Int.emod_nonneg a (show b ≠ 0 by omega); omega
    have hz : (a.tmod b != 0) = true := bne_iff_ne.2 (by omega)
    go_enter Tryz.func74, Tryz.ntmps74
    go_wp2_with fail
    go_ret
    exact ⟨rfl, rfl⟩
  · have e0 := floor_pos (a := a) hb (by omega)
    obtain ⟨q, hq⟩ : ∃ q, a / b = q := ⟨_, rfl⟩
    have hbd := ediv_bd hb 9223372036854775807 (by decide) h1 h2
    have hk : IntKind.i64.wrap (a / b) = a / b := IntWalk.i64_in _ (by omega)
    rw [hq] at e0 hk ⊢
    by_cases ha : a < 0
    · have hz : (a.tmod b != 0) = false := by
        have h3 : a.tmod b = -((-a) % b) := by
          have := Int.neg_tmod (a := -a) (b := b)
          rw [Int.neg_neg] at this
          rw [this, Int.tmod_eq_emod_of_nonneg (by omega)]
        have h4 := Int.emod_nonneg (-a) (show b ≠ 0 by omega)
        have : a.tmod b = 0 := by omega
        rw [this]; rfl
      go_enter Tryz.func74, Tryz.ntmps74
      go_wp2_with fail
      go_ret
      exact ⟨rfl, rfl⟩
    · go_enter Tryz.func74, Tryz.ntmps74
      go_wp2_with fail
      all_goals
        go_ret
        exact ⟨rfl, rfl⟩
set_option maxRecDepth 100000 in
theorem fx_ceilG (a b : Int) (w : World) (hb : 1 ≤ b) (h1 : -9223372036854775807 ≤ a) (h2 : a ≤ 9223372036854775807) :
    Calls Tryz.prog 75 #[.int .i64 a, .int .i64 b] w fun e w' => e = .returned (.int .i64 (-((-a) / b))) ∧ w' = w := by
  have HF := Lib.hid (fun W => fx_floorG (-a) b W hb (by omega) (by omega))
  have k1 : IntKind.i64.wrap (-a) = -a := IntWalk.i64_in _ (by omega)
  have hbd := ediv_bd hb 9223372036854775807 (by decide) (show -9223372036854775807 ≤ -a by omega) (by omega)
  have k2 : IntKind.i64.wrap (-((-a) / b)) = -((-a) / b) := IntWalk.i64_in _ (by omega)
  obtain ⟨m, hm⟩ : ∃ m, -a = m := ⟨_, rfl⟩
  rw [hm] at HF k1 k2 hbd ⊢
  obtain ⟨q, hq⟩ : ∃ q, m / b = q := ⟨_, rfl⟩
  rw [hq] at HF k2 hbd ⊢
  obtain ⟨r, hr⟩ : ∃ r, -q = r := ⟨_, rfl⟩
  rw [hr] at k2 ⊢
  clear hbd hq h1 h2
  go_enter Tryz.func75, Tryz.ntmps75
  go_wp2_with (go_at_call 74; refine (HF.out _).mono ?_; rintro e w' ⟨rfl, rfl⟩)
  go_ret
  exact ⟨rfl, rfl⟩
set_option maxRecDepth 100000 in
theorem fx_fitG (lo hi : Int) (w : World) (h : fxB lo hi = true) :
    Calls Tryz.prog 73 #[.int .i64 lo, .int .i64 hi] w fun e w' => e = .returned (.tuple #[(.agg #[.int .i64 (lo), .int .i64 (hi)]), .int .i64 0]) ∧ ∃ d, w' = bw w d := by
  have HV := Lib.hid (fun W => fx_ValidG lo hi W)
  rw [h] at HV
  refine lay_start ?_
  go_enter Tryz.func73, Tryz.ntmps73
  go_wp2_with (go_at_call 76; refine (HV.out _).mono ?_; rintro e w' ⟨rfl, d, rfl⟩)
  exact bodyPost_ret (v := .tuple #[(.agg #[.int .i64 (lo), .int .i64 (hi)]), .int .i64 0]) (by simp [results, Tryz.results73, go_sem]) rfl ⟨rfl, lay_ex _ _⟩
set_option maxHeartbeats 1000000 in
set_option maxRecDepth 100000 in
theorem fx_MulG (a0 a1 b0 b1 : Int) (w : World) (ha : fxB a0 a1 = true) (hb : fxB b0 b1 = true) (hm : fxB (mulL a0 a1 b0 b1) (mulH a0 a1 b0 b1) = true) :
    Calls Tryz.prog 30 #[(.agg #[.int .i64 (a0), .int .i64 (a1)]), (.agg #[.int .i64 (b0), .int .i64 (b1)])] w fun e w' => e = .returned (.tuple #[(.agg #[.int .i64 (mulL a0 a1 b0 b1), .int .i64 (mulH a0 a1 b0 b1)]), .int .i64 0]) ∧ ∃ d, w' = bw w d := by
  have HB := Lib.hid (fun W => fx_bothG a0 a1 b0 b1 W)
  rw [ha, hb, Bool.and_self] at HB
  have hfa := fxB_iff.1 ha
  have hfb := fxB_iff.1 hb
  have hbx := box_in (X := 2147483648) (by decide) (a0 := a0) (a1 := a1) (b0 := b0) (b1 := b1) ⟨by omega, by omega⟩ ⟨by omega, by omega⟩ ⟨by omega, by omega⟩ ⟨by omega, by omega⟩
  have p1 := prod_in (X := 2147483648) (x := a0) (k := b0) (by decide) ⟨by omega, by omega⟩ ⟨by omega, by omega⟩
  have p2 := prod_in (X := 2147483648) (x := a0) (k := b1) (by decide) ⟨by omega, by omega⟩ ⟨by omega, by omega⟩
  have p3 := prod_in (X := 2147483648) (x := a1) (k := b0) (by decide) ⟨by omega, by omega⟩ ⟨by omega, by omega⟩
  have p4 := prod_in (X := 2147483648) (x := a1) (k := b1) (by decide) ⟨by omega, by omega⟩ ⟨by omega, by omega⟩
  have HT := Lib.hid (fun W => fx_fitG _ _ W hm)
  have HF := Lib.hid (fun W => fx_floorG (m4 a0 a1 b0 b1) 1073741824 W (by decide) (by omega) (by omega))
  have HC := Lib.hid (fun W => fx_ceilG (x4 a0 a1 b0 b1) 1073741824 W (by decide) (by omega) (by omega))
  rw [show m4 a0 a1 b0 b1 / 1073741824 = mulL a0 a1 b0 b1 from rfl] at HF
  rw [show -((-(x4 a0 a1 b0 b1)) / 1073741824) = mulH a0 a1 b0 b1 from rfl] at HC
  generalize mulL a0 a1 b0 b1 = Q at *
  generalize mulH a0 a1 b0 b1 = U at *
  have e1 : mn (mn (mn (a0 * b0) (a0 * b1)) (a1 * b0)) (a1 * b1) = m4 a0 a1 b0 b1 := rfl
  have e2 : mx (mx (mx (a0 * b0) (a0 * b1)) (a1 * b0)) (a1 * b1) = x4 a0 a1 b0 b1 := rfl
  generalize m4 a0 a1 b0 b1 = M at *
  generalize x4 a0 a1 b0 b1 = X at *
  have k1 : IntKind.i64.wrap (a0 * b0) = a0 * b0 := IntWalk.i64_in _ (by omega)
  have k2 : IntKind.i64.wrap (a0 * b1) = a0 * b1 := IntWalk.i64_in _ (by omega)
  have k3 : IntKind.i64.wrap (a1 * b0) = a1 * b0 := IntWalk.i64_in _ (by omega)
  have k4 : IntKind.i64.wrap (a1 * b1) = a1 * b1 := IntWalk.i64_in _ (by omega)
  clear hbx p1 p2 p3 p4 hfa hfb ha hb hm
  refine lay_start ?_
  go_enter Tryz.func30, Tryz.ntmps30
  go_wp2_with (go_at_call 72; refine (HB.out _).mono ?_; rintro e w' ⟨rfl, d, rfl⟩)
  refine region_bw (by kernel_rfl) (by kernel_rfl) ?_
  repeat (go_big_quiet_step ((first | fail)))
  refine wpQuiet_nil ?_
  rintro w' ⟨d, rfl⟩
  rw [lay_bw]
  go_wp2_with (first | (go_at_call 74; refine (HF.out _).mono ?_; rintro e w' ⟨rfl, rfl⟩) | (go_at_call 75; refine (HC.out _).mono ?_; rintro e w' ⟨rfl, rfl⟩) | (go_at_call 73; refine (HT.out _).mono ?_; rintro e w' ⟨rfl, d, rfl⟩))
  exact bodyPost_ret (v := .tuple #[(.agg #[.int .i64 (Q), .int .i64 (U)]), .int .i64 0]) (by simp [results, Tryz.results30, go_sem]) rfl ⟨rfl, lay_ex _ _⟩
set_option maxHeartbeats 1000000 in
set_option maxRecDepth 100000 in
theorem fx_ScaleG (p q : Int) (w : World) (h : fxB p q = true) :
    Calls Tryz.prog 31 #[(.agg #[.int .i64 (p), .int .i64 (q)]), .int .i64 250000] w fun e w' => e = .returned (.tuple #[.int .i64 (sclL p), .int .i64 (sclH q), .int .i64 0]) ∧ ∃ d, w' = bw w d := by
  have hf := fxB_iff.1 h
  have HV := Lib.hid (fun W => fx_ValidG p q W)
  rw [h] at HV
  have H1 := Lib.hid (fun W => fx_enclose2 p 250000 1073741824 (p * 250000) rfl ⟨by omega, by omega⟩ ⟨by decide, by decide⟩ (by omega) (by omega) (by decide) (by decide) W)
  have H2 := Lib.hid (fun W => fx_enclose2 q 250000 1073741824 (q * 250000) rfl ⟨by omega, by omega⟩ ⟨by decide, by decide⟩ (by omega) (by omega) (by decide) (by decide) W)
  have e1 : mn (p * 250000 / 1073741824) (q * 250000 / 1073741824) = sclL p := by rw [mn_eq]; unfold sclL; omega
  have e2 : mx (-((-(p * 250000)) / 1073741824)) (-((-(q * 250000)) / 1073741824)) = sclH q := by rw [mx_eq]; unfold sclH; omega
  generalize sclL p = L at *
  generalize sclH q = H at *
  generalize p * 250000 / 1073741824 = x1 at *
  generalize q * 250000 / 1073741824 = x2 at *
  generalize -((-(p * 250000)) / 1073741824) = y1 at *
  generalize -((-(q * 250000)) / 1073741824) = y2 at *
  clear hf h
  refine lay_start ?_
  go_enter Tryz.func31, Tryz.ntmps31
  go_wp2_with (first | (go_at_call 76; refine (HV.out _).mono ?_; rintro e w' ⟨rfl, d1, rfl⟩) | (go_at_call 77; refine (fx_factor1 _).mono ?_; rintro e w' ⟨rfl, d2, rfl⟩) | (go_at_call 78; first | (with_reducible refine (H1.out _).mono ?_; rintro e w' ⟨rfl, d3, rfl⟩) | (with_reducible refine (H2.out _).mono ?_; rintro e w' ⟨rfl, d4, rfl⟩)))
  exact bodyPost_ret (v := .tuple #[.int .i64 L, .int .i64 H, .int .i64 0]) (by simp [results, Tryz.results31, go_sem]) rfl ⟨rfl, lay_ex _ _⟩
end Go.Proofs.YtmomoeagnkjbiaaGreat
/- The reference's intervals: Mul, Scale. -/
namespace Go.Proofs.YtmomoeagnkjbiaaGreat
open Go.RowKit

set_option maxRecDepth 100000 in
theorem r4_Least (a b : Int) (w : World) :
    Calls Tryz.prog 81 #[.int .i64 a, .int .i64 b] w fun e w' => e = .returned (.int .i64 (mn a b)) ∧ ∃ d, w' = bw w d := by
  refine lay_start ?_
  rw [show mn a b = if b < a then b else a from rfl]
  by_cases h : b < a
  · rw [if_pos h]
    go_enter Tryz.func81, Tryz.ntmps81
    go_wp2_with fail
    go_ret
    exact ⟨rfl, lay_ex _ _⟩
  · rw [if_neg h]
    go_enter Tryz.func81, Tryz.ntmps81
    go_wp2_with fail
    go_ret
    exact ⟨rfl, lay_ex _ _⟩
set_option maxRecDepth 100000 in
theorem r4_Most (a b : Int) (w : World) :
    Calls Tryz.prog 82 #[.int .i64 a, .int .i64 b] w fun e w' => e = .returned (.int .i64 (mx a b)) ∧ ∃ d, w' = bw w d := by
  refine lay_start ?_
  rw [show mx a b = if a < b then b else a from rfl]
  by_cases h : a < b
  · rw [if_pos h]
    go_enter Tryz.func82, Tryz.ntmps82
    go_wp2_with fail
    go_ret
    exact ⟨rfl, lay_ex _ _⟩
  · rw [if_neg h]
    go_enter Tryz.func82, Tryz.ntmps82
    go_wp2_with fail
    go_ret
    exact ⟨rfl, lay_ex _ _⟩
set_option maxHeartbeats 400000 in
theorem r4_Floor (a b : Int) (w : World) (hb : 1 ≤ b) (h1 : -9223372036854775807 ≤ a) (h2 : a ≤ 9223372036854775807) :
    Calls Tryz.prog 84 #[.int .i64 a, .int .i64 b] w fun e w' => e = .returned (.int .i64 (a / b)) ∧ ∃ d, w' = bw w d := by
  refine lay_start ?_
  go_enter Tryz.func84, Tryz.ntmps84
  go_wp2
  · go_ret
    refine ⟨congrArg (fun x => Ending.returned (.int .i64 x)) ?_, lay_ex _ _⟩
    rw [IntWalk.wrap64_in]
    · exact floor_neg hb ‹_›
    · rw [floor_neg hb ‹_›]; have := ediv_bd hb 9223372036854775807 (by decide) h1 h2; omega
  · go_ret
    exact ⟨congrArg (fun x => Ending.returned (.int .i64 x)) (floor_pos hb ‹_›), lay_ex _ _⟩
set_option maxRecDepth 100000 in
theorem r4_Ceil (a b : Int) (w : World) (hb : 1 ≤ b) (h1 : -9223372036854775807 ≤ a) (h2 : a ≤ 9223372036854775807) :
    Calls Tryz.prog 85 #[.int .i64 a, .int .i64 b] w fun e w' => e = .returned (.int .i64 (-((-a) / b))) ∧ ∃ d, w' = bw w d := by
  have HF := Lib.hid (fun W => r4_Floor (-a) b W hb (by omega) (by omega))
  have k1 : IntKind.i64.wrap (-a) = -a := IntWalk.i64_in _ (by omega)
  have hbd := ediv_bd hb 9223372036854775807 (by decide) (show -9223372036854775807 ≤ -a by omega) (by omega)
  have k2 : IntKind.i64.wrap (-((-a) / b)) = -((-a) / b) := IntWalk.i64_in _ (by omega)
  obtain ⟨m, hm⟩ : ∃ m, -a = m := ⟨_, rfl⟩
  rw [hm] at HF k1 k2 hbd ⊢
  obtain ⟨q, hq⟩ : ∃ q, m / b = q := ⟨_, rfl⟩
  rw [hq] at HF k2 hbd ⊢
  obtain ⟨r, hr⟩ : ∃ r, -q = r := ⟨_, rfl⟩
  rw [hr] at k2 ⊢
  clear hbd hq h1 h2
  refine lay_start ?_
  go_enter Tryz.func85, Tryz.ntmps85
  go_wp2_with (go_at_call 84; refine (HF.out _).mono ?_; rintro e w' ⟨rfl, d, rfl⟩)
  go_ret
  exact ⟨rfl, lay_ex _ _⟩
set_option maxRecDepth 100000 in
theorem r4_fit (lo hi : Int) (w : World) (h : fxB lo hi = true) :
    Calls Tryz.prog 83 #[.int .i64 lo, .int .i64 hi] w fun e w' => e = .returned (.tuple #[(.agg #[.int .i64 (lo), .int .i64 (hi)]), .int .i64 0]) ∧ ∃ d, w' = bw w d := by
  have hf := fxB_iff.1 h
  have g1 : ¬ lo < -2147483648 := by omega
  have g2 : ¬ 2147483648 < hi := by omega
  clear hf h
  refine lay_start ?_
  go_enter Tryz.func83, Tryz.ntmps83
  go_wp2_with fail
  exact bodyPost_ret (v := .tuple #[(.agg #[.int .i64 (lo), .int .i64 (hi)]), .int .i64 0]) (by simp [results, Tryz.results83, go_sem]) rfl ⟨rfl, lay_ex _ _⟩
theorem mn_tree (x y z u : Int) : mn (mn x y) (mn z u) = mn (mn (mn x y) z) u := by simp only [mn_eq]; omega
theorem mx_tree (x y z u : Int) : mx (mx x y) (mx z u) = mx (mx (mx x y) z) u := by simp only [mx_eq]; omega
set_option maxHeartbeats 1000000 in
set_option maxRecDepth 100000 in
theorem r4_Mul (a0 a1 b0 b1 : Int) (w : World) (ha : fxB a0 a1 = true) (hb : fxB b0 b1 = true) (hm : fxB (mulL a0 a1 b0 b1) (mulH a0 a1 b0 b1) = true) :
    Calls Tryz.prog 33 #[(.agg #[.int .i64 (a0), .int .i64 (a1)]), (.agg #[.int .i64 (b0), .int .i64 (b1)])] w fun e w' => e = .returned (.tuple #[(.agg #[.int .i64 (mulL a0 a1 b0 b1), .int .i64 (mulH a0 a1 b0 b1)]), .int .i64 0]) ∧ ∃ d, w' = bw w d := by
  have hfa := fxB_iff.1 ha
  have hfb := fxB_iff.1 hb
  have hbx := box_in (X := 2147483648) (by decide) (a0 := a0) (a1 := a1) (b0 := b0) (b1 := b1) ⟨by omega, by omega⟩ ⟨by omega, by omega⟩ ⟨by omega, by omega⟩ ⟨by omega, by omega⟩
  have p1 := prod_in (X := 2147483648) (x := a0) (k := b0) (by decide) ⟨by omega, by omega⟩ ⟨by omega, by omega⟩
  have p2 := prod_in (X := 2147483648) (x := a0) (k := b1) (by decide) ⟨by omega, by omega⟩ ⟨by omega, by omega⟩
  have p3 := prod_in (X := 2147483648) (x := a1) (k := b0) (by decide) ⟨by omega, by omega⟩ ⟨by omega, by omega⟩
  have p4 := prod_in (X := 2147483648) (x := a1) (k := b1) (by decide) ⟨by omega, by omega⟩ ⟨by omega, by omega⟩
  have HT := Lib.hid (fun W => r4_fit _ _ W hm)
  have HF := Lib.hid (fun W => r4_Floor (m4 a0 a1 b0 b1) 1073741824 W (by decide) (by omega) (by omega))
  have HC := Lib.hid (fun W => r4_Ceil (x4 a0 a1 b0 b1) 1073741824 W (by decide) (by omega) (by omega))
  rw [show m4 a0 a1 b0 b1 / 1073741824 = mulL a0 a1 b0 b1 from rfl] at HF
  rw [show -((-(x4 a0 a1 b0 b1)) / 1073741824) = mulH a0 a1 b0 b1 from rfl] at HC
  generalize mulL a0 a1 b0 b1 = Q at *
  generalize mulH a0 a1 b0 b1 = U at *
  have e1 : mn (mn (a0 * b0) (a0 * b1)) (mn (a1 * b0) (a1 * b1)) = m4 a0 a1 b0 b1 := mn_tree _ _ _ _
  have e2 : mx (mx (a0 * b0) (a0 * b1)) (mx (a1 * b0) (a1 * b1)) = x4 a0 a1 b0 b1 := mx_tree _ _ _ _
  generalize m4 a0 a1 b0 b1 = M at *
  generalize x4 a0 a1 b0 b1 = X at *
  have k1 : IntKind.i64.wrap (a0 * b0) = a0 * b0 := IntWalk.i64_in _ (by omega)
  have k2 : IntKind.i64.wrap (a0 * b1) = a0 * b1 := IntWalk.i64_in _ (by omega)
  have k3 : IntKind.i64.wrap (a1 * b0) = a1 * b0 := IntWalk.i64_in _ (by omega)
  have k4 : IntKind.i64.wrap (a1 * b1) = a1 * b1 := IntWalk.i64_in _ (by omega)
  clear hbx p1 p2 p3 p4 hfa hfb ha hb hm
  refine lay_start ?_
  go_enter Tryz.func33, Tryz.ntmps33
  go_wp2_with fail
  refine region_bw (by kernel_rfl) (by kernel_rfl) ?_
  repeat (go_big_quiet_step ((first | fail)))
  refine wpQuiet_nil ?_
  rintro w' ⟨d, rfl⟩
  rw [lay_bw]
  go_wp2_with (first | (go_at_call 81; refine (r4_Least _ _ _).mono ?_; rintro e w' ⟨rfl, d1, rfl⟩) | (go_at_call 82; refine (r4_Most _ _ _).mono ?_; rintro e w' ⟨rfl, d2, rfl⟩) | (go_at_call 84; refine (HF.out _).mono ?_; rintro e w' ⟨rfl, d3, rfl⟩) | (go_at_call 85; refine (HC.out _).mono ?_; rintro e w' ⟨rfl, d4, rfl⟩) | (go_at_call 83; refine (HT.out _).mono ?_; rintro e w' ⟨rfl, d5, rfl⟩))
  exact bodyPost_ret (v := .tuple #[(.agg #[.int .i64 (Q), .int .i64 (U)]), .int .i64 0]) (by simp [results, Tryz.results33, go_sem]) rfl ⟨rfl, lay_ex _ _⟩
set_option maxHeartbeats 1000000 in
set_option maxRecDepth 100000 in
theorem r4_times (x n : Int) (w : World) (hx : -2147483648 ≤ x ∧ x ≤ 2147483648) (hn : n = 250000 ∨ n = -250000) :
    Calls Tryz.prog 129 #[.int .i64 x, .int .i64 n, .int .i64 1073741824] w fun e w' => e = .returned (.int .i64 (x * n / 1073741824)) ∧ ∃ d, w' = bw w d := by
  have HZ := Lib.hid (fun W => r4_Floor 0 1073741824 W (by decide) (by decide) (by decide))
  rw [show (0 : Int) / 1073741824 = 0 by decide] at HZ
  have HF : Hid (∀ W, Calls Tryz.prog 84 #[.int .i64 (x * n), .int .i64 1073741824] W fun e w' => e = .returned (.int .i64 (x * n / 1073741824)) ∧ ∃ d, w' = bw W d) := Lib.hid fun W => r4_Floor (x * n) 1073741824 W (by decide) (by rcases hn with rfl | rfl <;> omega) (by rcases hn with rfl | rfl <;> omega)
  have kx : IntKind.i64.wrap (x * n) = x * n := IntWalk.i64_in _ (by rcases hn with rfl | rfl <;> omega)
  have kq : IntKind.i64.wrap (x * n / 1073741824) = x * n / 1073741824 := IntWalk.i64_in _ (by rcases hn with rfl | rfl <;> omega)
  obtain ⟨q, hq⟩ : ∃ q, x * n / 1073741824 = q := ⟨_, rfl⟩
  rw [hq] at HF kq ⊢
  clear hq hx
  refine lay_start ?_
  rcases hn with rfl | rfl
  all_goals
    go_enter Tryz.func129, Tryz.ntmps129
    go_wp2_with (go_at_call 84; first | (with_reducible refine (HF.out _).mono ?_; rintro e w' ⟨rfl, d1, rfl⟩) | (with_reducible refine (HZ.out _).mono ?_; rintro e w' ⟨rfl, d2, rfl⟩))
    go_ret
    exact ⟨rfl, lay_ex _ _⟩
end Go.Proofs.YtmomoeagnkjbiaaGreat
/- The reference's Scale. -/
namespace Go.Proofs.YtmomoeagnkjbiaaGreat
open Go.RowKit

set_option maxHeartbeats 2000000 in
set_option maxRecDepth 100000 in
theorem r4_corners (p q : Int) (w : World) (hp : -2147483648 ≤ p ∧ p ≤ 2147483648) (hq : -2147483648 ≤ q ∧ q ≤ 2147483648) (h : p ≤ q) :
    Calls Tryz.prog 88 #[(.agg #[.int .i64 (p), .int .i64 (q)]), (.agg #[.int .i64 (1073741824), .int .i64 (1073741824)]), .int .i64 250000] w fun e w' => e = .returned (.tuple #[.int .i64 (sclL p), .int .i64 (sclH q)]) ∧ ∃ d, w' = bw w d := by
  have H1 := Lib.hid (fun W => r4_times p 250000 W hp (.inl rfl))
  have H2 := Lib.hid (fun W => r4_times q 250000 W hq (.inl rfl))
  have H3 := Lib.hid (fun W => r4_times p (-250000) W hp (.inr rfl))
  have H4 := Lib.hid (fun W => r4_times q (-250000) W hq (.inr rfl))
  obtain ⟨x, hx⟩ : ∃ x, p * 250000 / 1073741824 = x := ⟨_, rfl⟩
  obtain ⟨y, hy⟩ : ∃ y, q * 250000 / 1073741824 = y := ⟨_, rfl⟩
  obtain ⟨z, hz⟩ : ∃ z, p * (-250000) / 1073741824 = z := ⟨_, rfl⟩
  obtain ⟨u, hu⟩ : ∃ u, q * (-250000) / 1073741824 = u := ⟨_, rfl⟩
  rw [hx] at H1
  rw [hy] at H2
  rw [hz] at H3
  rw [hu] at H4
  have e1 : mn (mn x x) (mn y y) = sclL p := by simp only [mn_eq]; unfold sclL; omega
  have e2 : mn (mn z z) (mn u u) = -(sclH q) := by simp only [mn_eq]; unfold sclH; omega
  have k : IntKind.i64.wrap (sclH q) = sclH q := IntWalk.i64_in _ (by unfold sclH; omega)
  generalize sclL p = L at *
  generalize sclH q = H at *
  obtain ⟨G, hG⟩ : ∃ G, -H = G := ⟨_, rfl⟩
  rw [hG] at e2
  have e3 : -G = H := by omega
  clear hx hy hz hu hp hq h hG
  rw [← e1]
  clear e1
  refine lay_start ?_
  go_enter Tryz.func88, Tryz.ntmps88
  go_wp2_with fail
  refine region_bw (by kernel_rfl) (by kernel_rfl) ?_
  repeat (go_big_quiet_step ((first | (go_at_call 129; first | ((with_reducible refine bq (H1.out _) ?_); exact (fun d => lay_join _ _ _ d)) | ((with_reducible refine bq (H2.out _) ?_); exact (fun d => lay_join _ _ _ d))) | (go_at_call 81; ((with_reducible refine bq (r4_Least _ _ _) ?_); exact (fun d => lay_join _ _ _ d))))))
  refine wpQuiet_nil ?_
  rintro w' ⟨d, rfl⟩
  rw [lay_bw]
  go_wp2_with fail
  refine region_bw (by kernel_rfl) (by kernel_rfl) ?_
  repeat (go_big_quiet_step ((first | (go_at_call 129; first | ((with_reducible refine bq (H3.out _) ?_); exact (fun d => lay_join _ _ _ d)) | ((with_reducible refine bq (H4.out _) ?_); exact (fun d => lay_join _ _ _ d))) | (go_at_call 81; ((with_reducible refine bq (r4_Least _ _ _) ?_); exact (fun d => lay_join _ _ _ d))))))
  refine wpQuiet_nil ?_
  rintro w' ⟨d, rfl⟩
  rw [lay_bw]
  go_wp2_with fail
  go_ret2
  exact ⟨rfl, lay_ex _ _⟩
set_option maxRecDepth 100000 in
theorem r4_reaches (w : World) :
    Calls Tryz.prog 87 #[.int .i64 250000] w fun e w' => e = .returned (.bool true) ∧ ∃ d, w' = bw w d := by
  refine lay_start ?_
  go_enter Tryz.func87, Tryz.ntmps87
  go_wp2_with fail
  go_ret
  exact ⟨rfl, lay_ex _ _⟩
set_option maxRecDepth 100000 in
theorem r4_Scale (p q : Int) (w : World) (h : fxB p q = true) :
    Calls Tryz.prog 36 #[(.agg #[.int .i64 (p), .int .i64 (q)]), .int .i64 250000] w fun e w' => e = .returned (.tuple #[.int .i64 (sclL p), .int .i64 (sclH q), .int .i64 0]) ∧ ∃ d, w' = bw w d := by
  have hf := fxB_iff.1 h
  have HC := Lib.hid (fun W => r4_corners p q W ⟨by omega, by omega⟩ ⟨by omega, by omega⟩ hf.1)
  generalize sclL p = L at *
  generalize sclH q = H at *
  clear hf h
  refine lay_start ?_
  go_enter Tryz.func36, Tryz.ntmps36
  go_wp2_with (first | (go_at_call 87; refine (r4_reaches _).mono ?_; rintro e w' ⟨rfl, d1, rfl⟩) | (go_at_call 88; refine (HC.out _).mono ?_; rintro e w' ⟨rfl, d2, rfl⟩))
  exact bodyPost_ret (v := .tuple #[.int .i64 L, .int .i64 H, .int .i64 0]) (by simp [results, Tryz.results36, go_sem]) rfl ⟨rfl, lay_ex _ _⟩
end Go.Proofs.YtmomoeagnkjbiaaGreat
