/- Contracts and plain laws, several texts in one: FxM; Alm2; Alm3 -/
import Derived.Test.YtkhhdpndcidmgaaGreatProg
import Derived.WalkKit
import Derived.WalkSpells
import Derived.WalkLawsBesides
import Derived.Lib.Hide
import Derived.BigQuiet
import Derived.Test.YtkhhdpndcidmgaaGreatSAC
import Derived.Test.YtkhhdpndcidmgaaGreatSAD
import Derived.Test.YtkhhdpndcidmgaaGreatSAE
import Derived.Test.YtkhhdpndcidmgaaGreatSAQ
import Derived.Test.YtkhhdpndcidmgaaGreatSAU
import Derived.Test.YtkhhdpndcidmgaaGreatSAV
/- fixed: Valid, floor, ceil, fit, Mul, Sub, Add, without average's functions. -/
namespace Go.Proofs.YtkhhdpndcidmgaaGreat
set_option maxRecDepth 100000
open Go.RowKit

section
variable {P : Program} {w : World}
theorem run_mn4 (ts : Array TypeId) (t : TypeId) (k k' k'' k3 : IntKind) (x y z u : Int) : (Builtin.min_ ts t #[.int k x, .int k' y, .int k'' z, .int k3 u]).run P w = .ok (.int k (mn (mn (mn x y) z) u)) w := by
  simp [Builtin.min_, Builtin.min2, mn]
  rfl
theorem run_mx4 (ts : Array TypeId) (t : TypeId) (k k' k'' k3 : IntKind) (x y z u : Int) : (Builtin.max_ ts t #[.int k x, .int k' y, .int k'' z, .int k3 u]).run P w = .ok (.int k (mx (mx (mx x y) z) u)) w := by
  simp [Builtin.max_, Builtin.max2, mx]
  rfl
end
attribute [go_sem ↓] run_mn4 run_mx4
def fxB (lo hi : Int) : Bool := decide (lo ≤ hi ∧ -2147483648 ≤ lo ∧ hi ≤ 2147483648)
theorem fxB_iff {lo hi : Int} : fxB lo hi = true ↔ lo ≤ hi ∧ -2147483648 ≤ lo ∧ hi ≤ 2147483648 := by simp [fxB]
theorem fx_ValidG (lo hi : Int) (w : World) :
    Calls Tryz.prog 71 #[(.agg #[.int .i64 (lo), .int .i64 (hi)])] w fun e w' => e = .returned (.bool (fxB lo hi)) ∧ ∃ d, w' = bw w d := by
  refine lay_start ?_
  go_enter Tryz.func71, Tryz.ntmps71
  go_wp2
  all_goals go_ret
  all_goals exact ⟨ret_bool (by rw [Bool.eq_iff_iff]; simp [fxB]; omega), lay_ex _ _⟩
theorem fx_bothG (a b c d : Int) (w : World) :
    Calls Tryz.prog 36 #[(.agg #[.int .i64 (a), .int .i64 (b)]), (.agg #[.int .i64 (c), .int .i64 (d)])] w fun e w' => e = .returned (.bool (fxB a b && fxB c d)) ∧ ∃ d, w' = bw w d := by
  have H1 := Lib.hid (fun W => fx_ValidG a b W)
  have H2 := Lib.hid (fun W => fx_ValidG c d W)
  generalize fxB a b = x at *
  generalize fxB c d = y at *
  cases x <;> cases y
  all_goals
    refine lay_start ?_
    go_enter Tryz.func36, Tryz.ntmps36
    go_wp2_with (go_at_call 71; first | (with_reducible refine (H1.out _).mono ?_; rintro e w' ⟨rfl, d1, rfl⟩) | (with_reducible refine (H2.out _).mono ?_; rintro e w' ⟨rfl, d2, rfl⟩))
    go_ret
    exact ⟨rfl, lay_ex _ _⟩
theorem fx_floorG (a b : Int) (w : World) (hb : 1 ≤ b) (h1 : -9223372036854775807 ≤ a) (h2 : a ≤ 9223372036854775807) :
    Calls Tryz.prog 38 #[.int .i64 a, .int .i64 b] w fun e w' => e = .returned (.int .i64 (a / b)) ∧ w' = w := by
  have hb0 : ¬ b < 0 := by omega
  by_cases hr : a.tmod b < 0
  · have e0 := floor_neg hb hr
    have hbd := ediv_bd hb 9223372036854775807 (by decide) h1 h2
    have hk : IntKind.i64.wrap (a / b) = a / b := IntWalk.i64_in _ (by omega)
    obtain ⟨q, hq⟩ : ∃ q, a / b = q := ⟨_, rfl⟩
    rw [hq] at e0 hk ⊢
    have ha : a < 0 := by
      rcases Int.lt_or_le a 0 with h | h
      · exact h
      · rw [Int.tmod_eq_emod_of_nonneg h] at hr; have := Int.emod_nonneg a (show b ≠ 0 by omega); omega
    have hz : (a.tmod b != 0) = true := bne_iff_ne.2 (by omega)
    go_enter Tryz.func38, Tryz.ntmps38
    go_wp2_with fail
    go_ret
    exact ⟨rfl, rfl⟩
  · have e0 := floor_pos (a := a) hb (by omega)
    obtain ⟨q, hq⟩ : ∃ q, a / b = q := ⟨_, rfl⟩
    have hbd := ediv_bd hb 9223372036854775807 (by decide) h1 h2
    have hk : IntKind.i64.wrap (a / b) = a / b := IntWalk.i64_in _ (by omega)
    rw [hq] at e0 hk ⊢
    by_cases ha : a < 0
    · have hz : (a.tmod b != 0) = false := by
        have h3 : a.tmod b = -((-a) % b) := by
          have := Int.neg_tmod (a := -a) (b := b)
          rw [Int.neg_neg] at this
          rw [this, Int.tmod_eq_emod_of_nonneg (by omega)]
        have h4 := Int.emod_nonneg (-a) (show b ≠ 0 by omega)
        have : a.tmod b = 0 := by omega
        rw [this]; rfl
      go_enter Tryz.func38, Tryz.ntmps38
      go_wp2_with fail
      go_ret
      exact ⟨rfl, rfl⟩
    · go_enter Tryz.func38, Tryz.ntmps38
      go_wp2_with fail
      all_goals
        go_ret
        exact ⟨rfl, rfl⟩
theorem fx_ceilG (a b : Int) (w : World) (hb : 1 ≤ b) (h1 : -9223372036854775807 ≤ a) (h2 : a ≤ 9223372036854775807) :
    Calls Tryz.prog 39 #[.int .i64 a, .int .i64 b] w fun e w' => e = .returned (.int .i64 (-((-a) / b))) ∧ w' = w := by
  have HF := Lib.hid (fun W => fx_floorG (-a) b W hb (by omega) (by omega))
  have k1 : IntKind.i64.wrap (-a) = -a := IntWalk.i64_in _ (by omega)
  have hbd := ediv_bd hb 9223372036854775807 (by decide) (show -9223372036854775807 ≤ -a by omega) (by omega)
  have k2 : IntKind.i64.wrap (-((-a) / b)) = -((-a) / b) := IntWalk.i64_in _ (by omega)
  obtain ⟨m, hm⟩ : ∃ m, -a = m := ⟨_, rfl⟩
  rw [hm] at HF k1 k2 hbd ⊢
  obtain ⟨q, hq⟩ : ∃ q, m / b = q := ⟨_, rfl⟩
  rw [hq] at HF k2 hbd ⊢
  obtain ⟨r, hr⟩ : ∃ r, -q = r := ⟨_, rfl⟩
  rw [hr] at k2 ⊢
  clear hbd hq h1 h2
  go_enter Tryz.func39, Tryz.ntmps39
  go_wp2_with (go_at_call 38; refine (HF.out _).mono ?_; rintro e w' ⟨rfl, rfl⟩)
  go_ret
  exact ⟨rfl, rfl⟩
theorem fx_fitG (lo hi : Int) (w : World) (h : fxB lo hi = true) :
    Calls Tryz.prog 37 #[.int .i64 lo, .int .i64 hi] w fun e w' => e = .returned (.tuple #[(.agg #[.int .i64 (lo), .int .i64 (hi)]), .int .i64 0]) ∧ ∃ d, w' = bw w d := by
  have HV := Lib.hid (fun W => fx_ValidG lo hi W)
  rw [h] at HV
  refine lay_start ?_
  go_enter Tryz.func37, Tryz.ntmps37
  go_wp2_with (go_at_call 71; refine (HV.out _).mono ?_; rintro e w' ⟨rfl, d, rfl⟩)
  exact bodyPost_ret (v := .tuple #[(.agg #[.int .i64 (lo), .int .i64 (hi)]), .int .i64 0]) (by simp [results, Tryz.results37, go_sem]) rfl ⟨rfl, lay_ex _ _⟩
set_option maxHeartbeats 1000000 in
theorem fx_MulG (a0 a1 b0 b1 : Int) (w : World) (ha : fxB a0 a1 = true) (hb : fxB b0 b1 = true) (hm : fxB (mulL a0 a1 b0 b1) (mulH a0 a1 b0 b1) = true) :
    Calls Tryz.prog 11 #[(.agg #[.int .i64 (a0), .int .i64 (a1)]), (.agg #[.int .i64 (b0), .int .i64 (b1)])] w fun e w' => e = .returned (.tuple #[(.agg #[.int .i64 (mulL a0 a1 b0 b1), .int .i64 (mulH a0 a1 b0 b1)]), .int .i64 0]) ∧ ∃ d, w' = bw w d := by
  have HB := Lib.hid (fun W => fx_bothG a0 a1 b0 b1 W)
  rw [ha, hb, Bool.and_self] at HB
  have hfa := fxB_iff.1 ha
  have hfb := fxB_iff.1 hb
  have hbx := box_in (X := 2147483648) (by decide) (a0 := a0) (a1 := a1) (b0 := b0) (b1 := b1) ⟨by omega, by omega⟩ ⟨by omega, by omega⟩ ⟨by omega, by omega⟩ ⟨by omega, by omega⟩
  have p1 := prod_in (X := 2147483648) (x := a0) (k := b0) (by decide) ⟨by omega, by omega⟩ ⟨by omega, by omega⟩
  have p2 := prod_in (X := 2147483648) (x := a0) (k := b1) (by decide) ⟨by omega, by omega⟩ ⟨by omega, by omega⟩
  have p3 := prod_in (X := 2147483648) (x := a1) (k := b0) (by decide) ⟨by omega, by omega⟩ ⟨by omega, by omega⟩
  have p4 := prod_in (X := 2147483648) (x := a1) (k := b1) (by decide) ⟨by omega, by omega⟩ ⟨by omega, by omega⟩
  have HT := Lib.hid (fun W => fx_fitG _ _ W hm)
  have HF := Lib.hid (fun W => fx_floorG (m4 a0 a1 b0 b1) 1073741824 W (by decide) (by omega) (by omega))
  have HC := Lib.hid (fun W => fx_ceilG (x4 a0 a1 b0 b1) 1073741824 W (by decide) (by omega) (by omega))
  rw [show m4 a0 a1 b0 b1 / 1073741824 = mulL a0 a1 b0 b1 from rfl] at HF
  rw [show -((-(x4 a0 a1 b0 b1)) / 1073741824) = mulH a0 a1 b0 b1 from rfl] at HC
  generalize mulL a0 a1 b0 b1 = Q at *
  generalize mulH a0 a1 b0 b1 = U at *
  have e1 : mn (mn (mn (a0 * b0) (a0 * b1)) (a1 * b0)) (a1 * b1) = m4 a0 a1 b0 b1 := rfl
  have e2 : mx (mx (mx (a0 * b0) (a0 * b1)) (a1 * b0)) (a1 * b1) = x4 a0 a1 b0 b1 := rfl
  generalize m4 a0 a1 b0 b1 = M at *
  generalize x4 a0 a1 b0 b1 = X at *
  have k1 : IntKind.i64.wrap (a0 * b0) = a0 * b0 := IntWalk.i64_in _ (by omega)
  have k2 : IntKind.i64.wrap (a0 * b1) = a0 * b1 := IntWalk.i64_in _ (by omega)
  have k3 : IntKind.i64.wrap (a1 * b0) = a1 * b0 := IntWalk.i64_in _ (by omega)
  have k4 : IntKind.i64.wrap (a1 * b1) = a1 * b1 := IntWalk.i64_in _ (by omega)
  clear hbx p1 p2 p3 p4 hfa hfb ha hb hm
  refine lay_start ?_
  go_enter Tryz.func11, Tryz.ntmps11
  go_wp2_with (go_at_call 36; refine (HB.out _).mono ?_; rintro e w' ⟨rfl, d, rfl⟩)
  refine region_bw (by kernel_rfl) (by kernel_rfl) ?_
  repeat (go_big_quiet_step ((first | fail)))
  refine wpQuiet_nil ?_
  rintro w' ⟨d, rfl⟩
  rw [lay_bw]
  go_wp2_with (first | (go_at_call 38; refine (HF.out _).mono ?_; rintro e w' ⟨rfl, rfl⟩) | (go_at_call 39; refine (HC.out _).mono ?_; rintro e w' ⟨rfl, rfl⟩) | (go_at_call 37; refine (HT.out _).mono ?_; rintro e w' ⟨rfl, d, rfl⟩))
  exact bodyPost_ret (v := .tuple #[(.agg #[.int .i64 (Q), .int .i64 (U)]), .int .i64 0]) (by simp [results, Tryz.results11, go_sem]) rfl ⟨rfl, lay_ex _ _⟩
end Go.Proofs.YtkhhdpndcidmgaaGreat
/- Sums of arcs (package angle). -/
namespace Go.Proofs.YtkhhdpndcidmgaaGreat
set_option maxHeartbeats 400000
open Go.RowKit

theorem angle_result (lo hi : Int) (w : World) (hv : validB lo hi = true) :
    Calls Tryz.prog 104 #[.int .i64 lo, .int .i64 hi] w fun e w' => e = .returned (.tuple #[(.agg #[.int .i64 (lo), .int .i64 (hi)]), .int .i64 0]) ∧ ∃ d, w' = bw w d := by
  refine lay_start ?_
  obtain ⟨g1, g2, g3⟩ := validB_iff.1 hv
  have q1 : fitsB lo = true := by simp [fitsB]; omega
  have q2 : fitsB hi = true := by simp [fitsB]; omega
  have c1 := fun w => angle_fits lo w
  have c2 := fun w => angle_fits hi w
  rw [q1] at c1
  rw [q2] at c2
  go_enter Tryz.func104, Tryz.ntmps104
  go_wp2_with (go_at_call 74; first | (with_reducible refine (c1 _).mono ?_; rintro e w' ⟨rfl, rfl⟩) | (with_reducible refine (c2 _).mono ?_; rintro e w' ⟨rfl, rfl⟩))
  all_goals exact bodyPost_ret (v := .tuple #[(.agg #[.int .i64 (lo), .int .i64 (hi)]), .int .i64 0]) (by simp [results, Tryz.results104, go_sem]) rfl ⟨rfl, lay_ex _ _⟩
theorem angle_Add (a b x y : Int) (w : World) (h1 : validB a b = true) (h2 : validB x y = true) (h3 : validB (a + x) (b + y) = true) :
    Calls Tryz.prog 65 #[(.agg #[.int .i64 (a), .int .i64 (b)]), (.agg #[.int .i64 (x), .int .i64 (y)])] w fun e w' => e = .returned (.tuple #[(.agg #[.int .i64 (a + x), .int .i64 (b + y)]), .int .i64 0]) ∧ ∃ d, w' = bw w d := by
  refine lay_start ?_
  obtain ⟨g1, g2, g3⟩ := validB_iff.1 h1
  obtain ⟨k1, k2, k3⟩ := validB_iff.1 h2
  have c1 := fun w => angle_Valid a b w
  rw [h1] at c1
  have c2 := fun w => angle_Valid x y w
  rw [h2] at c2
  have c3 := fun w => angle_result (a + x) (b + y) w h3
  have f1 : wrap64 (a + x) = a + x := by unfold wrap64; omega
  have f2 : wrap64 (b + y) = b + y := by unfold wrap64; omega
  go_enter Tryz.func65, Tryz.ntmps65
  go_wp2_with (first | (go_at_call 32; first | (with_reducible refine (c1 _).mono ?_; rintro e w' ⟨rfl, d, rfl⟩) | (with_reducible refine (c2 _).mono ?_; rintro e w' ⟨rfl, d, rfl⟩)) | (go_at_call 104; refine (c3 _).mono ?_; rintro e w' ⟨rfl, d, rfl⟩))
  all_goals exact bodyPost_ret (v := .tuple #[(.agg #[.int .i64 (a + x), .int .i64 (b + y)]), .int .i64 0]) (by simp [results, Tryz.results65, go_sem]) rfl ⟨rfl, lay_ex _ _⟩
theorem angle_Neg (a b : Int) (w : World) (h1 : validB a b = true) :
    Calls Tryz.prog 105 #[(.agg #[.int .i64 (a), .int .i64 (b)])] w fun e w' => e = .returned (.tuple #[(.agg #[.int .i64 (-b), .int .i64 (-a)]), .int .i64 0]) ∧ ∃ d, w' = bw w d := by
  refine lay_start ?_
  obtain ⟨g1, g2, g3⟩ := validB_iff.1 h1
  have c1 := fun w => angle_Valid a b w
  rw [h1] at c1
  have c3 := fun w => angle_result (-b) (-a) w (validB_iff.2 ⟨by omega, by omega, by omega⟩)
  go_enter Tryz.func105, Tryz.ntmps105
  go_wp2_with (first | (go_at_call 32; refine (c1 _).mono ?_; rintro e w' ⟨rfl, d, rfl⟩) | (go_at_call 104; refine (c3 _).mono ?_; rintro e w' ⟨rfl, d, rfl⟩))
  all_goals exact bodyPost_ret (v := .tuple #[(.agg #[.int .i64 (-b), .int .i64 (-a)]), .int .i64 0]) (by simp [results, Tryz.results105, go_sem]) rfl ⟨rfl, lay_ex _ _⟩
theorem angle_Sub (a b x y : Int) (w : World) (h1 : validB a b = true) (h2 : validB x y = true) (h3 : validB (a + -y) (b + -x) = true) :
    Calls Tryz.prog 67 #[(.agg #[.int .i64 (a), .int .i64 (b)]), (.agg #[.int .i64 (x), .int .i64 (y)])] w fun e w' => e = .returned (.tuple #[(.agg #[.int .i64 (a + -y), .int .i64 (b + -x)]), .int .i64 0]) ∧ ∃ d, w' = bw w d := by
  refine lay_start ?_
  obtain ⟨k1, k2, k3⟩ := validB_iff.1 h2
  have c1 := fun w => angle_Neg x y w h2
  have c3 := fun w => angle_Add a b (-y) (-x) w h1 (validB_iff.2 ⟨by omega, by omega, by omega⟩) h3
  go_enter Tryz.func67, Tryz.ntmps67
  go_wp2_with (first | (go_at_call 105; refine (c1 _).mono ?_; rintro e w' ⟨rfl, d, rfl⟩) | (go_at_call 65; refine (c3 _).mono ?_; rintro e w' ⟨rfl, d, rfl⟩))
  all_goals exact bodyPost_ret (v := .tuple #[(.agg #[.int .i64 (a + -y), .int .i64 (b + -x)]), .int .i64 0]) (by simp [results, Tryz.results67, go_sem]) rfl ⟨rfl, lay_ex _ _⟩
end Go.Proofs.YtkhhdpndcidmgaaGreat
/- almanac.star: where a star is over a time. -/
namespace Go.Proofs.YtkhhdpndcidmgaaGreat
open Go.RowKit

theorem turn_bd {x y : Int} (h : x ≤ y) : 0 ≤ turnLo x y ∧ turnLo x y ≤ 21599999 ∧ turnLo x y ≤ turnHi x y ∧ turnHi x y ≤ turnLo x y + 21600000 := by
  unfold turnLo turnHi
  split <;> omega
theorem turn_valid {x y : Int} (h : x ≤ y) : validB (turnLo x y) (turnHi x y) = true := by
  have := turn_bd h
  rw [validB_iff]; omega
def agL (a b : Int) : Int := turnLo (ariF a) (ariU b)
def agH (a b : Int) : Int := turnHi (ariF a) (ariU b)
theorem ag_bd {a b : Int} (h : a ≤ b) : 0 ≤ agL a b ∧ agL a b ≤ 21599999 ∧ agL a b ≤ agH a b ∧ agH a b ≤ agL a b + 21600000 := turn_bd (ariF_le h)
theorem ag_valid {a b : Int} (h : a ≤ b) : validB (agL a b) (agH a b) = true := turn_valid (ariF_le h)
def sgL (a b sha : Int) : Int := turnLo (agL a b + (100 * sha - 50)) (agH a b + (100 * sha + 50))
def sgH (a b sha : Int) : Int := turnHi (agL a b + (100 * sha - 50)) (agH a b + (100 * sha + 50))
def dcL (n : Int) : Int := mx (100 * n - 50) (-5400000)
def dcH (n : Int) : Int := mn (100 * n + 50) 5400000
set_option maxHeartbeats 1000000 in
set_option maxRecDepth 100000 in
theorem alm_star (s : ByteArray) (sha dec mag a b : Int) (w : World) (hv : timB a b = true) (h0 : 0 ≤ sha) (h1 : sha ≤ 215999) (d0 : -54000 ≤ dec) (d1 : dec ≤ 54000) :
    Calls Tryz.prog 63 #[.agg #[.string s, .int .i64 sha, .int .i64 dec, .int .i64 mag], (.agg #[.int .i64 (a), .int .i64 (b)])] w fun e w' =>
      e = .returned (.tuple #[(.agg #[.int .i64 (sgL a b sha), .int .i64 (sgH a b sha), .int .i64 (dcL dec), .int .i64 (dcH dec), .int .i64 (0), .int .i64 (0), .int .i64 (0), .int .i64 (0)]), .int .i64 0]) ∧ ∃ d, w' = bw w d := by
  obtain ⟨g1, g2, g3⟩ := timB_iff.1 hv
  have HI := Lib.hid (fun w => sid_Interval a b w hv)
  have HA := Lib.hid (fun w => alm_around sha w (by omega) (by omega))
  have HD := Lib.hid (fun w => alm_around dec w (by omega) (by omega))
  have b1 := ag_bd g1
  have HS := Lib.hid (fun w => angle_Add (agL a b) (agH a b) (100 * sha - 50) (100 * sha + 50) w (ag_valid g1) (validB_iff.2 (by omega)) (validB_iff.2 (by omega)))
  have HT := Lib.hid (fun w => angle_Turn (agL a b + (100 * sha - 50)) (agH a b + (100 * sha + 50)) w (validB_iff.2 (by omega)))
  unfold sgL sgH dcL dcH
  change Hid (∀ w, Calls Tryz.prog _ _ w fun e w' => e = .returned (.tuple #[(.agg #[.int .i64 (agL a b), .int .i64 (agH a b)]), .int .i64 0]) ∧ ∃ d, w' = bw w d) at HI
  generalize agL a b = x at *
  generalize agH a b = y at *
  generalize turnLo (x + (100 * sha - 50)) (y + (100 * sha + 50)) = p at *
  generalize turnHi (x + (100 * sha - 50)) (y + (100 * sha + 50)) = q at *
  clear g1 g2 g3 hv b1
  refine lay_start ?_
  go_enter Tryz.func63, Tryz.ntmps63
  go_wp2_with (first | (go_at_call 62; refine (HI.out _).mono ?_; rintro e w' ⟨rfl, dI, rfl⟩))
  refine region_mixC [(1, 0), (2, 0), (3, 0), (0, 1), (4, 0), (5, 0), (6, 0), (7, 0), (8, 1), (9, 0)] (lay w [.inr dI, .inl (.cells #[.int .i64 0, .int .i64 0, .int .i64 0, .int .i64 0, .int .i64 0, .int .i64 0, .int .i64 0, .int .i64 0] 53 (0, 0)), .inl (.cells #[.int .i64 a, .int .i64 b] 43 (0, 0)), .inl (.cells #[.string s, .int .i64 sha, .int .i64 dec, .int .i64 mag] 42 (0, 0))]) (by kernel_rfl) (by kernel_rfl) (by kernel_rfl) rfl (by first | exact lay_in w [] _ | exact lay_in w [_] _ | exact lay_in w [_, _] _ | exact lay_in w [_, _, _] _ | exact lay_in w [_, _, _, _] _) ?_
  repeat (first | (refine wpMP_quiet rfl (fun K hK => ?_); go_simp; first | (refine hK _ ?_; clear hK K) | (apply Exists.intro; refine ⟨fun _ => ?_, hK _ ?_⟩; (first | (go_at_call 99; exact bq (HA.out _) (fun d => ⟨d, rfl⟩)) | (go_at_call 99; exact bq (HA.out _) (fun d => lay_join _ _ _ d)) | (go_at_call 65; exact bq (HS.out _) (fun d => ⟨d, rfl⟩)) | (go_at_call 65; exact bq (HS.out _) (fun d => lay_join _ _ _ d))); clear hK K)) | (refine wpMP_special rfl (fun K hK d => ?_); go_simp; refine hK _ _ (by first | exact lay_in w [_] _ | exact lay_in w [_, _] _ | exact lay_in w [_, _, _] _ | exact lay_in w [_, _, _, _] _ | exact lay_in w [_, _, _, _, _] _ | exact lay_in w [_, _, _, _, _, _] _) ?_; clear hK K))
  refine wpMP_nil ?_
  intro d
  rw [lay_bw]
  go_wp2_with (first | (go_at_call 8; refine (HT.out _).mono ?_; rintro e w' ⟨rfl, d, rfl⟩) | (go_at_call 99; refine (HD.out _).mono ?_; rintro e w' ⟨rfl, d, rfl⟩))
  all_goals exact bodyPost_ret (v := .tuple #[(.agg #[.int .i64 (p), .int .i64 (q), .int .i64 (mx (100 * dec - 50) (-5400000)), .int .i64 (mn (100 * dec + 50) 5400000), .int .i64 (0), .int .i64 (0), .int .i64 (0), .int .i64 (0)]), .int .i64 0]) (by simp [results, Tryz.results63, go_sem]) rfl ⟨rfl, lay_ex _ _⟩
end Go.Proofs.YtkhhdpndcidmgaaGreat
