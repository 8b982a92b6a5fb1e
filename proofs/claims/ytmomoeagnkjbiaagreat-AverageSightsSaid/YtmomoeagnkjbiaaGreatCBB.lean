/- Contracts and plain laws, several texts in one: WdC; SlC; Awk -/
import Derived.Test.YtmomoeagnkjbiaaGreatProg
import Derived.WalkKit
import Derived.WalkSpells
import Derived.WalkLawsBesides
import Derived.Lib.Hide
import Derived.BigQuiet
import Derived.Test.YtmomoeagnkjbiaaGreatCAA
import Derived.Test.YtmomoeagnkjbiaaGreatCAB
import Derived.Test.YtmomoeagnkjbiaaGreatCAC
import Derived.Test.YtmomoeagnkjbiaaGreatCAG
import Derived.Test.YtmomoeagnkjbiaaGreatCAH
import Derived.Test.YtmomoeagnkjbiaaGreatCAI
import Derived.Test.YtmomoeagnkjbiaaGreatCAM
import Derived.Test.YtmomoeagnkjbiaaGreatCBA
/- fixed and wide at the numbers of a quarter turn. -/
namespace Go.Proofs.YtmomoeagnkjbiaaGreat
open Go.RowKit

set_option maxRecDepth 100000 in
theorem wd_abs (n : Nat) (w : World) (h : n < 9223372036854775808) :
    Calls Tryz.prog 159 #[.int .i64 (n : Int)] w fun e w' => e = .returned (.int .u64 (n : Int)) ∧ w' = w := by
  have h1 : ¬ (n : Int) < 0 := by omega
  have k1 : IntKind.u64.wrap (n : Int) = n := IntWalk.u64_in _ (by omega)
  go_enter Tryz.func159, Tryz.ntmps159
  go_wp2_with fail
  go_ret
  exact ⟨rfl, rfl⟩
set_option maxRecDepth 100000 in
theorem wd_Valid (w : World) :
    Calls Tryz.prog 177 #[(.agg #[.int .i64 (0), .int .i64 (268435456000000)])] w fun e w' => e = .returned (.bool true) ∧ ∃ d, w' = bw w d := by
  refine lay_start ?_
  go_enter Tryz.func177, Tryz.ntmps177
  go_wp2_with fail
  go_ret
  exact ⟨rfl, lay_ex _ _⟩
set_option maxRecDepth 100000 in
theorem wd_fit (w : World) :
    Calls Tryz.prog 176 #[.int .i64 0, .int .i64 268435456000000] w fun e w' => e = .returned (.tuple #[(.agg #[.int .i64 (0), .int .i64 (268435456000000)]), .int .i64 0]) ∧ ∃ d, w' = bw w d := by
  have kb : bits .and .i64 268435456000000 1152921504606846975 = 268435456000000 := by decide
  refine lay_start ?_
  go_enter Tryz.func176, Tryz.ntmps176
  go_wp2_with (go_at_call 177; refine (wd_Valid _).mono ?_; rintro e w' ⟨rfl, d, rfl⟩)
  exact bodyPost_ret (v := .tuple #[(.agg #[.int .i64 (0), .int .i64 (268435456000000)]), .int .i64 0]) (by simp [results, Tryz.results176, go_sem]) rfl ⟨rfl, lay_ex _ _⟩
set_option maxRecDepth 100000 in
theorem wd_wide (w : World) :
    Calls Tryz.prog 160 #[.agg #[.int .u64 0, .int .u64 268435456000000, .bool false]] w fun e w' => e = .returned (.tuple #[(.agg #[.int .i64 (0), .int .i64 (268435456000000)]), .int .i64 0]) ∧ ∃ d, w' = bw w d := by
  have kb : bits .and .u64 268435456000000 1152921504606846975 = 268435456000000 := by decide
  have kb2 : bits .or .u64 0 0 = 0 := by decide
  refine lay_start ?_
  go_enter Tryz.func160, Tryz.ntmps160
  go_wp2_with fail
  refine region_bw (by kernel_rfl) (by kernel_rfl) ?_
  repeat (go_big_quiet_step ((first | fail)))
  refine wpQuiet_nil ?_
  rintro w' ⟨d, rfl⟩
  rw [lay_bw]
  go_wp2_with (go_at_call 176; refine (wd_fit _).mono ?_; rintro e w' ⟨rfl, d, rfl⟩)
  exact bodyPost_ret (v := .tuple #[(.agg #[.int .i64 (0), .int .i64 (268435456000000)]), .int .i64 0]) (by simp [results, Tryz.results160, go_sem]) rfl ⟨rfl, lay_ex _ _⟩
set_option maxRecDepth 100000 in
theorem wd_Product (w : World) :
    Calls Tryz.prog 124 #[.int .i64 1073741824, .int .i64 250000] w fun e w' => e = .returned (.tuple #[(.agg #[.int .i64 (0), .int .i64 (268435456000000)]), .int .i64 0]) ∧ ∃ d, w' = bw w d := by
  have H1 : Hid (∀ W, Calls Tryz.prog 159 #[.int .i64 1073741824] W fun e w' => e = .returned (.int .u64 1073741824) ∧ w' = W) := Lib.hid fun W => wd_abs 1073741824 W (by decide)
  have H2 : Hid (∀ W, Calls Tryz.prog 159 #[.int .i64 250000] W fun e w' => e = .returned (.int .u64 250000) ∧ w' = W) := Lib.hid fun W => wd_abs 250000 W (by decide)
  have H3 : Hid (∀ W, Calls Tryz.prog 158 #[.int .u64 1073741824, .int .u64 250000] W fun e w' => e = .returned (.tuple #[.int .u64 0, .int .u64 268435456000000]) ∧ w' = W) := Lib.hid fun W => Tryz.bits_Mul64 1073741824 250000 (by decide) (by decide) W
  refine lay_start ?_
  go_enter Tryz.func124, Tryz.ntmps124
  go_wp2_with (first | (go_at_call 159; first | (with_reducible refine (H1.out _).mono ?_; rintro e w' ⟨rfl, rfl⟩) | (with_reducible refine (H2.out _).mono ?_; rintro e w' ⟨rfl, rfl⟩)) | (go_at_call 158; refine (H3.out _).mono ?_; rintro e w' ⟨rfl, rfl⟩) | (go_at_call 160; refine (wd_wide _).mono ?_; rintro e w' ⟨rfl, d, rfl⟩))
  exact bodyPost_ret (v := .tuple #[(.agg #[.int .i64 (0), .int .i64 (268435456000000)]), .int .i64 0]) (by simp [results, Tryz.results124, go_sem]) rfl ⟨rfl, lay_ex _ _⟩
set_option maxRecDepth 100000 in
theorem wd_sizeOf (w : World) :
    Calls Tryz.prog 178 #[(.agg #[.int .i64 (0), .int .i64 (268435456000000)])] w fun e w' => e = .returned (.agg #[.int .u64 0, .int .u64 268435456000000, .bool false]) ∧ ∃ d, w' = bw w d := by
  have kb2 : bits .or .u64 0 268435456000000 = 268435456000000 := by decide
  refine lay_start ?_
  go_enter Tryz.func178, Tryz.ntmps178
  go_wp2_with fail
  refine region_bw (by kernel_rfl) (by kernel_rfl) ?_
  repeat (go_big_quiet_step ((first | fail)))
  refine wpQuiet_nil ?_
  rintro w' ⟨d, rfl⟩
  rw [lay_bw]
  go_wp2_with fail
  exact bodyPost_ret (v := .agg #[.int .u64 0, .int .u64 268435456000000, .bool false]) (by simp [results, Tryz.results178, go_sem]) rfl ⟨rfl, lay_ex _ _⟩
set_option maxRecDepth 100000 in
theorem wd_quotient (up : Bool) (w : World) :
    Calls Tryz.prog 161 #[(.agg #[.int .i64 (0), .int .i64 (268435456000000)]), .int .i64 1073741824, .bool up] w fun e w' => e = .returned (.tuple #[.int .i64 250000, .int .i64 0]) ∧ ∃ d, w' = bw w d := by
  have H1 : Hid (∀ W, Calls Tryz.prog 159 #[.int .i64 1073741824] W fun e w' => e = .returned (.int .u64 1073741824) ∧ w' = W) := Lib.hid fun W => wd_abs 1073741824 W (by decide)
  have H3 : Hid (∀ W, Calls Tryz.prog 179 #[.int .u64 0, .int .u64 268435456000000, .int .u64 1073741824] W fun e w' => e = .returned (.tuple #[.int .u64 250000, .int .u64 0]) ∧ ∃ d, w' = bw W d) := Lib.hid fun W => div64' 0 268435456000000 1073741824 250000 0 (by decide) (by decide) (by decide) (by decide) (by decide) W
  cases up
  all_goals
    refine lay_start ?_
    go_enter Tryz.func161, Tryz.ntmps161
    go_wp2_with (first | (go_at_call 177; refine (wd_Valid _).mono ?_; rintro e w' ⟨rfl, d, rfl⟩) | (go_at_call 178; refine (wd_sizeOf _).mono ?_; rintro e w' ⟨rfl, d, rfl⟩) | (go_at_call 159; refine (H1.out _).mono ?_; rintro e w' ⟨rfl, rfl⟩) | (go_at_call 179; refine (H3.out _).mono ?_; rintro e w' ⟨rfl, d, rfl⟩))
    go_ret2
    exact ⟨rfl, lay_ex _ _⟩
set_option maxRecDepth 100000 in
theorem wd_Floor (w : World) :
    Calls Tryz.prog 125 #[(.agg #[.int .i64 (0), .int .i64 (268435456000000)]), .int .i64 1073741824] w fun e w' => e = .returned (.tuple #[.int .i64 250000, .int .i64 0]) ∧ ∃ d, w' = bw w d := by
  refine lay_start ?_
  go_enter Tryz.func125, Tryz.ntmps125
  go_wp2_with (go_at_call 161; refine (wd_quotient _ _).mono ?_; rintro e w' ⟨rfl, d, rfl⟩)
  go_ret2
  exact ⟨rfl, lay_ex _ _⟩
set_option maxRecDepth 100000 in
theorem wd_Ceil (w : World) :
    Calls Tryz.prog 126 #[(.agg #[.int .i64 (0), .int .i64 (268435456000000)]), .int .i64 1073741824] w fun e w' => e = .returned (.tuple #[.int .i64 250000, .int .i64 0]) ∧ ∃ d, w' = bw w d := by
  refine lay_start ?_
  go_enter Tryz.func126, Tryz.ntmps126
  go_wp2_with (go_at_call 161; refine (wd_quotient _ _).mono ?_; rintro e w' ⟨rfl, d, rfl⟩)
  go_ret2
  exact ⟨rfl, lay_ex _ _⟩
set_option maxRecDepth 100000 in
theorem fx_enclose (w : World) :
    Calls Tryz.prog 78 #[.int .i64 1073741824, .int .i64 250000, .int .i64 1073741824] w fun e w' => e = .returned (.tuple #[.int .i64 250000, .int .i64 250000, .int .i64 0]) ∧ ∃ d, w' = bw w d := by
  refine lay_start ?_
  go_enter Tryz.func78, Tryz.ntmps78
  go_wp2_with (first | (go_at_call 124; refine (wd_Product _).mono ?_; rintro e w' ⟨rfl, d, rfl⟩) | (go_at_call 125; refine (wd_Floor _).mono ?_; rintro e w' ⟨rfl, d, rfl⟩) | (go_at_call 126; refine (wd_Ceil _).mono ?_; rintro e w' ⟨rfl, d, rfl⟩))
  exact bodyPost_ret (v := .tuple #[.int .i64 250000, .int .i64 250000, .int .i64 0]) (by simp [results, Tryz.results78, go_sem]) rfl ⟨rfl, lay_ex _ _⟩
end Go.Proofs.YtmomoeagnkjbiaaGreat
/- fixed.Mul, fixed.Scale, average.Slope at a quarter turn. -/
namespace Go.Proofs.YtmomoeagnkjbiaaGreat
open Go.RowKit

section
variable {P : Program} {w : World}
theorem run_mn4 (ts : Array TypeId) (t : TypeId) (k k' k'' k3 : IntKind) (x y z u : Int) : (Builtin.min_ ts t #[.int k x, .int k' y, .int k'' z, .int k3 u]).run P w = .ok (.int k (mn (mn (mn x y) z) u)) w := by
  simp [Builtin.min_, Builtin.min2, mn]
  rfl
theorem run_mx4 (ts : Array TypeId) (t : TypeId) (k k' k'' k3 : IntKind) (x y z u : Int) : (Builtin.max_ ts t #[.int k x, .int k' y, .int k'' z, .int k3 u]).run P w = .ok (.int k (mx (mx (mx x y) z) u)) w := by
  simp [Builtin.max_, Builtin.max2, mx]
  rfl
end
attribute [go_sem ↓] run_mn4 run_mx4
set_option maxRecDepth 100000 in
theorem fx_Valid1 (w : World) :
    Calls Tryz.prog 76 #[(.agg #[.int .i64 (1073741824), .int .i64 (1073741824)])] w fun e w' => e = .returned (.bool true) ∧ ∃ d, w' = bw w d := by
  refine lay_start ?_
  go_enter Tryz.func76, Tryz.ntmps76
  go_wp2_with fail
  go_ret
  exact ⟨rfl, lay_ex _ _⟩
set_option maxRecDepth 100000 in
theorem fx_both1 (w : World) :
    Calls Tryz.prog 72 #[(.agg #[.int .i64 (1073741824), .int .i64 (1073741824)]), (.agg #[.int .i64 (1073741824), .int .i64 (1073741824)])] w fun e w' => e = .returned (.bool true) ∧ ∃ d, w' = bw w d := by
  refine lay_start ?_
  go_enter Tryz.func72, Tryz.ntmps72
  go_wp2_with (go_at_call 76; refine (fx_Valid1 _).mono ?_; rintro e w' ⟨rfl, d, rfl⟩)
  go_ret
  exact ⟨rfl, lay_ex _ _⟩
set_option maxRecDepth 100000 in
theorem fx_floor1 (w : World) :
    Calls Tryz.prog 74 #[.int .i64 1152921504606846976, .int .i64 1073741824] w fun e w' => e = .returned (.int .i64 1073741824) ∧ w' = w := by
  go_enter Tryz.func74, Tryz.ntmps74
  go_wp2_with fail
  go_ret
  exact ⟨rfl, rfl⟩
set_option maxRecDepth 100000 in
theorem fx_floor2 (w : World) :
    Calls Tryz.prog 74 #[.int .i64 (-1152921504606846976), .int .i64 1073741824] w fun e w' => e = .returned (.int .i64 (-1073741824)) ∧ w' = w := by
  go_enter Tryz.func74, Tryz.ntmps74
  go_wp2_with fail
  go_ret
  exact ⟨rfl, rfl⟩
set_option maxRecDepth 100000 in
theorem fx_ceil1 (w : World) :
    Calls Tryz.prog 75 #[.int .i64 1152921504606846976, .int .i64 1073741824] w fun e w' => e = .returned (.int .i64 1073741824) ∧ w' = w := by
  go_enter Tryz.func75, Tryz.ntmps75
  go_wp2_with (go_at_call 74; refine (fx_floor2 _).mono ?_; rintro e w' ⟨rfl, rfl⟩)
  go_ret
  exact ⟨rfl, rfl⟩
set_option maxRecDepth 100000 in
theorem fx_fit1 (w : World) :
    Calls Tryz.prog 73 #[.int .i64 1073741824, .int .i64 1073741824] w fun e w' => e = .returned (.tuple #[(.agg #[.int .i64 (1073741824), .int .i64 (1073741824)]), .int .i64 0]) ∧ ∃ d, w' = bw w d := by
  refine lay_start ?_
  go_enter Tryz.func73, Tryz.ntmps73
  go_wp2_with (go_at_call 76; refine (fx_Valid1 _).mono ?_; rintro e w' ⟨rfl, d, rfl⟩)
  exact bodyPost_ret (v := .tuple #[(.agg #[.int .i64 (1073741824), .int .i64 (1073741824)]), .int .i64 0]) (by simp [results, Tryz.results73, go_sem]) rfl ⟨rfl, lay_ex _ _⟩
set_option maxHeartbeats 1000000 in
set_option maxRecDepth 100000 in
theorem fx_Mul1 (w : World) :
    Calls Tryz.prog 30 #[(.agg #[.int .i64 (1073741824), .int .i64 (1073741824)]), (.agg #[.int .i64 (1073741824), .int .i64 (1073741824)])] w fun e w' => e = .returned (.tuple #[(.agg #[.int .i64 (1073741824), .int .i64 (1073741824)]), .int .i64 0]) ∧ ∃ d, w' = bw w d := by
  have e1 : mn (mn (mn 1152921504606846976 1152921504606846976) 1152921504606846976) 1152921504606846976 = 1152921504606846976 := by decide
  have e2 : mx (mx (mx 1152921504606846976 1152921504606846976) 1152921504606846976) 1152921504606846976 = 1152921504606846976 := by decide
  refine lay_start ?_
  go_enter Tryz.func30, Tryz.ntmps30
  go_wp2_with (go_at_call 72; refine (fx_both1 _).mono ?_; rintro e w' ⟨rfl, d, rfl⟩)
  refine region_bw (by kernel_rfl) (by kernel_rfl) ?_
  repeat (go_big_quiet_step ((first | fail)))
  refine wpQuiet_nil ?_
  rintro w' ⟨d, rfl⟩
  rw [lay_bw]
  go_wp2_with (first | (go_at_call 74; refine (fx_floor1 _).mono ?_; rintro e w' ⟨rfl, rfl⟩) | (go_at_call 75; refine (fx_ceil1 _).mono ?_; rintro e w' ⟨rfl, rfl⟩) | (go_at_call 73; refine (fx_fit1 _).mono ?_; rintro e w' ⟨rfl, d, rfl⟩))
  exact bodyPost_ret (v := .tuple #[(.agg #[.int .i64 (1073741824), .int .i64 (1073741824)]), .int .i64 0]) (by simp [results, Tryz.results30, go_sem]) rfl ⟨rfl, lay_ex _ _⟩
set_option maxRecDepth 100000 in
theorem fx_factor1 (w : World) :
    Calls Tryz.prog 77 #[.int .i64 250000] w fun e w' => e = .returned (.bool true) ∧ ∃ d, w' = bw w d := by
  refine lay_start ?_
  go_enter Tryz.func77, Tryz.ntmps77
  go_wp2_with fail
  go_ret
  exact ⟨rfl, lay_ex _ _⟩
set_option maxHeartbeats 1000000 in
set_option maxRecDepth 100000 in
theorem fx_Scale1 (w : World) :
    Calls Tryz.prog 31 #[(.agg #[.int .i64 (1073741824), .int .i64 (1073741824)]), .int .i64 250000] w fun e w' => e = .returned (.tuple #[.int .i64 250000, .int .i64 250000, .int .i64 0]) ∧ ∃ d, w' = bw w d := by
  have e1 : mn 250000 250000 = 250000 := by decide
  have e2 : mx 250000 250000 = 250000 := by decide
  refine lay_start ?_
  go_enter Tryz.func31, Tryz.ntmps31
  go_wp2_with (first | (go_at_call 76; refine (fx_Valid1 _).mono ?_; rintro e w' ⟨rfl, d, rfl⟩) | (go_at_call 77; refine (fx_factor1 _).mono ?_; rintro e w' ⟨rfl, d, rfl⟩) | (go_at_call 78; refine (fx_enclose _).mono ?_; rintro e w' ⟨rfl, d, rfl⟩))
  exact bodyPost_ret (v := .tuple #[.int .i64 250000, .int .i64 250000, .int .i64 0]) (by simp [results, Tryz.results31, go_sem]) rfl ⟨rfl, lay_ex _ _⟩
theorem mk_250 : mkNN 250000 1000 = 250 ∧ mkDD 250000 1000 = 1 ∧ mkE 250000 1000 = 0 := by decide
set_option maxHeartbeats 1000000 in
set_option maxRecDepth 100000 in
theorem av_Slope1 (w : World) :
    Calls Tryz.prog 8 #[(.agg #[.int .i64 (0), .int .i64 (0)]), (.agg #[.int .i64 (5400000), .int .i64 (5400000)])] w fun e w' => e = .returned (.tuple #[(.agg #[.int .i64 (250), .int .i64 (1)]), (.agg #[.int .i64 (250), .int .i64 (1)]), .int .i64 0]) ∧ ∃ d, w' = bw w d := by
  have HV : Hid (∀ W, Calls Tryz.prog 27 #[(.agg #[.int .i64 (0), .int .i64 (0)])] W fun e w' => e = .returned (.bool true) ∧ ∃ d, w' = bw W d) := Lib.hid fun W => angle_Valid 0 0 W
  have HV2 : Hid (∀ W, Calls Tryz.prog 27 #[(.agg #[.int .i64 (5400000), .int .i64 (5400000)])] W fun e w' => e = .returned (.bool true) ∧ ∃ d, w' = bw W d) := Lib.hid fun W => angle_Valid 5400000 5400000 W
  have HM := Lib.hid (fun W => rt_Make 250000 1000 W (by decide) (by decide))
  rw [mk_250.1, mk_250.2.1, mk_250.2.2] at HM
  refine lay_start ?_
  go_enter Tryz.func8, Tryz.ntmps8
  go_wp2_with (first | (go_at_call 27; first | (with_reducible refine (HV.out _).mono ?_; rintro e w' ⟨rfl, d, rfl⟩) | (with_reducible refine (HV2.out _).mono ?_; rintro e w' ⟨rfl, d, rfl⟩)) | (go_at_call 28; refine (tr_Cos _).mono ?_; rintro e w' ⟨rfl, d, rfl⟩) | (go_at_call 29; refine (tr_Sin _).mono ?_; rintro e w' ⟨rfl, d, rfl⟩) | (go_at_call 30; refine (fx_Mul1 _).mono ?_; rintro e w' ⟨rfl, d, rfl⟩) | (go_at_call 31; refine (fx_Scale1 _).mono ?_; rintro e w' ⟨rfl, d, rfl⟩) | (go_at_call 32; refine (HM.out _).mono ?_; rintro e w' ⟨rfl, d, rfl⟩))
  go_region
  all_goals
    go_wp2_with fail
    exact bodyPost_ret (v := .tuple #[(.agg #[.int .i64 (250), .int .i64 (1)]), (.agg #[.int .i64 (250), .int .i64 (1)]), .int .i64 0]) (by simp [results, Tryz.results8, go_sem]) rfl ⟨rfl, by rw [bw_drewExt, lay_bw]; exact lay_ex _ _⟩
end Go.Proofs.YtmomoeagnkjbiaaGreat
/- almucantarlaw23: the examples; whole, many. -/
namespace Go.Proofs.YtmomoeagnkjbiaaGreat
open Go.RowKit

theorem ln_eg : lnN [0, 10000, 20000] [1000, 1500, 2000] = 50 ∧ lnD [0, 10000, 20000] [1000, 1500, 2000] = 1 ∧ lnK [0, 10000, 20000] [1000, 1500, 2000] = 1000 ∧ lnE [0, 10000, 20000] [1000, 1500, 2000] = 0 := by
  have hl : risAll [0, 10000, 20000] [1000, 1500, 2000] ([0, 10000, 20000] : List Int).length = [mkR 500 10000, mkR 1000 20000, mkR 500 10000] := rfl
  have h := (ln_cases [0, 10000, 20000] [1000, 1500, 2000] (by decide)).2 [mkR 500 10000, mkR 1000 20000, mkR 500 10000] (mkR 1000 20000) (by rw [hl]) (by decide) (by rw [hl]; rfl)
  have e1 : (mkR 1000 20000).1 = ⟨1000, 20000⟩ := mkR_h (by decide)
  rw [e1] at h
  have h2 := h.2 (by decide) (by decide)
  have e2 : mkN (1000 * 1000) 20000 = 50 := by decide
  have e3 : mkD (1000 * 1000) 20000 = 1 := by decide
  dsimp only at h2
  rw [e2, e3] at h2
  refine ⟨h2.1, h2.2.1, ?_, h2.2.2.2⟩
  rw [h2.2.2.1]
  have e4 : resK [0, 10000, 20000] [1000, 1500, 2000] 50 1 ([0, 10000, 20000] : List Int).length = [1000, 1000, 1000] := by decide
  rw [e4]
  have := medI_mem (l := [1000, 1000, 1000]) (by decide)
  simpa using this
theorem rej_eg : rejE [10, 12, 11, 500, 9] 3 = 0 ∧ rejL [10, 12, 11, 500, 9] 3 = [3] := by
  have e0 : rejE [10, 12, 11, 500, 9] 3 = 0 := by decide
  have m1 : medI [10, 12, 11, 500, 9] = 11 := by
    unfold medI
    rw [srtI_eq (a := [9, 10, 11, 12, 500]) (by decide) (by decide)]; rfl
  have f1 : farI [10, 12, 11, 500, 9] = [1, 1, 0, 489, 2] := by
    unfold farI
    rw [m1]; decide
  have m2 : medI [1, 1, 0, 489, 2] = 1 := by
    unfold medI
    rw [srtI_eq (a := [0, 1, 1, 2, 489]) (by decide) (by decide)]; rfl
  have l1 : limI [10, 12, 11, 500, 9] 3 = 100 := by
    unfold limI
    rw [f1, m2]; decide
  refine ⟨e0, ?_⟩
  rw [rejL_eq e0]
  unfold outI outN
  rw [f1, l1]; decide
set_option maxRecDepth 100000 in
theorem law23_whole (n : Int) (w : World) :
    Calls Tryz.prog 15 #[.int .i64 n] w fun e w' => e = .returned (.agg #[.int .i64 (n), .int .i64 (1)]) ∧ ∃ d, w' = bw w d := by
  refine lay_start ?_
  go_enter Tryz.func15, Tryz.ntmps15
  go_wp2_with fail
  exact bodyPost_ret (v := (.agg #[.int .i64 (n), .int .i64 (1)])) (by simp [results, Tryz.results15, go_sem]) rfl ⟨rfl, lay_ex _ _⟩
def manyA (n : Nat) : Bool := decide (16 < n) && decide (n ≤ 1000) || decide (1100 < n)
set_option maxRecDepth 100000 in
theorem law23_many (v : Value) (l : List Int) (w : World) (hs : Sl w v l) :
    Calls Tryz.prog 16 #[v] w fun e w' => e = .returned (.bool (manyA l.length)) ∧ w' = w := by
  obtain ⟨a, cap, rfl, -⟩ := hs
  generalize l.length = m
  unfold manyA
  by_cases h1 : 16 < m
  · by_cases h2 : m ≤ 1000
    · rw [decide_eq_true h1, decide_eq_true h2]
      have x1 : (16 : Int) < (m : Int) := by omega
      have x2 : (m : Int) ≤ 1000 := by omega
      go_enter Tryz.func16, Tryz.ntmps16
      go_wp2_with fail
      go_ret
      exact ⟨rfl, rfl⟩
    · by_cases h3 : 1100 < m
      · rw [decide_eq_true h1, decide_eq_false h2, decide_eq_true h3]
        have x1 : (16 : Int) < (m : Int) := by omega
        have x2 : ¬ (m : Int) ≤ 1000 := by omega
        have x3 : (1100 : Int) < (m : Int) := by omega
        go_enter Tryz.func16, Tryz.ntmps16
        go_wp2_with fail
        go_ret
        exact ⟨rfl, rfl⟩
      · rw [decide_eq_true h1, decide_eq_false h2, decide_eq_false h3]
        have x1 : (16 : Int) < (m : Int) := by omega
        have x2 : ¬ (m : Int) ≤ 1000 := by omega
        have x3 : ¬ (1100 : Int) < (m : Int) := by omega
        go_enter Tryz.func16, Tryz.ntmps16
        go_wp2_with fail
        go_ret
        exact ⟨rfl, rfl⟩
  · have h3 : ¬ 1100 < m := by omega
    rw [decide_eq_false h1, decide_eq_false h3]
    have x1 : ¬ (16 : Int) < (m : Int) := by omega
    have x3 : ¬ (1100 : Int) < (m : Int) := by omega
    go_enter Tryz.func16, Tryz.ntmps16
    go_wp2_with fail
    go_ret
    exact ⟨by simp, rfl⟩
end Go.Proofs.YtmomoeagnkjbiaaGreat
