/- Contracts and plain laws, several texts in one: SlC; Wd -/
import Derived.Test.YtmomoeagnkjbiaaGreatProg
import Derived.WalkKit
import Derived.WalkSpells
import Derived.WalkLawsBesides
import Derived.Lib.Hide
import Derived.BigQuiet
import Derived.Test.YtmomoeagnkjbiaaGreatBAA
import Derived.Test.YtmomoeagnkjbiaaGreatBAB
import Derived.Test.YtmomoeagnkjbiaaGreatBAC
import Derived.Test.YtmomoeagnkjbiaaGreatBAG
import Derived.Test.YtmomoeagnkjbiaaGreatBAH
import Derived.Test.YtmomoeagnkjbiaaGreatBAI
import Derived.Test.YtmomoeagnkjbiaaGreatBAJ
import Derived.Test.YtmomoeagnkjbiaaGreatBAK
/- fixed.Mul, fixed.Scale, average.Slope at a quarter turn. -/
namespace Go.Proofs.YtmomoeagnkjbiaaGreat
open Go.RowKit

section
variable {P : Program} {w : World}
theorem run_mn4 (ts : Array TypeId) (t : TypeId) (k k' k'' k3 : IntKind) (x y z u : Int) : (Builtin.min_ ts t #[.int k x, .int k' y, .int k'' z, .int k3 u]).run P w = .ok (.int k (mn (mn (mn x y) z) u)) w := by
  simp [Builtin.min_, Builtin.min2, mn]
  rfl
theorem run_mx4 (ts : Array TypeId) (t : TypeId) (k k' k'' k3 : IntKind) (x y z u : Int) : (Builtin.max_ ts t #[.int k x, .int k' y, .int k'' z, .int k3 u]).run P w = .ok (.int k (mx (mx (mx x y) z) u)) w := by
  simp [Builtin.max_, Builtin.max2, mx]
  rfl
end
attribute [go_sem ↓] run_mn4 run_mx4
set_option maxRecDepth 100000 in
theorem fx_Valid1 (w : World) :
    Calls Tryz.prog 76 #[(.agg #[.int .i64 (1073741824), .int .i64 (1073741824)])] w fun e w' => e = .returned (.bool true) ∧ ∃ d, w' = bw w d := by
  refine lay_start ?_
  go_enter Tryz.func76, Tryz.ntmps76
  go_wp2_with fail
  go_ret
  exact ⟨rfl, lay_ex _ _⟩
set_option maxRecDepth 100000 in
theorem fx_both1 (w : World) :
    Calls Tryz.prog 72 #[(.agg #[.int .i64 (1073741824), .int .i64 (1073741824)]), (.agg #[.int .i64 (1073741824), .int .i64 (1073741824)])] w fun e w' => e = .returned (.bool true) ∧ ∃ d, w' = bw w d := by
  refine lay_start ?_
  go_enter Tryz.func72, Tryz.ntmps72
  go_wp2_with (go_at_call 76; refine (fx_Valid1 _).mono ?_; rintro e w' ⟨rfl, d, rfl⟩)
  go_ret
  exact ⟨rfl, lay_ex _ _⟩
set_option maxRecDepth 100000 in
theorem fx_floor1 (w : World) :
    Calls Tryz.prog 74 #[.int .i64 1152921504606846976, .int .i64 1073741824] w fun e w' => e = .returned (.int .i64 1073741824) ∧ w' = w := by
  go_enter Tryz.func74, Tryz.ntmps74
  go_wp2_with fail
  go_ret
  exact ⟨rfl, rfl⟩
set_option maxRecDepth 100000 in
theorem fx_floor2 (w : World) :
    Calls Tryz.prog 74 #[.int .i64 (-1152921504606846976), .int .i64 1073741824] w fun e w' => e = .returned (.int .i64 (-1073741824)) ∧ w' = w := by
  go_enter Tryz.func74, Tryz.ntmps74
  go_wp2_with fail
  go_ret
  exact ⟨rfl, rfl⟩
set_option maxRecDepth 100000 in
theorem fx_ceil1 (w : World) :
    Calls Tryz.prog 75 #[.int .i64 1152921504606846976, .int .i64 1073741824] w fun e w' => e = .returned (.int .i64 1073741824) ∧ w' = w := by
  go_enter Tryz.func75, Tryz.ntmps75
  go_wp2_with (go_at_call 74; refine (fx_floor2 _).mono ?_; rintro e w' ⟨rfl, rfl⟩)
  go_ret
  exact ⟨rfl, rfl⟩
set_option maxRecDepth 100000 in
theorem fx_fit1 (w : World) :
    Calls Tryz.prog 73 #[.int .i64 1073741824, .int .i64 1073741824] w fun e w' => e = .returned (.tuple #[(.agg #[.int .i64 (1073741824), .int .i64 (1073741824)]), .int .i64 0]) ∧ ∃ d, w' = bw w d := by
  refine lay_start ?_
  go_enter Tryz.func73, Tryz.ntmps73
  go_wp2_with (go_at_call 76; refine (fx_Valid1 _).mono ?_; rintro e w' ⟨rfl, d, rfl⟩)
  exact bodyPost_ret (v := .tuple #[(.agg #[.int .i64 (1073741824), .int .i64 (1073741824)]), .int .i64 0]) (by simp [results, Tryz.results73, go_sem]) rfl ⟨rfl, lay_ex _ _⟩
set_option maxHeartbeats 1000000 in
set_option maxRecDepth 100000 in
theorem fx_Mul1 (w : World) :
    Calls Tryz.prog 30 #[(.agg #[.int .i64 (1073741824), .int .i64 (1073741824)]), (.agg #[.int .i64 (1073741824), .int .i64 (1073741824)])] w fun e w' => e = .returned (.tuple #[(.agg #[.int .i64 (1073741824), .int .i64 (1073741824)]), .int .i64 0]) ∧ ∃ d, w' = bw w d := by
  have e1 : mn (mn (mn 1152921504606846976 1152921504606846976) 1152921504606846976) 1152921504606846976 = 1152921504606846976 := by decide
  have e2 : mx (mx (mx 1152921504606846976 1152921504606846976) 1152921504606846976) 1152921504606846976 = 1152921504606846976 := by decide
  refine lay_start ?_
  go_enter Tryz.func30, Tryz.ntmps30
  go_wp2_with (go_at_call 72; refine (fx_both1 _).mono ?_; rintro e w' ⟨rfl, d, rfl⟩)
  refine region_bw (by kernel_rfl) (by kernel_rfl) ?_
  repeat (go_big_quiet_step ((first | fail)))
  refine wpQuiet_nil ?_
  rintro w' ⟨d, rfl⟩
  rw [lay_bw]
  go_wp2_with (first | (go_at_call 74; refine (fx_floor1 _).mono ?_; rintro e w' ⟨rfl, rfl⟩) | (go_at_call 75; refine (fx_ceil1 _).mono ?_; rintro e w' ⟨rfl, rfl⟩) | (go_at_call 73; refine (fx_fit1 _).mono ?_; rintro e w' ⟨rfl, d, rfl⟩))
  exact bodyPost_ret (v := .tuple #[(.agg #[.int .i64 (1073741824), .int .i64 (1073741824)]), .int .i64 0]) (by simp [results, Tryz.results30, go_sem]) rfl ⟨rfl, lay_ex _ _⟩
set_option maxRecDepth 100000 in
theorem fx_factor1 (w : World) :
    Calls Tryz.prog 77 #[.int .i64 250000] w fun e w' => e = .returned (.bool true) ∧ ∃ d, w' = bw w d := by
  refine lay_start ?_
  go_enter Tryz.func77, Tryz.ntmps77
  go_wp2_with fail
  go_ret
  exact ⟨rfl, lay_ex _ _⟩
set_option maxHeartbeats 1000000 in
set_option maxRecDepth 100000 in
theorem fx_Scale1 (w : World) :
    Calls Tryz.prog 31 #[(.agg #[.int .i64 (1073741824), .int .i64 (1073741824)]), .int .i64 250000] w fun e w' => e = .returned (.tuple #[.int .i64 250000, .int .i64 250000, .int .i64 0]) ∧ ∃ d, w' = bw w d := by
  have e1 : mn 250000 250000 = 250000 := by decide
  have e2 : mx 250000 250000 = 250000 := by decide
  refine lay_start ?_
  go_enter Tryz.func31, Tryz.ntmps31
  go_wp2_with (first | (go_at_call 76; refine (fx_Valid1 _).mono ?_; rintro e w' ⟨rfl, d, rfl⟩) | (go_at_call 77; refine (fx_factor1 _).mono ?_; rintro e w' ⟨rfl, d, rfl⟩) | (go_at_call 78; refine (fx_enclose _).mono ?_; rintro e w' ⟨rfl, d, rfl⟩))
  exact bodyPost_ret (v := .tuple #[.int .i64 250000, .int .i64 250000, .int .i64 0]) (by simp [results, Tryz.results31, go_sem]) rfl ⟨rfl, lay_ex _ _⟩
theorem mk_250 : mkNN 250000 1000 = 250 ∧ mkDD 250000 1000 = 1 ∧ mkE 250000 1000 = 0 := by decide
set_option maxHeartbeats 1000000 in
set_option maxRecDepth 100000 in
theorem av_Slope1 (w : World) :
    Calls Tryz.prog 8 #[(.agg #[.int .i64 (0), .int .i64 (0)]), (.agg #[.int .i64 (5400000), .int .i64 (5400000)])] w fun e w' => e = .returned (.tuple #[(.agg #[.int .i64 (250), .int .i64 (1)]), (.agg #[.int .i64 (250), .int .i64 (1)]), .int .i64 0]) ∧ ∃ d, w' = bw w d := by
  have HV : Hid (∀ W, Calls Tryz.prog 27 #[(.agg #[.int .i64 (0), .int .i64 (0)])] W fun e w' => e = .returned (.bool true) ∧ ∃ d, w' = bw W d) := Lib.hid fun W => angle_Valid 0 0 W
  have HV2 : Hid (∀ W, Calls Tryz.prog 27 #[(.agg #[.int .i64 (5400000), .int .i64 (5400000)])] W fun e w' => e = .returned (.bool true) ∧ ∃ d, w' = bw W d) := Lib.hid fun W => angle_Valid 5400000 5400000 W
  have HM := Lib.hid (fun W => rt_Make 250000 1000 W (by decide) (by decide))
  rw [mk_250.1, mk_250.2.1, mk_250.2.2] at HM
  refine lay_start ?_
  go_enter Tryz.func8, Tryz.ntmps8
  go_wp2_with (first | (go_at_call 27; first | (with_reducible refine (HV.out _).mono ?_; rintro e w' ⟨rfl, d, rfl⟩) | (with_reducible refine (HV2.out _).mono ?_; rintro e w' ⟨rfl, d, rfl⟩)) | (go_at_call 28; refine (tr_Cos _).mono ?_; rintro e w' ⟨rfl, d, rfl⟩) | (go_at_call 29; refine (tr_Sin _).mono ?_; rintro e w' ⟨rfl, d, rfl⟩) | (go_at_call 30; refine (fx_Mul1 _).mono ?_; rintro e w' ⟨rfl, d, rfl⟩) | (go_at_call 31; refine (fx_Scale1 _).mono ?_; rintro e w' ⟨rfl, d, rfl⟩) | (go_at_call 32; refine (HM.out _).mono ?_; rintro e w' ⟨rfl, d, rfl⟩))
  go_region
  all_goals
    go_wp2_with fail
    exact bodyPost_ret (v := .tuple #[(.agg #[.int .i64 (250), .int .i64 (1)]), (.agg #[.int .i64 (250), .int .i64 (1)]), .int .i64 0]) (by simp [results, Tryz.results8, go_sem]) rfl ⟨rfl, by rw [bw_drewExt, lay_bw]; exact lay_ex _ _⟩
end Go.Proofs.YtmomoeagnkjbiaaGreat
/- wide and fixed.enclose for products of less than 2^60: the quotients rounded down and up. -/
namespace Go.Proofs.YtmomoeagnkjbiaaGreat
open Go.RowKit

theorem i64_and60 (n : Int) : bits .and .i64 n 1152921504606846975 = n % 1152921504606846976 := by
  have h127 : (BitVec.ofInt 64 1152921504606846975).toNat = 2 ^ 60 - 1 := by decide
  have key : (BitVec.ofInt 64 n &&& BitVec.ofInt 64 1152921504606846975).toNat = (n % ((2 ^ 64 : Nat) : Int)).toNat % 2 ^ 60 := by
    rw [BitVec.toNat_and, BitVec.toNat_ofInt, h127, Nat.and_two_pow_sub_one_eq_mod]
  show IntKind.i64.wrap ((BitVec.ofInt 64 n &&& BitVec.ofInt 64 1152921504606846975).toNat : Nat) = n % 1152921504606846976
  rw [key, IntKind.wrap_i64]
  omega
theorem u64_and60 (m : Nat) (h : m < 1152921504606846976) : bits .and .u64 (m : Int) 1152921504606846975 = (m : Int) := by
  have := bits_and_u64_nat m 1152921504606846975 (by omega) (by decide)
  have e : m &&& 1152921504606846975 = m := by
    have := Nat.and_two_pow_sub_one_eq_mod m 60
    rw [show (2 ^ 60 - 1 : Nat) = 1152921504606846975 by decide, show (2 ^ 60 : Nat) = 1152921504606846976 by decide] at this
    omega
  rw [e] at this
  exact this
theorem u64_or0 (m : Nat) (h : m < 18446744073709551616) : bits .or .u64 0 (m : Int) = (m : Int) := by
  have := bits_or_u64_nat 0 m (by decide) h
  rw [Nat.zero_or] at this
  exact this
set_option maxRecDepth 100000 in
theorem wd_abs2 (n : Int) (w : World) (h1 : -4611686018427387904 ≤ n) (h2 : n ≤ 4611686018427387904) :
    Calls Tryz.prog 159 #[.int .i64 n] w fun e w' => e = .returned (.int .u64 (n.natAbs : Int)) ∧ w' = w := by
  by_cases hn : n < 0
  · have k1 : IntKind.u64.wrap n = n + 18446744073709551616 := by rw [IntKind.wrap_u64]; omega
    obtain ⟨X, hX⟩ : ∃ X, n + 18446744073709551616 = X := ⟨_, rfl⟩
    obtain ⟨Y, hY⟩ : ∃ Y : Int, ((n.natAbs : Nat) : Int) = Y := ⟨_, rfl⟩
    have k2 : IntKind.u64.wrap (-X) = Y := by rw [IntKind.wrap_u64]; omega
    have k3 : IntKind.u64.wrap X = X := IntWalk.u64_in _ (by omega)
    rw [hX] at k1
    rw [hY]
    clear hX hY
    go_enter Tryz.func159, Tryz.ntmps159
    go_wp2_with fail
    go_ret
    exact ⟨rfl, rfl⟩
  · have k1 : IntKind.u64.wrap n = n := IntWalk.u64_in _ (by omega)
    rw [show ((n.natAbs : Nat) : Int) = n by omega]
    go_enter Tryz.func159, Tryz.ntmps159
    go_wp2_with fail
    go_ret
    exact ⟨rfl, rfl⟩
set_option maxRecDepth 100000 in
theorem wd_Valid2 (hi lo : Int) (h1 : hi = 0 ∨ hi = -1) (h2 : 0 ≤ lo) (h3 : lo < 1152921504606846976) (w : World) :
    Calls Tryz.prog 177 #[(.agg #[.int .i64 (hi), .int .i64 (lo)])] w fun e w' => e = .returned (.bool true) ∧ ∃ d, w' = bw w d := by
  rcases h1 with rfl | rfl
  all_goals
    refine lay_start ?_
    go_enter Tryz.func177, Tryz.ntmps177
    go_wp2_with fail
    go_ret
    exact ⟨rfl, lay_ex _ _⟩
set_option maxRecDepth 100000 in
theorem wd_fit2 (lo : Int) (h1 : -1152921504606846976 < lo) (h2 : lo < 1152921504606846976) (w : World) :
    Calls Tryz.prog 176 #[.int .i64 0, .int .i64 lo] w fun e w' => e = .returned (.tuple #[(.agg #[.int .i64 (lo / 1152921504606846976), .int .i64 (lo % 1152921504606846976)]), .int .i64 0]) ∧ ∃ d, w' = bw w d := by
  have kb := i64_and60 lo
  obtain ⟨q, hq⟩ : ∃ q, lo / 1152921504606846976 = q := ⟨_, rfl⟩
  obtain ⟨r, hr⟩ : ∃ r, lo % 1152921504606846976 = r := ⟨_, rfl⟩
  have HV := Lib.hid (fun W => wd_Valid2 q r (by omega) (by omega) (by omega) W)
  have kq : IntKind.i64.wrap q = q := IntWalk.i64_in _ (by omega)
  rw [hr] at kb
  rw [hq, hr]
  refine lay_start ?_
  go_enter Tryz.func176, Tryz.ntmps176
  go_wp2_with (go_at_call 177; refine (HV.out _).mono ?_; rintro e w' ⟨rfl, d, rfl⟩)
  exact bodyPost_ret (v := .tuple #[(.agg #[.int .i64 (q), .int .i64 (r)]), .int .i64 0]) (by simp [results, Tryz.results176, go_sem]) rfl ⟨rfl, lay_ex _ _⟩
set_option maxHeartbeats 1000000 in
set_option maxRecDepth 100000 in
theorem wd_wide2 (m : Nat) (h : m < 1152921504606846976) (ng : Bool) (p : Int) (hp : p = if ng then -(m : Int) else (m : Int)) (w : World) :
    Calls Tryz.prog 160 #[.agg #[.int .u64 0, .int .u64 (m : Int), .bool ng]] w fun e w' => e = .returned (.tuple #[(.agg #[.int .i64 (p / 1152921504606846976), .int .i64 (p % 1152921504606846976)]), .int .i64 0]) ∧ ∃ d, w' = bw w d := by
  have kb := u64_and60 m h
  have kb2 : bits .or .u64 0 0 = 0 := by decide
  have kd : (m : Int) / 1152921504606846976 = 0 := by omega
  have km : IntKind.i64.wrap (m : Int) = (m : Int) := IntWalk.i64_in _ (by omega)
  have kn : IntKind.i64.wrap (-(m : Int)) = -(m : Int) := IntWalk.i64_in _ (by omega)
  cases ng
  · rw [if_neg (by decide)] at hp
    subst hp
    have HF := Lib.hid (fun W => wd_fit2 (m : Int) (by omega) (by omega) W)
    generalize (m : Int) % 1152921504606846976 = r at *
    rw [kd] at HF ⊢
    refine lay_start ?_
    go_enter Tryz.func160, Tryz.ntmps160
    go_wp2_with fail
    refine region_bw (by kernel_rfl) (by kernel_rfl) ?_
    repeat (go_big_quiet_step ((first | fail)))
    refine wpQuiet_nil ?_
    rintro w' ⟨d, rfl⟩
    rw [lay_bw]
    go_wp2_with (go_at_call 176; refine (HF.out _).mono ?_; rintro e w' ⟨rfl, d, rfl⟩)
    exact bodyPost_ret (v := .tuple #[(.agg #[.int .i64 (0), .int .i64 (r)]), .int .i64 0]) (by simp [results, Tryz.results160, go_sem]) rfl ⟨rfl, lay_ex _ _⟩
  · rw [if_pos rfl] at hp
    have HF := Lib.hid (fun W => wd_fit2 p (by omega) (by omega) W)
    obtain ⟨q, hq⟩ : ∃ q, p / 1152921504606846976 = q := ⟨_, rfl⟩
    obtain ⟨r, hr⟩ : ∃ r, p % 1152921504606846976 = r := ⟨_, rfl⟩
    rw [hq, hr] at HF ⊢
    rw [← hp] at kn
    clear hq hr
    have hp2 : -(m : Int) = p := hp.symm
    clear hp
    refine lay_start ?_
    go_enter Tryz.func160, Tryz.ntmps160
    go_wp2_with fail
    refine region_bw (by kernel_rfl) (by kernel_rfl) ?_
    repeat (go_big_quiet_step ((first | fail)))
    refine wpQuiet_nil ?_
    rintro w' ⟨d, rfl⟩
    rw [lay_bw]
    go_wp2_with fail
    go_wp2_with (go_at_call 176; refine (HF.out _).mono ?_; rintro e w' ⟨rfl, d, rfl⟩)
    exact bodyPost_ret (v := .tuple #[(.agg #[.int .i64 (q), .int .i64 (r)]), .int .i64 0]) (by simp [results, Tryz.results160, go_sem]) rfl ⟨rfl, lay_ex _ _⟩
end Go.Proofs.YtmomoeagnkjbiaaGreat
