/- Contracts and plain laws, several texts in one: WdC; TrC; Angle -/
import Derived.Test.YtejmgdpgngjiiaaGreatProg
import Derived.WalkKit
import Derived.WalkSpells
import Derived.WalkLawsBesides
import Derived.Lib.Hide
import Derived.BigQuiet
import Derived.Test.YtejmgdpgngjiiaaGreatBAA
import Derived.Test.YtejmgdpgngjiiaaGreatBAB
import Derived.Test.YtejmgdpgngjiiaaGreatBAC
import Derived.Test.YtejmgdpgngjiiaaGreatBAK
/- fixed and wide at the numbers of a quarter turn. -/
namespace Go.Proofs.YtejmgdpgngjiiaaGreat
open Go.RowKit

set_option maxRecDepth 100000 in
theorem wd_abs (n : Nat) (w : World) (h : n < 9223372036854775808) :
    Calls Tryz.prog 171 #[.int .i64 (n : Int)] w fun e w' => e = .returned (.int .u64 (n : Int)) ∧ w' = w := by
  have h1 : ¬ (n : Int) < 0 := by omega
  have k1 : IntKind.u64.wrap (n : Int) = n := IntWalk.u64_in _ (by omega)
  go_enter Tryz.func171, Tryz.ntmps171
  go_wp2_with fail
  go_ret
  exact ⟨rfl, rfl⟩
set_option maxRecDepth 100000 in
theorem wd_Valid (w : World) :
    Calls Tryz.prog 196 #[(.agg #[.int .i64 (0), .int .i64 (268435456000000)])] w fun e w' => e = .returned (.bool true) ∧ ∃ d, w' = bw w d := by
  refine lay_start ?_
  go_enter Tryz.func196, Tryz.ntmps196
  go_wp2_with fail
  go_ret
  exact ⟨rfl, lay_ex _ _⟩
set_option maxRecDepth 100000 in
theorem wd_fit (w : World) :
    Calls Tryz.prog 195 #[.int .i64 0, .int .i64 268435456000000] w fun e w' => e = .returned (.tuple #[(.agg #[.int .i64 (0), .int .i64 (268435456000000)]), .int .i64 0]) ∧ ∃ d, w' = bw w d := by
  have kb : bits .and .i64 268435456000000 1152921504606846975 = 268435456000000 := by decide
  refine lay_start ?_
  go_enter Tryz.func195, Tryz.ntmps195
  go_wp2_with (go_at_call 196; refine (wd_Valid _).mono ?_; rintro e w' ⟨rfl, d, rfl⟩)
  exact bodyPost_ret (v := .tuple #[(.agg #[.int .i64 (0), .int .i64 (268435456000000)]), .int .i64 0]) (by simp [results, Tryz.results195, go_sem]) rfl ⟨rfl, lay_ex _ _⟩
set_option maxRecDepth 100000 in
theorem wd_wide (w : World) :
    Calls Tryz.prog 172 #[.agg #[.int .u64 0, .int .u64 268435456000000, .bool false]] w fun e w' => e = .returned (.tuple #[(.agg #[.int .i64 (0), .int .i64 (268435456000000)]), .int .i64 0]) ∧ ∃ d, w' = bw w d := by
  have kb : bits .and .u64 268435456000000 1152921504606846975 = 268435456000000 := by decide
  have kb2 : bits .or .u64 0 0 = 0 := by decide
  refine lay_start ?_
  go_enter Tryz.func172, Tryz.ntmps172
  go_wp2_with fail
  refine region_bw (by kernel_rfl) (by kernel_rfl) ?_
  repeat (go_big_quiet_step ((first | fail)))
  refine wpQuiet_nil ?_
  rintro w' ⟨d, rfl⟩
  rw [lay_bw]
  go_wp2_with (go_at_call 195; refine (wd_fit _).mono ?_; rintro e w' ⟨rfl, d, rfl⟩)
  exact bodyPost_ret (v := .tuple #[(.agg #[.int .i64 (0), .int .i64 (268435456000000)]), .int .i64 0]) (by simp [results, Tryz.results172, go_sem]) rfl ⟨rfl, lay_ex _ _⟩
set_option maxRecDepth 100000 in
theorem wd_Product (w : World) :
    Calls Tryz.prog 142 #[.int .i64 1073741824, .int .i64 250000] w fun e w' => e = .returned (.tuple #[(.agg #[.int .i64 (0), .int .i64 (268435456000000)]), .int .i64 0]) ∧ ∃ d, w' = bw w d := by
  have H1 : Hid (∀ W, Calls Tryz.prog 171 #[.int .i64 1073741824] W fun e w' => e = .returned (.int .u64 1073741824) ∧ w' = W) := Lib.hid fun W => wd_abs 1073741824 W (by decide)
  have H2 : Hid (∀ W, Calls Tryz.prog 171 #[.int .i64 250000] W fun e w' => e = .returned (.int .u64 250000) ∧ w' = W) := Lib.hid fun W => wd_abs 250000 W (by decide)
  have H3 : Hid (∀ W, Calls Tryz.prog 136 #[.int .u64 1073741824, .int .u64 250000] W fun e w' => e = .returned (.tuple #[.int .u64 0, .int .u64 268435456000000]) ∧ w' = W) := Lib.hid fun W => Tryz.bits_Mul64 1073741824 250000 (by decide) (by decide) W
  refine lay_start ?_
  go_enter Tryz.func142, Tryz.ntmps142
  go_wp2_with (first | (go_at_call 171; first | (with_reducible refine (H1.out _).mono ?_; rintro e w' ⟨rfl, rfl⟩) | (with_reducible refine (H2.out _).mono ?_; rintro e w' ⟨rfl, rfl⟩)) | (go_at_call 136; refine (H3.out _).mono ?_; rintro e w' ⟨rfl, rfl⟩) | (go_at_call 172; refine (wd_wide _).mono ?_; rintro e w' ⟨rfl, d, rfl⟩))
  exact bodyPost_ret (v := .tuple #[(.agg #[.int .i64 (0), .int .i64 (268435456000000)]), .int .i64 0]) (by simp [results, Tryz.results142, go_sem]) rfl ⟨rfl, lay_ex _ _⟩
set_option maxRecDepth 100000 in
theorem wd_sizeOf (w : World) :
    Calls Tryz.prog 197 #[(.agg #[.int .i64 (0), .int .i64 (268435456000000)])] w fun e w' => e = .returned (.agg #[.int .u64 0, .int .u64 268435456000000, .bool false]) ∧ ∃ d, w' = bw w d := by
  have kb2 : bits .or .u64 0 268435456000000 = 268435456000000 := by decide
  refine lay_start ?_
  go_enter Tryz.func197, Tryz.ntmps197
  go_wp2_with fail
  refine region_bw (by kernel_rfl) (by kernel_rfl) ?_
  repeat (go_big_quiet_step ((first | fail)))
  refine wpQuiet_nil ?_
  rintro w' ⟨d, rfl⟩
  rw [lay_bw]
  go_wp2_with fail
  exact bodyPost_ret (v := .agg #[.int .u64 0, .int .u64 268435456000000, .bool false]) (by simp [results, Tryz.results197, go_sem]) rfl ⟨rfl, lay_ex _ _⟩
set_option maxRecDepth 100000 in
theorem wd_quotient (up : Bool) (w : World) :
    Calls Tryz.prog 173 #[(.agg #[.int .i64 (0), .int .i64 (268435456000000)]), .int .i64 1073741824, .bool up] w fun e w' => e = .returned (.tuple #[.int .i64 250000, .int .i64 0]) ∧ ∃ d, w' = bw w d := by
  have H1 : Hid (∀ W, Calls Tryz.prog 171 #[.int .i64 1073741824] W fun e w' => e = .returned (.int .u64 1073741824) ∧ w' = W) := Lib.hid fun W => wd_abs 1073741824 W (by decide)
  have H3 : Hid (∀ W, Calls Tryz.prog 198 #[.int .u64 0, .int .u64 268435456000000, .int .u64 1073741824] W fun e w' => e = .returned (.tuple #[.int .u64 250000, .int .u64 0]) ∧ ∃ d, w' = bw W d) := Lib.hid fun W => div64' 0 268435456000000 1073741824 250000 0 (by decide) (by decide) (by decide) (by decide) (by decide) W
  cases up
  all_goals
    refine lay_start ?_
    go_enter Tryz.func173, Tryz.ntmps173
    go_wp2_with (first | (go_at_call 196; refine (wd_Valid _).mono ?_; rintro e w' ⟨rfl, d, rfl⟩) | (go_at_call 197; refine (wd_sizeOf _).mono ?_; rintro e w' ⟨rfl, d, rfl⟩) | (go_at_call 171; refine (H1.out _).mono ?_; rintro e w' ⟨rfl, rfl⟩) | (go_at_call 198; refine (H3.out _).mono ?_; rintro e w' ⟨rfl, d, rfl⟩))
    go_ret2
    exact ⟨rfl, lay_ex _ _⟩
set_option maxRecDepth 100000 in
theorem wd_Floor (w : World) :
    Calls Tryz.prog 143 #[(.agg #[.int .i64 (0), .int .i64 (268435456000000)]), .int .i64 1073741824] w fun e w' => e = .returned (.tuple #[.int .i64 250000, .int .i64 0]) ∧ ∃ d, w' = bw w d := by
  refine lay_start ?_
  go_enter Tryz.func143, Tryz.ntmps143
  go_wp2_with (go_at_call 173; refine (wd_quotient _ _).mono ?_; rintro e w' ⟨rfl, d, rfl⟩)
  go_ret2
  exact ⟨rfl, lay_ex _ _⟩
set_option maxRecDepth 100000 in
theorem wd_Ceil (w : World) :
    Calls Tryz.prog 144 #[(.agg #[.int .i64 (0), .int .i64 (268435456000000)]), .int .i64 1073741824] w fun e w' => e = .returned (.tuple #[.int .i64 250000, .int .i64 0]) ∧ ∃ d, w' = bw w d := by
  refine lay_start ?_
  go_enter Tryz.func144, Tryz.ntmps144
  go_wp2_with (go_at_call 173; refine (wd_quotient _ _).mono ?_; rintro e w' ⟨rfl, d, rfl⟩)
  go_ret2
  exact ⟨rfl, lay_ex _ _⟩
set_option maxRecDepth 100000 in
theorem fx_enclose (w : World) :
    Calls Tryz.prog 99 #[.int .i64 1073741824, .int .i64 250000, .int .i64 1073741824] w fun e w' => e = .returned (.tuple #[.int .i64 250000, .int .i64 250000, .int .i64 0]) ∧ ∃ d, w' = bw w d := by
  refine lay_start ?_
  go_enter Tryz.func99, Tryz.ntmps99
  go_wp2_with (first | (go_at_call 142; refine (wd_Product _).mono ?_; rintro e w' ⟨rfl, d, rfl⟩) | (go_at_call 143; refine (wd_Floor _).mono ?_; rintro e w' ⟨rfl, d, rfl⟩) | (go_at_call 144; refine (wd_Ceil _).mono ?_; rintro e w' ⟨rfl, d, rfl⟩))
  exact bodyPost_ret (v := .tuple #[.int .i64 250000, .int .i64 250000, .int .i64 0]) (by simp [results, Tryz.results99, go_sem]) rfl ⟨rfl, lay_ex _ _⟩
end Go.Proofs.YtejmgdpgngjiiaaGreat
/- trig at a quarter of a turn, where the sine is exact. -/
namespace Go.Proofs.YtejmgdpgngjiiaaGreat
open Go.RowKit

set_option maxRecDepth 100000 in
theorem tr_turned (n : Int) (h : n = 5400000 ∨ n = 0 ∨ n = 10800000) (w : World) :
    Calls Tryz.prog 169 #[.int .i64 n] w fun e w' => e = .returned (.int .i64 n) ∧ w' = w := by
  rcases h with rfl | rfl | rfl
  all_goals
    go_enter Tryz.func169, Tryz.ntmps169
    go_wp2_with fail
    go_ret
    exact ⟨rfl, rfl⟩
set_option maxRecDepth 100000 in
theorem tr_sine (w : World) :
    Calls Tryz.prog 170 #[.int .i64 5400000] w fun e w' => e = .returned (.tuple #[.int .i64 1073741824, .bool true]) ∧ w' = w := by
  go_enter Tryz.func170, Tryz.ntmps170
  go_wp2_with fail
  go_ret2
  exact ⟨rfl, rfl⟩
set_option maxRecDepth 100000 in
theorem tr_bounds (w : World) :
    Calls Tryz.prog 140 #[.int .i64 5400000] w fun e w' => e = .returned (.tuple #[.int .i64 1073741824, .int .i64 1073741824]) ∧ w' = w := by
  go_enter Tryz.func140, Tryz.ntmps140
  go_wp2_with (first | (go_at_call 169; refine (tr_turned _ (.inl rfl) _).mono ?_; rintro e w' ⟨rfl, rfl⟩) | (go_at_call 170; refine (tr_sine _).mono ?_; rintro e w' ⟨rfl, rfl⟩))
  go_ret2
  exact ⟨rfl, rfl⟩
set_option maxRecDepth 100000 in
theorem tr_valid (n : Int) (h : n = 5400000 ∨ n = 0) (w : World) :
    Calls Tryz.prog 90 #[(.agg #[.int .i64 (n), .int .i64 (n)])] w fun e w' => e = .returned (.bool true) ∧ ∃ d, w' = bw w d := by
  rcases h with rfl | rfl
  all_goals
    refine lay_start ?_
    go_enter Tryz.func90, Tryz.ntmps90
    go_wp2_with fail
    go_ret
    exact ⟨rfl, lay_ex _ _⟩
set_option maxRecDepth 100000 in
theorem tr_further (w : World) :
    Calls Tryz.prog 92 #[(.agg #[.int .i64 (0), .int .i64 (0)])] w fun e w' => e = .returned (.agg #[.int .i64 (5400000), .int .i64 (5400000)]) ∧ ∃ d, w' = bw w d := by
  refine lay_start ?_
  go_enter Tryz.func92, Tryz.ntmps92
  go_wp2_with fail
  all_goals exact bodyPost_ret (v := (.agg #[.int .i64 (5400000), .int .i64 (5400000)])) (by simp [results, Tryz.results92, go_sem]) rfl ⟨rfl, lay_ex _ _⟩
set_option maxRecDepth 100000 in
theorem tr_meets1 (w : World) :
    Calls Tryz.prog 141 #[(.agg #[.int .i64 (5400000), .int .i64 (5400000)]), .int .i64 5400000] w fun e w' => e = .returned (.bool true) ∧ ∃ d, w' = bw w d := by
  have HT := Lib.hid (fun W => tr_turned 0 (.inr (.inl rfl)) W)
  refine lay_start ?_
  go_enter Tryz.func141, Tryz.ntmps141
  go_wp2_with fail
  refine region_bw (by kernel_rfl) (by kernel_rfl) ?_
  repeat (go_big_quiet_step ((first | (go_at_call 169; exact bqs (HT.out _) ⟨_, rfl⟩))))
  refine wpQuiet_nil ?_
  rintro w' ⟨d, rfl⟩
  rw [lay_bw]
  go_wp2_with fail
  go_ret
  exact ⟨rfl, lay_ex _ _⟩
set_option maxRecDepth 100000 in
theorem tr_meets2 (w : World) :
    Calls Tryz.prog 141 #[(.agg #[.int .i64 (5400000), .int .i64 (5400000)]), .int .i64 16200000] w fun e w' => e = .returned (.bool false) ∧ ∃ d, w' = bw w d := by
  have HT := Lib.hid (fun W => tr_turned 10800000 (.inr (.inr rfl)) W)
  refine lay_start ?_
  go_enter Tryz.func141, Tryz.ntmps141
  go_wp2_with fail
  refine region_bw (by kernel_rfl) (by kernel_rfl) ?_
  repeat (go_big_quiet_step ((first | (go_at_call 169; exact bqs (HT.out _) ⟨_, rfl⟩))))
  refine wpQuiet_nil ?_
  rintro w' ⟨d, rfl⟩
  rw [lay_bw]
  go_wp2_with fail
  go_ret
  exact ⟨rfl, lay_ex _ _⟩
set_option maxRecDepth 100000 in
theorem tr_enclosure (w : World) :
    Calls Tryz.prog 91 #[(.agg #[.int .i64 (5400000), .int .i64 (5400000)])] w fun e w' => e = .returned (.agg #[.int .i64 (1073741824), .int .i64 (1073741824)]) ∧ ∃ d, w' = bw w d := by
  refine lay_start ?_
  go_enter Tryz.func91, Tryz.ntmps91
  go_wp2_with (first | (go_at_call 140; refine (tr_bounds _).mono ?_; rintro e w' ⟨rfl, rfl⟩) | (go_at_call 141; first | (with_reducible refine (tr_meets1 _).mono ?_; rintro e w' ⟨rfl, d, rfl⟩) | (with_reducible refine (tr_meets2 _).mono ?_; rintro e w' ⟨rfl, d, rfl⟩)))
  all_goals exact bodyPost_ret (v := (.agg #[.int .i64 (1073741824), .int .i64 (1073741824)])) (by simp [results, Tryz.results91, go_sem]) rfl ⟨rfl, lay_ex _ _⟩
set_option maxRecDepth 100000 in
theorem tr_Cos (w : World) :
    Calls Tryz.prog 45 #[(.agg #[.int .i64 (0), .int .i64 (0)])] w fun e w' => e = .returned (.tuple #[(.agg #[.int .i64 (1073741824), .int .i64 (1073741824)]), .int .i64 0]) ∧ ∃ d, w' = bw w d := by
  refine lay_start ?_
  go_enter Tryz.func45, Tryz.ntmps45
  go_wp2_with (first | (go_at_call 90; refine (tr_valid _ (.inr rfl) _).mono ?_; rintro e w' ⟨rfl, d, rfl⟩) | (go_at_call 92; refine (tr_further _).mono ?_; rintro e w' ⟨rfl, d, rfl⟩) | (go_at_call 91; refine (tr_enclosure _).mono ?_; rintro e w' ⟨rfl, d, rfl⟩))
  all_goals exact bodyPost_ret (v := .tuple #[(.agg #[.int .i64 (1073741824), .int .i64 (1073741824)]), .int .i64 0]) (by simp [results, Tryz.results45, go_sem]) rfl ⟨rfl, lay_ex _ _⟩
set_option maxRecDepth 100000 in
theorem tr_Sin (w : World) :
    Calls Tryz.prog 46 #[(.agg #[.int .i64 (5400000), .int .i64 (5400000)])] w fun e w' => e = .returned (.tuple #[(.agg #[.int .i64 (1073741824), .int .i64 (1073741824)]), .int .i64 0]) ∧ ∃ d, w' = bw w d := by
  refine lay_start ?_
  go_enter Tryz.func46, Tryz.ntmps46
  go_wp2_with (first | (go_at_call 90; refine (tr_valid _ (.inl rfl) _).mono ?_; rintro e w' ⟨rfl, d, rfl⟩) | (go_at_call 91; refine (tr_enclosure _).mono ?_; rintro e w' ⟨rfl, d, rfl⟩))
  all_goals exact bodyPost_ret (v := .tuple #[(.agg #[.int .i64 (1073741824), .int .i64 (1073741824)]), .int .i64 0]) (by simp [results, Tryz.results46, go_sem]) rfl ⟨rfl, lay_ex _ _⟩
end Go.Proofs.YtejmgdpgngjiiaaGreat
/- Contracts of package angle and of its reference, as far as the translation has them. -/
namespace Go.Proofs.YtejmgdpgngjiiaaGreat
open Go.RowKit

def fitsB (n : Int) : Bool := decide (-1099511627776 ≤ n ∧ n ≤ 1099511627776)
theorem fits_yes {n : Int} (h1 : -1099511627776 ≤ n) : decide (n ≤ 1099511627776) = fitsB n := by
  unfold fitsB; simp [h1]
theorem fits_no {n : Int} (h1 : n < -1099511627776) : false = fitsB n := by
  unfold fitsB; simp; omega
def validB (lo hi : Int) : Bool := decide (lo ≤ hi ∧ -1099511627776 ≤ lo ∧ hi ≤ 1099511627776)
theorem validB_iff {lo hi : Int} : validB lo hi = true ↔ lo ≤ hi ∧ -1099511627776 ≤ lo ∧ hi ≤ 1099511627776 := by simp [validB]
theorem validB_eq {lo hi : Int} : validB lo hi = (decide (lo ≤ hi) && fitsB lo && fitsB hi) := by
  rw [Bool.eq_iff_iff]; simp [validB, fitsB]; omega
set_option maxHeartbeats 400000 in
theorem angle_fits (n : Int) (w : World) :
    Calls Tryz.prog 89 #[.int .i64 n] w fun e w' => e = .returned (.bool (fitsB n)) ∧ w' = w := by
  go_enter Tryz.func89, Tryz.ntmps89
  go_wp2
  · go_ret
    exact ⟨ret_bool (fits_yes ‹_›), rfl⟩
  · go_ret
    exact ⟨ret_bool (fits_no ‹_›), rfl⟩
theorem valid_ways1 {lo hi : Int} (h : lo ≤ hi) (h2 : fitsB lo = true) : fitsB hi = validB lo hi := by simp [validB_eq, *]
theorem valid_ways2 {lo hi : Int} (h2 : ¬ fitsB lo = true) : false = validB lo hi := by simp [validB_eq, *]
theorem valid_ways3 {lo hi : Int} (h2 : hi < lo) : false = validB lo hi := by
  have : ¬ lo ≤ hi := by omega
  simp [validB_eq, *]
set_option maxHeartbeats 400000 in
theorem angle_Valid (lo hi : Int) (w : World) :
    Calls Tryz.prog 44 #[(.agg #[.int .i64 (lo), .int .i64 (hi)])] w fun e w' => e = .returned (.bool (validB lo hi)) ∧ ∃ d, w' = bw w d := by
  refine lay_start ?_
  go_enter Tryz.func44, Tryz.ntmps44
  go_wp2_with (go_at_call 89; refine (angle_fits _ _).mono ?_; rintro e w' ⟨rfl, rfl⟩)
  all_goals go_ret
  all_goals exact ⟨ret_bool (by first | exact valid_ways1 ‹_› ‹_› | exact valid_ways2 ‹_› | exact valid_ways3 ‹_›), lay_ex _ _⟩
set_option maxHeartbeats 400000 in
theorem ref05_Valid (lo hi : Int) (w : World) :
    Calls Tryz.prog 20 #[(.agg #[.int .i64 (lo), .int .i64 (hi)])] w fun e w' => e = .returned (.bool (validB lo hi)) ∧ ∃ d, w' = bw w d := by
  refine lay_start ?_
  go_enter Tryz.func20, Tryz.ntmps20
  go_wp2
  all_goals go_ret
  all_goals exact ⟨ret_bool (by rw [Bool.eq_iff_iff]; simp [validB]; omega), lay_ex _ _⟩
set_option maxHeartbeats 400000 in
theorem ref05_Floor (a b : Int) (w : World) (hb : 1 ≤ b) (h1 : -9223372036854775807 ≤ a) (h2 : a ≤ 9223372036854775807) :
    Calls Tryz.prog 125 #[.int .i64 a, .int .i64 b] w fun e w' => e = .returned (.int .i64 (a / b)) ∧ w' = w := by
  go_enter Tryz.func125, Tryz.ntmps125
  go_wp2
  · go_ret
    refine ⟨ret_int ?_, rfl⟩
    rw [IntWalk.wrap64_in]
    · exact floor_neg hb ‹_›
    · rw [floor_neg hb ‹_›]; have := ediv_bd hb 9223372036854775807 (by decide) h1 h2; omega
  · go_ret
    exact ⟨ret_int (floor_pos hb ‹_›), rfl⟩
set_option maxHeartbeats 400000 in
theorem ref05_Ceil (a b : Int) (w : World) (hb : 1 ≤ b) (h1 : -9223372036854775807 ≤ a) (h2 : a ≤ 9223372036854775807) :
    Calls Tryz.prog 127 #[.int .i64 a, .int .i64 b] w fun e w' => e = .returned (.int .i64 (cdiv a b)) ∧ w' = w := by
  go_enter Tryz.func127, Tryz.ntmps127
  go_wp2
  · go_ret
    refine ⟨ret_int ?_, rfl⟩
    rw [IntWalk.wrap64_in]
    · exact cdiv_pos hb ‹_›
    · rw [cdiv_pos hb ‹_›]; have := cdiv_bd hb 9223372036854775807 (by decide) h1 h2; omega
  · go_ret
    exact ⟨ret_int (cdiv_neg hb ‹_›), rfl⟩

/-- Go's min and max of two ints, behind names that the walk does not open. -/
def mn (x y : Int) : Int := if y < x then y else x
def mx (x y : Int) : Int := if x < y then y else x
theorem mn_eq (x y : Int) : mn x y = min x y := by unfold mn; split <;> omega
theorem mx_eq (x y : Int) : mx x y = max x y := by unfold mx; split <;> omega
section
variable {P : Program} {w : World}
theorem run_mn (ts : Array TypeId) (t : TypeId) (k k' : IntKind) (x y : Int) : (Builtin.min_ ts t #[.int k x, .int k' y]).run P w = .ok (.int k (mn x y)) w := run_min_int2 w ts t k k' x y
theorem run_mx (ts : Array TypeId) (t : TypeId) (k k' : IntKind) (x y : Int) : (Builtin.max_ ts t #[.int k x, .int k' y]).run P w = .ok (.int k (mx x y)) w := run_max_int2 w ts t k k' x y
end
attribute [go_sem ↓] run_mn run_mx

theorem validB_false {lo hi : Int} : validB lo hi = false ↔ ¬ (lo ≤ hi ∧ -1099511627776 ≤ lo ∧ hi ≤ 1099511627776) := by simp [validB]
def insideB (x0 y0 x1 y1 : Int) : Bool := decide (x1 ≤ x0 ∧ y0 ≤ y1)
def inside2B (x0 y0 x1 y1 : Int) : Bool := validB x0 y0 && validB x1 y1 && insideB x0 y0 x1 y1
theorem inside2B_iff {x0 y0 x1 y1 : Int} : inside2B x0 y0 x1 y1 = true ↔ validB x0 y0 = true ∧ validB x1 y1 = true ∧ x1 ≤ x0 ∧ y0 ≤ y1 := by simp [inside2B, insideB, and_assoc]
theorem insideB_iff {x0 y0 x1 y1 : Int} : insideB x0 y0 x1 y1 = true ↔ x1 ≤ x0 ∧ y0 ≤ y1 := by simp [insideB]
def meetLo (x0 y0 x1 y1 : Int) : Int := if max x0 x1 ≤ min y0 y1 then max x0 x1 else 0
def meetHi (x0 y0 x1 y1 : Int) : Int := if max x0 x1 ≤ min y0 y1 then min y0 y1 else 0
def meetE (x0 y0 x1 y1 : Int) : Int := if max x0 x1 ≤ min y0 y1 then 0 else 23
theorem meet_bad {x0 y0 x1 y1 : Int} (h : mn y0 y1 < mx x0 x1) : meetLo x0 y0 x1 y1 = 0 ∧ meetHi x0 y0 x1 y1 = 0 ∧ meetE x0 y0 x1 y1 = 23 := by
  rw [mn_eq, mx_eq] at h
  unfold meetLo meetHi meetE; omega
theorem meet_good {x0 y0 x1 y1 : Int} (h : mx x0 x1 ≤ mn y0 y1) : meetLo x0 y0 x1 y1 = mx x0 x1 ∧ meetHi x0 y0 x1 y1 = mn y0 y1 ∧ meetE x0 y0 x1 y1 = 0 := by
  rw [mn_eq, mx_eq] at *
  unfold meetLo meetHi meetE; omega
def meetsB (x0 y0 x1 y1 : Int) : Bool := decide (x0 ≤ y1 ∧ x1 ≤ y0)
def turnLo (x0 y0 : Int) : Int := if 21600000 ≤ y0 - x0 then 0 else x0 % 21600000
def turnHi (x0 y0 : Int) : Int := if 21600000 ≤ y0 - x0 then 21600000 else x0 % 21600000 + (y0 - x0)

end Go.Proofs.YtejmgdpgngjiiaaGreat
