/- Contracts and plain laws, several texts in one: Mer1; Mer2; Mer3; Pa3 -/
import Derived.Test.YtlkphcjlgbimkaaGreatProg
import Derived.WalkKit
import Derived.WalkSpells
import Derived.WalkLawsBesides
import Derived.Lib.Hide
import Derived.BigQuiet
import Derived.Test.YtlkphcjlgbimkaaGreatBAA
import Derived.Test.YtlkphcjlgbimkaaGreatBAB
import Derived.Test.YtlkphcjlgbimkaaGreatBAE
import Derived.Test.YtlkphcjlgbimkaaGreatBAQ
import Derived.Test.YtlkphcjlgbimkaaGreatBBI
/- Contracts of package meridian and its reference: latitudes at the meridian. -/
namespace Go.Proofs.YtlkphcjlgbimkaaGreat
open Go.RowKit

def latB (x0 y0 : Int) : Bool := decide (x0 ≤ y0 ∧ -5400000 ≤ x0 ∧ y0 ≤ 5400000)
theorem latB_iff {x0 y0 : Int} : latB x0 y0 = true ↔ x0 ≤ y0 ∧ -5400000 ≤ x0 ∧ y0 ≤ 5400000 := by simp [latB]
theorem lat_valid {x0 y0 : Int} (h : latB x0 y0 = true) : validB x0 y0 = true := by
  have := latB_iff.1 h; rw [validB_iff]; omega
theorem lat_w1 {x0 y0 : Int} (h1 : validB x0 y0 = true) (h2 : -5400000 ≤ x0) : decide (y0 ≤ 5400000) = latB x0 y0 := by
  have := validB_iff.1 h1; rw [Bool.eq_iff_iff]; simp [latB]; omega
theorem lat_w2 {x0 y0 : Int} (h2 : x0 < -5400000) : false = latB x0 y0 := by rw [Bool.eq_iff_iff]; simp [latB]; omega
theorem lat_w3 {x0 y0 : Int} (h1 : ¬ validB x0 y0 = true) : false = latB x0 y0 := by
  rw [validB_iff] at h1; rw [Bool.eq_iff_iff]; simp [latB]; omega
set_option maxHeartbeats 400000 in
theorem mer_latitude (x0 y0 : Int) (w : World) :
    Calls Tryz.prog 139 #[(.agg #[.int .i64 (x0), .int .i64 (y0)])] w fun e w' => e = .returned (.bool (latB x0 y0)) ∧ ∃ d, w' = bw w d := by
  refine lay_start ?_
  go_enter Tryz.func139, Tryz.ntmps139
  go_wp2_with (go_at_call 85; refine (angle_Valid _ _ _).mono ?_; rintro e w' ⟨rfl, d, rfl⟩)
  all_goals go_ret
  all_goals exact ⟨ret_bool (by first | exact lat_w1 ‹_› ‹_› | exact lat_w2 ‹_› | exact lat_w3 ‹_›), lay_ex _ _⟩
/-- The part of an arc that is one of latitudes. -/
def lsLo (x0 y0 : Int) : Int := if max x0 (-5400000) ≤ min y0 5400000 then max x0 (-5400000) else 0
def lsHi (x0 y0 : Int) : Int := if max x0 (-5400000) ≤ min y0 5400000 then min y0 5400000 else 0
def lsE (x0 y0 : Int) : Int := if max x0 (-5400000) ≤ min y0 5400000 then 0 else 2
theorem ls_good {x0 y0 : Int} (h : mx x0 (-5400000) ≤ mn y0 5400000) : mx x0 (-5400000) = lsLo x0 y0 ∧ mn y0 5400000 = lsHi x0 y0 ∧ 0 = lsE x0 y0 := by
  rw [mx_eq, mn_eq] at *; unfold lsLo lsHi lsE; omega
theorem ls_bad {x0 y0 : Int} (h : mn y0 5400000 < mx x0 (-5400000)) : 0 = lsLo x0 y0 ∧ 0 = lsHi x0 y0 ∧ 2 = lsE x0 y0 := by
  rw [mx_eq, mn_eq] at *; unfold lsLo lsHi lsE; omega
set_option maxHeartbeats 400000 in
theorem mer_latitudes (x0 y0 : Int) (w : World) :
    Calls Tryz.prog 140 #[(.agg #[.int .i64 (x0), .int .i64 (y0)])] w fun e w' => e = .returned (.tuple #[(.agg #[.int .i64 (lsLo x0 y0), .int .i64 (lsHi x0 y0)]), .int .i64 (lsE x0 y0)]) ∧ ∃ d, w' = bw w d := by
  refine lay_start ?_
  go_enter Tryz.func140, Tryz.ntmps140
  go_wp2
  · obtain ⟨g1, g2, g3⟩ := ls_bad (x0 := x0) (y0 := y0) ‹_›
    exact bodyPost_ret (v := .tuple #[(.agg #[.int .i64 (lsLo x0 y0), .int .i64 (lsHi x0 y0)]), .int .i64 (lsE x0 y0)]) (by simp [results, Tryz.results140, go_sem, ← g1, ← g2, ← g3]) rfl ⟨rfl, lay_ex _ _⟩
  · obtain ⟨g1, g2, g3⟩ := ls_good (x0 := x0) (y0 := y0) ‹_›
    exact bodyPost_ret (v := .tuple #[(.agg #[.int .i64 (lsLo x0 y0), .int .i64 (lsHi x0 y0)]), .int .i64 (lsE x0 y0)]) (by simp [results, Tryz.results140, go_sem, ← g1, ← g2, ← g3]) rfl ⟨rfl, lay_ex _ _⟩
theorem ls_meets {x0 y0 : Int} (h : meetsB x0 y0 (-5400000) 5400000 = true) (hxy : x0 ≤ y0) : mx x0 (-5400000) = lsLo x0 y0 ∧ mn y0 5400000 = lsHi x0 y0 ∧ 0 = lsE x0 y0 := by
  simp [meetsB] at h
  rw [mx_eq, mn_eq] at *; unfold lsLo lsHi lsE; omega
theorem ls_misses {x0 y0 : Int} (h : meetsB x0 y0 (-5400000) 5400000 = false) (_hxy : x0 ≤ y0) : 0 = lsLo x0 y0 ∧ 0 = lsHi x0 y0 ∧ 2 = lsE x0 y0 := by
  simp [meetsB] at h
  unfold lsLo lsHi lsE; omega
set_option maxHeartbeats 400000 in
theorem mer_plus (x0 y0 x1 y1 : Int) (w : World) (h1 : -9223372036854775807 ≤ x0 + x1) (h2 : x0 + x1 ≤ 9223372036854775807) (h3 : -9223372036854775807 ≤ y0 + y1) (h4 : y0 + y1 ≤ 9223372036854775807) :
    Calls Tryz.prog 141 #[(.agg #[.int .i64 (x0), .int .i64 (y0)]), (.agg #[.int .i64 (x1), .int .i64 (y1)])] w fun e w' => e = .returned (.agg #[.int .i64 (x0 + x1), .int .i64 (y0 + y1)]) ∧ ∃ d, w' = bw w d := by
  refine lay_start ?_
  go_enter Tryz.func141, Tryz.ntmps141
  go_wp2
  exact bodyPost_ret (v := (.agg #[.int .i64 (x0 + x1), .int .i64 (y0 + y1)])) (by simp [results, Tryz.results141, go_sem]) rfl ⟨rfl, lay_ex _ _⟩
set_option maxHeartbeats 400000 in
theorem mer_minus (x0 y0 x1 y1 : Int) (w : World) (h1 : -9223372036854775807 ≤ x0 - y1) (h2 : x0 - y1 ≤ 9223372036854775807) (h3 : -9223372036854775807 ≤ y0 - x1) (h4 : y0 - x1 ≤ 9223372036854775807) :
    Calls Tryz.prog 143 #[(.agg #[.int .i64 (x0), .int .i64 (y0)]), (.agg #[.int .i64 (x1), .int .i64 (y1)])] w fun e w' => e = .returned (.agg #[.int .i64 (x0 - y1), .int .i64 (y0 - x1)]) ∧ ∃ d, w' = bw w d := by
  refine lay_start ?_
  go_enter Tryz.func143, Tryz.ntmps143
  go_wp2
  exact bodyPost_ret (v := (.agg #[.int .i64 (x0 - y1), .int .i64 (y0 - x1)])) (by simp [results, Tryz.results143, go_sem]) rfl ⟨rfl, lay_ex _ _⟩
set_option maxHeartbeats 400000 in
theorem mer_rest (x0 y0 : Int) (w : World) (h1 : -9223372036849375807 ≤ x0) (h2 : x0 ≤ 9223372036849375807) (h3 : -9223372036849375807 ≤ y0) (h4 : y0 ≤ 9223372036849375807) :
    Calls Tryz.prog 142 #[(.agg #[.int .i64 (x0), .int .i64 (y0)])] w fun e w' => e = .returned (.agg #[.int .i64 (5400000 - y0), .int .i64 (5400000 - x0)]) ∧ ∃ d, w' = bw w d := by
  refine lay_start ?_
  go_enter Tryz.func142, Tryz.ntmps142
  go_wp2
  exact bodyPost_ret (v := (.agg #[.int .i64 (5400000 - y0), .int .i64 (5400000 - x0)])) (by simp [results, Tryz.results142, go_sem]) rfl ⟨rfl, lay_ex _ _⟩
set_option maxHeartbeats 400000 in
theorem law33_one (n : Int) (w : World) :
    Calls Tryz.prog 51 #[.int .i64 n] w fun e w' => e = .returned (.agg #[.int .i64 (n), .int .i64 (n)]) ∧ ∃ d, w' = bw w d := by
  refine lay_start ?_
  go_enter Tryz.func51, Tryz.ntmps51
  go_wp2
  exact bodyPost_ret (v := (.agg #[.int .i64 (n), .int .i64 (n)])) (by simp [results, Tryz.results51, go_sem]) rfl ⟨rfl, lay_ex _ _⟩
end Go.Proofs.YtlkphcjlgbimkaaGreat
/- Contracts of meridian's Latitude and Below, of their references, and the law on them, walked. -/
namespace Go.Proofs.YtlkphcjlgbimkaaGreat
open Go.RowKit

set_option maxHeartbeats 1000000 in
theorem mer_Latitude_arg (x0 y0 x1 y1 : Int) (b : Bool) (w : World) (h : (latB x0 y0 && latB x1 y1) = false) :
    Calls Tryz.prog 100 #[(.agg #[.int .i64 (x0), .int .i64 (y0)]), (.agg #[.int .i64 (x1), .int .i64 (y1)]), .bool b] w fun e w' => e = .returned (.tuple #[(.agg #[.int .i64 (0), .int .i64 (0)]), .int .i64 1]) ∧ ∃ d, w' = bw w d := by
  cases h1 : latB x0 y0
  · clear h
    refine lay_start ?_
    go_enter Tryz.func100, Tryz.ntmps100
    go_wp2_with (go_at_call 139; refine (mer_latitude _ _ _).mono ?_; rintro e w' ⟨rfl, d, rfl⟩)
    exact bodyPost_ret (v := .tuple #[(.agg #[.int .i64 (0), .int .i64 (0)]), .int .i64 1]) (by simp [results, Tryz.results100, go_sem]) rfl ⟨rfl, lay_ex _ _⟩
  · have h2 : latB x1 y1 = false := by simpa [h1] using h
    clear h
    refine lay_start ?_
    go_enter Tryz.func100, Tryz.ntmps100
    go_wp2_with (go_at_call 139; refine (mer_latitude _ _ _).mono ?_; rintro e w' ⟨rfl, d, rfl⟩)
    exact bodyPost_ret (v := .tuple #[(.agg #[.int .i64 (0), .int .i64 (0)]), .int .i64 1]) (by simp [results, Tryz.results100, go_sem]) rfl ⟨rfl, lay_ex _ _⟩
set_option maxHeartbeats 2000000 in
theorem mer_Latitude_true (x0 y0 x1 y1 : Int) (w : World) (h1 : latB x0 y0 = true) (h2 : latB x1 y1 = true) :
    Calls Tryz.prog 100 #[(.agg #[.int .i64 (x0), .int .i64 (y0)]), (.agg #[.int .i64 (x1), .int .i64 (y1)]), .bool true] w fun e w' => e = .returned (.tuple #[(.agg #[.int .i64 (lsLo (5400000 - y0 + x1) (5400000 - x0 + y1)), .int .i64 (lsHi (5400000 - y0 + x1) (5400000 - x0 + y1))]), .int .i64 (lsE (5400000 - y0 + x1) (5400000 - x0 + y1))]) ∧ ∃ d, w' = bw w d := by
  obtain ⟨a1, a2, a3⟩ := latB_iff.1 h1
  obtain ⟨b1, b2, b3⟩ := latB_iff.1 h2
  refine lay_start ?_
  go_enter Tryz.func100, Tryz.ntmps100
  go_wp2_with (first | (go_at_call 139; refine (mer_latitude _ _ _).mono ?_; rintro e w' ⟨rfl, d, rfl⟩) | (go_at_call 140; refine (mer_latitudes _ _ _).mono ?_; rintro e w' ⟨rfl, d, rfl⟩) | (go_at_call 141; refine (mer_plus _ _ _ _ _ (by omega) (by omega) (by omega) (by omega)).mono ?_; rintro e w' ⟨rfl, d, rfl⟩) | (go_at_call 143; refine (mer_minus _ _ _ _ _ (by omega) (by omega) (by omega) (by omega)).mono ?_; rintro e w' ⟨rfl, d, rfl⟩) | (go_at_call 142; refine (mer_rest _ _ _ (by omega) (by omega) (by omega) (by omega)).mono ?_; rintro e w' ⟨rfl, d, rfl⟩))
  refine region_bw_tail 7 (by kernel_rfl) (by kernel_rfl) ?_
  simp only [List.take_succ_cons, List.take_zero, List.drop_succ_cons, List.drop_zero]
  repeat (go_big_quiet_step ((first | (go_at_call 139; exact bq (mer_latitude _ _ _) (fun d => lay_join _ _ _ d)) | (go_at_call 140; exact bq (mer_latitudes _ _ _) (fun d => lay_join _ _ _ d)) | (go_at_call 141; exact bq (mer_plus _ _ _ _ _ (by omega) (by omega) (by omega) (by omega)) (fun d => lay_join _ _ _ d)) | (go_at_call 143; exact bq (mer_minus _ _ _ _ _ (by omega) (by omega) (by omega) (by omega)) (fun d => lay_join _ _ _ d)) | (go_at_call 142; exact bq (mer_rest _ _ _ (by omega) (by omega) (by omega) (by omega)) (fun d => lay_join _ _ _ d)))))
  refine wpQuiet_nil ?_
  rintro w' ⟨d, rfl⟩
  rw [lay_bw]
  go_wp2_with (first | (go_at_call 139; refine (mer_latitude _ _ _).mono ?_; rintro e w' ⟨rfl, d, rfl⟩) | (go_at_call 140; refine (mer_latitudes _ _ _).mono ?_; rintro e w' ⟨rfl, d, rfl⟩) | (go_at_call 141; refine (mer_plus _ _ _ _ _ (by omega) (by omega) (by omega) (by omega)).mono ?_; rintro e w' ⟨rfl, d, rfl⟩) | (go_at_call 143; refine (mer_minus _ _ _ _ _ (by omega) (by omega) (by omega) (by omega)).mono ?_; rintro e w' ⟨rfl, d, rfl⟩) | (go_at_call 142; refine (mer_rest _ _ _ (by omega) (by omega) (by omega) (by omega)).mono ?_; rintro e w' ⟨rfl, d, rfl⟩))
  exact bodyPost_ret (v := .tuple #[(.agg #[.int .i64 (lsLo (5400000 - y0 + x1) (5400000 - x0 + y1)), .int .i64 (lsHi (5400000 - y0 + x1) (5400000 - x0 + y1))]), .int .i64 (lsE (5400000 - y0 + x1) (5400000 - x0 + y1))]) (by simp [results, Tryz.results100, go_sem]) rfl ⟨rfl, lay_ex _ _⟩
set_option maxHeartbeats 2000000 in
theorem mer_Latitude_false (x0 y0 x1 y1 : Int) (w : World) (h1 : latB x0 y0 = true) (h2 : latB x1 y1 = true) :
    Calls Tryz.prog 100 #[(.agg #[.int .i64 (x0), .int .i64 (y0)]), (.agg #[.int .i64 (x1), .int .i64 (y1)]), .bool false] w fun e w' => e = .returned (.tuple #[(.agg #[.int .i64 (lsLo (x1 - (5400000 - x0)) (y1 - (5400000 - y0))), .int .i64 (lsHi (x1 - (5400000 - x0)) (y1 - (5400000 - y0)))]), .int .i64 (lsE (x1 - (5400000 - x0)) (y1 - (5400000 - y0)))]) ∧ ∃ d, w' = bw w d := by
  obtain ⟨a1, a2, a3⟩ := latB_iff.1 h1
  obtain ⟨b1, b2, b3⟩ := latB_iff.1 h2
  refine lay_start ?_
  go_enter Tryz.func100, Tryz.ntmps100
  go_wp2_with (first | (go_at_call 139; refine (mer_latitude _ _ _).mono ?_; rintro e w' ⟨rfl, d, rfl⟩) | (go_at_call 140; refine (mer_latitudes _ _ _).mono ?_; rintro e w' ⟨rfl, d, rfl⟩) | (go_at_call 141; refine (mer_plus _ _ _ _ _ (by omega) (by omega) (by omega) (by omega)).mono ?_; rintro e w' ⟨rfl, d, rfl⟩) | (go_at_call 143; refine (mer_minus _ _ _ _ _ (by omega) (by omega) (by omega) (by omega)).mono ?_; rintro e w' ⟨rfl, d, rfl⟩) | (go_at_call 142; refine (mer_rest _ _ _ (by omega) (by omega) (by omega) (by omega)).mono ?_; rintro e w' ⟨rfl, d, rfl⟩))
  refine region_bw_tail 7 (by kernel_rfl) (by kernel_rfl) ?_
  simp only [List.take_succ_cons, List.take_zero, List.drop_succ_cons, List.drop_zero]
  repeat (go_big_quiet_step ((first | (go_at_call 139; exact bq (mer_latitude _ _ _) (fun d => lay_join _ _ _ d)) | (go_at_call 140; exact bq (mer_latitudes _ _ _) (fun d => lay_join _ _ _ d)) | (go_at_call 141; exact bq (mer_plus _ _ _ _ _ (by omega) (by omega) (by omega) (by omega)) (fun d => lay_join _ _ _ d)) | (go_at_call 143; exact bq (mer_minus _ _ _ _ _ (by omega) (by omega) (by omega) (by omega)) (fun d => lay_join _ _ _ d)) | (go_at_call 142; exact bq (mer_rest _ _ _ (by omega) (by omega) (by omega) (by omega)) (fun d => lay_join _ _ _ d)))))
  refine wpQuiet_nil ?_
  rintro w' ⟨d, rfl⟩
  rw [lay_bw]
  go_wp2_with (first | (go_at_call 139; refine (mer_latitude _ _ _).mono ?_; rintro e w' ⟨rfl, d, rfl⟩) | (go_at_call 140; refine (mer_latitudes _ _ _).mono ?_; rintro e w' ⟨rfl, d, rfl⟩) | (go_at_call 141; refine (mer_plus _ _ _ _ _ (by omega) (by omega) (by omega) (by omega)).mono ?_; rintro e w' ⟨rfl, d, rfl⟩) | (go_at_call 143; refine (mer_minus _ _ _ _ _ (by omega) (by omega) (by omega) (by omega)).mono ?_; rintro e w' ⟨rfl, d, rfl⟩) | (go_at_call 142; refine (mer_rest _ _ _ (by omega) (by omega) (by omega) (by omega)).mono ?_; rintro e w' ⟨rfl, d, rfl⟩))
  exact bodyPost_ret (v := .tuple #[(.agg #[.int .i64 (lsLo (x1 - (5400000 - x0)) (y1 - (5400000 - y0))), .int .i64 (lsHi (x1 - (5400000 - x0)) (y1 - (5400000 - y0)))]), .int .i64 (lsE (x1 - (5400000 - x0)) (y1 - (5400000 - y0)))]) (by simp [results, Tryz.results100, go_sem]) rfl ⟨rfl, lay_ex _ _⟩
set_option maxHeartbeats 1000000 in
theorem mer_Below_arg (x0 y0 x1 y1 : Int) (b : Bool) (w : World) (h : (latB x0 y0 && latB x1 y1) = false) :
    Calls Tryz.prog 101 #[(.agg #[.int .i64 (x0), .int .i64 (y0)]), (.agg #[.int .i64 (x1), .int .i64 (y1)]), .bool b] w fun e w' => e = .returned (.tuple #[(.agg #[.int .i64 (0), .int .i64 (0)]), .int .i64 1]) ∧ ∃ d, w' = bw w d := by
  cases h1 : latB x0 y0
  · clear h
    refine lay_start ?_
    go_enter Tryz.func101, Tryz.ntmps101
    go_wp2_with (go_at_call 139; refine (mer_latitude _ _ _).mono ?_; rintro e w' ⟨rfl, d, rfl⟩)
    exact bodyPost_ret (v := .tuple #[(.agg #[.int .i64 (0), .int .i64 (0)]), .int .i64 1]) (by simp [results, Tryz.results101, go_sem]) rfl ⟨rfl, lay_ex _ _⟩
  · have h2 : latB x1 y1 = false := by simpa [h1] using h
    clear h
    refine lay_start ?_
    go_enter Tryz.func101, Tryz.ntmps101
    go_wp2_with (go_at_call 139; refine (mer_latitude _ _ _).mono ?_; rintro e w' ⟨rfl, d, rfl⟩)
    exact bodyPost_ret (v := .tuple #[(.agg #[.int .i64 (0), .int .i64 (0)]), .int .i64 1]) (by simp [results, Tryz.results101, go_sem]) rfl ⟨rfl, lay_ex _ _⟩
set_option maxHeartbeats 2000000 in
theorem mer_Below_false (x0 y0 x1 y1 : Int) (w : World) (h1 : latB x0 y0 = true) (h2 : latB x1 y1 = true) :
    Calls Tryz.prog 101 #[(.agg #[.int .i64 (x0), .int .i64 (y0)]), (.agg #[.int .i64 (x1), .int .i64 (y1)]), .bool false] w fun e w' => e = .returned (.tuple #[(.agg #[.int .i64 (lsLo (x0 + (5400000 - y1)) (y0 + (5400000 - x1))), .int .i64 (lsHi (x0 + (5400000 - y1)) (y0 + (5400000 - x1)))]), .int .i64 (lsE (x0 + (5400000 - y1)) (y0 + (5400000 - x1)))]) ∧ ∃ d, w' = bw w d := by
  obtain ⟨a1, a2, a3⟩ := latB_iff.1 h1
  obtain ⟨b1, b2, b3⟩ := latB_iff.1 h2
  refine lay_start ?_
  go_enter Tryz.func101, Tryz.ntmps101
  go_wp2_with (first | (go_at_call 139; refine (mer_latitude _ _ _).mono ?_; rintro e w' ⟨rfl, d, rfl⟩) | (go_at_call 140; refine (mer_latitudes _ _ _).mono ?_; rintro e w' ⟨rfl, d, rfl⟩) | (go_at_call 141; refine (mer_plus _ _ _ _ _ (by omega) (by omega) (by omega) (by omega)).mono ?_; rintro e w' ⟨rfl, d, rfl⟩) | (go_at_call 143; refine (mer_minus _ _ _ _ _ (by omega) (by omega) (by omega) (by omega)).mono ?_; rintro e w' ⟨rfl, d, rfl⟩) | (go_at_call 142; refine (mer_rest _ _ _ (by omega) (by omega) (by omega) (by omega)).mono ?_; rintro e w' ⟨rfl, d, rfl⟩))
  refine region_bw_tail 7 (by kernel_rfl) (by kernel_rfl) ?_
  simp only [List.take_succ_cons, List.take_zero, List.drop_succ_cons, List.drop_zero]
  repeat (go_big_quiet_step ((first | (go_at_call 139; exact bq (mer_latitude _ _ _) (fun d => lay_join _ _ _ d)) | (go_at_call 140; exact bq (mer_latitudes _ _ _) (fun d => lay_join _ _ _ d)) | (go_at_call 141; exact bq (mer_plus _ _ _ _ _ (by omega) (by omega) (by omega) (by omega)) (fun d => lay_join _ _ _ d)) | (go_at_call 143; exact bq (mer_minus _ _ _ _ _ (by omega) (by omega) (by omega) (by omega)) (fun d => lay_join _ _ _ d)) | (go_at_call 142; exact bq (mer_rest _ _ _ (by omega) (by omega) (by omega) (by omega)) (fun d => lay_join _ _ _ d)))))
  refine wpQuiet_nil ?_
  rintro w' ⟨d, rfl⟩
  rw [lay_bw]
  go_wp2_with (first | (go_at_call 139; refine (mer_latitude _ _ _).mono ?_; rintro e w' ⟨rfl, d, rfl⟩) | (go_at_call 140; refine (mer_latitudes _ _ _).mono ?_; rintro e w' ⟨rfl, d, rfl⟩) | (go_at_call 141; refine (mer_plus _ _ _ _ _ (by omega) (by omega) (by omega) (by omega)).mono ?_; rintro e w' ⟨rfl, d, rfl⟩) | (go_at_call 143; refine (mer_minus _ _ _ _ _ (by omega) (by omega) (by omega) (by omega)).mono ?_; rintro e w' ⟨rfl, d, rfl⟩) | (go_at_call 142; refine (mer_rest _ _ _ (by omega) (by omega) (by omega) (by omega)).mono ?_; rintro e w' ⟨rfl, d, rfl⟩))
  exact bodyPost_ret (v := .tuple #[(.agg #[.int .i64 (lsLo (x0 + (5400000 - y1)) (y0 + (5400000 - x1))), .int .i64 (lsHi (x0 + (5400000 - y1)) (y0 + (5400000 - x1)))]), .int .i64 (lsE (x0 + (5400000 - y1)) (y0 + (5400000 - x1)))]) (by simp [results, Tryz.results101, go_sem]) rfl ⟨rfl, lay_ex _ _⟩
set_option maxHeartbeats 2000000 in
theorem mer_Below_true (x0 y0 x1 y1 : Int) (w : World) (h1 : latB x0 y0 = true) (h2 : latB x1 y1 = true) :
    Calls Tryz.prog 101 #[(.agg #[.int .i64 (x0), .int .i64 (y0)]), (.agg #[.int .i64 (x1), .int .i64 (y1)]), .bool true] w fun e w' => e = .returned (.tuple #[(.agg #[.int .i64 (lsLo (-(y0 + (5400000 + y1))) (-(x0 + (5400000 + x1)))), .int .i64 (lsHi (-(y0 + (5400000 + y1))) (-(x0 + (5400000 + x1))))]), .int .i64 (lsE (-(y0 + (5400000 + y1))) (-(x0 + (5400000 + x1))))]) ∧ ∃ d, w' = bw w d := by
  obtain ⟨a1, a2, a3⟩ := latB_iff.1 h1
  obtain ⟨b1, b2, b3⟩ := latB_iff.1 h2
  refine lay_start ?_
  go_enter Tryz.func101, Tryz.ntmps101
  go_wp2_with (first | (go_at_call 139; refine (mer_latitude _ _ _).mono ?_; rintro e w' ⟨rfl, d, rfl⟩) | (go_at_call 140; refine (mer_latitudes _ _ _).mono ?_; rintro e w' ⟨rfl, d, rfl⟩) | (go_at_call 141; refine (mer_plus _ _ _ _ _ (by omega) (by omega) (by omega) (by omega)).mono ?_; rintro e w' ⟨rfl, d, rfl⟩) | (go_at_call 143; refine (mer_minus _ _ _ _ _ (by omega) (by omega) (by omega) (by omega)).mono ?_; rintro e w' ⟨rfl, d, rfl⟩) | (go_at_call 142; refine (mer_rest _ _ _ (by omega) (by omega) (by omega) (by omega)).mono ?_; rintro e w' ⟨rfl, d, rfl⟩))
  refine region_bw_tail 10 (by kernel_rfl) (by kernel_rfl) ?_
  simp only [List.take_succ_cons, List.take_zero, List.drop_succ_cons, List.drop_zero]
  repeat (go_big_quiet_step ((first | (go_at_call 139; exact bq (mer_latitude _ _ _) (fun d => lay_join _ _ _ d)) | (go_at_call 140; exact bq (mer_latitudes _ _ _) (fun d => lay_join _ _ _ d)) | (go_at_call 141; exact bq (mer_plus _ _ _ _ _ (by omega) (by omega) (by omega) (by omega)) (fun d => lay_join _ _ _ d)) | (go_at_call 143; exact bq (mer_minus _ _ _ _ _ (by omega) (by omega) (by omega) (by omega)) (fun d => lay_join _ _ _ d)) | (go_at_call 142; exact bq (mer_rest _ _ _ (by omega) (by omega) (by omega) (by omega)) (fun d => lay_join _ _ _ d)))))
  refine wpQuiet_nil ?_
  rintro w' ⟨d, rfl⟩
  rw [lay_bw]
  go_wp2_with (first | (go_at_call 139; refine (mer_latitude _ _ _).mono ?_; rintro e w' ⟨rfl, d, rfl⟩) | (go_at_call 140; refine (mer_latitudes _ _ _).mono ?_; rintro e w' ⟨rfl, d, rfl⟩) | (go_at_call 141; refine (mer_plus _ _ _ _ _ (by omega) (by omega) (by omega) (by omega)).mono ?_; rintro e w' ⟨rfl, d, rfl⟩) | (go_at_call 143; refine (mer_minus _ _ _ _ _ (by omega) (by omega) (by omega) (by omega)).mono ?_; rintro e w' ⟨rfl, d, rfl⟩) | (go_at_call 142; refine (mer_rest _ _ _ (by omega) (by omega) (by omega) (by omega)).mono ?_; rintro e w' ⟨rfl, d, rfl⟩))
  exact bodyPost_ret (v := .tuple #[(.agg #[.int .i64 (lsLo (-(y0 + (5400000 + y1))) (-(x0 + (5400000 + x1)))), .int .i64 (lsHi (-(y0 + (5400000 + y1))) (-(x0 + (5400000 + x1))))]), .int .i64 (lsE (-(y0 + (5400000 + y1))) (-(x0 + (5400000 + x1))))]) (by simp [results, Tryz.results101, go_sem]) rfl ⟨rfl, lay_ex _ _⟩
end Go.Proofs.YtlkphcjlgbimkaaGreat
/- MeridianLatitudes: for any arcs, on either side, Latitude and Below return what the reference specifies. No condition. -/
namespace Go.Proofs.YtlkphcjlgbimkaaGreat
open Go.RowKit

set_option maxHeartbeats 4000000 in
set_option maxRecDepth 100000 in
theorem law33_awake (w : World) :
    Calls Tryz.prog 47 #[] w fun e w' => e = .returned (.bool true) ∧ ∃ d, w' = bw w d := by
  have h1 : lsLo 3000000 3000000 = 3000000 ∧ lsHi 3000000 3000000 = 3000000 ∧ lsE 3000000 3000000 = 0 := by decide
  have h2 : lsLo (-600000) (-600000) = -600000 ∧ lsHi (-600000) (-600000) = -600000 ∧ lsE (-600000) (-600000) = 0 := by decide
  have h3 : lsLo 1200000 1200000 = 1200000 ∧ lsHi 1200000 1200000 = 1200000 ∧ lsE 1200000 1200000 = 0 := by decide
  obtain ⟨a1, a2, a3⟩ := h1
  obtain ⟨b1, b2, b3⟩ := h2
  obtain ⟨c1, c2, c3⟩ := h3
  refine lay_start ?_
  go_enter Tryz.func47, Tryz.ntmps47
  go_wp2_with (go_at_call 51; refine (law33_one _ _).mono ?_; rintro e w' ⟨rfl, d, rfl⟩)
  refine (mer_Latitude_true _ _ _ _ _ (by decide) (by decide)).mono ?_
  rintro e w' ⟨rfl, d, rfl⟩
  go_wp2_with (go_at_call 51; refine (law33_one _ _).mono ?_; rintro e w' ⟨rfl, d, rfl⟩)
  refine (mer_Latitude_false _ _ _ _ _ (by decide) (by decide)).mono ?_
  rintro e w' ⟨rfl, d, rfl⟩
  go_wp2_with (go_at_call 51; refine (law33_one _ _).mono ?_; rintro e w' ⟨rfl, d, rfl⟩)
  refine (mer_Below_false _ _ _ _ _ (by decide) (by decide)).mono ?_
  rintro e w' ⟨rfl, d, rfl⟩
  go_wp2_with fail
  refine region_bw (by kernel_rfl) (by kernel_rfl) ?_
  repeat (go_big_quiet_step ((first | (go_at_call 51; exact bq (law33_one _ _) (fun d => lay_join _ _ _ d)))))
  refine wpQuiet_nil ?_
  rintro w' ⟨d, rfl⟩
  rw [lay_bw]
  go_wp2
  go_ret
  exact ⟨rfl, lay_ex _ _⟩
end Go.Proofs.YtlkphcjlgbimkaaGreat
/- The law's large (chapter 33); Longitude; the law MeridianPasses. -/
namespace Go.Proofs.YtlkphcjlgbimkaaGreat
open Go.RowKit Go.Shelf

set_option maxHeartbeats 1000000 in
theorem law33_large2 (x : StarV) (w : World) :
    Calls Tryz.prog 104 #[.agg #[.string x.s, .int .i64 x.sha, .int .i64 x.dec, .int .i64 x.mag]] w fun e w' => e = .returned (.bool (decide ((100 : Int) < (x.s.size : Int)))) ∧ ∃ d, w' = bw w d := by
  obtain ⟨xs, x1, x2, x3⟩ := x
  dsimp only
  refine lay_start ?_
  go_enter Tryz.func104, Tryz.ntmps104
  go_wp2
  go_ret
  exact ⟨rfl, lay_ex _ _⟩
def lgP4 (p : PgV) : Bool := decide ((4 : Int) < (p.ts.length : Int)) || p.ts.any lgT
set_option maxHeartbeats 1000000 in
theorem law33_large11 {P : Nat → Prop} (x : TkW) (t : TrkV) (w : World) (h : TkD P w x t) :
    Calls Tryz.prog 103 #[.agg #[.string x.s, .slice x.ga x.gn x.gc, .slice x.da x.dn x.dc, .int .i64 x.p, .int .i64 x.q, .int .i64 x.r]] w fun e w' => e = .returned (.bool (lgT t)) ∧ ∃ d, w' = bw w d := by
  obtain ⟨h1, h2⟩ := tkD_len h
  have h3 := h.s
  unfold lgT
  rw [← h1, ← h2, ← h3]
  clear h h1 h2 h3
  obtain ⟨xs, ga, gn, gc, da, dn, dc, xp, xq, xr⟩ := x
  dsimp only
  by_cases a1 : (100 : Int) < (xs.size : Int)
  · rw [decide_eq_true a1]
    refine lay_start ?_
    go_enter Tryz.func103, Tryz.ntmps103
    go_wp2
    go_ret
    exact ⟨rfl, lay_ex _ _⟩
  · rw [decide_eq_false a1]
    by_cases a2 : (40 : Int) < (gn : Int)
    · rw [decide_eq_true a2]
      refine lay_start ?_
      go_enter Tryz.func103, Tryz.ntmps103
      go_wp2
      go_ret
      exact ⟨rfl, lay_ex _ _⟩
    · rw [decide_eq_false a2]
      refine lay_start ?_
      go_enter Tryz.func103, Tryz.ntmps103
      go_wp2
      go_ret
      exact ⟨by simp, lay_ex _ _⟩
theorem tks_large33 {P : Nat → Prop} (v : Value) (l : List TrkV) (w : World) (hv : TksD P w v l) :
    Calls Tryz.prog 55 #[v, .func (.func 103) #[] #[]] w fun e w' => e = .returned (.bool (l.any lgT)) ∧ ∃ d, w' = bw w d := by
  obtain ⟨ls, p, h1, h2, h3⟩ := tk_lift hv lgT
  rw [← h2]
  have eI : ∀ args w, (callFunc 103 args).run Tryz.prog w = .ok (.enter 103 args) w := enters_of Tryz.func103 (by kernel_rfl) rfl
  refine tk_ContainsFunc 103 [] p v ls w h1 eI fun x hx d => ?_
  obtain ⟨t, _, ht, e⟩ := h3 x hx
  rw [e]
  exact (law33_large11 (P := P) x t (bw w d) (ht.bw' d)).mono fun e w' ⟨a, b, c⟩ => ⟨a, _, c.trans (bw_bw _ _ _)⟩
set_option maxHeartbeats 1000000 in
theorem law33_large1 {P : Nat → Prop} (x : PgW) (p : PgV) (w : World) (h : PgD P w x p) :
    Calls Tryz.prog 102 #[.agg #[.int .i64 x.y, .int .i64 x.m, .int .i64 x.d, .slice x.ta x.tn x.tc]] w fun e w' => e = .returned (.bool (lgP4 p)) ∧ ∃ d, w' = bw w d := by
  have h1 := tksD_len h.ts
  have HC := Lib.hid (fun L => tks_large33 (.slice x.ta x.tn x.tc) p.ts (lay w L) (h.ts.lay L))
  unfold lgP4
  rw [← h1]
  clear h h1
  generalize p.ts.any lgT = r at *
  obtain ⟨xy, xm, xd, xa, xn, xc⟩ := x
  dsimp only at *
  by_cases a1 : (4 : Int) < (xn : Int)
  · rw [decide_eq_true a1]
    refine lay_start ?_
    go_enter Tryz.func102, Tryz.ntmps102
    go_wp2_with (go_at_call 55; refine (HC.out _).mono ?_; rintro e w' ⟨rfl, d, rfl⟩)
    go_ret
    exact ⟨rfl, lay_ex _ _⟩
  · rw [decide_eq_false a1]
    refine lay_start ?_
    go_enter Tryz.func102, Tryz.ntmps102
    go_wp2_with (go_at_call 55; refine (HC.out _).mono ?_; rintro e w' ⟨rfl, d, rfl⟩)
    go_ret
    exact ⟨rfl, lay_ex _ _⟩
theorem pgs_large33 {P : Nat → Prop} (v : Value) (l : List PgV) (w : World) (hv : PgsD P w v l) :
    Calls Tryz.prog 53 #[v, .func (.func 102) #[] #[]] w fun e w' => e = .returned (.bool (l.any lgP4)) ∧ ∃ d, w' = bw w d := by
  obtain ⟨ls, p, h1, h2, h3⟩ := pg_lift hv lgP4
  rw [← h2]
  have eI : ∀ args w, (callFunc 102 args).run Tryz.prog w = .ok (.enter 102 args) w := enters_of Tryz.func102 (by kernel_rfl) rfl
  refine pg_ContainsFunc 102 [] p v ls w h1 eI fun x hx d => ?_
  obtain ⟨t, _, ht, e⟩ := h3 x hx
  rw [e]
  exact (law33_large1 (P := P) x t (bw w d) ⟨ht.y, ht.m, ht.d, ht.ts.lay [.inr d]⟩).mono fun e w' ⟨a, b, c⟩ => ⟨a, _, c.trans (bw_bw _ _ _)⟩
set_option maxHeartbeats 2000000 in
theorem law33_large {P : Nat → Prop} (vp vs : Value) (lp : List PgV) (l : List StarV) (s : ByteArray) (w : World) (hp : PgsD P w vp lp) (hv : SlG stR w vs l) :
    Calls Tryz.prog 48 #[vp, vs, .string s] w (AnyB w) := by
  have eI : ∀ args w, (callFunc 104 args).run Tryz.prog w = .ok (.enter 104 args) w := enters_of Tryz.func104 (by kernel_rfl) rfl
  have HI := Lib.hid (fun L => st_ContainsFunc 104 [] (fun x => decide ((100 : Int) < (x.s.size : Int))) vs l (lay w L) (hv.lay L) eI (fun x _ d => (law33_large2 x (bw (lay w L) d)).mono fun e w' ⟨h1, d2, h2⟩ => ⟨h1, _, h2.trans (bw_bw _ _ _)⟩))
  have HP := Lib.hid (fun L => pgs_large33 vp lp (lay w L) (hp.lay L))
  generalize l.any (fun x => decide ((100 : Int) < (x.s.size : Int))) = y at *
  generalize lp.any lgP4 = z at *
  obtain ⟨a, c, rfl⟩ := hv.form
  obtain ⟨pa, pc, rfl⟩ := pgs_form hp
  generalize l.length = m at *
  generalize lp.length = n at *
  clear hv hp eI
  refine lay_start ?_
  go_enter Tryz.func48, Tryz.ntmps48
  go_wp2_with (first | (go_at_call 53; refine (HP.out _).mono ?_; rintro e w' ⟨rfl, d, rfl⟩) | (go_at_call 57; refine (HI.out _).mono ?_; rintro e w' ⟨rfl, d, rfl⟩))
  all_goals go_ret
  all_goals exact ⟨_, rfl, lay_ex _ _⟩
/-- The longitudes over a time. -/
def lonL (p q : Int) : Int := if 21600000 ≤ q - p then -10800000 else sgnI (-q)
def lonH (p q : Int) : Int := if 21600000 ≤ q - p then 10800000 else sgnI (-q) + q - p
set_option maxHeartbeats 1000000 in
theorem made_Longitude {w : World} {bk : Nat} {lp : List PgV} {ls : List StarV} {W : World} (h : BkA w bk lp ls W) (k : NewOk lp ls) (s : ByteArray) (a b : Int) (he : (whR lp ls s a b).2 = 0) (L : List (Obj ⊕ Ext)) :
    Calls Tryz.prog 52 #[.pointer (some ⟨bk, 0, none⟩), .string s, (.agg #[.int .i64 (a), .int .i64 (b)])] (lay W L) fun e w' => e = .returned (.tuple #[(.agg #[.int .i64 (lonL (whR lp ls s a b).1.a (whR lp ls s a b).1.b), .int .i64 (lonH (whR lp ls s a b).1.a (whR lp ls s a b).1.b)]), .int .i64 0]) ∧ ∃ d, w' = bw (lay W L) d := by
  have HW := made_Where (h.bw L) k
  have HW2 := Lib.hid (fun L => HW.out s a b L)
  rw [gv_eta, he] at HW2
  have tf := whR_tf k.ok he
  clear HW h k he
  generalize (whR lp ls s a b).1 = G at *
  obtain ⟨r1, r2, r3, r4, r5, r6, r7, r8⟩ := G
  dsimp only at *
  obtain ⟨t0, t1, t2, t3⟩ := tf
  generalize lay W L = w at *
  have HS := Lib.hid (fun W => angle_Sgn (-r2) W)
  have hb := sgn_bd (-r2)
  unfold lonL lonH
  by_cases hw : 21600000 ≤ r2 - r1
  · rw [if_pos hw, if_pos hw]
    refine lay_start ?_
    go_enter Tryz.func52, Tryz.ntmps52
    go_wp2_with (first | (go_at_call 14; refine (HW2.out _).mono ?_; rintro e w' ⟨rfl, dV, rfl⟩))
    all_goals exact bodyPost_ret (v := .tuple #[(.agg #[.int .i64 (-10800000), .int .i64 (10800000)]), .int .i64 0]) (by simp [results, Tryz.results52, go_sem]) rfl ⟨rfl, lay_ex _ _⟩
  · rw [if_neg hw, if_neg hw]
    generalize sgnI (-r2) = S at *
    refine lay_start ?_
    go_enter Tryz.func52, Tryz.ntmps52
    go_wp2_with (first | (go_at_call 14; refine (HW2.out _).mono ?_; rintro e w' ⟨rfl, dV, rfl⟩) | (go_at_call 111; refine (HS.out _).mono ?_; rintro e w' ⟨rfl, hw⟩; subst hw))
    all_goals exact bodyPost_ret (v := .tuple #[(.agg #[.int .i64 (S), .int .i64 (S + r2 - r1)]), .int .i64 0]) (by simp [results, Tryz.results52, go_sem]) rfl ⟨rfl, lay_ex _ _⟩
end Go.Proofs.YtlkphcjlgbimkaaGreat
