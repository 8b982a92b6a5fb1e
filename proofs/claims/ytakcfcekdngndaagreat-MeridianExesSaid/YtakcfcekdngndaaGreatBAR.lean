/- Contracts and plain laws, several texts in one: Mer2; Mer3; ExL -/
import Derived.Test.YtakcfcekdngndaaGreatProg
import Derived.WalkKit
import Derived.WalkSpells
import Derived.WalkLawsBesides
import Derived.Lib.Hide
import Derived.BigQuiet
import Derived.Test.YtakcfcekdngndaaGreatBAA
import Derived.Test.YtakcfcekdngndaaGreatBAB
import Derived.Test.YtakcfcekdngndaaGreatBAC
import Derived.Test.YtakcfcekdngndaaGreatBAG
import Derived.Test.YtakcfcekdngndaaGreatBAJ
import Derived.Test.YtakcfcekdngndaaGreatBAL
import Derived.Test.YtakcfcekdngndaaGreatBAQ
/- Contracts of meridian's Latitude and Below, of their references, and the law on them, walked. -/
namespace Go.Proofs.YtakcfcekdngndaaGreat
open Go.RowKit

set_option maxHeartbeats 1000000 in
theorem mer_Latitude_arg (x0 y0 x1 y1 : Int) (b : Bool) (w : World) (h : (latB x0 y0 && latB x1 y1) = false) :
    Calls Tryz.prog 19 #[(.agg #[.int .i64 (x0), .int .i64 (y0)]), (.agg #[.int .i64 (x1), .int .i64 (y1)]), .bool b] w fun e w' => e = .returned (.tuple #[(.agg #[.int .i64 (0), .int .i64 (0)]), .int .i64 1]) ∧ ∃ d, w' = bw w d := by
  cases h1 : latB x0 y0
  · clear h
    refine lay_start ?_
    go_enter Tryz.func19, Tryz.ntmps19
    go_wp2_with (go_at_call 22; refine (mer_latitude _ _ _).mono ?_; rintro e w' ⟨rfl, d, rfl⟩)
    exact bodyPost_ret (v := .tuple #[(.agg #[.int .i64 (0), .int .i64 (0)]), .int .i64 1]) (by simp [results, Tryz.results19, go_sem]) rfl ⟨rfl, lay_ex _ _⟩
  · have h2 : latB x1 y1 = false := by simpa [h1] using h
    clear h
    refine lay_start ?_
    go_enter Tryz.func19, Tryz.ntmps19
    go_wp2_with (go_at_call 22; refine (mer_latitude _ _ _).mono ?_; rintro e w' ⟨rfl, d, rfl⟩)
    exact bodyPost_ret (v := .tuple #[(.agg #[.int .i64 (0), .int .i64 (0)]), .int .i64 1]) (by simp [results, Tryz.results19, go_sem]) rfl ⟨rfl, lay_ex _ _⟩
set_option maxHeartbeats 2000000 in
theorem mer_Latitude_true (x0 y0 x1 y1 : Int) (w : World) (h1 : latB x0 y0 = true) (h2 : latB x1 y1 = true) :
    Calls Tryz.prog 19 #[(.agg #[.int .i64 (x0), .int .i64 (y0)]), (.agg #[.int .i64 (x1), .int .i64 (y1)]), .bool true] w fun e w' => e = .returned (.tuple #[(.agg #[.int .i64 (lsLo (5400000 - y0 + x1) (5400000 - x0 + y1)), .int .i64 (lsHi (5400000 - y0 + x1) (5400000 - x0 + y1))]), .int .i64 (lsE (5400000 - y0 + x1) (5400000 - x0 + y1))]) ∧ ∃ d, w' = bw w d := by
  obtain ⟨a1, a2, a3⟩ := latB_iff.1 h1
  obtain ⟨b1, b2, b3⟩ := latB_iff.1 h2
  refine lay_start ?_
  go_enter Tryz.func19, Tryz.ntmps19
  go_wp2_with (first | (go_at_call 22; refine (mer_latitude _ _ _).mono ?_; rintro e w' ⟨rfl, d, rfl⟩) | (go_at_call 60; refine (mer_latitudes _ _ _).mono ?_; rintro e w' ⟨rfl, d, rfl⟩) | (go_at_call 31; refine (mer_plus _ _ _ _ _ (by omega) (by omega) (by omega) (by omega)).mono ?_; rintro e w' ⟨rfl, d, rfl⟩) | (go_at_call 32; refine (mer_minus _ _ _ _ _ (by omega) (by omega) (by omega) (by omega)).mono ?_; rintro e w' ⟨rfl, d, rfl⟩) | (go_at_call 27; refine (mer_rest _ _ _ (by omega) (by omega) (by omega) (by omega)).mono ?_; rintro e w' ⟨rfl, d, rfl⟩))
  refine region_bw_tail 7 (by kernel_rfl) (by kernel_rfl) ?_
  simp only [List.take_succ_cons, List.take_zero, List.drop_succ_cons, List.drop_zero]
  repeat (go_big_quiet_step ((first | (go_at_call 22; exact bq (mer_latitude _ _ _) (fun d => lay_join _ _ _ d)) | (go_at_call 60; exact bq (mer_latitudes _ _ _) (fun d => lay_join _ _ _ d)) | (go_at_call 31; exact bq (mer_plus _ _ _ _ _ (by omega) (by omega) (by omega) (by omega)) (fun d => lay_join _ _ _ d)) | (go_at_call 32; exact bq (mer_minus _ _ _ _ _ (by omega) (by omega) (by omega) (by omega)) (fun d => lay_join _ _ _ d)) | (go_at_call 27; exact bq (mer_rest _ _ _ (by omega) (by omega) (by omega) (by omega)) (fun d => lay_join _ _ _ d)))))
  refine wpQuiet_nil ?_
  rintro w' ⟨d, rfl⟩
  rw [lay_bw]
  go_wp2_with (first | (go_at_call 22; refine (mer_latitude _ _ _).mono ?_; rintro e w' ⟨rfl, d, rfl⟩) | (go_at_call 60; refine (mer_latitudes _ _ _).mono ?_; rintro e w' ⟨rfl, d, rfl⟩) | (go_at_call 31; refine (mer_plus _ _ _ _ _ (by omega) (by omega) (by omega) (by omega)).mono ?_; rintro e w' ⟨rfl, d, rfl⟩) | (go_at_call 32; refine (mer_minus _ _ _ _ _ (by omega) (by omega) (by omega) (by omega)).mono ?_; rintro e w' ⟨rfl, d, rfl⟩) | (go_at_call 27; refine (mer_rest _ _ _ (by omega) (by omega) (by omega) (by omega)).mono ?_; rintro e w' ⟨rfl, d, rfl⟩))
  exact bodyPost_ret (v := .tuple #[(.agg #[.int .i64 (lsLo (5400000 - y0 + x1) (5400000 - x0 + y1)), .int .i64 (lsHi (5400000 - y0 + x1) (5400000 - x0 + y1))]), .int .i64 (lsE (5400000 - y0 + x1) (5400000 - x0 + y1))]) (by simp [results, Tryz.results19, go_sem]) rfl ⟨rfl, lay_ex _ _⟩
set_option maxHeartbeats 2000000 in
theorem mer_Latitude_false (x0 y0 x1 y1 : Int) (w : World) (h1 : latB x0 y0 = true) (h2 : latB x1 y1 = true) :
    Calls Tryz.prog 19 #[(.agg #[.int .i64 (x0), .int .i64 (y0)]), (.agg #[.int .i64 (x1), .int .i64 (y1)]), .bool false] w fun e w' => e = .returned (.tuple #[(.agg #[.int .i64 (lsLo (x1 - (5400000 - x0)) (y1 - (5400000 - y0))), .int .i64 (lsHi (x1 - (5400000 - x0)) (y1 - (5400000 - y0)))]), .int .i64 (lsE (x1 - (5400000 - x0)) (y1 - (5400000 - y0)))]) ∧ ∃ d, w' = bw w d := by
  obtain ⟨a1, a2, a3⟩ := latB_iff.1 h1
  obtain ⟨b1, b2, b3⟩ := latB_iff.1 h2
  refine lay_start ?_
  go_enter Tryz.func19, Tryz.ntmps19
  go_wp2_with (first | (go_at_call 22; refine (mer_latitude _ _ _).mono ?_; rintro e w' ⟨rfl, d, rfl⟩) | (go_at_call 60; refine (mer_latitudes _ _ _).mono ?_; rintro e w' ⟨rfl, d, rfl⟩) | (go_at_call 31; refine (mer_plus _ _ _ _ _ (by omega) (by omega) (by omega) (by omega)).mono ?_; rintro e w' ⟨rfl, d, rfl⟩) | (go_at_call 32; refine (mer_minus _ _ _ _ _ (by omega) (by omega) (by omega) (by omega)).mono ?_; rintro e w' ⟨rfl, d, rfl⟩) | (go_at_call 27; refine (mer_rest _ _ _ (by omega) (by omega) (by omega) (by omega)).mono ?_; rintro e w' ⟨rfl, d, rfl⟩))
  refine region_bw_tail 7 (by kernel_rfl) (by kernel_rfl) ?_
  simp only [List.take_succ_cons, List.take_zero, List.drop_succ_cons, List.drop_zero]
  repeat (go_big_quiet_step ((first | (go_at_call 22; exact bq (mer_latitude _ _ _) (fun d => lay_join _ _ _ d)) | (go_at_call 60; exact bq (mer_latitudes _ _ _) (fun d => lay_join _ _ _ d)) | (go_at_call 31; exact bq (mer_plus _ _ _ _ _ (by omega) (by omega) (by omega) (by omega)) (fun d => lay_join _ _ _ d)) | (go_at_call 32; exact bq (mer_minus _ _ _ _ _ (by omega) (by omega) (by omega) (by omega)) (fun d => lay_join _ _ _ d)) | (go_at_call 27; exact bq (mer_rest _ _ _ (by omega) (by omega) (by omega) (by omega)) (fun d => lay_join _ _ _ d)))))
  refine wpQuiet_nil ?_
  rintro w' ⟨d, rfl⟩
  rw [lay_bw]
  go_wp2_with (first | (go_at_call 22; refine (mer_latitude _ _ _).mono ?_; rintro e w' ⟨rfl, d, rfl⟩) | (go_at_call 60; refine (mer_latitudes _ _ _).mono ?_; rintro e w' ⟨rfl, d, rfl⟩) | (go_at_call 31; refine (mer_plus _ _ _ _ _ (by omega) (by omega) (by omega) (by omega)).mono ?_; rintro e w' ⟨rfl, d, rfl⟩) | (go_at_call 32; refine (mer_minus _ _ _ _ _ (by omega) (by omega) (by omega) (by omega)).mono ?_; rintro e w' ⟨rfl, d, rfl⟩) | (go_at_call 27; refine (mer_rest _ _ _ (by omega) (by omega) (by omega) (by omega)).mono ?_; rintro e w' ⟨rfl, d, rfl⟩))
  exact bodyPost_ret (v := .tuple #[(.agg #[.int .i64 (lsLo (x1 - (5400000 - x0)) (y1 - (5400000 - y0))), .int .i64 (lsHi (x1 - (5400000 - x0)) (y1 - (5400000 - y0)))]), .int .i64 (lsE (x1 - (5400000 - x0)) (y1 - (5400000 - y0)))]) (by simp [results, Tryz.results19, go_sem]) rfl ⟨rfl, lay_ex _ _⟩
set_option maxHeartbeats 1000000 in
theorem mer_Below_arg (x0 y0 x1 y1 : Int) (b : Bool) (w : World) (h : (latB x0 y0 && latB x1 y1) = false) :
    Calls Tryz.prog 21 #[(.agg #[.int .i64 (x0), .int .i64 (y0)]), (.agg #[.int .i64 (x1), .int .i64 (y1)]), .bool b] w fun e w' => e = .returned (.tuple #[(.agg #[.int .i64 (0), .int .i64 (0)]), .int .i64 1]) ∧ ∃ d, w' = bw w d := by
  cases h1 : latB x0 y0
  · clear h
    refine lay_start ?_
    go_enter Tryz.func21, Tryz.ntmps21
    go_wp2_with (go_at_call 22; refine (mer_latitude _ _ _).mono ?_; rintro e w' ⟨rfl, d, rfl⟩)
    exact bodyPost_ret (v := .tuple #[(.agg #[.int .i64 (0), .int .i64 (0)]), .int .i64 1]) (by simp [results, Tryz.results21, go_sem]) rfl ⟨rfl, lay_ex _ _⟩
  · have h2 : latB x1 y1 = false := by simpa [h1] using h
    clear h
    refine lay_start ?_
    go_enter Tryz.func21, Tryz.ntmps21
    go_wp2_with (go_at_call 22; refine (mer_latitude _ _ _).mono ?_; rintro e w' ⟨rfl, d, rfl⟩)
    exact bodyPost_ret (v := .tuple #[(.agg #[.int .i64 (0), .int .i64 (0)]), .int .i64 1]) (by simp [results, Tryz.results21, go_sem]) rfl ⟨rfl, lay_ex _ _⟩
set_option maxHeartbeats 2000000 in
theorem mer_Below_false (x0 y0 x1 y1 : Int) (w : World) (h1 : latB x0 y0 = true) (h2 : latB x1 y1 = true) :
    Calls Tryz.prog 21 #[(.agg #[.int .i64 (x0), .int .i64 (y0)]), (.agg #[.int .i64 (x1), .int .i64 (y1)]), .bool false] w fun e w' => e = .returned (.tuple #[(.agg #[.int .i64 (lsLo (x0 + (5400000 - y1)) (y0 + (5400000 - x1))), .int .i64 (lsHi (x0 + (5400000 - y1)) (y0 + (5400000 - x1)))]), .int .i64 (lsE (x0 + (5400000 - y1)) (y0 + (5400000 - x1)))]) ∧ ∃ d, w' = bw w d := by
  obtain ⟨a1, a2, a3⟩ := latB_iff.1 h1
  obtain ⟨b1, b2, b3⟩ := latB_iff.1 h2
  refine lay_start ?_
  go_enter Tryz.func21, Tryz.ntmps21
  go_wp2_with (first | (go_at_call 22; refine (mer_latitude _ _ _).mono ?_; rintro e w' ⟨rfl, d, rfl⟩) | (go_at_call 60; refine (mer_latitudes _ _ _).mono ?_; rintro e w' ⟨rfl, d, rfl⟩) | (go_at_call 31; refine (mer_plus _ _ _ _ _ (by omega) (by omega) (by omega) (by omega)).mono ?_; rintro e w' ⟨rfl, d, rfl⟩) | (go_at_call 32; refine (mer_minus _ _ _ _ _ (by omega) (by omega) (by omega) (by omega)).mono ?_; rintro e w' ⟨rfl, d, rfl⟩) | (go_at_call 27; refine (mer_rest _ _ _ (by omega) (by omega) (by omega) (by omega)).mono ?_; rintro e w' ⟨rfl, d, rfl⟩))
  refine region_bw_tail 7 (by kernel_rfl) (by kernel_rfl) ?_
  simp only [List.take_succ_cons, List.take_zero, List.drop_succ_cons, List.drop_zero]
  repeat (go_big_quiet_step ((first | (go_at_call 22; exact bq (mer_latitude _ _ _) (fun d => lay_join _ _ _ d)) | (go_at_call 60; exact bq (mer_latitudes _ _ _) (fun d => lay_join _ _ _ d)) | (go_at_call 31; exact bq (mer_plus _ _ _ _ _ (by omega) (by omega) (by omega) (by omega)) (fun d => lay_join _ _ _ d)) | (go_at_call 32; exact bq (mer_minus _ _ _ _ _ (by omega) (by omega) (by omega) (by omega)) (fun d => lay_join _ _ _ d)) | (go_at_call 27; exact bq (mer_rest _ _ _ (by omega) (by omega) (by omega) (by omega)) (fun d => lay_join _ _ _ d)))))
  refine wpQuiet_nil ?_
  rintro w' ⟨d, rfl⟩
  rw [lay_bw]
  go_wp2_with (first | (go_at_call 22; refine (mer_latitude _ _ _).mono ?_; rintro e w' ⟨rfl, d, rfl⟩) | (go_at_call 60; refine (mer_latitudes _ _ _).mono ?_; rintro e w' ⟨rfl, d, rfl⟩) | (go_at_call 31; refine (mer_plus _ _ _ _ _ (by omega) (by omega) (by omega) (by omega)).mono ?_; rintro e w' ⟨rfl, d, rfl⟩) | (go_at_call 32; refine (mer_minus _ _ _ _ _ (by omega) (by omega) (by omega) (by omega)).mono ?_; rintro e w' ⟨rfl, d, rfl⟩) | (go_at_call 27; refine (mer_rest _ _ _ (by omega) (by omega) (by omega) (by omega)).mono ?_; rintro e w' ⟨rfl, d, rfl⟩))
  exact bodyPost_ret (v := .tuple #[(.agg #[.int .i64 (lsLo (x0 + (5400000 - y1)) (y0 + (5400000 - x1))), .int .i64 (lsHi (x0 + (5400000 - y1)) (y0 + (5400000 - x1)))]), .int .i64 (lsE (x0 + (5400000 - y1)) (y0 + (5400000 - x1)))]) (by simp [results, Tryz.results21, go_sem]) rfl ⟨rfl, lay_ex _ _⟩
set_option maxHeartbeats 2000000 in
theorem mer_Below_true (x0 y0 x1 y1 : Int) (w : World) (h1 : latB x0 y0 = true) (h2 : latB x1 y1 = true) :
    Calls Tryz.prog 21 #[(.agg #[.int .i64 (x0), .int .i64 (y0)]), (.agg #[.int .i64 (x1), .int .i64 (y1)]), .bool true] w fun e w' => e = .returned (.tuple #[(.agg #[.int .i64 (lsLo (-(y0 + (5400000 + y1))) (-(x0 + (5400000 + x1)))), .int .i64 (lsHi (-(y0 + (5400000 + y1))) (-(x0 + (5400000 + x1))))]), .int .i64 (lsE (-(y0 + (5400000 + y1))) (-(x0 + (5400000 + x1))))]) ∧ ∃ d, w' = bw w d := by
  obtain ⟨a1, a2, a3⟩ := latB_iff.1 h1
  obtain ⟨b1, b2, b3⟩ := latB_iff.1 h2
  refine lay_start ?_
  go_enter Tryz.func21, Tryz.ntmps21
  go_wp2_with (first | (go_at_call 22; refine (mer_latitude _ _ _).mono ?_; rintro e w' ⟨rfl, d, rfl⟩) | (go_at_call 60; refine (mer_latitudes _ _ _).mono ?_; rintro e w' ⟨rfl, d, rfl⟩) | (go_at_call 31; refine (mer_plus _ _ _ _ _ (by omega) (by omega) (by omega) (by omega)).mono ?_; rintro e w' ⟨rfl, d, rfl⟩) | (go_at_call 32; refine (mer_minus _ _ _ _ _ (by omega) (by omega) (by omega) (by omega)).mono ?_; rintro e w' ⟨rfl, d, rfl⟩) | (go_at_call 27; refine (mer_rest _ _ _ (by omega) (by omega) (by omega) (by omega)).mono ?_; rintro e w' ⟨rfl, d, rfl⟩))
  refine region_bw_tail 10 (by kernel_rfl) (by kernel_rfl) ?_
  simp only [List.take_succ_cons, List.take_zero, List.drop_succ_cons, List.drop_zero]
  repeat (go_big_quiet_step ((first | (go_at_call 22; exact bq (mer_latitude _ _ _) (fun d => lay_join _ _ _ d)) | (go_at_call 60; exact bq (mer_latitudes _ _ _) (fun d => lay_join _ _ _ d)) | (go_at_call 31; exact bq (mer_plus _ _ _ _ _ (by omega) (by omega) (by omega) (by omega)) (fun d => lay_join _ _ _ d)) | (go_at_call 32; exact bq (mer_minus _ _ _ _ _ (by omega) (by omega) (by omega) (by omega)) (fun d => lay_join _ _ _ d)) | (go_at_call 27; exact bq (mer_rest _ _ _ (by omega) (by omega) (by omega) (by omega)) (fun d => lay_join _ _ _ d)))))
  refine wpQuiet_nil ?_
  rintro w' ⟨d, rfl⟩
  rw [lay_bw]
  go_wp2_with (first | (go_at_call 22; refine (mer_latitude _ _ _).mono ?_; rintro e w' ⟨rfl, d, rfl⟩) | (go_at_call 60; refine (mer_latitudes _ _ _).mono ?_; rintro e w' ⟨rfl, d, rfl⟩) | (go_at_call 31; refine (mer_plus _ _ _ _ _ (by omega) (by omega) (by omega) (by omega)).mono ?_; rintro e w' ⟨rfl, d, rfl⟩) | (go_at_call 32; refine (mer_minus _ _ _ _ _ (by omega) (by omega) (by omega) (by omega)).mono ?_; rintro e w' ⟨rfl, d, rfl⟩) | (go_at_call 27; refine (mer_rest _ _ _ (by omega) (by omega) (by omega) (by omega)).mono ?_; rintro e w' ⟨rfl, d, rfl⟩))
  exact bodyPost_ret (v := .tuple #[(.agg #[.int .i64 (lsLo (-(y0 + (5400000 + y1))) (-(x0 + (5400000 + x1)))), .int .i64 (lsHi (-(y0 + (5400000 + y1))) (-(x0 + (5400000 + x1))))]), .int .i64 (lsE (-(y0 + (5400000 + y1))) (-(x0 + (5400000 + x1))))]) (by simp [results, Tryz.results21, go_sem]) rfl ⟨rfl, lay_ex _ _⟩
end Go.Proofs.YtakcfcekdngndaaGreat
/- MeridianLatitudes: for any arcs, on either side, Latitude and Below return what the reference specifies. No condition. -/
namespace Go.Proofs.YtakcfcekdngndaaGreat
open Go.RowKit

set_option maxHeartbeats 4000000 in
set_option maxRecDepth 100000 in
theorem law33_awake (w : World) :
    Calls Tryz.prog 6 #[] w fun e w' => e = .returned (.bool true) ∧ ∃ d, w' = bw w d := by
  have h1 : lsLo 3000000 3000000 = 3000000 ∧ lsHi 3000000 3000000 = 3000000 ∧ lsE 3000000 3000000 = 0 := by decide
  have h2 : lsLo (-600000) (-600000) = -600000 ∧ lsHi (-600000) (-600000) = -600000 ∧ lsE (-600000) (-600000) = 0 := by decide
  have h3 : lsLo 1200000 1200000 = 1200000 ∧ lsHi 1200000 1200000 = 1200000 ∧ lsE 1200000 1200000 = 0 := by decide
  obtain ⟨a1, a2, a3⟩ := h1
  obtain ⟨b1, b2, b3⟩ := h2
  obtain ⟨c1, c2, c3⟩ := h3
  refine lay_start ?_
  go_enter Tryz.func6, Tryz.ntmps6
  go_wp2_with (go_at_call 20; refine (law33_one _ _).mono ?_; rintro e w' ⟨rfl, d, rfl⟩)
  refine (mer_Latitude_true _ _ _ _ _ (by decide) (by decide)).mono ?_
  rintro e w' ⟨rfl, d, rfl⟩
  go_wp2_with (go_at_call 20; refine (law33_one _ _).mono ?_; rintro e w' ⟨rfl, d, rfl⟩)
  refine (mer_Latitude_false _ _ _ _ _ (by decide) (by decide)).mono ?_
  rintro e w' ⟨rfl, d, rfl⟩
  go_wp2_with (go_at_call 20; refine (law33_one _ _).mono ?_; rintro e w' ⟨rfl, d, rfl⟩)
  refine (mer_Below_false _ _ _ _ _ (by decide) (by decide)).mono ?_
  rintro e w' ⟨rfl, d, rfl⟩
  go_wp2_with fail
  refine region_bw (by kernel_rfl) (by kernel_rfl) ?_
  repeat (go_big_quiet_step ((first | (go_at_call 20; exact bq (law33_one _ _) (fun d => lay_join _ _ _ d)))))
  refine wpQuiet_nil ?_
  rintro w' ⟨d, rfl⟩
  rw [lay_bw]
  go_wp2
  go_ret
  exact ⟨rfl, lay_ex _ _⟩
end Go.Proofs.YtakcfcekdngndaaGreat
/- The law MeridianExes. -/
namespace Go.Proofs.YtakcfcekdngndaaGreat
open Go.RowKit

set_option maxRecDepth 100000 in
theorem mer_ExB (h0 h1 a0 a1 b0 b1 c0 c1 : Int) (w : World) (h : (latB h0 h1 && latB a0 a1 && latB b0 b1 && validB c0 c1) = false) :
    Calls Tryz.prog 7 #[(.agg #[.int .i64 (h0), .int .i64 (h1)]), (.agg #[.int .i64 (a0), .int .i64 (a1)]), (.agg #[.int .i64 (b0), .int .i64 (b1)]), (.agg #[.int .i64 (c0), .int .i64 (c1)])] w fun e' w' => e' = .returned (.tuple #[(.agg #[.int .i64 (0), .int .i64 (0)]), .int .i64 1]) ∧ ∃ d, w' = bw w d := by
  have HLh := Lib.hid (fun W => mer_latitude h0 h1 W)
  have HLa := Lib.hid (fun W => mer_latitude a0 a1 W)
  have HLb := Lib.hid (fun W => mer_latitude b0 b1 W)
  have HV := Lib.hid (fun W => angle_Valid c0 c1 W)
  generalize latB h0 h1 = p at *
  generalize latB a0 a1 = q at *
  generalize latB b0 b1 = r at *
  generalize validB c0 c1 = s at *
  have hc : (p = false) ∨ (p = true ∧ q = false) ∨ (p = true ∧ q = true ∧ r = false) ∨ (p = true ∧ q = true ∧ r = true ∧ s = false) := by
    cases p <;> cases q <;> cases r <;> cases s <;> simp_all
  clear h
  rcases hc with rfl | ⟨rfl, rfl⟩ | ⟨rfl, rfl, rfl⟩ | ⟨rfl, rfl, rfl, rfl⟩
  all_goals
    refine lay_start ?_
    go_enter Tryz.func7, Tryz.ntmps7
    go_wp2_with (first | (go_at_call 22; first | (with_reducible refine (HLh.out _).mono ?_; rintro e w' ⟨rfl, d1, rfl⟩; rw [lay_bw]) | (with_reducible refine (HLa.out _).mono ?_; rintro e w' ⟨rfl, d2, rfl⟩; rw [lay_bw]) | (with_reducible refine (HLb.out _).mono ?_; rintro e w' ⟨rfl, d3, rfl⟩; rw [lay_bw])) | (go_at_call 23; refine (HV.out _).mono ?_; rintro e w' ⟨rfl, d4, rfl⟩; rw [lay_bw]))
    exact bodyPost_ret (v := .tuple #[(.agg #[.int .i64 (0), .int .i64 (0)]), .int .i64 1]) (by simp [results, Tryz.results7, go_sem]) rfl ⟨rfl, lay_ex _ _⟩
set_option maxRecDepth 100000 in
theorem r33_ExB (h0 h1 a0 a1 b0 b1 c0 c1 : Int) (w : World) (h : (latB h0 h1 && latB a0 a1 && latB b0 b1 && validB c0 c1) = false) :
    Calls Tryz.prog 8 #[(.agg #[.int .i64 (h0), .int .i64 (h1)]), (.agg #[.int .i64 (a0), .int .i64 (a1)]), (.agg #[.int .i64 (b0), .int .i64 (b1)]), (.agg #[.int .i64 (c0), .int .i64 (c1)])] w fun e' w' => e' = .returned (.tuple #[(.agg #[.int .i64 (0), .int .i64 (0)]), .int .i64 1]) ∧ ∃ d, w' = bw w d := by
  have HLh := Lib.hid (fun W => ref25_Latitude h0 h1 W)
  have HLa := Lib.hid (fun W => ref25_Latitude a0 a1 W)
  have HLb := Lib.hid (fun W => ref25_Latitude b0 b1 W)
  have HV := Lib.hid (fun W => ref05_Valid c0 c1 W)
  generalize latB h0 h1 = p at *
  generalize latB a0 a1 = q at *
  generalize latB b0 b1 = r at *
  generalize validB c0 c1 = s at *
  have hc : (p = false) ∨ (p = true ∧ q = false) ∨ (p = true ∧ q = true ∧ r = false) ∨ (p = true ∧ q = true ∧ r = true ∧ s = false) := by
    cases p <;> cases q <;> cases r <;> cases s <;> simp_all
  clear h
  rcases hc with rfl | ⟨rfl, rfl⟩ | ⟨rfl, rfl, rfl⟩ | ⟨rfl, rfl, rfl, rfl⟩
  all_goals
    refine lay_start ?_
    go_enter Tryz.func8, Tryz.ntmps8
    go_wp2_with (first | (go_at_call 12; first | (with_reducible refine (HLh.out _).mono ?_; rintro e w' ⟨rfl, d1, rfl⟩; rw [lay_bw]) | (with_reducible refine (HLa.out _).mono ?_; rintro e w' ⟨rfl, d2, rfl⟩; rw [lay_bw]) | (with_reducible refine (HLb.out _).mono ?_; rintro e w' ⟨rfl, d3, rfl⟩; rw [lay_bw])) | (go_at_call 14; refine (HV.out _).mono ?_; rintro e w' ⟨rfl, d4, rfl⟩; rw [lay_bw]))
    exact bodyPost_ret (v := .tuple #[(.agg #[.int .i64 (0), .int .i64 (0)]), .int .i64 1]) (by simp [results, Tryz.results8, go_sem]) rfl ⟨rfl, lay_ex _ _⟩
set_option maxHeartbeats 1000000 in
set_option maxRecDepth 100000 in
theorem law33_Exes {w : World} (h0 h1 : Int) (_ : (Lit.int .i64 h0).wf = true) (_ : (Lit.int .i64 h1).wf = true) (a0 a1 : Int) (_ : (Lit.int .i64 a0).wf = true) (_ : (Lit.int .i64 a1).wf = true) (b0 b1 : Int) (_ : (Lit.int .i64 b0).wf = true) (_ : (Lit.int .i64 b1).wf = true) (c0 c1 : Int) (_ : (Lit.int .i64 c0).wf = true) (_ : (Lit.int .i64 c1).wf = true) :
    Calls Tryz.prog 3 #[(.agg #[.int .i64 (h0), .int .i64 (h1)]), (.agg #[.int .i64 (a0), .int .i64 (a1)]), (.agg #[.int .i64 (b0), .int .i64 (b1)]), (.agg #[.int .i64 (c0), .int .i64 (c1)])] w fun e' w' => e' = .returned (.bool true) ∧ ∃ d, w' = bw w d := by
  have key : ∃ x0 x1 x : Int, Hid (∀ W, Calls Tryz.prog 7 #[(.agg #[.int .i64 (h0), .int .i64 (h1)]), (.agg #[.int .i64 (a0), .int .i64 (a1)]), (.agg #[.int .i64 (b0), .int .i64 (b1)]), (.agg #[.int .i64 (c0), .int .i64 (c1)])] W fun e w' => e = .returned (.tuple #[(.agg #[.int .i64 (x0), .int .i64 (x1)]), .int .i64 x]) ∧ ∃ d, w' = bw W d) ∧ Hid (∀ W, Calls Tryz.prog 8 #[(.agg #[.int .i64 (h0), .int .i64 (h1)]), (.agg #[.int .i64 (a0), .int .i64 (a1)]), (.agg #[.int .i64 (b0), .int .i64 (b1)]), (.agg #[.int .i64 (c0), .int .i64 (c1)])] W fun e w' => e = .returned (.tuple #[(.agg #[.int .i64 (x0), .int .i64 (x1)]), .int .i64 x]) ∧ ∃ d, w' = bw W d) := by
    cases h : (latB h0 h1 && latB a0 a1 && latB b0 b1 && validB c0 c1)
    · exact ⟨0, 0, 1, Lib.hid fun W => mer_ExB _ _ _ _ _ _ _ _ W h, Lib.hid fun W => r33_ExB _ _ _ _ _ _ _ _ W h⟩
    · simp only [Bool.and_eq_true] at h
      obtain ⟨⟨⟨g1, g2⟩, g3⟩, g4⟩ := h
      exact ⟨_, _, _, Lib.hid fun W => mer_ExG _ _ _ _ _ _ _ _ W g1 g2 g3 g4, Lib.hid fun W => r33_ExG _ _ _ _ _ _ _ _ W g1 g2 g3 g4⟩
  obtain ⟨x0, x1, x, HA, HR⟩ := key
  have t1 : (x0 == x0) = true := beq_iff_eq.2 rfl
  have t2 : (x1 == x1) = true := beq_iff_eq.2 rfl
  have t3 : (x == x) = true := beq_iff_eq.2 rfl
  refine lay_start ?_
  go_enter Tryz.func3, Tryz.ntmps3
  go_wp2_with (first | (go_at_call 6; refine (law33_awake _).mono ?_; rintro e w' ⟨rfl, dA, rfl⟩; rw [lay_bw]) | (go_at_call 7; refine (HA.out _).mono ?_; rintro e w' ⟨rfl, dB, rfl⟩; rw [lay_bw]) | (go_at_call 8; refine (HR.out _).mono ?_; rintro e w' ⟨rfl, dC, rfl⟩; rw [lay_bw]))
  go_ret
  exact ⟨rfl, lay_ex _ _⟩
end Go.Proofs.YtakcfcekdngndaaGreat
