/- Contracts of meridian's Latitude and Below, of their references, and the law on them, walked. -/
import Derived.Test.YtfkhjgjpfedgkaaProg
import Derived.Test.YtfkhjgjpfedgkaaLay
import Derived.Test.YtfkhjgjpfedgkaaRegion
import Derived.WalkKit
import Derived.WalkSpells
import Derived.WalkLawsBesides
import Derived.Lib.Hide
import Derived.BigQuiet
import Derived.Test.YtfkhjgjpfedgkaaPlain
import Derived.Test.YtfkhjgjpfedgkaaAngle
import Derived.Test.YtfkhjgjpfedgkaaMer1
namespace Go.Proofs.Ytfkhjgjpfedgkaa
open Go.RowKit

set_option maxHeartbeats 1000000 in
theorem mer_Latitude_arg (x0 y0 x1 y1 : Int) (b : Bool) (w : World) (h : (latB x0 y0 && latB x1 y1) = false) :
    Calls Try.prog 8 #[(.agg #[.int .i64 (x0), .int .i64 (y0)]), (.agg #[.int .i64 (x1), .int .i64 (y1)]), .bool b] w fun e w' => e = .returned (.tuple #[(.agg #[.int .i64 (0), .int .i64 (0)]), .int .i64 1]) ∧ ∃ d, w' = bw w d := by
  cases h1 : latB x0 y0
  · clear h
    refine lay_start ?_
    go_enter Try.func8, Try.ntmps8
    go_wp2_with (go_at_call 21; refine (mer_latitude _ _ _).mono ?_; rintro e w' ⟨rfl, d, rfl⟩)
    exact bodyPost_ret (v := .tuple #[(.agg #[.int .i64 (0), .int .i64 (0)]), .int .i64 1]) (by simp [results, Try.results8, go_sem]) rfl ⟨rfl, lay_ex _ _⟩
  · have h2 : latB x1 y1 = false := by simpa [h1] using h
    clear h
    refine lay_start ?_
    go_enter Try.func8, Try.ntmps8
    go_wp2_with (go_at_call 21; refine (mer_latitude _ _ _).mono ?_; rintro e w' ⟨rfl, d, rfl⟩)
    exact bodyPost_ret (v := .tuple #[(.agg #[.int .i64 (0), .int .i64 (0)]), .int .i64 1]) (by simp [results, Try.results8, go_sem]) rfl ⟨rfl, lay_ex _ _⟩
set_option maxHeartbeats 2000000 in
theorem mer_Latitude_true (x0 y0 x1 y1 : Int) (w : World) (h1 : latB x0 y0 = true) (h2 : latB x1 y1 = true) :
    Calls Try.prog 8 #[(.agg #[.int .i64 (x0), .int .i64 (y0)]), (.agg #[.int .i64 (x1), .int .i64 (y1)]), .bool true] w fun e w' => e = .returned (.tuple #[(.agg #[.int .i64 (lsLo (5400000 - y0 + x1) (5400000 - x0 + y1)), .int .i64 (lsHi (5400000 - y0 + x1) (5400000 - x0 + y1))]), .int .i64 (lsE (5400000 - y0 + x1) (5400000 - x0 + y1))]) ∧ ∃ d, w' = bw w d := by
  obtain ⟨a1, a2, a3⟩ := latB_iff.1 h1
  obtain ⟨b1, b2, b3⟩ := latB_iff.1 h2
  refine lay_start ?_
  go_enter Try.func8, Try.ntmps8
  go_wp2_with (first | (go_at_call 21; refine (mer_latitude _ _ _).mono ?_; rintro e w' ⟨rfl, d, rfl⟩) | (go_at_call 22; refine (mer_latitudes _ _ _).mono ?_; rintro e w' ⟨rfl, d, rfl⟩) | (go_at_call 23; refine (mer_plus _ _ _ _ _ (by omega) (by omega) (by omega) (by omega)).mono ?_; rintro e w' ⟨rfl, d, rfl⟩) | (go_at_call 25; refine (mer_minus _ _ _ _ _ (by omega) (by omega) (by omega) (by omega)).mono ?_; rintro e w' ⟨rfl, d, rfl⟩) | (go_at_call 24; refine (mer_rest _ _ _ (by omega) (by omega) (by omega) (by omega)).mono ?_; rintro e w' ⟨rfl, d, rfl⟩))
  refine region_bw_tail 7 (by kernel_rfl) (by kernel_rfl) ?_
  simp only [List.take_succ_cons, List.take_zero, List.drop_succ_cons, List.drop_zero]
  repeat (go_big_quiet_step ((first | (go_at_call 21; exact bq (mer_latitude _ _ _) (fun d => lay_join _ _ _ d)) | (go_at_call 22; exact bq (mer_latitudes _ _ _) (fun d => lay_join _ _ _ d)) | (go_at_call 23; exact bq (mer_plus _ _ _ _ _ (by omega) (by omega) (by omega) (by omega)) (fun d => lay_join _ _ _ d)) | (go_at_call 25; exact bq (mer_minus _ _ _ _ _ (by omega) (by omega) (by omega) (by omega)) (fun d => lay_join _ _ _ d)) | (go_at_call 24; exact bq (mer_rest _ _ _ (by omega) (by omega) (by omega) (by omega)) (fun d => lay_join _ _ _ d)))))
  refine wpQuiet_nil ?_
  rintro w' ⟨d, rfl⟩
  rw [lay_bw]
  go_wp2_with (first | (go_at_call 21; refine (mer_latitude _ _ _).mono ?_; rintro e w' ⟨rfl, d, rfl⟩) | (go_at_call 22; refine (mer_latitudes _ _ _).mono ?_; rintro e w' ⟨rfl, d, rfl⟩) | (go_at_call 23; refine (mer_plus _ _ _ _ _ (by omega) (by omega) (by omega) (by omega)).mono ?_; rintro e w' ⟨rfl, d, rfl⟩) | (go_at_call 25; refine (mer_minus _ _ _ _ _ (by omega) (by omega) (by omega) (by omega)).mono ?_; rintro e w' ⟨rfl, d, rfl⟩) | (go_at_call 24; refine (mer_rest _ _ _ (by omega) (by omega) (by omega) (by omega)).mono ?_; rintro e w' ⟨rfl, d, rfl⟩))
  exact bodyPost_ret (v := .tuple #[(.agg #[.int .i64 (lsLo (5400000 - y0 + x1) (5400000 - x0 + y1)), .int .i64 (lsHi (5400000 - y0 + x1) (5400000 - x0 + y1))]), .int .i64 (lsE (5400000 - y0 + x1) (5400000 - x0 + y1))]) (by simp [results, Try.results8, go_sem]) rfl ⟨rfl, lay_ex _ _⟩
set_option maxHeartbeats 2000000 in
theorem mer_Latitude_false (x0 y0 x1 y1 : Int) (w : World) (h1 : latB x0 y0 = true) (h2 : latB x1 y1 = true) :
    Calls Try.prog 8 #[(.agg #[.int .i64 (x0), .int .i64 (y0)]), (.agg #[.int .i64 (x1), .int .i64 (y1)]), .bool false] w fun e w' => e = .returned (.tuple #[(.agg #[.int .i64 (lsLo (x1 - (5400000 - x0)) (y1 - (5400000 - y0))), .int .i64 (lsHi (x1 - (5400000 - x0)) (y1 - (5400000 - y0)))]), .int .i64 (lsE (x1 - (5400000 - x0)) (y1 - (5400000 - y0)))]) ∧ ∃ d, w' = bw w d := by
  obtain ⟨a1, a2, a3⟩ := latB_iff.1 h1
  obtain ⟨b1, b2, b3⟩ := latB_iff.1 h2
  refine lay_start ?_
  go_enter Try.func8, Try.ntmps8
  go_wp2_with (first | (go_at_call 21; refine (mer_latitude _ _ _).mono ?_; rintro e w' ⟨rfl, d, rfl⟩) | (go_at_call 22; refine (mer_latitudes _ _ _).mono ?_; rintro e w' ⟨rfl, d, rfl⟩) | (go_at_call 23; refine (mer_plus _ _ _ _ _ (by omega) (by omega) (by omega) (by omega)).mono ?_; rintro e w' ⟨rfl, d, rfl⟩) | (go_at_call 25; refine (mer_minus _ _ _ _ _ (by omega) (by omega) (by omega) (by omega)).mono ?_; rintro e w' ⟨rfl, d, rfl⟩) | (go_at_call 24; refine (mer_rest _ _ _ (by omega) (by omega) (by omega) (by omega)).mono ?_; rintro e w' ⟨rfl, d, rfl⟩))
  refine region_bw_tail 7 (by kernel_rfl) (by kernel_rfl) ?_
  simp only [List.take_succ_cons, List.take_zero, List.drop_succ_cons, List.drop_zero]
  repeat (go_big_quiet_step ((first | (go_at_call 21; exact bq (mer_latitude _ _ _) (fun d => lay_join _ _ _ d)) | (go_at_call 22; exact bq (mer_latitudes _ _ _) (fun d => lay_join _ _ _ d)) | (go_at_call 23; exact bq (mer_plus _ _ _ _ _ (by omega) (by omega) (by omega) (by omega)) (fun d => lay_join _ _ _ d)) | (go_at_call 25; exact bq (mer_minus _ _ _ _ _ (by omega) (by omega) (by omega) (by omega)) (fun d => lay_join _ _ _ d)) | (go_at_call 24; exact bq (mer_rest _ _ _ (by omega) (by omega) (by omega) (by omega)) (fun d => lay_join _ _ _ d)))))
  refine wpQuiet_nil ?_
  rintro w' ⟨d, rfl⟩
  rw [lay_bw]
  go_wp2_with (first | (go_at_call 21; refine (mer_latitude _ _ _).mono ?_; rintro e w' ⟨rfl, d, rfl⟩) | (go_at_call 22; refine (mer_latitudes _ _ _).mono ?_; rintro e w' ⟨rfl, d, rfl⟩) | (go_at_call 23; refine (mer_plus _ _ _ _ _ (by omega) (by omega) (by omega) (by omega)).mono ?_; rintro e w' ⟨rfl, d, rfl⟩) | (go_at_call 25; refine (mer_minus _ _ _ _ _ (by omega) (by omega) (by omega) (by omega)).mono ?_; rintro e w' ⟨rfl, d, rfl⟩) | (go_at_call 24; refine (mer_rest _ _ _ (by omega) (by omega) (by omega) (by omega)).mono ?_; rintro e w' ⟨rfl, d, rfl⟩))
  exact bodyPost_ret (v := .tuple #[(.agg #[.int .i64 (lsLo (x1 - (5400000 - x0)) (y1 - (5400000 - y0))), .int .i64 (lsHi (x1 - (5400000 - x0)) (y1 - (5400000 - y0)))]), .int .i64 (lsE (x1 - (5400000 - x0)) (y1 - (5400000 - y0)))]) (by simp [results, Try.results8, go_sem]) rfl ⟨rfl, lay_ex _ _⟩
set_option maxHeartbeats 1000000 in
theorem ref33_Latitude_arg (x0 y0 x1 y1 : Int) (b : Bool) (w : World) (h : (latB x0 y0 && latB x1 y1) = false) :
    Calls Try.prog 9 #[(.agg #[.int .i64 (x0), .int .i64 (y0)]), (.agg #[.int .i64 (x1), .int .i64 (y1)]), .bool b] w fun e w' => e = .returned (.tuple #[(.agg #[.int .i64 (0), .int .i64 (0)]), .int .i64 1]) ∧ ∃ d, w' = bw w d := by
  cases h1 : latB x0 y0
  · clear h
    refine lay_start ?_
    go_enter Try.func9, Try.ntmps9
    go_wp2_with (go_at_call 14; refine (ref25_Latitude _ _ _).mono ?_; rintro e w' ⟨rfl, d, rfl⟩)
    exact bodyPost_ret (v := .tuple #[(.agg #[.int .i64 (0), .int .i64 (0)]), .int .i64 1]) (by simp [results, Try.results9, go_sem]) rfl ⟨rfl, lay_ex _ _⟩
  · have h2 : latB x1 y1 = false := by simpa [h1] using h
    clear h
    refine lay_start ?_
    go_enter Try.func9, Try.ntmps9
    go_wp2_with (go_at_call 14; refine (ref25_Latitude _ _ _).mono ?_; rintro e w' ⟨rfl, d, rfl⟩)
    exact bodyPost_ret (v := .tuple #[(.agg #[.int .i64 (0), .int .i64 (0)]), .int .i64 1]) (by simp [results, Try.results9, go_sem]) rfl ⟨rfl, lay_ex _ _⟩
set_option maxHeartbeats 2000000 in
theorem ref33_Latitude_true (x0 y0 x1 y1 : Int) (w : World) (h1 : latB x0 y0 = true) (h2 : latB x1 y1 = true) :
    Calls Try.prog 9 #[(.agg #[.int .i64 (x0), .int .i64 (y0)]), (.agg #[.int .i64 (x1), .int .i64 (y1)]), .bool true] w fun e w' => e = .returned (.tuple #[(.agg #[.int .i64 (lsLo (5400000 - y0 + x1) (5400000 - x0 + y1)), .int .i64 (lsHi (5400000 - y0 + x1) (5400000 - x0 + y1))]), .int .i64 (lsE (5400000 - y0 + x1) (5400000 - x0 + y1))]) ∧ ∃ d, w' = bw w d := by
  obtain ⟨a1, a2, a3⟩ := latB_iff.1 h1
  obtain ⟨b1, b2, b3⟩ := latB_iff.1 h2
  refine lay_start ?_
  go_enter Try.func9, Try.ntmps9
  go_wp2_with (first | (go_at_call 14; refine (ref25_Latitude _ _ _).mono ?_; rintro e w' ⟨rfl, d, rfl⟩) | (go_at_call 28; refine (ref33_latitudes _ _ _ (by omega)).mono ?_; rintro e w' ⟨rfl, d, rfl⟩) | (go_at_call 29; refine (ref05_Add _ _ _ _ _ (by omega) (by omega) (by omega) (by omega)).mono ?_; rintro e w' ⟨rfl, d, rfl⟩) | (go_at_call 26; refine (ref05_Sub _ _ _ _ _ (by omega) (by omega) (by omega) (by omega)).mono ?_; rintro e w' ⟨rfl, d, rfl⟩) | (go_at_call 30; refine (ref05_Neg _ _ _ (by omega) (by omega) (by omega) (by omega)).mono ?_; rintro e w' ⟨rfl, d, rfl⟩) | (go_at_call 27; refine (ref33_one _ _).mono ?_; rintro e w' ⟨rfl, d, rfl⟩))
  refine region_bw_alloc 4 3 _ (.cells #[.int .i64 0, .int .i64 0] 23) (by kernel_rfl) (by kernel_rfl) rfl (fun _ _ => by simp [go_sem]) ?_
  simp only [List.take_succ_cons, List.take_zero, List.drop_succ_cons, List.drop_zero, skipL, Nat.reduceAdd, Nat.reduceEqDiff, ↓reduceIte]
  repeat (refine wpExt_step (fun K hK => ?_); go_simp; first | (refine hK _ ?_; clear hK K) | (apply Exists.intro; refine ⟨fun _ => ?_, hK _ ?_⟩; (first | (go_at_call 14; exact bq (ref25_Latitude _ _ _) (fun d => ⟨d, rfl⟩)) | (go_at_call 28; exact bq (ref33_latitudes _ _ _ (by omega)) (fun d => ⟨d, rfl⟩)) | (go_at_call 29; exact bq (ref05_Add _ _ _ _ _ (by omega) (by omega) (by omega) (by omega)) (fun d => ⟨d, rfl⟩)) | (go_at_call 26; exact bq (ref05_Sub _ _ _ _ _ (by omega) (by omega) (by omega) (by omega)) (fun d => ⟨d, rfl⟩)) | (go_at_call 30; exact bq (ref05_Neg _ _ _ (by omega) (by omega) (by omega) (by omega)) (fun d => ⟨d, rfl⟩)) | (go_at_call 27; exact bq (ref33_one _ _) (fun d => ⟨d, rfl⟩))); clear hK K))
  refine wpExt_nil ?_
  intro d1 d2
  go_wp2_with (first | (go_at_call 14; refine (ref25_Latitude _ _ _).mono ?_; rintro e w' ⟨rfl, d, rfl⟩) | (go_at_call 28; refine (ref33_latitudes _ _ _ (by omega)).mono ?_; rintro e w' ⟨rfl, d, rfl⟩) | (go_at_call 29; refine (ref05_Add _ _ _ _ _ (by omega) (by omega) (by omega) (by omega)).mono ?_; rintro e w' ⟨rfl, d, rfl⟩) | (go_at_call 26; refine (ref05_Sub _ _ _ _ _ (by omega) (by omega) (by omega) (by omega)).mono ?_; rintro e w' ⟨rfl, d, rfl⟩) | (go_at_call 30; refine (ref05_Neg _ _ _ (by omega) (by omega) (by omega) (by omega)).mono ?_; rintro e w' ⟨rfl, d, rfl⟩) | (go_at_call 27; refine (ref33_one _ _).mono ?_; rintro e w' ⟨rfl, d, rfl⟩))
  exact bodyPost_ret (v := .tuple #[(.agg #[.int .i64 (lsLo (5400000 - y0 + x1) (5400000 - x0 + y1)), .int .i64 (lsHi (5400000 - y0 + x1) (5400000 - x0 + y1))]), .int .i64 (lsE (5400000 - y0 + x1) (5400000 - x0 + y1))]) (by simp [results, Try.results9, go_sem]) rfl ⟨rfl, lay_ex _ _⟩
set_option maxHeartbeats 2000000 in
theorem ref33_Latitude_false (x0 y0 x1 y1 : Int) (w : World) (h1 : latB x0 y0 = true) (h2 : latB x1 y1 = true) :
    Calls Try.prog 9 #[(.agg #[.int .i64 (x0), .int .i64 (y0)]), (.agg #[.int .i64 (x1), .int .i64 (y1)]), .bool false] w fun e w' => e = .returned (.tuple #[(.agg #[.int .i64 (lsLo (x1 - (5400000 - x0)) (y1 - (5400000 - y0))), .int .i64 (lsHi (x1 - (5400000 - x0)) (y1 - (5400000 - y0)))]), .int .i64 (lsE (x1 - (5400000 - x0)) (y1 - (5400000 - y0)))]) ∧ ∃ d, w' = bw w d := by
  obtain ⟨a1, a2, a3⟩ := latB_iff.1 h1
  obtain ⟨b1, b2, b3⟩ := latB_iff.1 h2
  refine lay_start ?_
  go_enter Try.func9, Try.ntmps9
  go_wp2_with (first | (go_at_call 14; refine (ref25_Latitude _ _ _).mono ?_; rintro e w' ⟨rfl, d, rfl⟩) | (go_at_call 28; refine (ref33_latitudes _ _ _ (by omega)).mono ?_; rintro e w' ⟨rfl, d, rfl⟩) | (go_at_call 29; refine (ref05_Add _ _ _ _ _ (by omega) (by omega) (by omega) (by omega)).mono ?_; rintro e w' ⟨rfl, d, rfl⟩) | (go_at_call 26; refine (ref05_Sub _ _ _ _ _ (by omega) (by omega) (by omega) (by omega)).mono ?_; rintro e w' ⟨rfl, d, rfl⟩) | (go_at_call 30; refine (ref05_Neg _ _ _ (by omega) (by omega) (by omega) (by omega)).mono ?_; rintro e w' ⟨rfl, d, rfl⟩) | (go_at_call 27; refine (ref33_one _ _).mono ?_; rintro e w' ⟨rfl, d, rfl⟩))
  refine region_bw_alloc 4 3 _ (.cells #[.int .i64 0, .int .i64 0] 23) (by kernel_rfl) (by kernel_rfl) rfl (fun _ _ => by simp [go_sem]) ?_
  simp only [List.take_succ_cons, List.take_zero, List.drop_succ_cons, List.drop_zero, skipL, Nat.reduceAdd, Nat.reduceEqDiff, ↓reduceIte]
  repeat (refine wpExt_step (fun K hK => ?_); go_simp; first | (refine hK _ ?_; clear hK K) | (apply Exists.intro; refine ⟨fun _ => ?_, hK _ ?_⟩; (first | (go_at_call 14; exact bq (ref25_Latitude _ _ _) (fun d => ⟨d, rfl⟩)) | (go_at_call 28; exact bq (ref33_latitudes _ _ _ (by omega)) (fun d => ⟨d, rfl⟩)) | (go_at_call 29; exact bq (ref05_Add _ _ _ _ _ (by omega) (by omega) (by omega) (by omega)) (fun d => ⟨d, rfl⟩)) | (go_at_call 26; exact bq (ref05_Sub _ _ _ _ _ (by omega) (by omega) (by omega) (by omega)) (fun d => ⟨d, rfl⟩)) | (go_at_call 30; exact bq (ref05_Neg _ _ _ (by omega) (by omega) (by omega) (by omega)) (fun d => ⟨d, rfl⟩)) | (go_at_call 27; exact bq (ref33_one _ _) (fun d => ⟨d, rfl⟩))); clear hK K))
  refine wpExt_nil ?_
  intro d1 d2
  go_wp2_with (first | (go_at_call 14; refine (ref25_Latitude _ _ _).mono ?_; rintro e w' ⟨rfl, d, rfl⟩) | (go_at_call 28; refine (ref33_latitudes _ _ _ (by omega)).mono ?_; rintro e w' ⟨rfl, d, rfl⟩) | (go_at_call 29; refine (ref05_Add _ _ _ _ _ (by omega) (by omega) (by omega) (by omega)).mono ?_; rintro e w' ⟨rfl, d, rfl⟩) | (go_at_call 26; refine (ref05_Sub _ _ _ _ _ (by omega) (by omega) (by omega) (by omega)).mono ?_; rintro e w' ⟨rfl, d, rfl⟩) | (go_at_call 30; refine (ref05_Neg _ _ _ (by omega) (by omega) (by omega) (by omega)).mono ?_; rintro e w' ⟨rfl, d, rfl⟩) | (go_at_call 27; refine (ref33_one _ _).mono ?_; rintro e w' ⟨rfl, d, rfl⟩))
  exact bodyPost_ret (v := .tuple #[(.agg #[.int .i64 (lsLo (x1 - (5400000 - x0)) (y1 - (5400000 - y0))), .int .i64 (lsHi (x1 - (5400000 - x0)) (y1 - (5400000 - y0)))]), .int .i64 (lsE (x1 - (5400000 - x0)) (y1 - (5400000 - y0)))]) (by simp [results, Try.results9, go_sem]) rfl ⟨rfl, lay_ex _ _⟩
set_option maxHeartbeats 1000000 in
theorem mer_Below_arg (x0 y0 x1 y1 : Int) (b : Bool) (w : World) (h : (latB x0 y0 && latB x1 y1) = false) :
    Calls Try.prog 10 #[(.agg #[.int .i64 (x0), .int .i64 (y0)]), (.agg #[.int .i64 (x1), .int .i64 (y1)]), .bool b] w fun e w' => e = .returned (.tuple #[(.agg #[.int .i64 (0), .int .i64 (0)]), .int .i64 1]) ∧ ∃ d, w' = bw w d := by
  cases h1 : latB x0 y0
  · clear h
    refine lay_start ?_
    go_enter Try.func10, Try.ntmps10
    go_wp2_with (go_at_call 21; refine (mer_latitude _ _ _).mono ?_; rintro e w' ⟨rfl, d, rfl⟩)
    exact bodyPost_ret (v := .tuple #[(.agg #[.int .i64 (0), .int .i64 (0)]), .int .i64 1]) (by simp [results, Try.results10, go_sem]) rfl ⟨rfl, lay_ex _ _⟩
  · have h2 : latB x1 y1 = false := by simpa [h1] using h
    clear h
    refine lay_start ?_
    go_enter Try.func10, Try.ntmps10
    go_wp2_with (go_at_call 21; refine (mer_latitude _ _ _).mono ?_; rintro e w' ⟨rfl, d, rfl⟩)
    exact bodyPost_ret (v := .tuple #[(.agg #[.int .i64 (0), .int .i64 (0)]), .int .i64 1]) (by simp [results, Try.results10, go_sem]) rfl ⟨rfl, lay_ex _ _⟩
set_option maxHeartbeats 2000000 in
theorem mer_Below_false (x0 y0 x1 y1 : Int) (w : World) (h1 : latB x0 y0 = true) (h2 : latB x1 y1 = true) :
    Calls Try.prog 10 #[(.agg #[.int .i64 (x0), .int .i64 (y0)]), (.agg #[.int .i64 (x1), .int .i64 (y1)]), .bool false] w fun e w' => e = .returned (.tuple #[(.agg #[.int .i64 (lsLo (x0 + (5400000 - y1)) (y0 + (5400000 - x1))), .int .i64 (lsHi (x0 + (5400000 - y1)) (y0 + (5400000 - x1)))]), .int .i64 (lsE (x0 + (5400000 - y1)) (y0 + (5400000 - x1)))]) ∧ ∃ d, w' = bw w d := by
  obtain ⟨a1, a2, a3⟩ := latB_iff.1 h1
  obtain ⟨b1, b2, b3⟩ := latB_iff.1 h2
  refine lay_start ?_
  go_enter Try.func10, Try.ntmps10
  go_wp2_with (first | (go_at_call 21; refine (mer_latitude _ _ _).mono ?_; rintro e w' ⟨rfl, d, rfl⟩) | (go_at_call 22; refine (mer_latitudes _ _ _).mono ?_; rintro e w' ⟨rfl, d, rfl⟩) | (go_at_call 23; refine (mer_plus _ _ _ _ _ (by omega) (by omega) (by omega) (by omega)).mono ?_; rintro e w' ⟨rfl, d, rfl⟩) | (go_at_call 25; refine (mer_minus _ _ _ _ _ (by omega) (by omega) (by omega) (by omega)).mono ?_; rintro e w' ⟨rfl, d, rfl⟩) | (go_at_call 24; refine (mer_rest _ _ _ (by omega) (by omega) (by omega) (by omega)).mono ?_; rintro e w' ⟨rfl, d, rfl⟩))
  refine region_bw_tail 7 (by kernel_rfl) (by kernel_rfl) ?_
  simp only [List.take_succ_cons, List.take_zero, List.drop_succ_cons, List.drop_zero]
  repeat (go_big_quiet_step ((first | (go_at_call 21; exact bq (mer_latitude _ _ _) (fun d => lay_join _ _ _ d)) | (go_at_call 22; exact bq (mer_latitudes _ _ _) (fun d => lay_join _ _ _ d)) | (go_at_call 23; exact bq (mer_plus _ _ _ _ _ (by omega) (by omega) (by omega) (by omega)) (fun d => lay_join _ _ _ d)) | (go_at_call 25; exact bq (mer_minus _ _ _ _ _ (by omega) (by omega) (by omega) (by omega)) (fun d => lay_join _ _ _ d)) | (go_at_call 24; exact bq (mer_rest _ _ _ (by omega) (by omega) (by omega) (by omega)) (fun d => lay_join _ _ _ d)))))
  refine wpQuiet_nil ?_
  rintro w' ⟨d, rfl⟩
  rw [lay_bw]
  go_wp2_with (first | (go_at_call 21; refine (mer_latitude _ _ _).mono ?_; rintro e w' ⟨rfl, d, rfl⟩) | (go_at_call 22; refine (mer_latitudes _ _ _).mono ?_; rintro e w' ⟨rfl, d, rfl⟩) | (go_at_call 23; refine (mer_plus _ _ _ _ _ (by omega) (by omega) (by omega) (by omega)).mono ?_; rintro e w' ⟨rfl, d, rfl⟩) | (go_at_call 25; refine (mer_minus _ _ _ _ _ (by omega) (by omega) (by omega) (by omega)).mono ?_; rintro e w' ⟨rfl, d, rfl⟩) | (go_at_call 24; refine (mer_rest _ _ _ (by omega) (by omega) (by omega) (by omega)).mono ?_; rintro e w' ⟨rfl, d, rfl⟩))
  exact bodyPost_ret (v := .tuple #[(.agg #[.int .i64 (lsLo (x0 + (5400000 - y1)) (y0 + (5400000 - x1))), .int .i64 (lsHi (x0 + (5400000 - y1)) (y0 + (5400000 - x1)))]), .int .i64 (lsE (x0 + (5400000 - y1)) (y0 + (5400000 - x1)))]) (by simp [results, Try.results10, go_sem]) rfl ⟨rfl, lay_ex _ _⟩
set_option maxHeartbeats 2000000 in
theorem mer_Below_true (x0 y0 x1 y1 : Int) (w : World) (h1 : latB x0 y0 = true) (h2 : latB x1 y1 = true) :
    Calls Try.prog 10 #[(.agg #[.int .i64 (x0), .int .i64 (y0)]), (.agg #[.int .i64 (x1), .int .i64 (y1)]), .bool true] w fun e w' => e = .returned (.tuple #[(.agg #[.int .i64 (lsLo (-(y0 + (5400000 + y1))) (-(x0 + (5400000 + x1)))), .int .i64 (lsHi (-(y0 + (5400000 + y1))) (-(x0 + (5400000 + x1))))]), .int .i64 (lsE (-(y0 + (5400000 + y1))) (-(x0 + (5400000 + x1))))]) ∧ ∃ d, w' = bw w d := by
  obtain ⟨a1, a2, a3⟩ := latB_iff.1 h1
  obtain ⟨b1, b2, b3⟩ := latB_iff.1 h2
  refine lay_start ?_
  go_enter Try.func10, Try.ntmps10
  go_wp2_with (first | (go_at_call 21; refine (mer_latitude _ _ _).mono ?_; rintro e w' ⟨rfl, d, rfl⟩) | (go_at_call 22; refine (mer_latitudes _ _ _).mono ?_; rintro e w' ⟨rfl, d, rfl⟩) | (go_at_call 23; refine (mer_plus _ _ _ _ _ (by omega) (by omega) (by omega) (by omega)).mono ?_; rintro e w' ⟨rfl, d, rfl⟩) | (go_at_call 25; refine (mer_minus _ _ _ _ _ (by omega) (by omega) (by omega) (by omega)).mono ?_; rintro e w' ⟨rfl, d, rfl⟩) | (go_at_call 24; refine (mer_rest _ _ _ (by omega) (by omega) (by omega) (by omega)).mono ?_; rintro e w' ⟨rfl, d, rfl⟩))
  refine region_bw_tail 10 (by kernel_rfl) (by kernel_rfl) ?_
  simp only [List.take_succ_cons, List.take_zero, List.drop_succ_cons, List.drop_zero]
  repeat (go_big_quiet_step ((first | (go_at_call 21; exact bq (mer_latitude _ _ _) (fun d => lay_join _ _ _ d)) | (go_at_call 22; exact bq (mer_latitudes _ _ _) (fun d => lay_join _ _ _ d)) | (go_at_call 23; exact bq (mer_plus _ _ _ _ _ (by omega) (by omega) (by omega) (by omega)) (fun d => lay_join _ _ _ d)) | (go_at_call 25; exact bq (mer_minus _ _ _ _ _ (by omega) (by omega) (by omega) (by omega)) (fun d => lay_join _ _ _ d)) | (go_at_call 24; exact bq (mer_rest _ _ _ (by omega) (by omega) (by omega) (by omega)) (fun d => lay_join _ _ _ d)))))
  refine wpQuiet_nil ?_
  rintro w' ⟨d, rfl⟩
  rw [lay_bw]
  go_wp2_with (first | (go_at_call 21; refine (mer_latitude _ _ _).mono ?_; rintro e w' ⟨rfl, d, rfl⟩) | (go_at_call 22; refine (mer_latitudes _ _ _).mono ?_; rintro e w' ⟨rfl, d, rfl⟩) | (go_at_call 23; refine (mer_plus _ _ _ _ _ (by omega) (by omega) (by omega) (by omega)).mono ?_; rintro e w' ⟨rfl, d, rfl⟩) | (go_at_call 25; refine (mer_minus _ _ _ _ _ (by omega) (by omega) (by omega) (by omega)).mono ?_; rintro e w' ⟨rfl, d, rfl⟩) | (go_at_call 24; refine (mer_rest _ _ _ (by omega) (by omega) (by omega) (by omega)).mono ?_; rintro e w' ⟨rfl, d, rfl⟩))
  exact bodyPost_ret (v := .tuple #[(.agg #[.int .i64 (lsLo (-(y0 + (5400000 + y1))) (-(x0 + (5400000 + x1)))), .int .i64 (lsHi (-(y0 + (5400000 + y1))) (-(x0 + (5400000 + x1))))]), .int .i64 (lsE (-(y0 + (5400000 + y1))) (-(x0 + (5400000 + x1))))]) (by simp [results, Try.results10, go_sem]) rfl ⟨rfl, lay_ex _ _⟩
set_option maxHeartbeats 1000000 in
theorem ref33_Below_arg (x0 y0 x1 y1 : Int) (b : Bool) (w : World) (h : (latB x0 y0 && latB x1 y1) = false) :
    Calls Try.prog 11 #[(.agg #[.int .i64 (x0), .int .i64 (y0)]), (.agg #[.int .i64 (x1), .int .i64 (y1)]), .bool b] w fun e w' => e = .returned (.tuple #[(.agg #[.int .i64 (0), .int .i64 (0)]), .int .i64 1]) ∧ ∃ d, w' = bw w d := by
  cases h1 : latB x0 y0
  · clear h
    refine lay_start ?_
    go_enter Try.func11, Try.ntmps11
    go_wp2_with (go_at_call 14; refine (ref25_Latitude _ _ _).mono ?_; rintro e w' ⟨rfl, d, rfl⟩)
    exact bodyPost_ret (v := .tuple #[(.agg #[.int .i64 (0), .int .i64 (0)]), .int .i64 1]) (by simp [results, Try.results11, go_sem]) rfl ⟨rfl, lay_ex _ _⟩
  · have h2 : latB x1 y1 = false := by simpa [h1] using h
    clear h
    refine lay_start ?_
    go_enter Try.func11, Try.ntmps11
    go_wp2_with (go_at_call 14; refine (ref25_Latitude _ _ _).mono ?_; rintro e w' ⟨rfl, d, rfl⟩)
    exact bodyPost_ret (v := .tuple #[(.agg #[.int .i64 (0), .int .i64 (0)]), .int .i64 1]) (by simp [results, Try.results11, go_sem]) rfl ⟨rfl, lay_ex _ _⟩
set_option maxHeartbeats 2000000 in
theorem ref33_Below_false (x0 y0 x1 y1 : Int) (w : World) (h1 : latB x0 y0 = true) (h2 : latB x1 y1 = true) :
    Calls Try.prog 11 #[(.agg #[.int .i64 (x0), .int .i64 (y0)]), (.agg #[.int .i64 (x1), .int .i64 (y1)]), .bool false] w fun e w' => e = .returned (.tuple #[(.agg #[.int .i64 (lsLo (x0 + (5400000 - y1)) (y0 + (5400000 - x1))), .int .i64 (lsHi (x0 + (5400000 - y1)) (y0 + (5400000 - x1)))]), .int .i64 (lsE (x0 + (5400000 - y1)) (y0 + (5400000 - x1)))]) ∧ ∃ d, w' = bw w d := by
  obtain ⟨a1, a2, a3⟩ := latB_iff.1 h1
  obtain ⟨b1, b2, b3⟩ := latB_iff.1 h2
  refine lay_start ?_
  go_enter Try.func11, Try.ntmps11
  go_wp2_with (first | (go_at_call 14; refine (ref25_Latitude _ _ _).mono ?_; rintro e w' ⟨rfl, d, rfl⟩) | (go_at_call 28; refine (ref33_latitudes _ _ _ (by omega)).mono ?_; rintro e w' ⟨rfl, d, rfl⟩) | (go_at_call 29; refine (ref05_Add _ _ _ _ _ (by omega) (by omega) (by omega) (by omega)).mono ?_; rintro e w' ⟨rfl, d, rfl⟩) | (go_at_call 26; refine (ref05_Sub _ _ _ _ _ (by omega) (by omega) (by omega) (by omega)).mono ?_; rintro e w' ⟨rfl, d, rfl⟩) | (go_at_call 30; refine (ref05_Neg _ _ _ (by omega) (by omega) (by omega) (by omega)).mono ?_; rintro e w' ⟨rfl, d, rfl⟩) | (go_at_call 27; refine (ref33_one _ _).mono ?_; rintro e w' ⟨rfl, d, rfl⟩))
  refine region_bw_tail 8 (by kernel_rfl) (by kernel_rfl) ?_
  simp only [List.take_succ_cons, List.take_zero, List.drop_succ_cons, List.drop_zero]
  repeat (go_big_quiet_step ((first | (go_at_call 14; exact bq (ref25_Latitude _ _ _) (fun d => lay_join _ _ _ d)) | (go_at_call 28; exact bq (ref33_latitudes _ _ _ (by omega)) (fun d => lay_join _ _ _ d)) | (go_at_call 29; exact bq (ref05_Add _ _ _ _ _ (by omega) (by omega) (by omega) (by omega)) (fun d => lay_join _ _ _ d)) | (go_at_call 26; exact bq (ref05_Sub _ _ _ _ _ (by omega) (by omega) (by omega) (by omega)) (fun d => lay_join _ _ _ d)) | (go_at_call 30; exact bq (ref05_Neg _ _ _ (by omega) (by omega) (by omega) (by omega)) (fun d => lay_join _ _ _ d)) | (go_at_call 27; exact bq (ref33_one _ _) (fun d => lay_join _ _ _ d)))))
  refine wpQuiet_nil ?_
  rintro w' ⟨d, rfl⟩
  rw [lay_bw]
  go_wp2_with (first | (go_at_call 14; refine (ref25_Latitude _ _ _).mono ?_; rintro e w' ⟨rfl, d, rfl⟩) | (go_at_call 28; refine (ref33_latitudes _ _ _ (by omega)).mono ?_; rintro e w' ⟨rfl, d, rfl⟩) | (go_at_call 29; refine (ref05_Add _ _ _ _ _ (by omega) (by omega) (by omega) (by omega)).mono ?_; rintro e w' ⟨rfl, d, rfl⟩) | (go_at_call 26; refine (ref05_Sub _ _ _ _ _ (by omega) (by omega) (by omega) (by omega)).mono ?_; rintro e w' ⟨rfl, d, rfl⟩) | (go_at_call 30; refine (ref05_Neg _ _ _ (by omega) (by omega) (by omega) (by omega)).mono ?_; rintro e w' ⟨rfl, d, rfl⟩) | (go_at_call 27; refine (ref33_one _ _).mono ?_; rintro e w' ⟨rfl, d, rfl⟩))
  exact bodyPost_ret (v := .tuple #[(.agg #[.int .i64 (lsLo (x0 + (5400000 - y1)) (y0 + (5400000 - x1))), .int .i64 (lsHi (x0 + (5400000 - y1)) (y0 + (5400000 - x1)))]), .int .i64 (lsE (x0 + (5400000 - y1)) (y0 + (5400000 - x1)))]) (by simp [results, Try.results11, go_sem]) rfl ⟨rfl, lay_ex _ _⟩
set_option maxHeartbeats 2000000 in
theorem ref33_Below_true (x0 y0 x1 y1 : Int) (w : World) (h1 : latB x0 y0 = true) (h2 : latB x1 y1 = true) :
    Calls Try.prog 11 #[(.agg #[.int .i64 (x0), .int .i64 (y0)]), (.agg #[.int .i64 (x1), .int .i64 (y1)]), .bool true] w fun e w' => e = .returned (.tuple #[(.agg #[.int .i64 (lsLo (-(y0 + (5400000 + y1))) (-(x0 + (5400000 + x1)))), .int .i64 (lsHi (-(y0 + (5400000 + y1))) (-(x0 + (5400000 + x1))))]), .int .i64 (lsE (-(y0 + (5400000 + y1))) (-(x0 + (5400000 + x1))))]) ∧ ∃ d, w' = bw w d := by
  obtain ⟨a1, a2, a3⟩ := latB_iff.1 h1
  obtain ⟨b1, b2, b3⟩ := latB_iff.1 h2
  refine lay_start ?_
  go_enter Try.func11, Try.ntmps11
  go_wp2_with (first | (go_at_call 14; refine (ref25_Latitude _ _ _).mono ?_; rintro e w' ⟨rfl, d, rfl⟩) | (go_at_call 28; refine (ref33_latitudes _ _ _ (by omega)).mono ?_; rintro e w' ⟨rfl, d, rfl⟩) | (go_at_call 29; refine (ref05_Add _ _ _ _ _ (by omega) (by omega) (by omega) (by omega)).mono ?_; rintro e w' ⟨rfl, d, rfl⟩) | (go_at_call 26; refine (ref05_Sub _ _ _ _ _ (by omega) (by omega) (by omega) (by omega)).mono ?_; rintro e w' ⟨rfl, d, rfl⟩) | (go_at_call 30; refine (ref05_Neg _ _ _ (by omega) (by omega) (by omega) (by omega)).mono ?_; rintro e w' ⟨rfl, d, rfl⟩) | (go_at_call 27; refine (ref33_one _ _).mono ?_; rintro e w' ⟨rfl, d, rfl⟩))
  refine region_bw_tail 9 (by kernel_rfl) (by kernel_rfl) ?_
  simp only [List.take_succ_cons, List.take_zero, List.drop_succ_cons, List.drop_zero]
  repeat (go_big_quiet_step ((first | (go_at_call 14; exact bq (ref25_Latitude _ _ _) (fun d => lay_join _ _ _ d)) | (go_at_call 28; exact bq (ref33_latitudes _ _ _ (by omega)) (fun d => lay_join _ _ _ d)) | (go_at_call 29; exact bq (ref05_Add _ _ _ _ _ (by omega) (by omega) (by omega) (by omega)) (fun d => lay_join _ _ _ d)) | (go_at_call 26; exact bq (ref05_Sub _ _ _ _ _ (by omega) (by omega) (by omega) (by omega)) (fun d => lay_join _ _ _ d)) | (go_at_call 30; exact bq (ref05_Neg _ _ _ (by omega) (by omega) (by omega) (by omega)) (fun d => lay_join _ _ _ d)) | (go_at_call 27; exact bq (ref33_one _ _) (fun d => lay_join _ _ _ d)))))
  refine wpQuiet_nil ?_
  rintro w' ⟨d, rfl⟩
  rw [lay_bw]
  go_wp2_with (first | (go_at_call 14; refine (ref25_Latitude _ _ _).mono ?_; rintro e w' ⟨rfl, d, rfl⟩) | (go_at_call 28; refine (ref33_latitudes _ _ _ (by omega)).mono ?_; rintro e w' ⟨rfl, d, rfl⟩) | (go_at_call 29; refine (ref05_Add _ _ _ _ _ (by omega) (by omega) (by omega) (by omega)).mono ?_; rintro e w' ⟨rfl, d, rfl⟩) | (go_at_call 26; refine (ref05_Sub _ _ _ _ _ (by omega) (by omega) (by omega) (by omega)).mono ?_; rintro e w' ⟨rfl, d, rfl⟩) | (go_at_call 30; refine (ref05_Neg _ _ _ (by omega) (by omega) (by omega) (by omega)).mono ?_; rintro e w' ⟨rfl, d, rfl⟩) | (go_at_call 27; refine (ref33_one _ _).mono ?_; rintro e w' ⟨rfl, d, rfl⟩))
  exact bodyPost_ret (v := .tuple #[(.agg #[.int .i64 (lsLo (-(y0 + (5400000 + y1))) (-(x0 + (5400000 + x1)))), .int .i64 (lsHi (-(y0 + (5400000 + y1))) (-(x0 + (5400000 + x1))))]), .int .i64 (lsE (-(y0 + (5400000 + y1))) (-(x0 + (5400000 + x1))))]) (by simp [results, Try.results11, go_sem]) rfl ⟨rfl, lay_ex _ _⟩
end Go.Proofs.Ytfkhjgjpfedgkaa
