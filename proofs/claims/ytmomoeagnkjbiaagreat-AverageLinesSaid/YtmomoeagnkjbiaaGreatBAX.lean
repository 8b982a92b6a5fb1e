/- Contracts and plain laws, several texts in one: S23; Awk -/
import Derived.Test.YtmomoeagnkjbiaaGreatProg
import Derived.WalkKit
import Derived.WalkSpells
import Derived.WalkLawsBesides
import Derived.Lib.Hide
import Derived.BigQuiet
import Derived.Test.YtmomoeagnkjbiaaGreatBAA
import Derived.Test.YtmomoeagnkjbiaaGreatBAB
import Derived.Test.YtmomoeagnkjbiaaGreatBAH
import Derived.Test.YtmomoeagnkjbiaaGreatBAL
import Derived.Test.YtmomoeagnkjbiaaGreatBAN
import Derived.Test.YtmomoeagnkjbiaaGreatBAT
import Derived.Test.YtmomoeagnkjbiaaGreatBAU
import Derived.Test.YtmomoeagnkjbiaaGreatBAV
import Derived.Test.YtmomoeagnkjbiaaGreatBAW
/- The reference's Slope; both answers of the program's Slope where an argument is not valid. -/
namespace Go.Proofs.YtmomoeagnkjbiaaGreat
open Go.RowKit

set_option maxRecDepth 100000 in
theorem r8_ValidLat (lo hi : Int) (w : World) :
    Calls Tryz.prog 10 #[(.agg #[.int .i64 (lo), .int .i64 (hi)])] w fun e w' => e = .returned (.bool (latB lo hi)) ∧ ∃ d, w' = bw w d := by
  refine lay_start ?_
  go_enter Tryz.func10, Tryz.ntmps10
  go_wp2
  all_goals go_ret
  all_goals exact ⟨ret_bool (by rw [Bool.eq_iff_iff]; simp [latB]; omega), lay_ex _ _⟩
set_option maxHeartbeats 2000000 in
set_option maxRecDepth 100000 in
theorem r23_SlopeG (l0 l1 z0 z1 : Int) (w : World) (hl : latB l0 l1 = true) (hz : validB z0 z1 = true) :
    Calls Tryz.prog 9 #[(.agg #[.int .i64 (l0), .int .i64 (l1)]), (.agg #[.int .i64 (z0), .int .i64 (z1)])] w fun e w' => e = .returned (.tuple #[(.agg #[.int .i64 (mkNN (slpL l0 l1 z0 z1) 1000), .int .i64 (mkDD (slpL l0 l1 z0 z1) 1000)]), (.agg #[.int .i64 (mkNN (slpH l0 l1 z0 z1) 1000), .int .i64 (mkDD (slpH l0 l1 z0 z1) 1000)]), .int .i64 0]) ∧ ∃ d, w' = bw w d := by
  have hlf := latB_iff.1 hl
  have hlv : validB l0 l1 = true := validB_iff.2 ⟨by omega, by omega, by omega⟩
  have HV1 := Lib.hid (fun W => r8_ValidLat l0 l1 W)
  have HV2 := Lib.hid (fun W => ref05_Valid z0 z1 W)
  rw [hl] at HV1
  rw [hz] at HV2
  have HC := Lib.hid (fun W => r6_Cos l0 l1 hlv W)
  have HS := Lib.hid (fun W => r6_Sin z0 z1 hz W)
  have hin := slp_in (l0 := l0) (l1 := l1) (z0 := z0) (z1 := z1)
  have hm1 := (rate_frac (L := slpL l0 l1 z0 z1) (by omega) (by omega)).1
  have hm2 := (rate_frac (L := slpH l0 l1 z0 z1) (by omega) (by omega)).1
  have HM1 := Lib.hid (fun W => r3_Make (slpL l0 l1 z0 z1) 1000 W ⟨by omega, by omega⟩ (by decide))
  have HM2 := Lib.hid (fun W => r3_Make (slpH l0 l1 z0 z1) 1000 W ⟨by omega, by omega⟩ (by decide))
  rw [hm1] at HM1
  rw [hm2] at HM2
  obtain ⟨a1, a2, a3⟩ := enc_in (lo := l0 + 5400000) (hi := l1 + 5400000)
  obtain ⟨b1, b2, b3⟩ := enc_in (lo := z0) (hi := z1)
  obtain ⟨m1, m2, m3⟩ := mul_unit a1 a2 a3 b1 b2 b3
  have HP := Lib.hid (fun W => r4_Mul _ _ _ _ W (fxB_iff.2 ⟨a2, by omega, by omega⟩) (fxB_iff.2 ⟨b2, by omega, by omega⟩) (fxB_iff.2 ⟨m2, by omega, by omega⟩))
  have HL := Lib.hid (fun W => r4_Scale _ _ W (fxB_iff.2 ⟨m2, by omega, by omega⟩))
  obtain ⟨e1, e2⟩ := slp_at (l0 := l0) (l1 := l1) (z0 := z0) (z1 := z1)
  rw [← e1, ← e2] at HL
  clear e1 e2 hm1 hm2 hin m1 m2 m3 a1 a2 a3 b1 b2 b3 hlv hz hl hlf
  generalize slpL l0 l1 z0 z1 = L at *
  generalize slpH l0 l1 z0 z1 = H at *
  generalize mulL (encL (l0 + 5400000) (l1 + 5400000)) (encH (l0 + 5400000) (l1 + 5400000)) (encL z0 z1) (encH z0 z1) = P at *
  generalize mulH (encL (l0 + 5400000) (l1 + 5400000)) (encH (l0 + 5400000) (l1 + 5400000)) (encL z0 z1) (encH z0 z1) = Q at *
  generalize encL (l0 + 5400000) (l1 + 5400000) = c0 at *
  generalize encH (l0 + 5400000) (l1 + 5400000) = c1 at *
  generalize encL z0 z1 = s0 at *
  generalize encH z0 z1 = s1 at *
  generalize mkNN L 1000 = n1 at *
  generalize mkDD L 1000 = d1 at *
  generalize mkNN H 1000 = n2 at *
  generalize mkDD H 1000 = d2 at *
  refine lay_start ?_
  go_enter Tryz.func9, Tryz.ntmps9
  go_wp2_with (first | (go_at_call 10; refine (HV1.out _).mono ?_; rintro e w' ⟨rfl, dd1, rfl⟩) | (go_at_call 11; refine (HV2.out _).mono ?_; rintro e w' ⟨rfl, dd2, rfl⟩))
  refine region_mixW [0, 0, 0, 0, 0, 0, 0, 0, 1, 1, 0] (by kernel_rfl) (by kernel_rfl) (by kernel_rfl) ?_
  repeat (first | (refine wpM_quiet (fun K hK => ?_); go_simp; first | (refine hK _ ?_; clear hK K) | (apply Exists.intro; refine ⟨fun _ => ?_, hK _ ?_⟩; (first | (go_at_call 34; exact bq (HC.out _) (fun d => ⟨d, rfl⟩)) | (go_at_call 35; exact bq (HS.out _) (fun d => ⟨d, rfl⟩)) | (go_at_call 33; exact bq (HP.out _) (fun d => ⟨d, rfl⟩))); clear hK K)) | (refine wpM_special (fun K hK d => ?_); go_simp; refine hK _ _ (by first | exact lay_in w [_] _ | exact lay_in w [_, _] _ | exact lay_in w [_, _, _] _ | exact lay_in w [_, _, _, _] _ | exact lay_in w [_, _, _, _, _] _ | exact lay_in w [_, _, _, _, _, _] _) ?_; clear hK K))
  refine wpM_nil ?_
  intro d
  rw [lay_bw]
  go_wp2_with (first | (go_at_call 36; refine (HL.out _).mono ?_; rintro e w' ⟨rfl, dd6, rfl⟩) | (go_at_call 37; first | (with_reducible refine (HM1.out _).mono ?_; rintro e w' ⟨rfl, dd7, rfl⟩) | (with_reducible refine (HM2.out _).mono ?_; rintro e w' ⟨rfl, dd8, rfl⟩)))
  go_region
  all_goals
    go_wp2_with fail
    exact bodyPost_ret (v := .tuple #[(.agg #[.int .i64 (n1), .int .i64 (d1)]), (.agg #[.int .i64 (n2), .int .i64 (d2)]), .int .i64 0]) (by simp [results, Tryz.results9, go_sem]) rfl ⟨rfl, by rw [bw_drewExt, lay_bw]; exact lay_ex _ _⟩
set_option maxHeartbeats 2000000 in
set_option maxRecDepth 100000 in
theorem r23_SlopeBad (l0 l1 z0 z1 : Int) (w : World) (h : (latB l0 l1 && validB z0 z1) = false) :
    Calls Tryz.prog 9 #[(.agg #[.int .i64 (l0), .int .i64 (l1)]), (.agg #[.int .i64 (z0), .int .i64 (z1)])] w fun e w' => e = .returned (.tuple #[(.agg #[.int .i64 (0), .int .i64 (0)]), (.agg #[.int .i64 (0), .int .i64 (0)]), .int .i64 1]) ∧ ∃ d, w' = bw w d := by
  have HV1 := Lib.hid (fun W => r8_ValidLat l0 l1 W)
  have HV2 := Lib.hid (fun W => ref05_Valid z0 z1 W)
  cases h1 : latB l0 l1
  · rw [h1] at HV1
    clear h h1
    refine lay_start ?_
    go_enter Tryz.func9, Tryz.ntmps9
    go_wp2_with (first | (go_at_call 10; refine (HV1.out _).mono ?_; rintro e w' ⟨rfl, dd1, rfl⟩))
    exact bodyPost_ret (v := .tuple #[(.agg #[.int .i64 (0), .int .i64 (0)]), (.agg #[.int .i64 (0), .int .i64 (0)]), .int .i64 1]) (by simp [results, Tryz.results9, go_sem]) rfl ⟨rfl, lay_ex _ _⟩
  · rw [h1, Bool.true_and] at h
    rw [h1] at HV1
    rw [h] at HV2
    clear h h1
    refine lay_start ?_
    go_enter Tryz.func9, Tryz.ntmps9
    go_wp2_with (first | (go_at_call 10; refine (HV1.out _).mono ?_; rintro e w' ⟨rfl, dd1, rfl⟩) | (go_at_call 11; refine (HV2.out _).mono ?_; rintro e w' ⟨rfl, dd2, rfl⟩))
    exact bodyPost_ret (v := .tuple #[(.agg #[.int .i64 (0), .int .i64 (0)]), (.agg #[.int .i64 (0), .int .i64 (0)]), .int .i64 1]) (by simp [results, Tryz.results9, go_sem]) rfl ⟨rfl, lay_ex _ _⟩
set_option maxHeartbeats 2000000 in
set_option maxRecDepth 100000 in
theorem av_SlopeBad (l0 l1 z0 z1 : Int) (w : World) (h : (latB l0 l1 && validB z0 z1) = false) :
    Calls Tryz.prog 8 #[(.agg #[.int .i64 (l0), .int .i64 (l1)]), (.agg #[.int .i64 (z0), .int .i64 (z1)])] w fun e w' => e = .returned (.tuple #[(.agg #[.int .i64 (0), .int .i64 (0)]), (.agg #[.int .i64 (0), .int .i64 (0)]), .int .i64 1]) ∧ ∃ d, w' = bw w d := by
  have HV1 := Lib.hid (fun W => angle_Valid l0 l1 W)
  have HV2 := Lib.hid (fun W => angle_Valid z0 z1 W)
  have hL : latB l0 l1 = (validB l0 l1 && (!decide (l0 < -5400000) && !decide (5400000 < l1))) := by
    rw [Bool.eq_iff_iff]
    simp [latB, validB]
    omega
  rw [hL] at h
  clear hL
  obtain ⟨A, hA⟩ : ∃ x, validB l0 l1 = x := ⟨_, rfl⟩
  obtain ⟨B, hB⟩ : ∃ x, validB z0 z1 = x := ⟨_, rfl⟩
  obtain ⟨C, hC⟩ : ∃ x, decide (l0 < -5400000) = x := ⟨_, rfl⟩
  obtain ⟨D, hD⟩ : ∃ x, decide (5400000 < l1) = x := ⟨_, rfl⟩
  rw [hA, hB, hC, hD] at h
  rw [hA] at HV1
  rw [hB] at HV2
  clear hA hB
  refine lay_start ?_
  cases A <;> cases B <;> cases C <;> cases D
  all_goals try (exfalso; revert h; decide)
  all_goals
    clear h
    go_enter Tryz.func8, Tryz.ntmps8
    go_wp2_with (first | (go_at_call 27; first | (with_reducible refine (HV1.out _).mono ?_; rintro e w' ⟨rfl, dd1, rfl⟩) | (with_reducible refine (HV2.out _).mono ?_; rintro e w' ⟨rfl, dd2, rfl⟩)))
    exact bodyPost_ret (v := .tuple #[(.agg #[.int .i64 (0), .int .i64 (0)]), (.agg #[.int .i64 (0), .int .i64 (0)]), .int .i64 1]) (by simp [results, Tryz.results8, go_sem]) rfl ⟨rfl, lay_ex _ _⟩
end Go.Proofs.YtmomoeagnkjbiaaGreat
/- almucantarlaw23: the examples; whole, many. -/
namespace Go.Proofs.YtmomoeagnkjbiaaGreat
open Go.RowKit

theorem ln_eg : lnN [0, 10000, 20000] [1000, 1500, 2000] = 50 ∧ lnD [0, 10000, 20000] [1000, 1500, 2000] = 1 ∧ lnK [0, 10000, 20000] [1000, 1500, 2000] = 1000 ∧ lnE [0, 10000, 20000] [1000, 1500, 2000] = 0 := by
  have hl : risAll [0, 10000, 20000] [1000, 1500, 2000] ([0, 10000, 20000] : List Int).length = [mkR 500 10000, mkR 1000 20000, mkR 500 10000] := rfl
  have h := (ln_cases [0, 10000, 20000] [1000, 1500, 2000] (by decide)).2 [mkR 500 10000, mkR 1000 20000, mkR 500 10000] (mkR 1000 20000) (by rw [hl]) (by decide) (by rw [hl]; rfl)
  have e1 : (mkR 1000 20000).1 = ⟨1000, 20000⟩ := mkR_h (by decide)
  rw [e1] at h
  have h2 := h.2 (by decide) (by decide)
  have e2 : mkN (1000 * 1000) 20000 = 50 := by decide
  have e3 : mkD (1000 * 1000) 20000 = 1 := by decide
  dsimp only at h2
  rw [e2, e3] at h2
  refine ⟨h2.1, h2.2.1, ?_, h2.2.2.2⟩
  rw [h2.2.2.1]
  have e4 : resK [0, 10000, 20000] [1000, 1500, 2000] 50 1 ([0, 10000, 20000] : List Int).length = [1000, 1000, 1000] := by decide
  rw [e4]
  have := medI_mem (l := [1000, 1000, 1000]) (by decide)
  simpa using this
theorem rej_eg : rejE [10, 12, 11, 500, 9] 3 = 0 ∧ rejL [10, 12, 11, 500, 9] 3 = [3] := by
  have e0 : rejE [10, 12, 11, 500, 9] 3 = 0 := by decide
  have m1 : medI [10, 12, 11, 500, 9] = 11 := by
    unfold medI
    rw [srtI_eq (a := [9, 10, 11, 12, 500]) (by decide) (by decide)]; rfl
  have f1 : farI [10, 12, 11, 500, 9] = [1, 1, 0, 489, 2] := by
    unfold farI
    rw [m1]; decide
  have m2 : medI [1, 1, 0, 489, 2] = 1 := by
    unfold medI
    rw [srtI_eq (a := [0, 1, 1, 2, 489]) (by decide) (by decide)]; rfl
  have l1 : limI [10, 12, 11, 500, 9] 3 = 100 := by
    unfold limI
    rw [f1, m2]; decide
  refine ⟨e0, ?_⟩
  rw [rejL_eq e0]
  unfold outI outN
  rw [f1, l1]; decide
set_option maxRecDepth 100000 in
theorem law23_whole (n : Int) (w : World) :
    Calls Tryz.prog 15 #[.int .i64 n] w fun e w' => e = .returned (.agg #[.int .i64 (n), .int .i64 (1)]) ∧ ∃ d, w' = bw w d := by
  refine lay_start ?_
  go_enter Tryz.func15, Tryz.ntmps15
  go_wp2_with fail
  exact bodyPost_ret (v := (.agg #[.int .i64 (n), .int .i64 (1)])) (by simp [results, Tryz.results15, go_sem]) rfl ⟨rfl, lay_ex _ _⟩
def manyA (n : Nat) : Bool := decide (16 < n) && decide (n ≤ 1000) || decide (1100 < n)
set_option maxRecDepth 100000 in
theorem law23_many (v : Value) (l : List Int) (w : World) (hs : Sl w v l) :
    Calls Tryz.prog 16 #[v] w fun e w' => e = .returned (.bool (manyA l.length)) ∧ w' = w := by
  obtain ⟨a, cap, rfl, -⟩ := hs
  generalize l.length = m
  unfold manyA
  by_cases h1 : 16 < m
  · by_cases h2 : m ≤ 1000
    · rw [decide_eq_true h1, decide_eq_true h2]
      have x1 : (16 : Int) < (m : Int) := by omega
      have x2 : (m : Int) ≤ 1000 := by omega
      go_enter Tryz.func16, Tryz.ntmps16
      go_wp2_with fail
      go_ret
      exact ⟨rfl, rfl⟩
    · by_cases h3 : 1100 < m
      · rw [decide_eq_true h1, decide_eq_false h2, decide_eq_true h3]
        have x1 : (16 : Int) < (m : Int) := by omega
        have x2 : ¬ (m : Int) ≤ 1000 := by omega
        have x3 : (1100 : Int) < (m : Int) := by omega
        go_enter Tryz.func16, Tryz.ntmps16
        go_wp2_with fail
        go_ret
        exact ⟨rfl, rfl⟩
      · rw [decide_eq_true h1, decide_eq_false h2, decide_eq_false h3]
        have x1 : (16 : Int) < (m : Int) := by omega
        have x2 : ¬ (m : Int) ≤ 1000 := by omega
        have x3 : ¬ (1100 : Int) < (m : Int) := by omega
        go_enter Tryz.func16, Tryz.ntmps16
        go_wp2_with fail
        go_ret
        exact ⟨rfl, rfl⟩
  · have h3 : ¬ 1100 < m := by omega
    rw [decide_eq_false h1, decide_eq_false h3]
    have x1 : ¬ (16 : Int) < (m : Int) := by omega
    have x3 : ¬ (1100 : Int) < (m : Int) := by omega
    go_enter Tryz.func16, Tryz.ntmps16
    go_wp2_with fail
    go_ret
    exact ⟨by simp, rfl⟩
end Go.Proofs.YtmomoeagnkjbiaaGreat
