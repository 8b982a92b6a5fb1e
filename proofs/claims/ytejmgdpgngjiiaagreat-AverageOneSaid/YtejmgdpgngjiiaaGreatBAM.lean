/- Contracts and plain laws, several texts in one: SlC; Awk -/
import Derived.Test.YtejmgdpgngjiiaaGreatProg
import Derived.WalkKit
import Derived.WalkSpells
import Derived.WalkLawsBesides
import Derived.Lib.Hide
import Derived.BigQuiet
import Derived.Test.YtejmgdpgngjiiaaGreatBAA
import Derived.Test.YtejmgdpgngjiiaaGreatBAB
import Derived.Test.YtejmgdpgngjiiaaGreatBAE
import Derived.Test.YtejmgdpgngjiiaaGreatBAG
import Derived.Test.YtejmgdpgngjiiaaGreatBAI
import Derived.Test.YtejmgdpgngjiiaaGreatBAJ
import Derived.Test.YtejmgdpgngjiiaaGreatBAL
/- fixed.Mul, fixed.Scale, average.Slope at a quarter turn. -/
namespace Go.Proofs.YtejmgdpgngjiiaaGreat
open Go.RowKit

section
variable {P : Program} {w : World}
theorem run_mn4 (ts : Array TypeId) (t : TypeId) (k k' k'' k3 : IntKind) (x y z u : Int) : (Builtin.min_ ts t #[.int k x, .int k' y, .int k'' z, .int k3 u]).run P w = .ok (.int k (mn (mn (mn x y) z) u)) w := by
  simp [Builtin.min_, Builtin.min2, mn]
  rfl
theorem run_mx4 (ts : Array TypeId) (t : TypeId) (k k' k'' k3 : IntKind) (x y z u : Int) : (Builtin.max_ ts t #[.int k x, .int k' y, .int k'' z, .int k3 u]).run P w = .ok (.int k (mx (mx (mx x y) z) u)) w := by
  simp [Builtin.max_, Builtin.max2, mx]
  rfl
end
attribute [go_sem ↓] run_mn4 run_mx4
set_option maxRecDepth 100000 in
theorem fx_Valid1 (w : World) :
    Calls Tryz.prog 97 #[(.agg #[.int .i64 (1073741824), .int .i64 (1073741824)])] w fun e w' => e = .returned (.bool true) ∧ ∃ d, w' = bw w d := by
  refine lay_start ?_
  go_enter Tryz.func97, Tryz.ntmps97
  go_wp2_with fail
  go_ret
  exact ⟨rfl, lay_ex _ _⟩
set_option maxRecDepth 100000 in
theorem fx_both1 (w : World) :
    Calls Tryz.prog 93 #[(.agg #[.int .i64 (1073741824), .int .i64 (1073741824)]), (.agg #[.int .i64 (1073741824), .int .i64 (1073741824)])] w fun e w' => e = .returned (.bool true) ∧ ∃ d, w' = bw w d := by
  refine lay_start ?_
  go_enter Tryz.func93, Tryz.ntmps93
  go_wp2_with (go_at_call 97; refine (fx_Valid1 _).mono ?_; rintro e w' ⟨rfl, d, rfl⟩)
  go_ret
  exact ⟨rfl, lay_ex _ _⟩
set_option maxRecDepth 100000 in
theorem fx_floor1 (w : World) :
    Calls Tryz.prog 95 #[.int .i64 1152921504606846976, .int .i64 1073741824] w fun e w' => e = .returned (.int .i64 1073741824) ∧ w' = w := by
  go_enter Tryz.func95, Tryz.ntmps95
  go_wp2_with fail
  go_ret
  exact ⟨rfl, rfl⟩
set_option maxRecDepth 100000 in
theorem fx_floor2 (w : World) :
    Calls Tryz.prog 95 #[.int .i64 (-1152921504606846976), .int .i64 1073741824] w fun e w' => e = .returned (.int .i64 (-1073741824)) ∧ w' = w := by
  go_enter Tryz.func95, Tryz.ntmps95
  go_wp2_with fail
  go_ret
  exact ⟨rfl, rfl⟩
set_option maxRecDepth 100000 in
theorem fx_ceil1 (w : World) :
    Calls Tryz.prog 96 #[.int .i64 1152921504606846976, .int .i64 1073741824] w fun e w' => e = .returned (.int .i64 1073741824) ∧ w' = w := by
  go_enter Tryz.func96, Tryz.ntmps96
  go_wp2_with (go_at_call 95; refine (fx_floor2 _).mono ?_; rintro e w' ⟨rfl, rfl⟩)
  go_ret
  exact ⟨rfl, rfl⟩
set_option maxRecDepth 100000 in
theorem fx_fit1 (w : World) :
    Calls Tryz.prog 94 #[.int .i64 1073741824, .int .i64 1073741824] w fun e w' => e = .returned (.tuple #[(.agg #[.int .i64 (1073741824), .int .i64 (1073741824)]), .int .i64 0]) ∧ ∃ d, w' = bw w d := by
  refine lay_start ?_
  go_enter Tryz.func94, Tryz.ntmps94
  go_wp2_with (go_at_call 97; refine (fx_Valid1 _).mono ?_; rintro e w' ⟨rfl, d, rfl⟩)
  exact bodyPost_ret (v := .tuple #[(.agg #[.int .i64 (1073741824), .int .i64 (1073741824)]), .int .i64 0]) (by simp [results, Tryz.results94, go_sem]) rfl ⟨rfl, lay_ex _ _⟩
set_option maxHeartbeats 1000000 in
set_option maxRecDepth 100000 in
theorem fx_Mul1 (w : World) :
    Calls Tryz.prog 47 #[(.agg #[.int .i64 (1073741824), .int .i64 (1073741824)]), (.agg #[.int .i64 (1073741824), .int .i64 (1073741824)])] w fun e w' => e = .returned (.tuple #[(.agg #[.int .i64 (1073741824), .int .i64 (1073741824)]), .int .i64 0]) ∧ ∃ d, w' = bw w d := by
  have e1 : mn (mn (mn 1152921504606846976 1152921504606846976) 1152921504606846976) 1152921504606846976 = 1152921504606846976 := by decide
  have e2 : mx (mx (mx 1152921504606846976 1152921504606846976) 1152921504606846976) 1152921504606846976 = 1152921504606846976 := by decide
  refine lay_start ?_
  go_enter Tryz.func47, Tryz.ntmps47
  go_wp2_with (go_at_call 93; refine (fx_both1 _).mono ?_; rintro e w' ⟨rfl, d, rfl⟩)
  refine region_bw (by kernel_rfl) (by kernel_rfl) ?_
  repeat (go_big_quiet_step ((first | fail)))
  refine wpQuiet_nil ?_
  rintro w' ⟨d, rfl⟩
  rw [lay_bw]
  go_wp2_with (first | (go_at_call 95; refine (fx_floor1 _).mono ?_; rintro e w' ⟨rfl, rfl⟩) | (go_at_call 96; refine (fx_ceil1 _).mono ?_; rintro e w' ⟨rfl, rfl⟩) | (go_at_call 94; refine (fx_fit1 _).mono ?_; rintro e w' ⟨rfl, d, rfl⟩))
  exact bodyPost_ret (v := .tuple #[(.agg #[.int .i64 (1073741824), .int .i64 (1073741824)]), .int .i64 0]) (by simp [results, Tryz.results47, go_sem]) rfl ⟨rfl, lay_ex _ _⟩
set_option maxRecDepth 100000 in
theorem fx_factor1 (w : World) :
    Calls Tryz.prog 98 #[.int .i64 250000] w fun e w' => e = .returned (.bool true) ∧ ∃ d, w' = bw w d := by
  refine lay_start ?_
  go_enter Tryz.func98, Tryz.ntmps98
  go_wp2_with fail
  go_ret
  exact ⟨rfl, lay_ex _ _⟩
set_option maxHeartbeats 1000000 in
set_option maxRecDepth 100000 in
theorem fx_Scale1 (w : World) :
    Calls Tryz.prog 48 #[(.agg #[.int .i64 (1073741824), .int .i64 (1073741824)]), .int .i64 250000] w fun e w' => e = .returned (.tuple #[.int .i64 250000, .int .i64 250000, .int .i64 0]) ∧ ∃ d, w' = bw w d := by
  have e1 : mn 250000 250000 = 250000 := by decide
  have e2 : mx 250000 250000 = 250000 := by decide
  refine lay_start ?_
  go_enter Tryz.func48, Tryz.ntmps48
  go_wp2_with (first | (go_at_call 97; refine (fx_Valid1 _).mono ?_; rintro e w' ⟨rfl, d, rfl⟩) | (go_at_call 98; refine (fx_factor1 _).mono ?_; rintro e w' ⟨rfl, d, rfl⟩) | (go_at_call 99; refine (fx_enclose _).mono ?_; rintro e w' ⟨rfl, d, rfl⟩))
  exact bodyPost_ret (v := .tuple #[.int .i64 250000, .int .i64 250000, .int .i64 0]) (by simp [results, Tryz.results48, go_sem]) rfl ⟨rfl, lay_ex _ _⟩
theorem mk_250 : mkNN 250000 1000 = 250 ∧ mkDD 250000 1000 = 1 ∧ mkE 250000 1000 = 0 := by decide
set_option maxHeartbeats 1000000 in
set_option maxRecDepth 100000 in
theorem av_Slope1 (w : World) :
    Calls Tryz.prog 17 #[(.agg #[.int .i64 (0), .int .i64 (0)]), (.agg #[.int .i64 (5400000), .int .i64 (5400000)])] w fun e w' => e = .returned (.tuple #[(.agg #[.int .i64 (250), .int .i64 (1)]), (.agg #[.int .i64 (250), .int .i64 (1)]), .int .i64 0]) ∧ ∃ d, w' = bw w d := by
  have HV : Hid (∀ W, Calls Tryz.prog 44 #[(.agg #[.int .i64 (0), .int .i64 (0)])] W fun e w' => e = .returned (.bool true) ∧ ∃ d, w' = bw W d) := Lib.hid fun W => angle_Valid 0 0 W
  have HV2 : Hid (∀ W, Calls Tryz.prog 44 #[(.agg #[.int .i64 (5400000), .int .i64 (5400000)])] W fun e w' => e = .returned (.bool true) ∧ ∃ d, w' = bw W d) := Lib.hid fun W => angle_Valid 5400000 5400000 W
  have HM := Lib.hid (fun W => rt_Make 250000 1000 W (by decide) (by decide))
  rw [mk_250.1, mk_250.2.1, mk_250.2.2] at HM
  refine lay_start ?_
  go_enter Tryz.func17, Tryz.ntmps17
  go_wp2_with (first | (go_at_call 44; first | (with_reducible refine (HV.out _).mono ?_; rintro e w' ⟨rfl, d, rfl⟩) | (with_reducible refine (HV2.out _).mono ?_; rintro e w' ⟨rfl, d, rfl⟩)) | (go_at_call 45; refine (tr_Cos _).mono ?_; rintro e w' ⟨rfl, d, rfl⟩) | (go_at_call 46; refine (tr_Sin _).mono ?_; rintro e w' ⟨rfl, d, rfl⟩) | (go_at_call 47; refine (fx_Mul1 _).mono ?_; rintro e w' ⟨rfl, d, rfl⟩) | (go_at_call 48; refine (fx_Scale1 _).mono ?_; rintro e w' ⟨rfl, d, rfl⟩) | (go_at_call 49; refine (HM.out _).mono ?_; rintro e w' ⟨rfl, d, rfl⟩))
  go_region
  all_goals
    go_wp2_with fail
    exact bodyPost_ret (v := .tuple #[(.agg #[.int .i64 (250), .int .i64 (1)]), (.agg #[.int .i64 (250), .int .i64 (1)]), .int .i64 0]) (by simp [results, Tryz.results17, go_sem]) rfl ⟨rfl, by rw [bw_drewExt, lay_bw]; exact lay_ex _ _⟩
end Go.Proofs.YtejmgdpgngjiiaaGreat
/- almucantarlaw23: the examples; whole, many. -/
namespace Go.Proofs.YtejmgdpgngjiiaaGreat
open Go.RowKit

theorem ln_eg : lnN [0, 10000, 20000] [1000, 1500, 2000] = 50 ∧ lnD [0, 10000, 20000] [1000, 1500, 2000] = 1 ∧ lnK [0, 10000, 20000] [1000, 1500, 2000] = 1000 ∧ lnE [0, 10000, 20000] [1000, 1500, 2000] = 0 := by
  have hl : risAll [0, 10000, 20000] [1000, 1500, 2000] ([0, 10000, 20000] : List Int).length = [mkR 500 10000, mkR 1000 20000, mkR 500 10000] := rfl
  have h := (ln_cases [0, 10000, 20000] [1000, 1500, 2000] (by decide)).2 [mkR 500 10000, mkR 1000 20000, mkR 500 10000] (mkR 1000 20000) (by rw [hl]) (by decide) (by rw [hl]; rfl)
  have e1 : (mkR 1000 20000).1 = ⟨1000, 20000⟩ := mkR_h (by decide)
  rw [e1] at h
  have h2 := h.2 (by decide) (by decide)
  have e2 : mkN (1000 * 1000) 20000 = 50 := by decide
  have e3 : mkD (1000 * 1000) 20000 = 1 := by decide
  dsimp only at h2
  rw [e2, e3] at h2
  refine ⟨h2.1, h2.2.1, ?_, h2.2.2.2⟩
  rw [h2.2.2.1]
  have e4 : resK [0, 10000, 20000] [1000, 1500, 2000] 50 1 ([0, 10000, 20000] : List Int).length = [1000, 1000, 1000] := by decide
  rw [e4]
  have := medI_mem (l := [1000, 1000, 1000]) (by decide)
  simpa using this
theorem rej_eg : rejE [10, 12, 11, 500, 9] 3 = 0 ∧ rejL [10, 12, 11, 500, 9] 3 = [3] := by
  have e0 : rejE [10, 12, 11, 500, 9] 3 = 0 := by decide
  have m1 : medI [10, 12, 11, 500, 9] = 11 := by
    unfold medI
    rw [srtI_eq (a := [9, 10, 11, 12, 500]) (by decide) (by decide)]; rfl
  have f1 : farI [10, 12, 11, 500, 9] = [1, 1, 0, 489, 2] := by
    unfold farI
    rw [m1]; decide
  have m2 : medI [1, 1, 0, 489, 2] = 1 := by
    unfold medI
    rw [srtI_eq (a := [0, 1, 1, 2, 489]) (by decide) (by decide)]; rfl
  have l1 : limI [10, 12, 11, 500, 9] 3 = 100 := by
    unfold limI
    rw [f1, m2]; decide
  refine ⟨e0, ?_⟩
  rw [rejL_eq e0]
  unfold outI outN
  rw [f1, l1]; decide
set_option maxRecDepth 100000 in
theorem law23_whole (n : Int) (w : World) :
    Calls Tryz.prog 24 #[.int .i64 n] w fun e w' => e = .returned (.agg #[.int .i64 (n), .int .i64 (1)]) ∧ ∃ d, w' = bw w d := by
  refine lay_start ?_
  go_enter Tryz.func24, Tryz.ntmps24
  go_wp2_with fail
  exact bodyPost_ret (v := (.agg #[.int .i64 (n), .int .i64 (1)])) (by simp [results, Tryz.results24, go_sem]) rfl ⟨rfl, lay_ex _ _⟩
def manyA (n : Nat) : Bool := decide (16 < n) && decide (n ≤ 1000) || decide (1100 < n)
set_option maxRecDepth 100000 in
theorem law23_many (v : Value) (l : List Int) (w : World) (hs : Sl w v l) :
    Calls Tryz.prog 13 #[v] w fun e w' => e = .returned (.bool (manyA l.length)) ∧ w' = w := by
  obtain ⟨a, cap, rfl, -⟩ := hs
  generalize l.length = m
  unfold manyA
  by_cases h1 : 16 < m
  · by_cases h2 : m ≤ 1000
    · rw [decide_eq_true h1, decide_eq_true h2]
      have x1 : (16 : Int) < (m : Int) := by omega
      have x2 : (m : Int) ≤ 1000 := by omega
      go_enter Tryz.func13, Tryz.ntmps13
      go_wp2_with fail
      go_ret
      exact ⟨rfl, rfl⟩
    · by_cases h3 : 1100 < m
      · rw [decide_eq_true h1, decide_eq_false h2, decide_eq_true h3]
        have x1 : (16 : Int) < (m : Int) := by omega
        have x2 : ¬ (m : Int) ≤ 1000 := by omega
        have x3 : (1100 : Int) < (m : Int) := by omega
        go_enter Tryz.func13, Tryz.ntmps13
        go_wp2_with fail
        go_ret
        exact ⟨rfl, rfl⟩
      · rw [decide_eq_true h1, decide_eq_false h2, decide_eq_false h3]
        have x1 : (16 : Int) < (m : Int) := by omega
        have x2 : ¬ (m : Int) ≤ 1000 := by omega
        have x3 : ¬ (1100 : Int) < (m : Int) := by omega
        go_enter Tryz.func13, Tryz.ntmps13
        go_wp2_with fail
        go_ret
        exact ⟨rfl, rfl⟩
  · have h3 : ¬ 1100 < m := by omega
    rw [decide_eq_false h1, decide_eq_false h3]
    have x1 : ¬ (16 : Int) < (m : Int) := by omega
    have x3 : ¬ (1100 : Int) < (m : Int) := by omega
    go_enter Tryz.func13, Tryz.ntmps13
    go_wp2_with fail
    go_ret
    exact ⟨by simp, rfl⟩
end Go.Proofs.YtejmgdpgngjiiaaGreat
