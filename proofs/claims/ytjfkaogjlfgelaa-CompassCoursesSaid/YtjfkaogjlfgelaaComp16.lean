/- CompassCourses, walked. -/
import Derived.Test.YtjfkaogjlfgelaaProg
import Derived.Test.YtjfkaogjlfgelaaLay
import Derived.Test.YtjfkaogjlfgelaaRegion
import Derived.Test.YtjfkaogjlfgelaaMix
import Derived.WalkKit
import Derived.WalkSpells
import Derived.WalkLawsBesides
import Derived.Lib.Hide
import Derived.BigQuiet
import Derived.BigRegion
import Derived.Test.YtjfkaogjlfgelaaPlain
import Derived.Test.YtjfkaogjlfgelaaAngle
import Derived.Test.YtjfkaogjlfgelaaCompPlain
import Derived.Test.YtjfkaogjlfgelaaCompPlain2
import Derived.Test.YtjfkaogjlfgelaaTabs
import Derived.Test.YtjfkaogjlfgelaaComp1
import Derived.Test.YtjfkaogjlfgelaaComp3
import Derived.Test.YtjfkaogjlfgelaaComp4
import Derived.Test.YtjfkaogjlfgelaaComp5
import Derived.Test.YtjfkaogjlfgelaaComp6
import Derived.Test.YtjfkaogjlfgelaaComp8
import Derived.Test.YtjfkaogjlfgelaaComp9
import Derived.Test.YtjfkaogjlfgelaaComp11
import Derived.Test.YtjfkaogjlfgelaaComp12
import Derived.Test.YtjfkaogjlfgelaaComp13
import Derived.Test.YtjfkaogjlfgelaaComp14
import Derived.Test.YtjfkaogjlfgelaaComp15
namespace Go.Proofs.Ytjfkaogjlfgelaa
open Go.RowKit


theorem givB_eq (l : Tl) (c0 c1 v0 v1 : Int) : givB l c0 c1 v0 v1 = (vB l && validB c0 c1 && varB v0 v1) := by
  rw [Bool.eq_iff_iff]
  unfold givB varB
  simp only [Bool.and_eq_true, withB_iff, validB_iff, decide_eq_true_eq]
  constructor
  · rintro ⟨⟨⟨⟨h1, h2⟩, h3⟩, h4⟩, h5⟩; exact ⟨⟨h1, h2⟩, ⟨h3, by omega⟩, by omega⟩
  · rintro ⟨⟨h1, h2⟩, ⟨h3, h4⟩, h5⟩; exact ⟨⟨⟨⟨h1, h2⟩, h3⟩, by omega⟩, by omega⟩
theorem near_eq {c0 c1 : Int} (h : c0 ≤ c1) : nearB c0 c1 = narB c0 c1 := by
  rw [Bool.eq_iff_iff]
  unfold nearB narB
  simp only [Bool.and_eq_true, withB_iff, decide_eq_true_eq]
  omega
/-- How the tests of the law go. -/
theorem giv_ways (l : Tl) (c0 c1 v0 v1 : Int) :
    (vB l = false ∧ givE l c0 c1 v0 v1 = 1) ∨ (vB l = true ∧ validB c0 c1 = false ∧ givE l c0 c1 v0 v1 = 1) ∨ (vB l = true ∧ validB c0 c1 = true ∧ varB v0 v1 = false ∧ givE l c0 c1 v0 v1 = 1) ∨
    (vB l = true ∧ validB c0 c1 = true ∧ varB v0 v1 = true ∧ narB c0 c1 = false ∧ givE l c0 c1 v0 v1 = 2) ∨
    (vB l = true ∧ validB c0 c1 = true ∧ varB v0 v1 = true ∧ narB c0 c1 = true ∧ givE l c0 c1 v0 v1 = 0) := by
  unfold givE
  rw [givB_eq]
  cases h1 : vB l
  · left; simp
  · cases h2 : validB c0 c1
    · right; left; simp
    · cases h3 : varB v0 v1
      · right; right; left; simp
      · rw [near_eq (validB_iff.1 h2).1]
        cases h4 : narB c0 c1
        · right; right; right; left; simp
        · right; right; right; right; simp
set_option maxHeartbeats 8000000 in
set_option maxRecDepth 100000 in
theorem law34_Courses {w : World} (v : Value) (l : Tl) (hv : Tabs w v l) (c0 c1 : Int) (_ : (Lit.int .i64 c0).wf = true) (_ : (Lit.int .i64 c1).wf = true) (v0 v1 : Int) (_ : (Lit.int .i64 v0).wf = true) (_ : (Lit.int .i64 v1).wf = true) :
    Calls Try.prog 4 #[v, (.agg #[.int .i64 (c0), .int .i64 (c1)]), (.agg #[.int .i64 (v0), .int .i64 (v1)])] w fun e w' => e = .returned (.bool true) ∧ ∃ d, w' = bw w d := by
  have HV := Lib.hid hv
  by_cases hbig : 100 < l.length
  · obtain ⟨a, cap, rfl, q1, r1⟩ := hv
    obtain ⟨m, hm⟩ : ∃ m, m = l.length := ⟨_, rfl⟩
    rw [← hm] at hbig q1
    rw [← hm]
    clear hm r1 HV
    refine lay_start ?_
    go_enter Try.func4, Try.ntmps4
    go_wp2_with (go_at_call 9; refine (law_awake _).mono ?_; rintro e w' ⟨rfl, d, rfl⟩)
    go_ret
    exact ⟨rfl, lay_ex _ _⟩
  · by_cases hg : givE l c0 c1 v0 v1 = 0
    · have HT := Lib.hid (fun W (hW : Tabs W v l) => comp_True_ok v l c0 c1 v0 v1 W hW hg)
      have HC := Lib.hid (fun W (hW : Tabs W v l) => comp_Compass_ok v l c0 c1 v0 v1 W hW hg)
      have HRT := Lib.hid (fun W (hW : Tabs W v l) => ref34_True v l c0 c1 v0 v1 W hW hg)
      have HRC := Lib.hid (fun W (hW : Tabs W v l) => ref34_Compass v l c0 c1 v0 v1 W hW hg)
      rcases giv_ways l c0 c1 v0 v1 with ⟨h1, h2⟩ | ⟨h1, h2, h3⟩ | ⟨h1, h2, h3, h4⟩ | ⟨h1, h2, h3, h4, h5⟩ | ⟨h1, h2, h3, h4, h5⟩
      · omega
      · omega
      · omega
      · omega
      · generalize cmL l c0 c1 v0 v1 = m0 at *
        generalize cmH l c0 c1 v0 v1 = m1 at *
        generalize turnLo (trL l c0 c1 v0) (trH l c0 c1 v1) = t0 at *
        generalize turnHi (trL l c0 c1 v0) (trH l c0 c1 v1) = t1 at *
        obtain ⟨a, cap, rfl, q1, r1⟩ := hv
        obtain ⟨m, hm⟩ : ∃ m, m = l.length := ⟨_, rfl⟩
        rw [← hm] at hbig q1 HT HC HRT HRC HV
        rw [← hm]
        clear hm r1 h5 hg
        refine lay_start ?_
        go_enter Try.func4, Try.ntmps4
        go_wp2_with (first | (go_at_call 9; refine (law_awake _).mono ?_; rintro e w' ⟨rfl, d, rfl⟩) | (go_at_call 13; refine (HT.out _ (tabs_lay HV.out _)).mono ?_; rintro e w' ⟨rfl, d, rfl⟩) | (go_at_call 14; refine (HC.out _ (tabs_lay HV.out _)).mono ?_; rintro e w' ⟨rfl, d, rfl⟩) | (go_at_call 15; refine (ref34_Valid _ l _ (tabs_lay HV.out _)).mono ?_; rintro e w' ⟨rfl, d, rfl⟩) | (go_at_call 16; refine (ref05_Valid _ _ _).mono ?_; rintro e w' ⟨rfl, d, rfl⟩) | (go_at_call 17; refine (ref34_Variation _ _ _).mono ?_; rintro e w' ⟨rfl, d, rfl⟩) | (go_at_call 18; refine (ref34_Near _ _ _).mono ?_; rintro e w' ⟨rfl, d, rfl⟩))
        refine region_bw (by kernel_rfl) (by kernel_rfl) ?_
        repeat (go_big_quiet_step ((first | (go_at_call 19; exact bq (HRT.out _ (tabs_lay HV.out _)) (fun d => lay_join _ _ _ d)) | (go_at_call 19; exact bq (HRT.out _ (tabs_lay HV.out _)) (fun d => ⟨d, rfl⟩)) | (go_at_call 20; exact bq (HRC.out _ (tabs_lay HV.out _)) (fun d => lay_join _ _ _ d)) | (go_at_call 20; exact bq (HRC.out _ (tabs_lay HV.out _)) (fun d => ⟨d, rfl⟩)))))
        refine wpQuiet_nil ?_
        rintro w' ⟨d, rfl⟩
        rw [lay_bw]
        go_wp2
        go_ret
        exact ⟨rfl, lay_ex _ _⟩
    · have HT := fun W (hW : Tabs W v l) => comp_True_bad v l c0 c1 v0 v1 W hW hg
      have HC := fun W (hW : Tabs W v l) => comp_Compass_bad v l c0 c1 v0 v1 W hW hg
      rcases giv_ways l c0 c1 v0 v1 with ⟨h1, h5⟩ | ⟨h1, h2, h5⟩ | ⟨h1, h2, h3, h5⟩ | ⟨h1, h2, h3, h4, h5⟩ | ⟨h1, h2, h3, h4, h5⟩
      rotate_left 4
      · exact absurd h5 hg
      all_goals
        rw [h5] at HT HC
        have HT' := Lib.hid HT
        have HC' := Lib.hid HC
        obtain ⟨a, cap, rfl, q1, r1⟩ := hv
        obtain ⟨m, hm⟩ : ∃ m, m = l.length := ⟨_, rfl⟩
        rw [← hm] at hbig q1 HT' HC' HV
        rw [← hm]
        clear hm r1 h5 hg HT HC
        refine lay_start ?_
        go_enter Try.func4, Try.ntmps4
        go_wp2_with (first | (go_at_call 9; refine (law_awake _).mono ?_; rintro e w' ⟨rfl, d, rfl⟩) | (go_at_call 13; refine (HT'.out _ (tabs_lay HV.out _)).mono ?_; rintro e w' ⟨rfl, d, rfl⟩) | (go_at_call 14; refine (HC'.out _ (tabs_lay HV.out _)).mono ?_; rintro e w' ⟨rfl, d, rfl⟩) | (go_at_call 15; refine (ref34_Valid _ l _ (tabs_lay HV.out _)).mono ?_; rintro e w' ⟨rfl, d, rfl⟩) | (go_at_call 16; refine (ref05_Valid _ _ _).mono ?_; rintro e w' ⟨rfl, d, rfl⟩) | (go_at_call 17; refine (ref34_Variation _ _ _).mono ?_; rintro e w' ⟨rfl, d, rfl⟩) | (go_at_call 18; refine (ref34_Near _ _ _).mono ?_; rintro e w' ⟨rfl, d, rfl⟩))
        go_ret
        exact ⟨rfl, lay_ex _ _⟩
end Go.Proofs.Ytjfkaogjlfgelaa
