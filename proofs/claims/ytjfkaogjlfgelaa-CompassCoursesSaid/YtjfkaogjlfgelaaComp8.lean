/- compass.given, True, Compass. -/
import Derived.Test.YtjfkaogjlfgelaaProg
import Derived.Test.YtjfkaogjlfgelaaLay
import Derived.Test.YtjfkaogjlfgelaaRegion
import Derived.WalkKit
import Derived.WalkSpells
import Derived.WalkLawsBesides
import Derived.Lib.Hide
import Derived.BigQuiet
import Derived.BigRegion
import Derived.Test.YtjfkaogjlfgelaaPlain
import Derived.Test.YtjfkaogjlfgelaaAngle
import Derived.Test.YtjfkaogjlfgelaaCompPlain
import Derived.Test.YtjfkaogjlfgelaaCompPlain2
import Derived.Test.YtjfkaogjlfgelaaTabs
import Derived.Test.YtjfkaogjlfgelaaComp1
import Derived.Test.YtjfkaogjlfgelaaComp3
import Derived.Test.YtjfkaogjlfgelaaComp4
import Derived.Test.YtjfkaogjlfgelaaComp5
import Derived.Test.YtjfkaogjlfgelaaComp6
namespace Go.Proofs.Ytjfkaogjlfgelaa
open Go.RowKit

noncomputable def givB (l : Tl) (c0 c1 v0 v1 : Int) : Bool := vB l && validB c0 c1 && validB v0 v1 && withB v0 10800000 && withB v1 10800000
def nearB (c0 c1 : Int) : Bool := withB c0 274877906944 && withB c1 274877906944
noncomputable def givE (l : Tl) (c0 c1 v0 v1 : Int) : Int := if givB l c0 c1 v0 v1 = true then (if nearB c0 c1 = true then 0 else 2) else 1
theorem giv_5 {l : Tl} {c0 c1 v0 v1 : Int} (h : (!withB v1 10800000) = true) : 1 = givE l c0 c1 v0 v1 := by
  simp only [Bool.not_eq_true'] at h
  simp [givE, givB, h]
theorem giv_6 {l : Tl} {c0 c1 v0 v1 : Int} (h1 : vB l = true) (h2 : validB c0 c1 = true) (h3 : validB v0 v1 = true) (h4 : withB v0 10800000 = true) (h5 : (!withB v1 10800000) = false)
    (h6 : (!withB c0 274877906944) = true ∨ (!withB c1 274877906944) = true) : 2 = givE l c0 c1 v0 v1 := by
  simp only [Bool.not_eq_true', Bool.not_eq_false'] at h5 h6
  rcases h6 with h6 | h6 <;> simp [givE, givB, nearB, *]
theorem giv_7 {l : Tl} {c0 c1 v0 v1 : Int} (h1 : vB l = true) (h2 : validB c0 c1 = true) (h3 : validB v0 v1 = true) (h4 : withB v0 10800000 = true) (h5 : (!withB v1 10800000) = false)
    (h6 : (!withB c0 274877906944) = false ∧ (!withB c1 274877906944) = false) : 0 = givE l c0 c1 v0 v1 := by
  simp only [Bool.not_eq_false'] at h5 h6
  simp [givE, givB, nearB, *]
set_option maxHeartbeats 1000000 in
theorem comp_given (v : Value) (l : Tl) (c0 c1 v0 v1 : Int) (w : World) (hv : Tabs w v l) :
    Calls Try.prog 32 #[v, (.agg #[.int .i64 (c0), .int .i64 (c1)]), (.agg #[.int .i64 (v0), .int .i64 (v1)])] w fun e w' => e = .returned (.int .i64 (givE l c0 c1 v0 v1)) ∧ ∃ d, w' = bw w d := by
  have HV := Lib.hid hv
  clear hv
  refine lay_start ?_
  go_enter Try.func32, Try.ntmps32
  go_wp2_with (first | (go_at_call 26; refine (comp_Valid _ l _ (tabs_lay HV.out _)).mono ?_; rintro e w' ⟨rfl, d, rfl⟩) | (go_at_call 30; refine (angle_Valid _ _ _).mono ?_; rintro e w' ⟨rfl, d, rfl⟩) | (go_at_call 50; refine (comp_within _ _ _ (by omega) (by omega)).mono ?_; rintro e w' ⟨rfl, rfl⟩) | (go_at_call 56; refine (comp_near _ _ _).mono ?_; rintro e w' ⟨rfl, d, rfl⟩))
  all_goals go_ret
  all_goals exact ⟨ret_int (by first | exact giv_7 ‹_› ‹_› ‹_› ‹_› ‹_› ‹_› | exact giv_6 ‹_› ‹_› ‹_› ‹_› ‹_› ‹_› | exact giv_5 ‹_› | (simp [givE, givB, *]; done)), lay_ex _ _⟩
theorem givE_ok {l : Tl} {c0 c1 v0 v1 : Int} (h : givE l c0 c1 v0 v1 = 0) : vB l = true ∧ validB c0 c1 = true ∧ validB v0 v1 = true ∧ -274877906944 ≤ c0 ∧ c1 ≤ 274877906944 ∧ -10800000 ≤ v0 ∧ v1 ≤ 10800000 := by
  unfold givE at h
  split at h
  · rename_i hg
    split at h
    · rename_i hn
      unfold givB at hg
      unfold nearB at hn
      simp only [Bool.and_eq_true] at hg hn
      obtain ⟨⟨⟨⟨g1, g2⟩, g3⟩, g4⟩, g5⟩ := hg
      have := withB_iff.1 hn.1; have := withB_iff.1 hn.2; have := withB_iff.1 g4; have := withB_iff.1 g5
      exact ⟨g1, g2, g3, by omega, by omega, by omega, by omega⟩
    · omega
  · omega
def trL (l : Tl) (c0 c1 v0 : Int) : Int := c0 + oL l c0 c1 + v0
def trH (l : Tl) (c0 c1 v1 : Int) : Int := c1 + oH l c0 c1 + v1
set_option maxHeartbeats 1000000 in
theorem comp_True_bad (v : Value) (l : Tl) (c0 c1 v0 v1 : Int) (w : World) (hv : Tabs w v l) (h : givE l c0 c1 v0 v1 ≠ 0) :
    Calls Try.prog 13 #[v, (.agg #[.int .i64 (c0), .int .i64 (c1)]), (.agg #[.int .i64 (v0), .int .i64 (v1)])] w fun e w' => e = .returned (.tuple #[(.agg #[.int .i64 (0), .int .i64 (0)]), .int .i64 (givE l c0 c1 v0 v1)]) ∧ ∃ d, w' = bw w d := by
  have HV := Lib.hid hv
  obtain ⟨g, hg⟩ : ∃ g, g = givE l c0 c1 v0 v1 := ⟨_, rfl⟩
  have HG := fun L => comp_given v l c0 c1 v0 v1 (lay w L) (tabs_lay HV.out _)
  rw [← hg] at HG h
  rw [← hg]
  have HG' := Lib.hid HG
  clear hv HG hg
  refine lay_start ?_
  go_enter Try.func13, Try.ntmps13
  go_wp2_with (first | (go_at_call 32; refine (HG'.out _).mono ?_; rintro e w' ⟨rfl, d, rfl⟩))
  exact bodyPost_ret (v := .tuple #[(.agg #[.int .i64 (0), .int .i64 (0)]), .int .i64 g]) (by simp [results, Try.results13, go_sem]) rfl ⟨rfl, lay_ex _ _⟩
set_option maxHeartbeats 1000000 in
theorem comp_True_ok (v : Value) (l : Tl) (c0 c1 v0 v1 : Int) (w : World) (hv : Tabs w v l) (h : givE l c0 c1 v0 v1 = 0) :
    Calls Try.prog 13 #[v, (.agg #[.int .i64 (c0), .int .i64 (c1)]), (.agg #[.int .i64 (v0), .int .i64 (v1)])] w fun e w' => e = .returned (.tuple #[(.agg #[.int .i64 (turnLo (trL l c0 c1 v0) (trH l c0 c1 v1)), .int .i64 (turnHi (trL l c0 c1 v0) (trH l c0 c1 v1))]), .int .i64 0]) ∧ ∃ d, w' = bw w d := by
  have HG := fun L => comp_given v l c0 c1 v0 v1 (lay w L) (tabs_lay hv _)
  rw [h] at HG
  obtain ⟨g1, g2, g3, g4, g5, g6, g7⟩ := givE_ok h
  have hb := o_wide (vB_iff.1 g1) (validB_iff.1 g2).1
  have k2 := validB_iff.1 g2
  have k3 := validB_iff.1 g3
  have HT := Lib.hid (fun W => angle_Turn (trL l c0 c1 v0) (trH l c0 c1 v1) W (by rw [validB_iff]; unfold trL trH; omega))
  have HG' := Lib.hid HG
  have HO := Lib.hid (fun L => comp_overT v l c0 c1 (lay w L) (tabs_lay hv L) (vB_iff.1 g1) g2)
  have q1 : c0 + oL l c0 c1 + v0 = trL l c0 c1 v0 := rfl
  have q2 : c1 + oH l c0 c1 + v1 = trH l c0 c1 v1 := rfl
  obtain ⟨b1, b2, b3⟩ := hb
  clear hv HG h g1 g2 g3
  refine lay_start ?_
  go_enter Try.func13, Try.ntmps13
  go_wp2_with (first | (go_at_call 32; refine (HG'.out _).mono ?_; rintro e w' ⟨rfl, d, rfl⟩) | (go_at_call 31; refine (HO.out _).mono ?_; rintro e w' ⟨rfl, d, rfl⟩) | (go_at_call 33; refine (HT.out _).mono ?_; rintro e w' ⟨rfl, d, rfl⟩))
  exact bodyPost_ret (v := .tuple #[(.agg #[.int .i64 (turnLo (trL l c0 c1 v0) (trH l c0 c1 v1)), .int .i64 (turnHi (trL l c0 c1 v0) (trH l c0 c1 v1))]), .int .i64 0]) (by simp [results, Try.results13, go_sem]) rfl ⟨rfl, lay_ex _ _⟩
end Go.Proofs.Ytjfkaogjlfgelaa
