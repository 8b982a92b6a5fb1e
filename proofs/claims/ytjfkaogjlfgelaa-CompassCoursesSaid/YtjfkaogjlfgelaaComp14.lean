/- The reference's True and Compass; CompassCourses, walked. -/
import Derived.Test.YtjfkaogjlfgelaaProg
import Derived.Test.YtjfkaogjlfgelaaLay
import Derived.Test.YtjfkaogjlfgelaaRegion
import Derived.Test.YtjfkaogjlfgelaaMix
import Derived.WalkKit
import Derived.WalkSpells
import Derived.WalkLawsBesides
import Derived.Lib.Hide
import Derived.BigQuiet
import Derived.BigRegion
import Derived.Test.YtjfkaogjlfgelaaPlain
import Derived.Test.YtjfkaogjlfgelaaAngle
import Derived.Test.YtjfkaogjlfgelaaCompPlain
import Derived.Test.YtjfkaogjlfgelaaCompPlain2
import Derived.Test.YtjfkaogjlfgelaaTabs
import Derived.Test.YtjfkaogjlfgelaaComp1
import Derived.Test.YtjfkaogjlfgelaaComp3
import Derived.Test.YtjfkaogjlfgelaaComp4
import Derived.Test.YtjfkaogjlfgelaaComp5
import Derived.Test.YtjfkaogjlfgelaaComp6
import Derived.Test.YtjfkaogjlfgelaaComp8
import Derived.Test.YtjfkaogjlfgelaaComp9
import Derived.Test.YtjfkaogjlfgelaaComp11
import Derived.Test.YtjfkaogjlfgelaaComp12
import Derived.Test.YtjfkaogjlfgelaaComp13
namespace Go.Proofs.Ytjfkaogjlfgelaa
open Go.RowKit

def varB (v0 v1 : Int) : Bool := validB v0 v1 && decide (-10800000 ≤ v0) && decide (v1 ≤ 10800000)
set_option maxHeartbeats 1000000 in
theorem ref34_Variation (v0 v1 : Int) (w : World) :
    Calls Try.prog 17 #[(.agg #[.int .i64 (v0), .int .i64 (v1)])] w fun e w' => e = .returned (.bool (varB v0 v1)) ∧ ∃ d, w' = bw w d := by
  refine lay_start ?_
  go_enter Try.func17, Try.ntmps17
  go_wp2_with (go_at_call 16; refine (ref05_Valid _ _ _).mono ?_; rintro e w' ⟨rfl, d, rfl⟩)
  all_goals go_ret
  all_goals exact ⟨ret_bool (by first | (simp [varB, *]; done) | (simp [varB, *]; omega)), lay_ex _ _⟩
def narB (c0 c1 : Int) : Bool := decide (-274877906944 ≤ c0) && decide (c1 ≤ 274877906944)
set_option maxHeartbeats 1000000 in
theorem ref34_Near (v0 v1 : Int) (w : World) :
    Calls Try.prog 18 #[(.agg #[.int .i64 (v0), .int .i64 (v1)])] w fun e w' => e = .returned (.bool (narB v0 v1)) ∧ ∃ d, w' = bw w d := by
  refine lay_start ?_
  go_enter Try.func18, Try.ntmps18
  go_wp2
  all_goals go_ret
  all_goals exact ⟨ret_bool (by first | (simp [narB, *]; done) | (simp [narB, *]; omega)), lay_ex _ _⟩
set_option maxHeartbeats 2000000 in
theorem ref34_True (v : Value) (l : Tl) (c0 c1 v0 v1 : Int) (w : World) (hv : Tabs w v l) (h : givE l c0 c1 v0 v1 = 0) :
    Calls Try.prog 19 #[v, (.agg #[.int .i64 (c0), .int .i64 (c1)]), (.agg #[.int .i64 (v0), .int .i64 (v1)])] w fun e w' => e = .returned (.agg #[.int .i64 (turnLo (trL l c0 c1 v0) (trH l c0 c1 v1)), .int .i64 (turnHi (trL l c0 c1 v0) (trH l c0 c1 v1))]) ∧ ∃ d, w' = bw w d := by
  obtain ⟨g1, g2, g3, g4, g5, g6, g7⟩ := givE_ok h
  have hb := o_wide (vB_iff.1 g1) (validB_iff.1 g2).1
  have k2 := validB_iff.1 g2
  have k3 := validB_iff.1 g3
  obtain ⟨b1, b2, b3⟩ := hb
  have HT := Lib.hid (fun W => ref05_Turn (trL l c0 c1 v0) (trH l c0 c1 v1) W (by unfold trL; omega) (by unfold trL trH; omega) (by unfold trH; omega))
  have HO := Lib.hid (fun W (hW : Tabs W v l) => ref34_Over v l c0 c1 W hW (vB_iff.1 g1) g2)
  have HA1 := Lib.hid (fun W => ref05_Add c0 c1 (oL l c0 c1) (oH l c0 c1) W (by omega) (by omega) (by omega) (by omega))
  have HA2 : Hid (∀ W, Calls Try.prog 38 #[(.agg #[.int .i64 (c0 + oL l c0 c1), .int .i64 (c1 + oH l c0 c1)]), (.agg #[.int .i64 (v0), .int .i64 (v1)])] W fun e w' => e = .returned (.agg #[.int .i64 (trL l c0 c1 v0), .int .i64 (trH l c0 c1 v1)]) ∧ ∃ d, w' = bw W d) := Lib.hid (fun W => ref05_Add (c0 + oL l c0 c1) (c1 + oH l c0 c1) v0 v1 W (by omega) (by omega) (by omega) (by omega))
  have HV := Lib.hid hv
  clear hv h g1 g2 g3
  refine lay_start ?_
  go_enter Try.func19, Try.ntmps19
  go_wp2_with fail
  refine region_bw_tail 8 (by kernel_rfl) (by kernel_rfl) ?_
  simp only [List.take_succ_cons, List.take_zero, List.drop_succ_cons, List.drop_zero]
  repeat (go_big_quiet_step ((first | (go_at_call 39; exact bq (HO.out _ (tabs_lay HV.out _)) (fun d => lay_join _ _ _ d)) | (go_at_call 39; exact bq (HO.out _ (tabs_lay HV.out _)) (fun d => ⟨d, rfl⟩)) | (go_at_call 37; exact bq (HT.out _) (fun d => lay_join _ _ _ d)) | (go_at_call 38; with_reducible refine bq (HA1.out _) ?_; exact (fun d => lay_join _ _ _ d)) | (go_at_call 38; with_reducible refine bq (HA2.out _) ?_; exact (fun d => lay_join _ _ _ d)))))
  refine wpQuiet_nil ?_
  rintro w' ⟨d, rfl⟩
  rw [lay_bw]
  go_wp2
  exact bodyPost_ret (v := (.agg #[.int .i64 (turnLo (trL l c0 c1 v0) (trH l c0 c1 v1)), .int .i64 (turnHi (trL l c0 c1 v0) (trH l c0 c1 v1))])) (by simp [results, Try.results19, go_sem]) rfl ⟨rfl, lay_ex _ _⟩
end Go.Proofs.Ytjfkaogjlfgelaa
