/- Sums of arcs (package angle). -/
import Derived.Test.YtlkphcjlgbimkaaGreatProg
import Derived.Test.YtlkphcjlgbimkaaGreatLay
import Derived.Test.YtlkphcjlgbimkaaGreatRegion
import Derived.Test.YtlkphcjlgbimkaaGreatMix
import Derived.WalkKit
import Derived.WalkSpells
import Derived.WalkLawsBesides
import Derived.Lib.Hide
import Derived.BigQuiet
import Derived.Test.YtlkphcjlgbimkaaGreatPlain
import Derived.Test.YtlkphcjlgbimkaaGreatAngle
namespace Go.Proofs.YtlkphcjlgbimkaaGreat
open Go.RowKit

set_option maxHeartbeats 400000 in
theorem angle_result (lo hi : Int) (w : World) (hv : validB lo hi = true) :
    Calls Tryz.prog 134 #[.int .i64 lo, .int .i64 hi] w fun e w' => e = .returned (.tuple #[(.agg #[.int .i64 (lo), .int .i64 (hi)]), .int .i64 0]) ∧ ∃ d, w' = bw w d := by
  refine lay_start ?_
  obtain ⟨g1, g2, g3⟩ := validB_iff.1 hv
  have q1 : fitsB lo = true := by simp [fitsB]; omega
  have q2 : fitsB hi = true := by simp [fitsB]; omega
  have c1 := fun w => angle_fits lo w
  have c2 := fun w => angle_fits hi w
  rw [q1] at c1
  rw [q2] at c2
  go_enter Tryz.func134, Tryz.ntmps134
  go_wp2_with (go_at_call 133; first | (with_reducible refine (c1 _).mono ?_; rintro e w' ⟨rfl, rfl⟩) | (with_reducible refine (c2 _).mono ?_; rintro e w' ⟨rfl, rfl⟩))
  all_goals exact bodyPost_ret (v := .tuple #[(.agg #[.int .i64 (lo), .int .i64 (hi)]), .int .i64 0]) (by simp [results, Tryz.results134, go_sem]) rfl ⟨rfl, lay_ex _ _⟩
set_option maxHeartbeats 400000 in
theorem angle_Add (a b x y : Int) (w : World) (h1 : validB a b = true) (h2 : validB x y = true) (h3 : validB (a + x) (b + y) = true) :
    Calls Tryz.prog 88 #[(.agg #[.int .i64 (a), .int .i64 (b)]), (.agg #[.int .i64 (x), .int .i64 (y)])] w fun e w' => e = .returned (.tuple #[(.agg #[.int .i64 (a + x), .int .i64 (b + y)]), .int .i64 0]) ∧ ∃ d, w' = bw w d := by
  refine lay_start ?_
  obtain ⟨g1, g2, g3⟩ := validB_iff.1 h1
  obtain ⟨k1, k2, k3⟩ := validB_iff.1 h2
  have c1 := fun w => angle_Valid a b w
  rw [h1] at c1
  have c2 := fun w => angle_Valid x y w
  rw [h2] at c2
  have c3 := fun w => angle_result (a + x) (b + y) w h3
  have f1 : wrap64 (a + x) = a + x := by unfold wrap64; omega
  have f2 : wrap64 (b + y) = b + y := by unfold wrap64; omega
  go_enter Tryz.func88, Tryz.ntmps88
  go_wp2_with (first | (go_at_call 85; first | (with_reducible refine (c1 _).mono ?_; rintro e w' ⟨rfl, d, rfl⟩) | (with_reducible refine (c2 _).mono ?_; rintro e w' ⟨rfl, d, rfl⟩)) | (go_at_call 134; refine (c3 _).mono ?_; rintro e w' ⟨rfl, d, rfl⟩))
  all_goals exact bodyPost_ret (v := .tuple #[(.agg #[.int .i64 (a + x), .int .i64 (b + y)]), .int .i64 0]) (by simp [results, Tryz.results88, go_sem]) rfl ⟨rfl, lay_ex _ _⟩
set_option maxHeartbeats 400000 in
theorem angle_Neg (a b : Int) (w : World) (h1 : validB a b = true) :
    Calls Tryz.prog 93 #[(.agg #[.int .i64 (a), .int .i64 (b)])] w fun e w' => e = .returned (.tuple #[(.agg #[.int .i64 (-b), .int .i64 (-a)]), .int .i64 0]) ∧ ∃ d, w' = bw w d := by
  refine lay_start ?_
  obtain ⟨g1, g2, g3⟩ := validB_iff.1 h1
  have c1 := fun w => angle_Valid a b w
  rw [h1] at c1
  have c3 := fun w => angle_result (-b) (-a) w (validB_iff.2 ⟨by omega, by omega, by omega⟩)
  go_enter Tryz.func93, Tryz.ntmps93
  go_wp2_with (first | (go_at_call 85; refine (c1 _).mono ?_; rintro e w' ⟨rfl, d, rfl⟩) | (go_at_call 134; refine (c3 _).mono ?_; rintro e w' ⟨rfl, d, rfl⟩))
  all_goals exact bodyPost_ret (v := .tuple #[(.agg #[.int .i64 (-b), .int .i64 (-a)]), .int .i64 0]) (by simp [results, Tryz.results93, go_sem]) rfl ⟨rfl, lay_ex _ _⟩
set_option maxHeartbeats 400000 in
theorem angle_Sub (a b x y : Int) (w : World) (h1 : validB a b = true) (h2 : validB x y = true) (h3 : validB (a + -y) (b + -x) = true) :
    Calls Tryz.prog 31 #[(.agg #[.int .i64 (a), .int .i64 (b)]), (.agg #[.int .i64 (x), .int .i64 (y)])] w fun e w' => e = .returned (.tuple #[(.agg #[.int .i64 (a + -y), .int .i64 (b + -x)]), .int .i64 0]) ∧ ∃ d, w' = bw w d := by
  refine lay_start ?_
  obtain ⟨k1, k2, k3⟩ := validB_iff.1 h2
  have c1 := fun w => angle_Neg x y w h2
  have c3 := fun w => angle_Add a b (-y) (-x) w h1 (validB_iff.2 ⟨by omega, by omega, by omega⟩) h3
  go_enter Tryz.func31, Tryz.ntmps31
  go_wp2_with (first | (go_at_call 93; refine (c1 _).mono ?_; rintro e w' ⟨rfl, d, rfl⟩) | (go_at_call 88; refine (c3 _).mono ?_; rintro e w' ⟨rfl, d, rfl⟩))
  all_goals exact bodyPost_ret (v := .tuple #[(.agg #[.int .i64 (a + -y), .int .i64 (b + -x)]), .int .i64 0]) (by simp [results, Tryz.results31, go_sem]) rfl ⟨rfl, lay_ex _ _⟩
end Go.Proofs.YtlkphcjlgbimkaaGreat
