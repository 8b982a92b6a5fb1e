/- Contracts and plain laws, several texts in one: Sid4; Sid5; Alm1; Alm2 -/
import Derived.Test.YtlkphcjlgbimkaaGreatProg
import Derived.WalkKit
import Derived.WalkSpells
import Derived.WalkLawsBesides
import Derived.Lib.Hide
import Derived.BigQuiet
import Derived.Test.YtlkphcjlgbimkaaGreatBAA
import Derived.Test.YtlkphcjlgbimkaaGreatBAB
import Derived.Test.YtlkphcjlgbimkaaGreatBAE
import Derived.Test.YtlkphcjlgbimkaaGreatBAH
/- The length of a sidereal day, the interval of a time (package sidereal). -/
namespace Go.Proofs.YtlkphcjlgbimkaaGreat
open Go.RowKit

theorem ariF_le {a b : Int} (h : a ≤ b) : ariF a ≤ ariU b := by
  have h1 : ariV a ≤ ariV b := by unfold ariV; omega
  have h2 : ariF a ≤ ariF b := by
    have := Int.ediv_le_ediv (c := 86400000000000) (by decide) h1
    unfold ariF; omega
  unfold ariU
  split <;> omega
set_option maxHeartbeats 1000000 in
theorem sid_Length (w : World) :
    Calls Tryz.prog 29 #[] w fun e w' => e = .returned (.agg #[.int .i64 (86164090), .int .i64 (86164091)]) ∧ ∃ d, w' = bw w d := by
  refine lay_start ?_
  have c1 : ∀ w, Calls Tryz.prog 91 #[.int .u64 21600000, .int .u64 86400000000000] w fun e w' => e = .returned (.tuple #[.int .u64 101, .int .u64 3118848555335286784]) ∧ w' = w := fun w =>
    Tryz.bits_Mul64 21600000 86400000000000 (by decide) (by decide) w
  have c2 : ∀ w, Calls Tryz.prog 92 #[.int .u64 101, .int .u64 3118848555335286784, .int .u64 21659138841977] w fun e w' => e = .returned (.tuple #[.int .u64 86164090, .int .u64 11497397994070]) ∧ ∃ d, w' = bw w d := fun w =>
    div64' 101 3118848555335286784 21659138841977 86164090 11497397994070 (by decide) (by decide) (by decide) (by decide) (by decide) w
  go_enter Tryz.func29, Tryz.ntmps29
  go_wp2_with (first | (go_at_call 91; refine (c1 _).mono ?_; rintro e w' ⟨rfl, rfl⟩) | (go_at_call 92; refine (c2 _).mono ?_; rintro e w' ⟨rfl, d, rfl⟩))
  all_goals exact bodyPost_ret (v := (.agg #[.int .i64 (86164090), .int .i64 (86164091)])) (by simp [results, Tryz.results29, go_sem]) rfl ⟨rfl, lay_ex _ _⟩
end Go.Proofs.YtlkphcjlgbimkaaGreat
/- Times that are valid (package clock), the interval of a time (package sidereal). -/
namespace Go.Proofs.YtlkphcjlgbimkaaGreat
open Go.RowKit

def insB (t : Int) : Bool := decide (-70368744177664 ≤ t ∧ t ≤ 70368744177664)
def timB (a b : Int) : Bool := decide (a ≤ b) && insB a && insB b
theorem timB_iff {a b : Int} : timB a b = true ↔ a ≤ b ∧ -70368744177664 ≤ a ∧ b ≤ 70368744177664 := by
  unfold timB insB
  simp only [Bool.and_eq_true, decide_eq_true_eq]
  omega
set_option maxHeartbeats 400000 in
theorem clock_instant (t : Int) (w : World) :
    Calls Tryz.prog 114 #[.int .i64 t] w fun e w' => e = .returned (.bool (insB t)) ∧ w' = w := by
  go_enter Tryz.func114, Tryz.ntmps114
  go_wp2_with fail
  all_goals go_ret
  all_goals exact ⟨ret_bool (by unfold insB; rw [Bool.eq_iff_iff]; simp; try omega), rfl⟩
set_option maxHeartbeats 400000 in
theorem clock_Valid (a b : Int) (w : World) :
    Calls Tryz.prog 60 #[(.agg #[.int .i64 (a), .int .i64 (b)])] w fun e w' => e = .returned (.bool (timB a b)) ∧ ∃ d, w' = bw w d := by
  refine lay_start ?_
  have c1 := fun w => clock_instant a w
  have c2 := fun w => clock_instant b w
  unfold timB
  generalize insB a = A at *
  generalize insB b = B at *
  go_enter Tryz.func60, Tryz.ntmps60
  by_cases h : a ≤ b
  · cases A
    · go_wp2_with (go_at_call 114; first | (with_reducible refine (c1 _).mono ?_; rintro e w' ⟨rfl, rfl⟩) | (with_reducible refine (c2 _).mono ?_; rintro e w' ⟨rfl, rfl⟩))
      all_goals go_ret
      all_goals exact ⟨ret_bool (by simp [h]), lay_ex _ _⟩
    · go_wp2_with (go_at_call 114; first | (with_reducible refine (c1 _).mono ?_; rintro e w' ⟨rfl, rfl⟩) | (with_reducible refine (c2 _).mono ?_; rintro e w' ⟨rfl, rfl⟩))
      all_goals go_ret
      all_goals exact ⟨ret_bool (by simp [h]), lay_ex _ _⟩
  · go_wp2_with (go_at_call 114; first | (with_reducible refine (c1 _).mono ?_; rintro e w' ⟨rfl, rfl⟩) | (with_reducible refine (c2 _).mono ?_; rintro e w' ⟨rfl, rfl⟩))
    all_goals go_ret
    all_goals exact ⟨ret_bool (by simp; intros; omega), lay_ex _ _⟩
set_option maxHeartbeats 400000 in
theorem sid_Interval (a b : Int) (w : World) (hv : timB a b = true) :
    Calls Tryz.prog 65 #[(.agg #[.int .i64 (a), .int .i64 (b)])] w fun e w' =>
      e = .returned (.tuple #[(.agg #[.int .i64 (turnLo (ariF a) (ariU b)), .int .i64 (turnHi (ariF a) (ariU b))]), .int .i64 0]) ∧ ∃ d, w' = bw w d := by
  obtain ⟨g1, g2, g3⟩ := timB_iff.1 hv
  refine lay_start ?_
  have c1 := fun w => clock_Valid a b w
  rw [hv] at c1
  have c2 := fun w => sid_between a b w (by omega) g1 (by omega)
  generalize turnLo (ariF a) (ariU b) = x at *
  generalize turnHi (ariF a) (ariU b) = y at *
  clear g1 g2 g3 hv
  go_enter Tryz.func65, Tryz.ntmps65
  go_wp2_with (first | (go_at_call 60; refine (c1 _).mono ?_; rintro e w' ⟨rfl, d, rfl⟩) | (go_at_call 118; refine (c2 _).mono ?_; rintro e w' ⟨rfl, d, rfl⟩))
  all_goals exact bodyPost_ret (v := .tuple #[(.agg #[.int .i64 (x), .int .i64 (y)]), .int .i64 0]) (by simp [results, Tryz.results65, go_sem]) rfl ⟨rfl, lay_ex _ _⟩
set_option maxHeartbeats 400000 in
theorem ref10_Instant (t : Int) (w : World) :
    Calls Tryz.prog 80 #[.int .i64 t] w fun e w' => e = .returned (.bool (insB t)) ∧ w' = w := by
  go_enter Tryz.func80, Tryz.ntmps80
  go_wp2_with fail
  all_goals go_ret
  all_goals exact ⟨ret_bool (by unfold insB; rw [Bool.eq_iff_iff]; simp; try omega), rfl⟩
set_option maxHeartbeats 400000 in
theorem ref10_Valid (a b : Int) (w : World) :
    Calls Tryz.prog 17 #[(.agg #[.int .i64 (a), .int .i64 (b)])] w fun e w' => e = .returned (.bool (timB a b)) ∧ ∃ d, w' = bw w d := by
  refine lay_start ?_
  have c1 := fun w => ref10_Instant a w
  have c2 := fun w => ref10_Instant b w
  unfold timB
  generalize insB a = A at *
  generalize insB b = B at *
  go_enter Tryz.func17, Tryz.ntmps17
  by_cases h : a ≤ b
  · cases A
    · go_wp2_with (go_at_call 80; first | (with_reducible refine (c1 _).mono ?_; rintro e w' ⟨rfl, rfl⟩) | (with_reducible refine (c2 _).mono ?_; rintro e w' ⟨rfl, rfl⟩))
      all_goals go_ret
      all_goals exact ⟨ret_bool (by simp [h]), lay_ex _ _⟩
    · go_wp2_with (go_at_call 80; first | (with_reducible refine (c1 _).mono ?_; rintro e w' ⟨rfl, rfl⟩) | (with_reducible refine (c2 _).mono ?_; rintro e w' ⟨rfl, rfl⟩))
      all_goals go_ret
      all_goals exact ⟨ret_bool (by simp [h]), lay_ex _ _⟩
  · go_wp2_with (go_at_call 80; first | (with_reducible refine (c1 _).mono ?_; rintro e w' ⟨rfl, rfl⟩) | (with_reducible refine (c2 _).mono ?_; rintro e w' ⟨rfl, rfl⟩))
    all_goals go_ret
    all_goals exact ⟨ret_bool (by simp; intros; omega), lay_ex _ _⟩
end Go.Proofs.YtlkphcjlgbimkaaGreat
/- Contracts of package almanac: the arc for tenths. -/
namespace Go.Proofs.YtlkphcjlgbimkaaGreat
open Go.RowKit

set_option maxHeartbeats 400000 in
theorem alm_around (n : Int) (w : World) (h0 : -1000000000 ≤ n) (h1 : n ≤ 1000000000) :
    Calls Tryz.prog 119 #[.int .i64 n] w fun e w' => e = .returned (.agg #[.int .i64 (100 * n - 50), .int .i64 (100 * n + 50)]) ∧ ∃ d, w' = bw w d := by
  refine lay_start ?_
  go_enter Tryz.func119, Tryz.ntmps119
  go_wp2_with fail
  all_goals exact bodyPost_ret (v := (.agg #[.int .i64 (100 * n - 50), .int .i64 (100 * n + 50)])) (by simp [results, Tryz.results119, go_sem]) rfl ⟨rfl, lay_ex _ _⟩
set_option maxHeartbeats 400000 in
theorem ref13_Around (n : Int) (w : World) (h0 : -1000000000 ≤ n) (h1 : n ≤ 1000000000) :
    Calls Tryz.prog 73 #[.int .i64 n] w fun e w' => e = .returned (.agg #[.int .i64 (100 * n - 50), .int .i64 (100 * n + 50)]) ∧ ∃ d, w' = bw w d := by
  refine lay_start ?_
  go_enter Tryz.func73, Tryz.ntmps73
  go_wp2_with fail
  all_goals exact bodyPost_ret (v := (.agg #[.int .i64 (100 * n - 50), .int .i64 (100 * n + 50)])) (by simp [results, Tryz.results73, go_sem]) rfl ⟨rfl, lay_ex _ _⟩
end Go.Proofs.YtlkphcjlgbimkaaGreat
/- Sums of arcs (package angle). -/
namespace Go.Proofs.YtlkphcjlgbimkaaGreat
open Go.RowKit

set_option maxHeartbeats 400000 in
theorem angle_result (lo hi : Int) (w : World) (hv : validB lo hi = true) :
    Calls Tryz.prog 134 #[.int .i64 lo, .int .i64 hi] w fun e w' => e = .returned (.tuple #[(.agg #[.int .i64 (lo), .int .i64 (hi)]), .int .i64 0]) ∧ ∃ d, w' = bw w d := by
  refine lay_start ?_
  obtain ⟨g1, g2, g3⟩ := validB_iff.1 hv
  have q1 : fitsB lo = true := by simp [fitsB]; omega
  have q2 : fitsB hi = true := by simp [fitsB]; omega
  have c1 := fun w => angle_fits lo w
  have c2 := fun w => angle_fits hi w
  rw [q1] at c1
  rw [q2] at c2
  go_enter Tryz.func134, Tryz.ntmps134
  go_wp2_with (go_at_call 133; first | (with_reducible refine (c1 _).mono ?_; rintro e w' ⟨rfl, rfl⟩) | (with_reducible refine (c2 _).mono ?_; rintro e w' ⟨rfl, rfl⟩))
  all_goals exact bodyPost_ret (v := .tuple #[(.agg #[.int .i64 (lo), .int .i64 (hi)]), .int .i64 0]) (by simp [results, Tryz.results134, go_sem]) rfl ⟨rfl, lay_ex _ _⟩
set_option maxHeartbeats 400000 in
theorem angle_Add (a b x y : Int) (w : World) (h1 : validB a b = true) (h2 : validB x y = true) (h3 : validB (a + x) (b + y) = true) :
    Calls Tryz.prog 88 #[(.agg #[.int .i64 (a), .int .i64 (b)]), (.agg #[.int .i64 (x), .int .i64 (y)])] w fun e w' => e = .returned (.tuple #[(.agg #[.int .i64 (a + x), .int .i64 (b + y)]), .int .i64 0]) ∧ ∃ d, w' = bw w d := by
  refine lay_start ?_
  obtain ⟨g1, g2, g3⟩ := validB_iff.1 h1
  obtain ⟨k1, k2, k3⟩ := validB_iff.1 h2
  have c1 := fun w => angle_Valid a b w
  rw [h1] at c1
  have c2 := fun w => angle_Valid x y w
  rw [h2] at c2
  have c3 := fun w => angle_result (a + x) (b + y) w h3
  have f1 : wrap64 (a + x) = a + x := by unfold wrap64; omega
  have f2 : wrap64 (b + y) = b + y := by unfold wrap64; omega
  go_enter Tryz.func88, Tryz.ntmps88
  go_wp2_with (first | (go_at_call 85; first | (with_reducible refine (c1 _).mono ?_; rintro e w' ⟨rfl, d, rfl⟩) | (with_reducible refine (c2 _).mono ?_; rintro e w' ⟨rfl, d, rfl⟩)) | (go_at_call 134; refine (c3 _).mono ?_; rintro e w' ⟨rfl, d, rfl⟩))
  all_goals exact bodyPost_ret (v := .tuple #[(.agg #[.int .i64 (a + x), .int .i64 (b + y)]), .int .i64 0]) (by simp [results, Tryz.results88, go_sem]) rfl ⟨rfl, lay_ex _ _⟩
set_option maxHeartbeats 400000 in
theorem angle_Neg (a b : Int) (w : World) (h1 : validB a b = true) :
    Calls Tryz.prog 93 #[(.agg #[.int .i64 (a), .int .i64 (b)])] w fun e w' => e = .returned (.tuple #[(.agg #[.int .i64 (-b), .int .i64 (-a)]), .int .i64 0]) ∧ ∃ d, w' = bw w d := by
  refine lay_start ?_
  obtain ⟨g1, g2, g3⟩ := validB_iff.1 h1
  have c1 := fun w => angle_Valid a b w
  rw [h1] at c1
  have c3 := fun w => angle_result (-b) (-a) w (validB_iff.2 ⟨by omega, by omega, by omega⟩)
  go_enter Tryz.func93, Tryz.ntmps93
  go_wp2_with (first | (go_at_call 85; refine (c1 _).mono ?_; rintro e w' ⟨rfl, d, rfl⟩) | (go_at_call 134; refine (c3 _).mono ?_; rintro e w' ⟨rfl, d, rfl⟩))
  all_goals exact bodyPost_ret (v := .tuple #[(.agg #[.int .i64 (-b), .int .i64 (-a)]), .int .i64 0]) (by simp [results, Tryz.results93, go_sem]) rfl ⟨rfl, lay_ex _ _⟩
set_option maxHeartbeats 400000 in
theorem angle_Sub (a b x y : Int) (w : World) (h1 : validB a b = true) (h2 : validB x y = true) (h3 : validB (a + -y) (b + -x) = true) :
    Calls Tryz.prog 31 #[(.agg #[.int .i64 (a), .int .i64 (b)]), (.agg #[.int .i64 (x), .int .i64 (y)])] w fun e w' => e = .returned (.tuple #[(.agg #[.int .i64 (a + -y), .int .i64 (b + -x)]), .int .i64 0]) ∧ ∃ d, w' = bw w d := by
  refine lay_start ?_
  obtain ⟨k1, k2, k3⟩ := validB_iff.1 h2
  have c1 := fun w => angle_Neg x y w h2
  have c3 := fun w => angle_Add a b (-y) (-x) w h1 (validB_iff.2 ⟨by omega, by omega, by omega⟩) h3
  go_enter Tryz.func31, Tryz.ntmps31
  go_wp2_with (first | (go_at_call 93; refine (c1 _).mono ?_; rintro e w' ⟨rfl, d, rfl⟩) | (go_at_call 88; refine (c3 _).mono ?_; rintro e w' ⟨rfl, d, rfl⟩))
  all_goals exact bodyPost_ret (v := .tuple #[(.agg #[.int .i64 (a + -y), .int .i64 (b + -x)]), .int .i64 0]) (by simp [results, Tryz.results31, go_sem]) rfl ⟨rfl, lay_ex _ _⟩
end Go.Proofs.YtlkphcjlgbimkaaGreat
