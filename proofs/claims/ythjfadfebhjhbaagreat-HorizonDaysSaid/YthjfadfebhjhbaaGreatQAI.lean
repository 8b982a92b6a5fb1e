/- Contracts and plain laws, several texts in one: Sid3; Sid4; Sid5; Alm1 -/
import Derived.Test.YthjfadfebhjhbaaGreatProg
import Derived.WalkKit
import Derived.WalkSpells
import Derived.WalkLawsBesides
import Derived.Lib.Hide
import Derived.BigQuiet
import Derived.Test.YthjfadfebhjhbaaGreatQAA
import Derived.Test.YthjfadfebhjhbaaGreatQAB
import Derived.Test.YthjfadfebhjhbaaGreatQAE
import Derived.Test.YthjfadfebhjhbaaGreatQAH
/- The hour angles of Aries over a time (packages sidereal and almucantarref12). -/
namespace Go.Proofs.YthjfadfebhjhbaaGreat
open Go.RowKit

def ariU (t : Int) : Int := if 0 < ariR t then ariF t + 1 else ariF t
theorem ariF_b {t : Int} (h0 : -100000000000000 ≤ t) (h1 : t ≤ 100000000000000) : -30000000000000 ≤ ariF t ∧ ariF t ≤ 30000000000000 := by
  have hV : -100000000000000 * 21659138841977 ≤ ariV t ∧ ariV t ≤ 100000000000001 * 21659138841977 + 58838400000000 := by unfold ariV; omega
  unfold ariF
  generalize ariV t = V at *
  clear h0 h1
  omega
theorem ariU_b {t : Int} (h0 : -100000000000000 ≤ t) (h1 : t ≤ 100000000000000) : -30000000000000 ≤ ariU t ∧ ariU t ≤ 30000000000001 := by
  have := ariF_b h0 h1
  unfold ariU
  split <;> omega
set_option maxHeartbeats 1000000 in
theorem sid_up (t : Int) (w : World) (h0 : -100000000000000 ≤ t) (h1 : t ≤ 100000000000000) :
    Calls Tryz.prog 179 #[.int .i64 t] w fun e w' => e = .returned (.int .i64 (ariU t)) ∧ ∃ d, w' = bw w d := by
  refine lay_start ?_
  have c1 := sid_aries t (lay w []) (by omega) (by omega)
  have hb := ariF_b h0 h1
  unfold ariU
  generalize ariF t = F at *
  generalize ariR t = R at *
  clear h0 h1
  go_enter Tryz.func179, Tryz.ntmps179
  have f1 : wrap64 (F + 1) = F + 1 := w64 (by omega)
  go_wp2_with (go_at_call 178; refine c1.mono ?_; rintro e w' ⟨rfl, d, rfl⟩)
  all_goals go_ret
  all_goals exact ⟨ret_int (by first | omega | (split <;> omega)), lay_ex w _⟩
set_option maxHeartbeats 1000000 in
theorem sid_between (a b : Int) (w : World) (h0 : -100000000000000 ≤ a) (h1 : a ≤ b) (h2 : b ≤ 100000000000000) :
    Calls Tryz.prog 142 #[.int .i64 a, .int .i64 b] w fun e w' =>
      e = .returned (.agg #[.int .i64 (turnLo (ariF a) (ariU b)), .int .i64 (turnHi (ariF a) (ariU b))]) ∧ ∃ d, w' = bw w d := by
  refine lay_start ?_
  have c1 := fun w => sid_aries a w (by omega) (by omega)
  have c2 := fun w => sid_up b w (by omega) (by omega)
  have hb := ariF_b h0 (by omega)
  have hc := ariU_b (t := b) (by omega) h2
  generalize ariF a = F at *
  generalize ariU b = G at *
  generalize ariR a = R at *
  clear h0 h1 h2
  go_enter Tryz.func142, Tryz.ntmps142
  go_wp2_with (first | (go_at_call 178; refine (c1 _).mono ?_; rintro e w' ⟨rfl, d, rfl⟩) | (go_at_call 179; refine (c2 _).mono ?_; rintro e w' ⟨rfl, d, rfl⟩) | (go_at_call 155; refine (angle_Wrap _ _).mono ?_; rintro e w' ⟨rfl, rfl⟩))
  all_goals exact bodyPost_ret (v := (.agg #[.int .i64 (turnLo F G), .int .i64 (turnHi F G)])) (by simp [results, Tryz.results142, go_sem, turnLo, turnHi]; omega) rfl ⟨rfl, lay_ex _ _⟩
set_option maxHeartbeats 1000000 in
theorem ref12_Interval (a b : Int) (w : World) (h0 : -100000000000000 ≤ a) (h1 : a ≤ b) (h2 : b ≤ 100000000000000) (hm : ariF a ≤ ariU b) :
    Calls Tryz.prog 61 #[(.agg #[.int .i64 (a), .int .i64 (b)])] w fun e w' =>
      e = .returned (.agg #[.int .i64 (turnLo (ariF a) (ariU b)), .int .i64 (turnHi (ariF a) (ariU b))]) ∧ ∃ d, w' = bw w d := by
  refine lay_start ?_
  have c1 := fun w => ref12_Aries a w (by omega) (by omega)
  have c2 := fun w => ref12_Aries b w (by omega) (by omega)
  have hb := ariF_b h0 (by omega)
  have hc := ariF_b (t := b) (by omega) h2
  have c3 := fun w => ref05_Turn (ariF a) (ariU b) w (by omega) hm (by have := ariU_b (t := b) (by omega) h2; omega)
  unfold ariU at *
  generalize ariF a = F at *
  generalize ariF b = G at *
  generalize ariR b = S at *
  generalize ariR a = R at *
  clear h0 h1 h2 hm
  have f1 : wrap64 (G + 1) = G + 1 := w64 (by omega)
  go_enter Tryz.func61, Tryz.ntmps61
  by_cases hS : 0 < S
  · rw [if_pos hS] at *
    go_wp2_with (first | (go_at_call 106; first | (with_reducible refine (c1 _).mono ?_; rintro e w' ⟨rfl, rfl⟩) | (with_reducible refine (c2 _).mono ?_; rintro e w' ⟨rfl, rfl⟩)) | (go_at_call 63; refine (c3 _).mono ?_; rintro e w' ⟨rfl, d, rfl⟩))
    all_goals exact bodyPost_ret (v := (.agg #[.int .i64 (turnLo F _), .int .i64 (turnHi F _)])) (by simp [results, Tryz.results61, go_sem]) rfl ⟨rfl, lay_ex _ _⟩
  · rw [if_neg hS] at *
    go_wp2_with (first | (go_at_call 106; first | (with_reducible refine (c1 _).mono ?_; rintro e w' ⟨rfl, rfl⟩) | (with_reducible refine (c2 _).mono ?_; rintro e w' ⟨rfl, rfl⟩)) | (go_at_call 63; refine (c3 _).mono ?_; rintro e w' ⟨rfl, d, rfl⟩))
    all_goals exact bodyPost_ret (v := (.agg #[.int .i64 (turnLo F _), .int .i64 (turnHi F _)])) (by simp [results, Tryz.results61, go_sem]) rfl ⟨rfl, lay_ex _ _⟩
end Go.Proofs.YthjfadfebhjhbaaGreat
/- The length of a sidereal day, the interval of a time (package sidereal). -/
namespace Go.Proofs.YthjfadfebhjhbaaGreat
open Go.RowKit

theorem ariF_le {a b : Int} (h : a ≤ b) : ariF a ≤ ariU b := by
  have h1 : ariV a ≤ ariV b := by unfold ariV; omega
  have h2 : ariF a ≤ ariF b := by
    have := Int.ediv_le_ediv (c := 86400000000000) (by decide) h1
    unfold ariF; omega
  unfold ariU
  split <;> omega
end Go.Proofs.YthjfadfebhjhbaaGreat
/- Times that are valid (package clock), the interval of a time (package sidereal). -/
namespace Go.Proofs.YthjfadfebhjhbaaGreat
open Go.RowKit

def insB (t : Int) : Bool := decide (-70368744177664 ≤ t ∧ t ≤ 70368744177664)
def timB (a b : Int) : Bool := decide (a ≤ b) && insB a && insB b
theorem timB_iff {a b : Int} : timB a b = true ↔ a ≤ b ∧ -70368744177664 ≤ a ∧ b ≤ 70368744177664 := by
  unfold timB insB
  simp only [Bool.and_eq_true, decide_eq_true_eq]
  omega
set_option maxHeartbeats 400000 in
theorem clock_instant (t : Int) (w : World) :
    Calls Tryz.prog 72 #[.int .i64 t] w fun e w' => e = .returned (.bool (insB t)) ∧ w' = w := by
  go_enter Tryz.func72, Tryz.ntmps72
  go_wp2_with fail
  all_goals go_ret
  all_goals exact ⟨ret_bool (by unfold insB; rw [Bool.eq_iff_iff]; simp; try omega), rfl⟩
set_option maxHeartbeats 400000 in
theorem clock_Valid (a b : Int) (w : World) :
    Calls Tryz.prog 32 #[(.agg #[.int .i64 (a), .int .i64 (b)])] w fun e w' => e = .returned (.bool (timB a b)) ∧ ∃ d, w' = bw w d := by
  refine lay_start ?_
  have c1 := fun w => clock_instant a w
  have c2 := fun w => clock_instant b w
  unfold timB
  generalize insB a = A at *
  generalize insB b = B at *
  go_enter Tryz.func32, Tryz.ntmps32
  by_cases h : a ≤ b
  · cases A
    · go_wp2_with (go_at_call 72; first | (with_reducible refine (c1 _).mono ?_; rintro e w' ⟨rfl, rfl⟩) | (with_reducible refine (c2 _).mono ?_; rintro e w' ⟨rfl, rfl⟩))
      all_goals go_ret
      all_goals exact ⟨ret_bool (by simp [h]), lay_ex _ _⟩
    · go_wp2_with (go_at_call 72; first | (with_reducible refine (c1 _).mono ?_; rintro e w' ⟨rfl, rfl⟩) | (with_reducible refine (c2 _).mono ?_; rintro e w' ⟨rfl, rfl⟩))
      all_goals go_ret
      all_goals exact ⟨ret_bool (by simp [h]), lay_ex _ _⟩
  · go_wp2_with (go_at_call 72; first | (with_reducible refine (c1 _).mono ?_; rintro e w' ⟨rfl, rfl⟩) | (with_reducible refine (c2 _).mono ?_; rintro e w' ⟨rfl, rfl⟩))
    all_goals go_ret
    all_goals exact ⟨ret_bool (by simp; intros; omega), lay_ex _ _⟩
set_option maxHeartbeats 400000 in
theorem sid_Interval (a b : Int) (w : World) (hv : timB a b = true) :
    Calls Tryz.prog 102 #[(.agg #[.int .i64 (a), .int .i64 (b)])] w fun e w' =>
      e = .returned (.tuple #[(.agg #[.int .i64 (turnLo (ariF a) (ariU b)), .int .i64 (turnHi (ariF a) (ariU b))]), .int .i64 0]) ∧ ∃ d, w' = bw w d := by
  obtain ⟨g1, g2, g3⟩ := timB_iff.1 hv
  refine lay_start ?_
  have c1 := fun w => clock_Valid a b w
  rw [hv] at c1
  have c2 := fun w => sid_between a b w (by omega) g1 (by omega)
  generalize turnLo (ariF a) (ariU b) = x at *
  generalize turnHi (ariF a) (ariU b) = y at *
  clear g1 g2 g3 hv
  go_enter Tryz.func102, Tryz.ntmps102
  go_wp2_with (first | (go_at_call 32; refine (c1 _).mono ?_; rintro e w' ⟨rfl, d, rfl⟩) | (go_at_call 142; refine (c2 _).mono ?_; rintro e w' ⟨rfl, d, rfl⟩))
  all_goals exact bodyPost_ret (v := .tuple #[(.agg #[.int .i64 (x), .int .i64 (y)]), .int .i64 0]) (by simp [results, Tryz.results102, go_sem]) rfl ⟨rfl, lay_ex _ _⟩
set_option maxHeartbeats 400000 in
theorem ref10_Instant (t : Int) (w : World) :
    Calls Tryz.prog 42 #[.int .i64 t] w fun e w' => e = .returned (.bool (insB t)) ∧ w' = w := by
  go_enter Tryz.func42, Tryz.ntmps42
  go_wp2_with fail
  all_goals go_ret
  all_goals exact ⟨ret_bool (by unfold insB; rw [Bool.eq_iff_iff]; simp; try omega), rfl⟩
set_option maxHeartbeats 400000 in
theorem ref10_Valid (a b : Int) (w : World) :
    Calls Tryz.prog 12 #[(.agg #[.int .i64 (a), .int .i64 (b)])] w fun e w' => e = .returned (.bool (timB a b)) ∧ ∃ d, w' = bw w d := by
  refine lay_start ?_
  have c1 := fun w => ref10_Instant a w
  have c2 := fun w => ref10_Instant b w
  unfold timB
  generalize insB a = A at *
  generalize insB b = B at *
  go_enter Tryz.func12, Tryz.ntmps12
  by_cases h : a ≤ b
  · cases A
    · go_wp2_with (go_at_call 42; first | (with_reducible refine (c1 _).mono ?_; rintro e w' ⟨rfl, rfl⟩) | (with_reducible refine (c2 _).mono ?_; rintro e w' ⟨rfl, rfl⟩))
      all_goals go_ret
      all_goals exact ⟨ret_bool (by simp [h]), lay_ex _ _⟩
    · go_wp2_with (go_at_call 42; first | (with_reducible refine (c1 _).mono ?_; rintro e w' ⟨rfl, rfl⟩) | (with_reducible refine (c2 _).mono ?_; rintro e w' ⟨rfl, rfl⟩))
      all_goals go_ret
      all_goals exact ⟨ret_bool (by simp [h]), lay_ex _ _⟩
  · go_wp2_with (go_at_call 42; first | (with_reducible refine (c1 _).mono ?_; rintro e w' ⟨rfl, rfl⟩) | (with_reducible refine (c2 _).mono ?_; rintro e w' ⟨rfl, rfl⟩))
    all_goals go_ret
    all_goals exact ⟨ret_bool (by simp; intros; omega), lay_ex _ _⟩
end Go.Proofs.YthjfadfebhjhbaaGreat
/- Contracts of package almanac: the arc for tenths. -/
namespace Go.Proofs.YthjfadfebhjhbaaGreat
open Go.RowKit

set_option maxHeartbeats 400000 in
theorem alm_around (n : Int) (w : World) (h0 : -1000000000 ≤ n) (h1 : n ≤ 1000000000) :
    Calls Tryz.prog 143 #[.int .i64 n] w fun e w' => e = .returned (.agg #[.int .i64 (100 * n - 50), .int .i64 (100 * n + 50)]) ∧ ∃ d, w' = bw w d := by
  refine lay_start ?_
  go_enter Tryz.func143, Tryz.ntmps143
  go_wp2_with fail
  all_goals exact bodyPost_ret (v := (.agg #[.int .i64 (100 * n - 50), .int .i64 (100 * n + 50)])) (by simp [results, Tryz.results143, go_sem]) rfl ⟨rfl, lay_ex _ _⟩
set_option maxHeartbeats 400000 in
theorem ref13_Around (n : Int) (w : World) (h0 : -1000000000 ≤ n) (h1 : n ≤ 1000000000) :
    Calls Tryz.prog 65 #[.int .i64 n] w fun e w' => e = .returned (.agg #[.int .i64 (100 * n - 50), .int .i64 (100 * n + 50)]) ∧ ∃ d, w' = bw w d := by
  refine lay_start ?_
  go_enter Tryz.func65, Tryz.ntmps65
  go_wp2_with fail
  all_goals exact bodyPost_ret (v := (.agg #[.int .i64 (100 * n - 50), .int .i64 (100 * n + 50)])) (by simp [results, Tryz.results65, go_sem]) rfl ⟨rfl, lay_ex _ _⟩
end Go.Proofs.YthjfadfebhjhbaaGreat
