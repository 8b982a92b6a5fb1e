/- The hour angles of Aries over a time (packages sidereal and almucantarref12). -/
import Derived.Test.YtlkphcjlgbimkaaGreatProg
import Derived.Test.YtlkphcjlgbimkaaGreatLay
import Derived.Test.YtlkphcjlgbimkaaGreatRegion
import Derived.Test.YtlkphcjlgbimkaaGreatMix
import Derived.WalkKit
import Derived.WalkSpells
import Derived.WalkLawsBesides
import Derived.Lib.Hide
import Derived.BigQuiet
import Derived.Test.YtlkphcjlgbimkaaGreatPlain
import Derived.Test.YtlkphcjlgbimkaaGreatAngle
import Derived.Test.YtlkphcjlgbimkaaGreatSid1
import Derived.Test.YtlkphcjlgbimkaaGreatSid2
namespace Go.Proofs.YtlkphcjlgbimkaaGreat
open Go.RowKit

/-- The hour angle rounded up. -/
def ariU (t : Int) : Int := if 0 < ariR t then ariF t + 1 else ariF t
theorem ariF_b {t : Int} (h0 : -100000000000000 ≤ t) (h1 : t ≤ 100000000000000) : -30000000000000 ≤ ariF t ∧ ariF t ≤ 30000000000000 := by
  have hV : -100000000000000 * 21659138841977 ≤ ariV t ∧ ariV t ≤ 100000000000001 * 21659138841977 + 58838400000000 := by unfold ariV; omega
  unfold ariF
  generalize ariV t = V at *
  clear h0 h1
  omega
theorem ariU_b {t : Int} (h0 : -100000000000000 ≤ t) (h1 : t ≤ 100000000000000) : -30000000000000 ≤ ariU t ∧ ariU t ≤ 30000000000001 := by
  have := ariF_b h0 h1
  unfold ariU
  split <;> omega
set_option maxHeartbeats 1000000 in
theorem sid_up (t : Int) (w : World) (h0 : -100000000000000 ≤ t) (h1 : t ≤ 100000000000000) :
    Calls Tryz.prog 153 #[.int .i64 t] w fun e w' => e = .returned (.int .i64 (ariU t)) ∧ ∃ d, w' = bw w d := by
  refine lay_start ?_
  have c1 := sid_aries t (lay w []) (by omega) (by omega)
  have hb := ariF_b h0 h1
  unfold ariU
  generalize ariF t = F at *
  generalize ariR t = R at *
  clear h0 h1
  go_enter Tryz.func153, Tryz.ntmps153
  have f1 : wrap64 (F + 1) = F + 1 := w64 (by omega)
  go_wp2_with (go_at_call 152; refine c1.mono ?_; rintro e w' ⟨rfl, d, rfl⟩)
  all_goals go_ret
  all_goals exact ⟨ret_int (by first | omega | (split <;> omega)), lay_ex w _⟩
set_option maxHeartbeats 1000000 in
theorem sid_between (a b : Int) (w : World) (h0 : -100000000000000 ≤ a) (h1 : a ≤ b) (h2 : b ≤ 100000000000000) :
    Calls Tryz.prog 118 #[.int .i64 a, .int .i64 b] w fun e w' =>
      e = .returned (.agg #[.int .i64 (turnLo (ariF a) (ariU b)), .int .i64 (turnHi (ariF a) (ariU b))]) ∧ ∃ d, w' = bw w d := by
  refine lay_start ?_
  have c1 := fun w => sid_aries a w (by omega) (by omega)
  have c2 := fun w => sid_up b w (by omega) (by omega)
  have hb := ariF_b h0 (by omega)
  have hc := ariU_b (t := b) (by omega) h2
  generalize ariF a = F at *
  generalize ariU b = G at *
  generalize ariR a = R at *
  clear h0 h1 h2
  go_enter Tryz.func118, Tryz.ntmps118
  go_wp2_with (first | (go_at_call 152; refine (c1 _).mono ?_; rintro e w' ⟨rfl, d, rfl⟩) | (go_at_call 153; refine (c2 _).mono ?_; rintro e w' ⟨rfl, d, rfl⟩) | (go_at_call 86; refine (angle_Wrap _ _).mono ?_; rintro e w' ⟨rfl, rfl⟩))
  all_goals exact bodyPost_ret (v := (.agg #[.int .i64 (turnLo F G), .int .i64 (turnHi F G)])) (by simp [results, Tryz.results118, go_sem, turnLo, turnHi]; omega) rfl ⟨rfl, lay_ex _ _⟩
set_option maxHeartbeats 1000000 in
theorem ref12_Interval (a b : Int) (w : World) (h0 : -100000000000000 ≤ a) (h1 : a ≤ b) (h2 : b ≤ 100000000000000) (hm : ariF a ≤ ariU b) :
    Calls Tryz.prog 69 #[(.agg #[.int .i64 (a), .int .i64 (b)])] w fun e w' =>
      e = .returned (.agg #[.int .i64 (turnLo (ariF a) (ariU b)), .int .i64 (turnHi (ariF a) (ariU b))]) ∧ ∃ d, w' = bw w d := by
  refine lay_start ?_
  have c1 := fun w => ref12_Aries a w (by omega) (by omega)
  have c2 := fun w => ref12_Aries b w (by omega) (by omega)
  have hb := ariF_b h0 (by omega)
  have hc := ariF_b (t := b) (by omega) h2
  have c3 := fun w => ref05_Turn (ariF a) (ariU b) w (by omega) hm (by have := ariU_b (t := b) (by omega) h2; omega)
  unfold ariU at *
  generalize ariF a = F at *
  generalize ariF b = G at *
  generalize ariR b = S at *
  generalize ariR a = R at *
  clear h0 h1 h2 hm
  have f1 : wrap64 (G + 1) = G + 1 := w64 (by omega)
  go_enter Tryz.func69, Tryz.ntmps69
  by_cases hS : 0 < S
  · rw [if_pos hS] at *
    go_wp2_with (first | (go_at_call 123; first | (with_reducible refine (c1 _).mono ?_; rintro e w' ⟨rfl, rfl⟩) | (with_reducible refine (c2 _).mono ?_; rintro e w' ⟨rfl, rfl⟩)) | (go_at_call 71; refine (c3 _).mono ?_; rintro e w' ⟨rfl, d, rfl⟩))
    all_goals exact bodyPost_ret (v := (.agg #[.int .i64 (turnLo F _), .int .i64 (turnHi F _)])) (by simp [results, Tryz.results69, go_sem]) rfl ⟨rfl, lay_ex _ _⟩
  · rw [if_neg hS] at *
    go_wp2_with (first | (go_at_call 123; first | (with_reducible refine (c1 _).mono ?_; rintro e w' ⟨rfl, rfl⟩) | (with_reducible refine (c2 _).mono ?_; rintro e w' ⟨rfl, rfl⟩)) | (go_at_call 71; refine (c3 _).mono ?_; rintro e w' ⟨rfl, d, rfl⟩))
    all_goals exact bodyPost_ret (v := (.agg #[.int .i64 (turnLo F _), .int .i64 (turnHi F _)])) (by simp [results, Tryz.results69, go_sem]) rfl ⟨rfl, lay_ex _ _⟩
end Go.Proofs.YtlkphcjlgbimkaaGreat
