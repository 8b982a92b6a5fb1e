/- Contracts and plain laws, several texts in one: Fa6 -/
import Derived.Test.YtkhhdpndcidmgaaGreatProg
import Derived.WalkKit
import Derived.WalkSpells
import Derived.WalkLawsBesides
import Derived.Lib.Hide
import Derived.BigQuiet
import Derived.Test.YtkhhdpndcidmgaaGreatTAE
import Derived.Test.YtkhhdpndcidmgaaGreatTAF
import Derived.Test.YtkhhdpndcidmgaaGreatTAI
import Derived.Test.YtkhhdpndcidmgaaGreatTBH
import Derived.Test.YtkhhdpndcidmgaaGreatTBI
import Derived.Test.YtkhhdpndcidmgaaGreatTBM
/- arctrig: angle, as a function, for any point but the origin. -/
namespace Go.Proofs.YtkhhdpndcidmgaaGreat
open Go.RowKit

theorem ar_angG (X Y : Int) (hn : ¬ (X = 0 ∧ Y = 0)) (bX : Bd31 X) (bY : Bd31 Y) (w : World) :
    Calls Tryz.prog 73 #[.agg #[.int .i64 X, .int .i64 Y]] w fun e w' => e = .returned (.tuple #[.int .i64 (angF X Y).1, .bool (angF X Y).2]) ∧ ∃ d, w' = bw w d := by
  obtain ⟨x0, x1⟩ := bX
  obtain ⟨y0, y1⟩ := bY
  unfold angF
  by_cases c0 : 0 < X ∧ 0 ≤ Y
  · rw [if_pos c0]
    obtain ⟨u, rfl⟩ : ∃ u : Nat, X = (u : Int) := ⟨X.toNat, by omega⟩
    obtain ⟨v, rfl⟩ : ∃ v : Nat, Y = (v : Int) := ⟨Y.toNat, by omega⟩
    refine (ar_angF0 u v (by omega) (by omega) (by omega) w).mono ?_
    rintro e w' ⟨k, ex, d, rfl, hA, rfl⟩
    rw [hA.eq 0]; exact ⟨by simp, d, rfl⟩
  · rw [if_neg c0]
    by_cases c1 : 0 < Y ∧ X ≤ 0
    · rw [if_pos c1]
      obtain ⟨u, rfl⟩ : ∃ u : Nat, Y = (u : Int) := ⟨Y.toNat, by omega⟩
      obtain ⟨v, hv⟩ : ∃ v : Nat, -X = (v : Int) := ⟨(-X).toNat, by omega⟩
      refine (ar_angF1 u v X (by omega) (by omega) (by omega) (by omega) w).mono ?_
      rintro e w' ⟨k, ex, d, rfl, hA, rfl⟩
      rw [hv, hA.eq 5400000]; exact ⟨rfl, d, rfl⟩
    · rw [if_neg c1]
      by_cases c2 : X < 0 ∧ Y ≤ 0
      · rw [if_pos c2]
        obtain ⟨u, hu⟩ : ∃ u : Nat, -X = (u : Int) := ⟨(-X).toNat, by omega⟩
        obtain ⟨v, hv⟩ : ∃ v : Nat, -Y = (v : Int) := ⟨(-Y).toNat, by omega⟩
        refine (ar_angF2 u v X Y (by omega) (by omega) (by omega) (by omega) (by omega) w).mono ?_
        rintro e w' ⟨k, ex, d, rfl, hA, rfl⟩
        rw [hu, hv, hA.eq 10800000]; exact ⟨rfl, d, rfl⟩
      · rw [if_neg c2]
        obtain ⟨u, hu⟩ : ∃ u : Nat, -Y = (u : Int) := ⟨(-Y).toNat, by omega⟩
        obtain ⟨v, rfl⟩ : ∃ v : Nat, X = (v : Int) := ⟨X.toNat, by omega⟩
        by_cases hz : v = 0
        · subst hz
          refine (ar_angF3z u Y (by omega) (by omega) (by omega) w).mono ?_
          rintro e w' ⟨k, ex, d, rfl, hA, rfl⟩
          rw [hu, hA.eq 16200000]; exact ⟨rfl, d, rfl⟩
        · refine (ar_angF3 u v Y (-(v : Int)) (by omega) (by omega) (by omega) (by omega) (by omega) rfl w).mono ?_
          rintro e w' ⟨k, ex, d, rfl, hA, rfl⟩
          rw [hu, hA.eq 16200000]; exact ⟨rfl, d, rfl⟩
end Go.Proofs.YtkhhdpndcidmgaaGreat
