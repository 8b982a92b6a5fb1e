/- Contracts and plain laws, several texts in one: Ru -/
import Derived.Test.YtmomoeagnkjbiaaGreatProg
import Derived.WalkKit
import Derived.WalkSpells
import Derived.WalkLawsBesides
import Derived.Lib.Hide
import Derived.BigQuiet
import Derived.Test.YtmomoeagnkjbiaaGreatBAA
import Derived.Test.YtmomoeagnkjbiaaGreatBAB
import Derived.Test.YtmomoeagnkjbiaaGreatBAR
/- The reference's sine: exact values. -/
namespace Go.Proofs.YtmomoeagnkjbiaaGreat
open Go.RowKit

theorem mod12 {n : Int} (h : n % 21600000 % 1800000 = 0) : ∃ k : Nat, k < 12 ∧ n % 21600000 = 1800000 * (k : Int) :=
  ⟨(n % 21600000 / 1800000).toNat, by omega, by omega⟩
set_option maxHeartbeats 4000000 in
set_option maxRecDepth 100000 in
theorem r6_Exact (n : Int) (w : World) :
    Calls Tryz.prog 180 #[.int .i64 n] w fun e w' => e = .returned (.tuple #[.int .i64 (if exaQ (foldT n) then bLo n else 0), .bool (exaQ (foldT n))]) ∧ ∃ d, w' = bw w d := by
  refine lay_start ?_
  have hc := tmod_turn n
  obtain ⟨t, ht⟩ : ∃ t, n.tmod 21600000 = t := ⟨_, rfl⟩
  rw [ht] at hc
  have kt : IntKind.i64.wrap t = t := IntWalk.i64_in _ (by omega)
  by_cases h0 : n % 21600000 % 1800000 = 0
  · obtain ⟨k, hk, hm⟩ := mod12 h0
    obtain ⟨v1, v2, v3⟩ := ex_val hk hm
    have hc2 : t = 1800000 * (k : Int) ∨ t = 1800000 * (k : Int) - 21600000 := by omega
    clear h0 hm hc
    generalize exaQ (foldT n) = x at *
    generalize bLo n = b at *
    obtain rfl | rfl | rfl | rfl | rfl | rfl | rfl | rfl | rfl | rfl | rfl | rfl : k = 0 ∨ k = 1 ∨ k = 2 ∨ k = 3 ∨ k = 4 ∨ k = 5 ∨ k = 6 ∨ k = 7 ∨ k = 8 ∨ k = 9 ∨ k = 10 ∨ k = 11 := by omega
    all_goals
      first
        | (obtain ⟨e1, e2⟩ := v1 rfl; simp only [Nat.reduceEqDiff, if_true, if_false] at e2; subst e1; subst e2)
        | (have e1 := v2 (.inl rfl); subst e1)
        | (have e1 := v2 (.inr rfl); subst e1)
        | (obtain ⟨e1, e2⟩ := v3 (.inl rfl); simp only [Nat.reduceLT, if_true, if_false] at e2; subst e1; subst e2)
        | (obtain ⟨e1, e2⟩ := v3 (.inr rfl); simp only [Nat.reduceLT, if_true, if_false] at e2; subst e1; subst e2)
      clear v1 v2 v3 hk
      simp at hc2
      rcases hc2 with rfl | rfl
      all_goals
        go_enter Tryz.func180, Tryz.ntmps180
        go_wp2_with fail
        go_ret2
        exact ⟨rfl, lay_ex _ _⟩
  · have hx := ex_not h0
    rw [hx]
    obtain ⟨m, hm⟩ : ∃ m, n % 21600000 = m := ⟨_, rfl⟩
    rw [hm] at hc h0
    have hm2 : 0 ≤ m ∧ m < 21600000 := by omega
    have e1 : m.tmod 1800000 = m % 1800000 := Int.tmod_eq_emod_of_nonneg hm2.1
    obtain ⟨u, hu⟩ : ∃ u, m % 1800000 = u := ⟨_, rfl⟩
    rw [hu] at e1 h0
    have ku : IntKind.i64.wrap u = u := IntWalk.i64_in _ (by omega)
    have z1 : (u != 0) = true := bne_iff_ne.2 h0
    have z2 : (u == 0) = false := beq_eq_false_iff_ne.2 h0
    rcases hc with hc | ⟨hc, hc2⟩
    · subst hc
      have h1 : ¬ t < 0 := by omega
      clear hx hm2 ku
      go_enter Tryz.func180, Tryz.ntmps180
      go_wp2_with fail
      go_ret2
      exact ⟨rfl, lay_ex _ _⟩
    · have km : IntKind.i64.wrap m = m := IntWalk.i64_in _ (by omega)
      clear hx hm2 ku
      go_enter Tryz.func180, Tryz.ntmps180
      go_wp2_with fail
      go_ret2
      exact ⟨rfl, lay_ex _ _⟩
end Go.Proofs.YtmomoeagnkjbiaaGreat
