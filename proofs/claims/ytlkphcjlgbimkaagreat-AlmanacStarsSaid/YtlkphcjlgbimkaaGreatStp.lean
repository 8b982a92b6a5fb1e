/- Plain law: a star goes with Aries, and is where it was after a sidereal day. No program in sight. -/
import Derived.Test.YtlkphcjlgbimkaaGreatAlm3
import Derived.Test.YtlkphcjlgbimkaaGreatAgr
namespace Go.Proofs.YtlkphcjlgbimkaaGreat

theorem fl_up {V u K T : Int} (hu : 0 < u) (h1 : K ≤ T * u) (h2 : T * u - u ≤ K) : V / u + T - 1 ≤ (V + K) / u ∧ (V + K) / u ≤ V / u + T := by
  have e1 : (V + T * u) / u = V / u + T := Int.add_mul_ediv_right V T (by omega)
  have e2 : (V + (T - 1) * u) / u = V / u + (T - 1) := Int.add_mul_ediv_right V (T - 1) (by omega)
  have k1 : (V + K) / u ≤ (V + T * u) / u := Int.ediv_le_ediv hu (by omega)
  have k2 : (V + (T - 1) * u) / u ≤ (V + K) / u := Int.ediv_le_ediv hu (by rw [Int.sub_mul]; omega)
  omega
theorem cl_up {V u K T : Int} (hu : 0 < u) (h1 : T * u ≤ K) (h2 : K ≤ T * u + u) : (-V) / u - T - 1 ≤ (-(V + K)) / u ∧ (-(V + K)) / u ≤ (-V) / u - T := by
  have e1 : (-V + (-T) * u) / u = -V / u + -T := Int.add_mul_ediv_right (-V) (-T) (by omega)
  have e2 : (-V + (-T - 1) * u) / u = -V / u + (-T - 1) := Int.add_mul_ediv_right (-V) (-T - 1) (by omega)
  have k1 : (-(V + K)) / u ≤ (-V + (-T) * u) / u := Int.ediv_le_ediv hu (by rw [Int.neg_mul]; omega)
  have k2 : (-V + (-T - 1) * u) / u ≤ (-(V + K)) / u := Int.ediv_le_ediv hu (by rw [Int.sub_mul, Int.neg_mul]; omega)
  omega
theorem cl_of {V u : Int} (hu : 0 < u) : (if 0 < V % u then V / u + 1 else V / u) = -((-V) / u) := by
  have h := Int.emod_add_mul_ediv V u
  have h0 := Int.emod_nonneg V (by omega : u ≠ 0)
  have h1 := Int.emod_lt_of_pos V hu
  split
  · have : (-V) / u = -(V / u) - 1 := by
      rw [Int.ediv_eq_iff_of_pos hu, Int.sub_mul, Int.neg_mul, Int.mul_comm (V / u) u]; omega
    omega
  · have : (-V) / u = -(V / u) := by
      rw [Int.ediv_eq_iff_of_pos hu, Int.neg_mul, Int.mul_comm (V / u) u]; omega
    omega
theorem ariU_eq (t : Int) : ariU t = 5998067 - (-(ariV t)) / 86400000000000 := by
  have h := cl_of (V := ariV t) (u := 86400000000000) (by decide)
  unfold ariU ariF ariR
  by_cases hp : 0 < ariV t % 86400000000000
  · rw [if_pos hp] at h ⊢; omega
  · rw [if_neg hp] at h ⊢; omega
theorem ari_next (t : Int) : ariF t + 21600000 - 1 ≤ ariF (t + 86164090) ∧ ariF (t + 86164090) ≤ ariF t + 21600000 ∧ ariU t + 21600000 ≤ ariU (t + 86164091) ∧ ariU (t + 86164091) ≤ ariU t + 21600000 + 1 := by
  have v0 : ariV (t + 86164090) = ariV t + 86164090 * 21659138841977 := by unfold ariV; rw [Int.add_mul]; omega
  have v1 : ariV (t + 86164091) = ariV t + 86164091 * 21659138841977 := by unfold ariV; rw [Int.add_mul]; omega
  rw [ariU_eq, ariU_eq, v1]
  unfold ariF
  rw [v0]
  have a := fl_up (V := ariV t) (u := 86400000000000) (K := 86164090 * 21659138841977) (T := 21600000) (by decide) (by decide) (by decide)
  have b := cl_up (V := ariV t) (u := 86400000000000) (K := 86164091 * 21659138841977) (T := 21600000) (by decide) (by decide) (by decide)
  obtain ⟨a1, a2⟩ := a
  obtain ⟨b1, b2⟩ := b
  generalize (ariV t + 86164090 * 21659138841977) / 86400000000000 = p at *
  generalize (-(ariV t + 86164091 * 21659138841977)) / 86400000000000 = q at *
  generalize ariV t / 86400000000000 = r at *
  generalize (-ariV t) / 86400000000000 = s at *
  omega
theorem ari_one (t : Int) : ariF t ≤ ariU t ∧ ariU t ≤ ariF t + 1 := by unfold ariU; split <;> omega
/-- The star at an instant. -/
theorem star_now (t sha : Int) :
    (∃ A W, 0 ≤ A ∧ A < 21600000 ∧ 0 ≤ W ∧ W ≤ 1 ∧ agL t t = A ∧ agH t t = A + W ∧ A = ariF t % 21600000 ∧ sgL t t sha = (A + (100 * sha - 50)) % 21600000 ∧ sgH t t sha = (A + (100 * sha - 50)) % 21600000 + W + 100) := by
  have := ari_one t
  have hA : agL t t = ariF t % 21600000 := by unfold agL turnLo; rw [if_neg (by omega)]
  have hH : agH t t = ariF t % 21600000 + (ariU t - ariF t) := by unfold agH turnHi; rw [if_neg (by omega)]
  refine ⟨ariF t % 21600000, ariU t - ariF t, by omega, by omega, by omega, by omega, hA, hH, rfl, ?_, ?_⟩
  · unfold sgL turnLo; rw [hA, hH, if_neg (by omega)]
  · unfold sgH turnHi; rw [hA, hH, if_neg (by omega)]; omega
theorem stars_go (t sha : Int) : agrB (sgL t t sha + -(agH t t)) (sgH t t sha + -(agL t t)) (100 * sha) (100 * sha) = true ∧ validB (sgL t t sha + -(agH t t)) (sgH t t sha + -(agL t t)) = true := by
  obtain ⟨A, W, a0, a1, w0, w1, e1, e2, e3, e4, e5⟩ := star_now t sha
  rw [e1, e2, e4, e5]
  clear e1 e2 e3 e4 e5
  constructor
  · unfold agrB
    rw [Bool.or_eq_true, decide_eq_true_eq, decide_eq_true_eq]
    left
    omega
  · rw [validB_iff]; omega
theorem stars_again (t sha : Int) : agrB (sgL t t sha) (sgH t t sha) (sgL (t + 86164090) (t + 86164091) sha) (sgH (t + 86164090) (t + 86164091) sha) = true := by
  obtain ⟨A, W, a0, a1, w0, w1, -, -, e3, e4, e5⟩ := star_now t sha
  obtain ⟨n1, n2, n3, n4⟩ := ari_next t
  have n5 := ari_one t
  have hA : agL (t + 86164090) (t + 86164091) = ariF (t + 86164090) % 21600000 := by unfold agL turnLo; rw [if_neg (by omega)]
  have hH : agH (t + 86164090) (t + 86164091) = ariF (t + 86164090) % 21600000 + (ariU (t + 86164091) - ariF (t + 86164090)) := by unfold agH turnHi; rw [if_neg (by omega)]
  have hl : sgL (t + 86164090) (t + 86164091) sha = (ariF (t + 86164090) % 21600000 + (100 * sha - 50)) % 21600000 := by unfold sgL turnLo; rw [hA, hH, if_neg (by omega)]
  have hh : sgH (t + 86164090) (t + 86164091) sha = (ariF (t + 86164090) % 21600000 + (100 * sha - 50)) % 21600000 + (ariU (t + 86164091) - ariF (t + 86164090)) + 100 := by unfold sgH turnHi; rw [hA, hH, if_neg (by omega)]; omega
  rw [hl, hh, e4, e5, e3]
  generalize ariF (t + 86164090) = F' at *
  generalize ariU (t + 86164091) = U' at *
  generalize ariF t = F at *
  generalize ariU t = U at *
  clear hl hh hA hH e4 e5 e3
  unfold agrB
  rw [Bool.or_eq_true, decide_eq_true_eq, decide_eq_true_eq]
  right
  omega
end Go.Proofs.YtlkphcjlgbimkaaGreat
