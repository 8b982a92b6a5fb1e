/- Contracts and plain laws, several texts in one: Lb2; Ns1; Fk1; Fk0; Fa4 -/
import GoSem.Core.Next
import Derived.Test.YtkhhdpndcidmgaaGreatProg
import Derived.WalkKit
import Derived.WalkSpells
import Derived.WalkLawsBesides
import Derived.Lib.Hide
import Derived.BigQuiet
import Derived.Test.YtkhhdpndcidmgaaGreatTAA
import Derived.Test.YtkhhdpndcidmgaaGreatTAD
import Derived.Test.YtkhhdpndcidmgaaGreatTAE
import Derived.Test.YtkhhdpndcidmgaaGreatTAF
import Derived.Test.YtkhhdpndcidmgaaGreatTAI
import Derived.Test.YtkhhdpndcidmgaaGreatTBB
import Derived.Test.YtkhhdpndcidmgaaGreatTBG
/- No small fraction is near to the quotient of two numbers: a check by Euclid's steps, and what it shows. No program in sight. -/
namespace Go.Proofs.YtkhhdpndcidmgaaGreat

section
variable {c1 s1 K B T : Nat}
end
end Go.Proofs.YtkhhdpndcidmgaaGreat
/- Sines by floored series at any scale, near to those by 22 terms; the sign of a cross product by them. No program in sight. -/
namespace Go.Proofs.YtkhhdpndcidmgaaGreat

structure MOk (M P Q : Nat) : Prop where
  pos : 0 < M
  fuel : M ≤ 2 ^ 200
  big : 1000000000000000000000 ≤ M
  p1 : P * Q ≤ piN
  p2 : piN ≤ (P + 1) * Q
  d : piD = Q * (M * 10800000)
  q : 0 < Q
def tM (P k : Nat) : Nat := k * P / 10800000
def sqM (M P k : Nat) : Nat := tM P k * tM P k / M
def sinM (M P k : Nat) : Int := altQ M (sqM M P k) 200 (tM P k) 2
def cosM (M P k : Nat) : Int := altQ M (sqM M P k) 200 M 1
section
variable {M P Q : Nat}
theorem MOk.rat (h : MOk M P Q) : (0 : Rat) < (M : Rat) := by exact_mod_cast h.pos
theorem MOk.inv (h : MOk M P Q) : 0 < 1 / (M : Rat) ∧ 1 / (M : Rat) ≤ 1 / 1000000000000000000000 := by
  have hM := h.rat
  have h2 : (1000000000000000000000 : Rat) ≤ (M : Rat) := by exact_mod_cast h.big
  have hi : 0 < 1 / (M : Rat) := by rw [Rat.div_def, Rat.one_mul]; exact Rat.inv_pos.2 hM
  refine ⟨hi, Rat.le_of_mul_le_mul_right (c := (M : Rat)) ?_ hM⟩
  rw [Rat.div_mul_cancel (by grind)]
  grind
theorem tM_near (h : MOk M P Q) {k : Nat} (hk : k ≤ 2700000) : Nr ((tM P k : Rat) / (M : Rat)) (xi k) (2 / (M : Rat)) := by
  have u1 := h.p1
  have u2 := h.p2
  have h1 := nfl (a := k * P) (K := 10800000) (by decide)
  change Nr ((tM P k : Nat) : Rat) _ _ at h1
  have hM := h.rat
  have hQ : (0 : Rat) < (Q : Rat) := by exact_mod_cast h.q
  have v1 : (P : Rat) * (Q : Rat) ≤ (piN : Rat) := by
    have := Rat.natCast_le_natCast.2 u1
    rw [Rat.natCast_mul] at this
    exact this
  have v2 : (piN : Rat) ≤ ((P : Rat) + 1) * (Q : Rat) := by
    have := Rat.natCast_le_natCast.2 u2
    rw [Rat.natCast_mul, Rat.natCast_add] at this
    exact this
  have hD : (piD : Rat) = (Q : Rat) * ((M : Rat) * 10800000) := by
    have : ((piD : Nat) : Rat) = ((Q * (M * 10800000) : Nat) : Rat) := by rw [← h.d]
    rw [this, Rat.natCast_mul, Rat.natCast_mul]
    rfl
  have hk2 : (k : Rat) ≤ 2700000 := by exact_mod_cast hk
  have hk0 : (0 : Rat) ≤ (k : Rat) := by exact_mod_cast Nat.zero_le k
  unfold xi
  rw [hD]
  rw [Rat.natCast_mul] at h1
  have hK : ((10800000 : Nat) : Rat) = 10800000 := rfl
  rw [hK] at h1
  have hN : ∃ t : Rat, (piN : Rat) = t * (Q : Rat) := ⟨(piN : Rat) / (Q : Rat), (Rat.div_mul_cancel (by grind)).symm⟩
  obtain ⟨N, hN⟩ := hN
  rw [hN] at v1 v2 ⊢
  have w1 : (P : Rat) ≤ N := Rat.le_of_mul_le_mul_right v1 hQ
  have w2 : N ≤ (P : Rat) + 1 := Rat.le_of_mul_le_mul_right v2 hQ
  clear v1 v2 u1 u2 hD hN
  generalize (P : Rat) = P' at *
  generalize ((tM P k : Nat) : Rat) = T at *
  generalize (M : Rat) = M' at *
  generalize (Q : Rat) = Q' at *
  obtain ⟨a1, a2⟩ := h1
  have hi : 0 < 1 / M' := by rw [Rat.div_def, Rat.one_mul]; exact Rat.inv_pos.2 hM
  have y1 := Rat.mul_le_mul_of_nonneg_left w1 hk0
  have y2 := Rat.mul_le_mul_of_nonneg_left w2 hk0
  have e1 : (k : Rat) * (N * Q' / (Q' * (M' * 10800000))) = (k : Rat) * N / 10800000 * (1 / M') := by grind
  have e2 : T / M' = T * (1 / M') := by grind
  have e3 : 2 / M' = 2 * (1 / M') := by grind
  rw [e1, e2, e3]
  have b1 : T ≤ (k : Rat) * N / 10800000 + 2 := by grind
  have b2 : (k : Rat) * N / 10800000 ≤ T + 2 := by grind
  have c1 := Rat.mul_le_mul_of_nonneg_right b1 (Rat.le_of_lt hi)
  have c2 := Rat.mul_le_mul_of_nonneg_right b2 (Rat.le_of_lt hi)
  constructor <;> grind
theorem sqM_near (h : MOk M P Q) {r : Nat} (hr : r ≤ 2700000) : sqM M P r ≤ M ∧ tM P r ≤ M ∧ Nr ((sqM M P r : Rat) / (M : Rat)) (xi r * xi r) (7 / (M : Rat)) ∧ (tM P r : Rat) / (M : Rat) ≤ 1 := by
  have hn := tM_near h hr
  have hx4 := xi_in (n := r) (by omega)
  obtain ⟨i0, i1⟩ := h.inv
  have hx1 : (tM P r : Rat) / (M : Rat) ≤ 1 := by
    obtain ⟨a, b⟩ := hn; grind
  have hx2 : tM P r ≤ M := by
    have h0 := h.rat
    have := Rat.mul_le_mul_of_nonneg_right hx1 (Rat.le_of_lt h0)
    rw [Rat.div_mul_cancel (by grind), Rat.one_mul] at this
    exact_mod_cast this
  have hg := nr_mulM (a := tM P r) (b := tM P r) h.pos
  have hx0 : 0 ≤ (tM P r : Rat) / (M : Rat) := nat0 h.pos
  have hp := hn.mul hn hx0 hx1 hx4.1 (show xi r ≤ 1 by grind)
  exact ⟨Nat.le_trans (mulM_le h.pos hx2) hx2, hx2, (hg.trans hp).le (by grind), hx1⟩
def tl50 : Rat := 1 / 100000000000000000000000000000000000000000000000000
theorem facU_tl {d : Nat} (h : 100000000000000000000000000000000000000000000000000 ≤ facT d 22) : 1 / (2 * (facT d 22 : Rat)) ≤ tl50 := by
  have h2 : (100000000000000000000000000000000000000000000000000 : Rat) ≤ (facT d 22 : Rat) := by exact_mod_cast h
  have h3 : (0 : Rat) < 2 * (facT d 22 : Rat) := by grind
  refine Rat.le_of_mul_le_mul_right (c := 2 * (facT d 22 : Rat)) ?_ h3
  rw [Rat.div_mul_cancel (by grind)]
  unfold tl50
  grind
theorem sinM_near (h : MOk M P Q) {r : Nat} (hr : r ≤ 2700000) : Nr ((sinM M P r : Rat) / (M : Rat)) (sinU r) (620 / (M : Rat) + tl50) := by
  obtain ⟨h1, h2, h3, h4⟩ := sqM_near h hr
  have hx4 := xi_in (n := r) (by omega)
  have hq := sq_in hx4
  have ha := altQ_ok h.pos h1 (f := 200) (t := tM P r) (d := 2) (by decide) (Nat.le_trans h2 h.fuel)
  obtain ⟨i0, i1⟩ := h.inv
  have hy0 : 0 ≤ (sqM M P r : Rat) / (M : Rat) := nat0 h.pos
  have hy1 : (sqM M P r : Rat) / (M : Rat) ≤ 1 := by obtain ⟨a, b⟩ := h3; grind
  have hx0 : 0 ≤ (tM P r : Rat) / (M : Rat) := nat0 h.pos
  have g1 := tay_arg hy0 hy1 hq.1 (by grind) h3 (m := 200) (d := 2) (by decide)
  have g2 := tay_more hq.1 (by grind) 178 (m := 22) (d := 2) (by decide)
  have g3 := (Nr.refl 1).sub (g1.trans g2)
  obtain ⟨t0, t1⟩ := tay_in hq.1 (by grind) (m := 22) (d := 2) (by decide)
  have g4 := (tM_near h hr).mul g3 hx0 h4 (show 0 ≤ 1 - tay (xi r * xi r) 2 22 by grind) (show 1 - tay (xi r * xi r) 2 22 ≤ 1 by grind)
  have hf := facU_tl (d := 2) (by decide +kernel)
  unfold sinU sinM
  refine (ha.trans g4).le ?_
  have e64 : ((200 : Nat) : Rat) = 200 := rfl
  rw [e64]
  unfold tl50 at *
  generalize (M : Rat) = M' at *
  grind
theorem cosM_near (h : MOk M P Q) {r : Nat} (hr : r ≤ 2700000) : Nr ((cosM M P r : Rat) / (M : Rat)) (cosU r) (620 / (M : Rat) + tl50) := by
  obtain ⟨h1, h2, h3, h4⟩ := sqM_near h hr
  have hx4 := xi_in (n := r) (by omega)
  have hq := sq_in hx4
  have ha := altQ_ok h.pos h1 (f := 200) (t := M) (d := 1) (by decide) h.fuel
  obtain ⟨i0, i1⟩ := h.inv
  have hy0 : 0 ≤ (sqM M P r : Rat) / (M : Rat) := nat0 h.pos
  have hy1 : (sqM M P r : Rat) / (M : Rat) ≤ 1 := by obtain ⟨a, b⟩ := h3; grind
  have g1 := tay_arg hy0 hy1 hq.1 (by grind) h3 (m := 200) (d := 1) (by decide)
  have g2 := tay_more hq.1 (by grind) 178 (m := 22) (d := 1) (by decide)
  have g3 := (Nr.refl 1).sub (g1.trans g2)
  have hf := facU_tl (d := 1) (by decide +kernel)
  have hmm : (M : Rat) / (M : Rat) = 1 := by have := h.rat; grind
  unfold cosU cosM
  rw [hmm, Rat.one_mul] at ha
  refine (ha.trans g3).le ?_
  have e64 : ((200 : Nat) : Rat) = 200 := rfl
  rw [e64]
  unfold tl50 at *
  generalize (M : Rat) = M' at *
  grind
def siM (M P k : Nat) : Int := if 2700000 < k then cosM M P (5400000 - k) else sinM M P k
def coM (M P k : Nat) : Int := if 2700000 < k then sinM M P (5400000 - k) else cosM M P k
def sU (k : Nat) : Rat := if 2700000 < k then cosU (5400000 - k) else sinU k
def cU (k : Nat) : Rat := if 2700000 < k then sinU (5400000 - k) else cosU k
theorem siM_A (k : Nat) : siM m192 piA k = siA k ∧ coM m192 piA k = coA k := ⟨rfl, rfl⟩
theorem siM_near (h : MOk M P Q) {k : Nat} (hk : k ≤ 5400000) : Nr ((siM M P k : Rat) / (M : Rat)) (sU k) (620 / (M : Rat) + tl50) ∧ Nr ((coM M P k : Rat) / (M : Rat)) (cU k) (620 / (M : Rat) + tl50) := by
  unfold siM coM sU cU
  by_cases c : 2700000 < k
  · rw [if_pos c, if_pos c, if_pos c, if_pos c]
    exact ⟨cosM_near h (by omega), sinM_near h (by omega)⟩
  · rw [if_neg c, if_neg c, if_neg c, if_neg c]
    exact ⟨sinM_near h (by omega), cosM_near h (by omega)⟩
end
theorem mok192 : MOk m192 piA 18446744073709551616 := ⟨m192_pos, m192_fuel, by decide +kernel, piA_ok.1, piA_ok.2, piD_at, by decide⟩
end Go.Proofs.YtkhhdpndcidmgaaGreat
/- Directions in order: the bisection grows with the direction; three points in a half-plane. No function of the program. -/
namespace Go.Proofs.YtkhhdpndcidmgaaGreat
open Go.RowKit

theorem le_cancel {a b u : Int} (hu : 0 < u) (h : a * u ≤ b * u) : a ≤ b := Int.le_of_mul_le_mul_right h hu
def qx (q u v : Int) : Int := if q = 0 then u else if q = 1 then -v else if q = 2 then -u else v
def qy (q u v : Int) : Int := if q = 0 then v else if q = 1 then u else if q = 2 then -v else -u
structure QuadP (X Y : Int) (q u v : Int) (k : Nat) : Prop where
  q0 : 0 ≤ q
  q3 : q ≤ 3
  u0 : 0 < u
  v0 : 0 ≤ v
  x : X = qx q u v
  y : Y = qy q u v
  kv : k = bisF u v 23 0 5400000
  ang : (angF X Y).1 = 5400000 * q + (k : Int)
theorem quad_ex {X Y : Int} (h : ¬ (X = 0 ∧ Y = 0)) : ∃ q u v k, QuadP X Y q u v k := by
  by_cases c0 : 0 < X ∧ 0 ≤ Y
  · exact ⟨0, X, Y, _, ⟨by decide, by decide, c0.1, c0.2, by simp [qx], by simp [qy], rfl, by unfold angF; rw [if_pos c0]; rfl⟩⟩
  · by_cases c1 : 0 < Y ∧ X ≤ 0
    · exact ⟨1, Y, -X, _, ⟨by decide, by decide, c1.1, by omega, by simp [qx], by simp [qy], rfl, by unfold angF; rw [if_neg c0, if_pos c1]; rfl⟩⟩
    · by_cases c2 : X < 0 ∧ Y ≤ 0
      · exact ⟨2, -X, -Y, _, ⟨by decide, by decide, by omega, by omega, by simp [qx], by simp [qy], rfl, by unfold angF; rw [if_neg c0, if_neg c1, if_pos c2]; rfl⟩⟩
      · exact ⟨3, -Y, X, _, ⟨by decide, by decide, by omega, by omega, by simp [qx], by simp [qy], rfl, by unfold angF; rw [if_neg c0, if_neg c1, if_neg c2]; rfl⟩⟩
theorem QuadP.lt {X Y q u v : Int} {k : Nat} (h : QuadP X Y q u v k) : k < 5400000 := by rw [h.kv]; exact bisF_lt (by decide)
def crs (X Y X' Y' : Int) : Int := X * Y' - Y * X'
theorem crs_trans {X Y X' Y' X'' Y'' α β : Int} (h1 : 0 < α * X + β * Y) (h2 : 0 < α * X' + β * Y') (h3 : 0 < α * X'' + β * Y'') (c1 : 0 ≤ crs X Y X' Y') (c2 : 0 ≤ crs X' Y' X'' Y'') : 0 ≤ crs X Y X'' Y'' := by
  have m1 := Int.mul_nonneg c1 (Int.le_of_lt h3)
  have m2 := Int.mul_nonneg c2 (Int.le_of_lt h1)
  have e : crs X Y X'' Y'' * (α * X' + β * Y') = crs X Y X' Y' * (α * X'' + β * Y'') + crs X' Y' X'' Y'' * (α * X + β * Y) := by unfold crs; grind
  refine le_cancel h2 ?_
  rw [Int.zero_mul, e]
  omega
end Go.Proofs.YtkhhdpndcidmgaaGreat
/- Corners of a box: the first, the last, all between. No function of the program. -/
namespace Go.Proofs.YtkhhdpndcidmgaaGreat
open Go.RowKit

theorem befB_crs {a b c d : Int} : befB a b c d = true ↔ 0 ≤ crs a b c d := by
  unfold befB crs
  rw [decide_eq_true_eq]
  omega
theorem befB_not {a b c d : Int} (h : befB a b c d = false) : 0 ≤ crs c d a b := by
  unfold befB at h
  rw [decide_eq_false_iff_not] at h
  unfold crs
  have e1 := Int.mul_comm c b
  have e2 := Int.mul_comm d a
  omega
theorem crs_self (a b : Int) : 0 ≤ crs a b a b := by unfold crs; have := Int.mul_comm a b; omega
section
variable {x0 x1 y0 y1 α β : Int}
theorem cor_in (hx : x0 ≤ x1) (hy : y0 ≤ y1) (j : Nat) : (x0 ≤ crX x0 x1 j ∧ crX x0 x1 j ≤ x1) ∧ (y0 ≤ crY y0 y1 j ∧ crY y0 y1 j ≤ y1) := by
  unfold crX crY
  constructor <;> split <;> omega
theorem fst_in (hx : x0 ≤ x1) (hy : y0 ≤ y1) (i : Nat) : (x0 ≤ (fstC x0 x1 y0 y1 i).1 ∧ (fstC x0 x1 y0 y1 i).1 ≤ x1) ∧ (y0 ≤ (fstC x0 x1 y0 y1 i).2 ∧ (fstC x0 x1 y0 y1 i).2 ≤ y1) := by
  obtain ⟨j, hj⟩ := fst_cor x0 x1 y0 y1 i
  rw [hj]
  exact cor_in hx hy j
theorem lst_in (hx : x0 ≤ x1) (hy : y0 ≤ y1) (i : Nat) : (x0 ≤ (lstC x0 x1 y0 y1 i).1 ∧ (lstC x0 x1 y0 y1 i).1 ≤ x1) ∧ (y0 ≤ (lstC x0 x1 y0 y1 i).2 ∧ (lstC x0 x1 y0 y1 i).2 ≤ y1) := by
  obtain ⟨j, hj⟩ := lst_cor x0 x1 y0 y1 i
  rw [hj]
  exact cor_in hx hy j
theorem fst_min (hx : x0 ≤ x1) (hy : y0 ≤ y1) (hp : ∀ X Y, x0 ≤ X → X ≤ x1 → y0 ≤ Y → Y ≤ y1 → 0 < α * X + β * Y) :
    ∀ i j, j < i → 0 ≤ crs (fstC x0 x1 y0 y1 i).1 (fstC x0 x1 y0 y1 i).2 (crX x0 x1 j) (crY y0 y1 j)
  | 0, j, h => absurd h (Nat.not_lt_zero j)
  | i + 1, j, h => by
    have ih := fst_min hx hy hp i
    obtain ⟨⟨c1, c2⟩, c3, c4⟩ := cor_in hx hy i
    obtain ⟨⟨d1, d2⟩, d3, d4⟩ := cor_in hx hy j
    obtain ⟨⟨f1, f2⟩, f3, f4⟩ := fst_in hx hy i
    have e : fstC x0 x1 y0 y1 (i + 1) = if befB (crX x0 x1 i) (crY y0 y1 i) (fstC x0 x1 y0 y1 i).1 (fstC x0 x1 y0 y1 i).2 = true then (crX x0 x1 i, crY y0 y1 i) else fstC x0 x1 y0 y1 i := rfl
    rw [e]
    by_cases hj : j < i
    · cases hb : befB (crX x0 x1 i) (crY y0 y1 i) (fstC x0 x1 y0 y1 i).1 (fstC x0 x1 y0 y1 i).2
      · rw [if_neg Bool.false_ne_true]; exact ih j hj
      · rw [if_pos rfl]
        exact crs_trans (hp _ _ c1 c2 c3 c4) (hp _ _ f1 f2 f3 f4) (hp _ _ d1 d2 d3 d4) (befB_crs.1 hb) (ih j hj)
    · obtain rfl : j = i := by omega
      cases hb : befB (crX x0 x1 j) (crY y0 y1 j) (fstC x0 x1 y0 y1 j).1 (fstC x0 x1 y0 y1 j).2
      · rw [if_neg Bool.false_ne_true]; exact befB_not hb
      · rw [if_pos rfl]; exact crs_self _ _
theorem lst_max (hx : x0 ≤ x1) (hy : y0 ≤ y1) (hp : ∀ X Y, x0 ≤ X → X ≤ x1 → y0 ≤ Y → Y ≤ y1 → 0 < α * X + β * Y) :
    ∀ i j, j < i → 0 ≤ crs (crX x0 x1 j) (crY y0 y1 j) (lstC x0 x1 y0 y1 i).1 (lstC x0 x1 y0 y1 i).2
  | 0, j, h => absurd h (Nat.not_lt_zero j)
  | i + 1, j, h => by
    have ih := lst_max hx hy hp i
    obtain ⟨⟨c1, c2⟩, c3, c4⟩ := cor_in hx hy i
    obtain ⟨⟨d1, d2⟩, d3, d4⟩ := cor_in hx hy j
    obtain ⟨⟨f1, f2⟩, f3, f4⟩ := lst_in hx hy i
    have e : lstC x0 x1 y0 y1 (i + 1) = if befB (lstC x0 x1 y0 y1 i).1 (lstC x0 x1 y0 y1 i).2 (crX x0 x1 i) (crY y0 y1 i) = true then (crX x0 x1 i, crY y0 y1 i) else lstC x0 x1 y0 y1 i := rfl
    rw [e]
    by_cases hj : j < i
    · cases hb : befB (lstC x0 x1 y0 y1 i).1 (lstC x0 x1 y0 y1 i).2 (crX x0 x1 i) (crY y0 y1 i)
      · rw [if_neg Bool.false_ne_true]; exact ih j hj
      · rw [if_pos rfl]
        exact crs_trans (hp _ _ d1 d2 d3 d4) (hp _ _ f1 f2 f3 f4) (hp _ _ c1 c2 c3 c4) (ih j hj) (befB_crs.1 hb)
    · obtain rfl : j = i := by omega
      cases hb : befB (lstC x0 x1 y0 y1 j).1 (lstC x0 x1 y0 y1 j).2 (crX x0 x1 j) (crY y0 y1 j)
      · rw [if_neg Bool.false_ne_true]; exact befB_not hb
      · rw [if_pos rfl]; exact crs_self _ _
theorem crs_anti (a b c d : Int) : crs a b c d = -(crs c d a b) := by unfold crs; have := Int.mul_comm a d; have := Int.mul_comm b c; omega
end
end Go.Proofs.YtkhhdpndcidmgaaGreat
/- arctrig: angle, as a function: two turns by a quarter. -/
namespace Go.Proofs.YtkhhdpndcidmgaaGreat
open Go.RowKit

set_option maxHeartbeats 4000000 in
set_option maxRecDepth 100000 in
theorem ar_angF2 (u v : Nat) (a b : Int) (hu0 : 0 < u) (hu : u ≤ 2147483648) (hv : v ≤ 2147483648) (ha : a = -(u : Int)) (hb : b = -(v : Int)) (w : World) :
    Calls Tryz.prog 73 #[.agg #[.int .i64 a, .int .i64 b]] w fun e w' => ∃ (k : Nat) (ex : Bool) (d : Ext), e = .returned (.tuple #[.int .i64 (10800000 + (k : Int)), .bool ex]) ∧ AngF u v k ex ∧ w' = bw w d := by
  have a3 : ¬ (0 : Int) < a := by omega
  have a4 : ¬ (0 : Int) < b := by omega
  have a5 : (0 : Int) < (u : Int) := by omega
  have a6 : (0 : Int) ≤ (v : Int) := by omega
  have k1 : IntKind.i64.wrap (-a) = (u : Int) := by rw [ha, Int.neg_neg]; exact IntWalk.i64_in _ (by omega)
  have k2 : IntKind.i64.wrap (-b) = (v : Int) := by rw [hb, Int.neg_neg]; exact IntWalk.i64_in _ (by omega)
  have t1 : IntKind.i64.wrap ((0 : Int) + 5400000) = 5400000 := by decide
  have t2 : IntKind.i64.wrap ((5400000 : Int) + 5400000) = 10800000 := by decide
  clear ha hb
  refine lay_start ?_
  go_enter Tryz.func73, Tryz.ntmps73
  go_wp2_with fail
  go_loopw [4] (fun v4 wr => (v4 = .int .i64 0 ∧ wr = lay w [.inl (.cells #[.int .i64 a, .int .i64 b] 116 (0, 0))]) ∨ (v4 = .int .i64 5400000 ∧ wr = lay w [.inl (.cells #[.int .i64 b, .int .i64 (u : Int)] 116 (0, 0))]) ∨ (v4 = .int .i64 10800000 ∧ wr = lay w [.inl (.cells #[.int .i64 (u : Int), .int .i64 (v : Int)] 116 (0, 0))])) (fun v4 _ => (21600000 - intOf v4).toNat)
  case atStart => exact .inl ⟨rfl, rfl⟩
  case round =>
    rcases hrel with ⟨rfl, rfl⟩ | ⟨rfl, rfl⟩ | ⟨rfl, rfl⟩
    · go_wp2_with fail
      exact ⟨.inr (.inl ⟨by first | rfl | decide, by first | rfl | trivial⟩), by first | decide | (simp only [intOf]; decide)⟩
    · go_wp2_with fail
      exact ⟨.inr (.inr ⟨by first | rfl | decide, by first | rfl | trivial⟩), by first | decide | (simp only [intOf]; decide)⟩
    · go_wp2_with fail
      go_loopw [5, 6] (fun v5 v6 wr => ∃ (l h : Nat) (dd : Ext), v5 = .int .i64 (l : Int) ∧ v6 = .int .i64 (h : Int) ∧ wr = lay w (.inr dd :: [.inl (.cells #[.int .i64 (u : Int), .int .i64 (v : Int)] 116 (0, 0))]) ∧ l < h ∧ h ≤ 5400000 ∧ ∃ f, h - l ≤ 2 ^ f ∧ bisF (u : Int) (v : Int) f l h = bisF (u : Int) (v : Int) 23 0 5400000) (fun v5 v6 _ => (intOf v6 - intOf v5).toNat)
      case atStart => exact ⟨0, 5400000, noExt _, rfl, rfl, (bw_noExt _).symm, by decide, by decide, 23, by decide, rfl⟩
      case round =>
        obtain ⟨l, h, dd, rfl, rfl, rfl, hlh, hh, f, hA, hB⟩ := hrel
        have HA := Lib.hid hA
        have HB2 := Lib.hid hB
        clear hA hB
        have k1 : IntKind.i64.wrap ((h : Int) - (l : Int)) = (h : Int) - (l : Int) := IntWalk.i64_in _ (by omega)
        by_cases c : (1 : Int) < (h : Int) - (l : Int)
        · obtain ⟨XQ, hXQ⟩ : ∃ XQ : Int, (l : Int) + (h : Int) = XQ := ⟨_, rfl⟩
          obtain ⟨m, hm⟩ : ∃ m : Nat, XQ.tdiv 2 = (m : Int) := ⟨(XQ.tdiv 2).toNat, by rw [Int.tdiv_eq_ediv_of_nonneg (by omega)]; omega⟩
          have k2 : IntKind.i64.wrap ((l : Int) + (h : Int)) = XQ := by rw [hXQ]; exact IntWalk.i64_in _ (by omega)
          have hmid : m = (l + h) / 2 := by rw [Int.tdiv_eq_ediv_of_nonneg (by omega)] at hm; omega
          obtain ⟨f', hf0, hf1⟩ := bisF_step (u := (u : Int)) (v := (v : Int)) hmid (by omega) HA.out
          rw [HB2.out] at hf0 hf1
          have HF0 := Lib.hid hf0
          have HF1 := Lib.hid hf1
          clear hmid hf0 hf1
          have hml : l < m ∧ m < h := by rw [Int.tdiv_eq_ediv_of_nonneg (by omega)] at hm; omega
          have k3 : IntKind.i64.wrap (m : Int) = (m : Int) := IntWalk.i64_in _ (by omega)
          have HBm := Lib.hid (fun W => ar_reaches u v m (by omega) (by omega) (by omega) W)
          have HLH := Lib.hid (And.intro hlh (And.intro hh hml))
          clear hXQ hlh hh hml
          cases cb : rchB (u : Int) (v : Int) m
          · rw [cb] at HBm
            have HC := Lib.hid cb
            clear cb
            go_wp2_with (go_at_call 108; refine (HBm.out _).mono ?_; rintro e w' ⟨rfl, d1, rfl⟩; rw [lay_bw])
            obtain ⟨g1, g2, g3, g4⟩ := HLH.out
            obtain ⟨de, hde⟩ := lay_fold w [.inr d1, .inr dd] [.inl (.cells #[.int .i64 (u : Int), .int .i64 (v : Int)] 116 (0, 0))]
            exact ⟨⟨_, _, de, rfl, rfl, hde, by omega, by omega, f', (HF0.out HC.out).1, (HF0.out HC.out).2⟩, by simp only [intOf]; omega⟩
          · rw [cb] at HBm
            have HC := Lib.hid cb
            clear cb
            go_wp2_with (go_at_call 108; refine (HBm.out _).mono ?_; rintro e w' ⟨rfl, d1, rfl⟩; rw [lay_bw])
            obtain ⟨g1, g2, g3, g4⟩ := HLH.out
            obtain ⟨de, hde⟩ := lay_fold w [.inr d1, .inr dd] [.inl (.cells #[.int .i64 (u : Int), .int .i64 (v : Int)] 116 (0, 0))]
            exact ⟨⟨_, _, de, rfl, rfl, hde, by omega, by omega, f', (HF1.out HC.out).1, (HF1.out HC.out).2⟩, by simp only [intOf]; omega⟩
        · have hhl : h = l + 1 := by omega
          have kT : IntKind.i64.wrap (10800000 + (l : Int)) = 10800000 + (l : Int) := IntWalk.i64_in _ (by omega)
          subst hhl
          have HAng : ∀ ex, ex = (decide (l = 0 ∧ (v : Int) = 0) || decide (l = 2700000 ∧ (u : Int) = (v : Int))) → AngF (u : Int) (v : Int) l ex := fun ex h => ⟨by omega, by have := HB2.out; rw [bisF_end] at this; exact this, h⟩
          have HAng := Lib.hid HAng
          have HL := Lib.hid (And.intro hlh hh)
          clear hlh hh HA HB2
          have kT0 : IntKind.i64.wrap (10800000 + (l : Int)) = (10800000 + (l : Int)) := by simpa using kT
          by_cases c1 : (l : Int) = 0
          · have n1 : ¬ (l : Int) = 2700000 := by omega
            have n2 : ¬ l = 2700000 := by omega
            by_cases c2 : (v : Int) = 0
            · have N : Hid (l = 0 ∧ (v : Int) = 0 ∧ ¬ l = 2700000 ∧ True) := Lib.hid ⟨by omega, c2, n2, trivial⟩
              go_wp2_with fail
              refine region_mixS 22 [(0, 0), (1, 0), (2, 0), (3, 0), (4, 0), (5, 0), (6, 0), (7, 0), (8, 0), (9, 0), (10, 0), (11, 0), (12, 0), (13, 0), (14, 0), (15, 0), (16, 0), (17, 0), (18, 0), (19, 0), (20, 0), (21, 0), (22, 3)] (by kernel_rfl) (by kernel_rfl) (by kernel_rfl) rfl ?_
              iterate 22 (refine wpMS_quiet rfl (fun K hK => ?_); go_simp; refine hK _ ?_; clear hK K)
              refine wpMS_store rfl (fun K hK e1 => ?_)
              rw [lay_bw]
              go_simp
              refine hK _ _ ?_
              clear hK K
              refine wpMS_nil (fun e2 => ?_)
              rw [lay_bw]
              go_wp2_with fail
              refine bodyPost_ret (v := .tuple #[.int .i64 10800000, .bool true]) (by simp [results, Tryz.results73, go_sem] <;> first | done | decide | exact kT0 | omega | (refine ⟨by first | decide | exact kT0, by omega⟩)) rfl ?_
              exact ⟨l, true, _, by first | rfl | (rw [c1]; done) | (rw [c1]; rfl) | (rw [c1]; simp), HAng.out _ (by have := N.out; simp_all <;> omega), (lay_ex _ _).choose_spec⟩
            · have c3 : ¬ v = 0 := by omega
              have N : Hid (l = 0 ∧ ¬ (v : Int) = 0 ∧ ¬ l = 2700000 ∧ True) := Lib.hid ⟨by omega, c2, n2, trivial⟩
              go_wp2_with fail
              refine region_mixS 22 [(0, 0), (1, 0), (2, 0), (3, 0), (4, 0), (5, 0), (6, 0), (7, 0), (8, 0), (9, 0), (10, 0), (11, 0), (12, 0), (13, 0), (14, 0), (15, 0), (16, 0), (17, 0), (18, 0), (19, 0), (20, 0), (21, 0), (22, 3)] (by kernel_rfl) (by kernel_rfl) (by kernel_rfl) rfl ?_
              iterate 22 (refine wpMS_quiet rfl (fun K hK => ?_); go_simp; refine hK _ ?_; clear hK K)
              refine wpMS_store rfl (fun K hK e1 => ?_)
              rw [lay_bw]
              go_simp
              refine hK _ _ ?_
              clear hK K
              refine wpMS_nil (fun e2 => ?_)
              rw [lay_bw]
              go_wp2_with fail
              refine bodyPost_ret (v := .tuple #[.int .i64 10800000, .bool false]) (by simp [results, Tryz.results73, go_sem] <;> first | done | decide | exact kT0 | omega | (refine ⟨by first | decide | exact kT0, by omega⟩)) rfl ?_
              exact ⟨l, false, _, by first | rfl | (rw [c1]; done) | (rw [c1]; rfl) | (rw [c1]; simp), HAng.out _ (by have := N.out; simp_all <;> omega), (lay_ex _ _).choose_spec⟩
          · have n1 : ¬ l = 0 := by omega
            by_cases c2 : l = 2700000
            · subst c2
              by_cases c3 : u = v
              · have c4 : (u : Int) = (v : Int) := by omega
                have N : Hid (True ∧ True ∧ True ∧ (u : Int) = (v : Int)) := Lib.hid ⟨trivial, trivial, trivial, c4⟩
                go_wp2_with fail
                refine region_mixS 22 [(0, 0), (1, 0), (2, 0), (3, 0), (4, 0), (5, 0), (6, 0), (7, 0), (8, 0), (9, 0), (10, 0), (11, 0), (12, 0), (13, 0), (14, 0), (15, 0), (16, 0), (17, 0), (18, 0), (19, 0), (20, 0), (21, 0), (22, 3)] (by kernel_rfl) (by kernel_rfl) (by kernel_rfl) rfl ?_
                iterate 22 (refine wpMS_quiet rfl (fun K hK => ?_); go_simp; refine hK _ ?_; clear hK K)
                refine wpMS_store rfl (fun K hK e1 => ?_)
                rw [lay_bw]
                go_simp
                refine hK _ _ ?_
                clear hK K
                refine wpMS_nil (fun e2 => ?_)
                rw [lay_bw]
                go_wp2_with fail
                refine bodyPost_ret (v := .tuple #[.int .i64 (10800000 + 2700000), .bool true]) (by simp [results, Tryz.results73, go_sem] <;> first | done | decide | exact kT0 | omega | (refine ⟨by first | decide | exact kT0, by omega⟩)) rfl ?_
                exact ⟨2700000, true, _, by first | rfl | (rw [c1]; done) | (rw [c1]; rfl) | (rw [c1]; simp), HAng.out _ (by have := N.out; simp_all <;> omega), (lay_ex _ _).choose_spec⟩
              · have c4 : ¬ (u : Int) = (v : Int) := by omega
                have N : Hid (True ∧ True ∧ True ∧ ¬ (u : Int) = (v : Int)) := Lib.hid ⟨trivial, trivial, trivial, c4⟩
                go_wp2_with fail
                refine region_mixS 22 [(0, 0), (1, 0), (2, 0), (3, 0), (4, 0), (5, 0), (6, 0), (7, 0), (8, 0), (9, 0), (10, 0), (11, 0), (12, 0), (13, 0), (14, 0), (15, 0), (16, 0), (17, 0), (18, 0), (19, 0), (20, 0), (21, 0), (22, 3)] (by kernel_rfl) (by kernel_rfl) (by kernel_rfl) rfl ?_
                iterate 22 (refine wpMS_quiet rfl (fun K hK => ?_); go_simp; refine hK _ ?_; clear hK K)
                refine wpMS_store rfl (fun K hK e1 => ?_)
                rw [lay_bw]
                go_simp
                refine hK _ _ ?_
                clear hK K
                refine wpMS_nil (fun e2 => ?_)
                rw [lay_bw]
                go_wp2_with fail
                refine bodyPost_ret (v := .tuple #[.int .i64 (10800000 + 2700000), .bool false]) (by simp [results, Tryz.results73, go_sem] <;> first | done | decide | exact kT0 | omega | (refine ⟨by first | decide | exact kT0, by omega⟩)) rfl ?_
                exact ⟨2700000, false, _, by first | rfl | (rw [c1]; done) | (rw [c1]; rfl) | (rw [c1]; simp), HAng.out _ (by have := N.out; simp_all <;> omega), (lay_ex _ _).choose_spec⟩
            · have c3 : ¬ (l : Int) = 2700000 := by omega
              have N : Hid (¬ l = 0 ∧ True ∧ ¬ l = 2700000 ∧ True) := Lib.hid ⟨n1, trivial, c2, trivial⟩
              go_wp2_with fail
              refine region_mixS 22 [(0, 0), (1, 0), (2, 0), (3, 0), (4, 0), (5, 0), (6, 0), (7, 0), (8, 0), (9, 0), (10, 0), (11, 0), (12, 0), (13, 0), (14, 0), (15, 0), (16, 0), (17, 0), (18, 0), (19, 0), (20, 0), (21, 0), (22, 3)] (by kernel_rfl) (by kernel_rfl) (by kernel_rfl) rfl ?_
              iterate 22 (refine wpMS_quiet rfl (fun K hK => ?_); go_simp; refine hK _ ?_; clear hK K)
              refine wpMS_store rfl (fun K hK e1 => ?_)
              rw [lay_bw]
              go_simp
              refine hK _ _ ?_
              clear hK K
              refine wpMS_nil (fun e2 => ?_)
              rw [lay_bw]
              go_wp2_with fail
              refine bodyPost_ret (v := .tuple #[.int .i64 (10800000 + (l : Int)), .bool false]) (by simp [results, Tryz.results73, go_sem] <;> first | done | decide | exact kT0 | omega | (refine ⟨by first | decide | exact kT0, by omega⟩)) rfl ?_
              exact ⟨l, false, _, by first | rfl | (rw [c1]; done) | (rw [c1]; rfl) | (rw [c1]; simp), HAng.out _ (by have := N.out; simp_all <;> omega), (lay_ex _ _).choose_spec⟩
end Go.Proofs.YtkhhdpndcidmgaaGreat
