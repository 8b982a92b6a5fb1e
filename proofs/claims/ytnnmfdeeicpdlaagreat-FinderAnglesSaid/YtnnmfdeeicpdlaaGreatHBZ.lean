/- Contracts and plain laws, several texts in one: Ne5; Ne6 -/
import Derived.Test.YtnnmfdeeicpdlaaGreatProg
import Derived.WalkKit
import Derived.WalkSpells
import Derived.WalkLawsBesides
import Derived.Lib.Hide
import Derived.BigQuiet
import Derived.Test.YtnnmfdeeicpdlaaGreatHAC
import Derived.Test.YtnnmfdeeicpdlaaGreatHAD
import Derived.Test.YtnnmfdeeicpdlaaGreatHAE
import Derived.Test.YtnnmfdeeicpdlaaGreatHBM
import Derived.Test.YtnnmfdeeicpdlaaGreatHBW
import Derived.Test.YtnnmfdeeicpdlaaGreatHBX
/- The reference's choice of corners, and its arc: the program's. No walk. -/
namespace Go.Proofs.YtnnmfdeeicpdlaaGreat
open Go.RowKit

theorem befR_crs {a b c d : Int} : befR a b c d = true ↔ 0 < crs a b c d := by
  unfold befR crs
  rw [decide_eq_true_eq]
  omega
theorem befR_not {a b c d : Int} (h : befR a b c d = false) : 0 ≤ crs c d a b := by
  unfold befR at h
  rw [decide_eq_false_iff_not] at h
  unfold crs
  have e1 : d * a = a * d := Int.mul_comm _ _
  have e2 : c * b = b * c := Int.mul_comm _ _
  omega
def fstS (x0 x1 y0 y1 : Int) : Nat → Int × Int
  | 0 => (x0, y0)
  | i + 1 => if befR (crX x0 x1 (i + 1)) (crY y0 y1 (i + 1)) (fstS x0 x1 y0 y1 i).1 (fstS x0 x1 y0 y1 i).2 = true then (crX x0 x1 (i + 1), crY y0 y1 (i + 1)) else fstS x0 x1 y0 y1 i
def lstS (x0 x1 y0 y1 : Int) : Nat → Int × Int
  | 0 => (x0, y0)
  | i + 1 => if befR (lstS x0 x1 y0 y1 i).1 (lstS x0 x1 y0 y1 i).2 (crX x0 x1 (i + 1)) (crY y0 y1 (i + 1)) = true then (crX x0 x1 (i + 1), crY y0 y1 (i + 1)) else lstS x0 x1 y0 y1 i
theorem fstS_cor (x0 x1 y0 y1 : Int) : ∀ i, ∃ j, j ≤ i ∧ fstS x0 x1 y0 y1 i = (crX x0 x1 j, crY y0 y1 j)
  | 0 => ⟨0, Nat.le_refl _, rfl⟩
  | i + 1 => by
    unfold fstS
    split
    · exact ⟨i + 1, Nat.le_refl _, rfl⟩
    · obtain ⟨j, h1, h2⟩ := fstS_cor x0 x1 y0 y1 i
      exact ⟨j, by omega, h2⟩
theorem lstS_cor (x0 x1 y0 y1 : Int) : ∀ i, ∃ j, j ≤ i ∧ lstS x0 x1 y0 y1 i = (crX x0 x1 j, crY y0 y1 j)
  | 0 => ⟨0, Nat.le_refl _, rfl⟩
  | i + 1 => by
    unfold lstS
    split
    · exact ⟨i + 1, Nat.le_refl _, rfl⟩
    · obtain ⟨j, h1, h2⟩ := lstS_cor x0 x1 y0 y1 i
      exact ⟨j, by omega, h2⟩
section
variable {x0 x1 y0 y1 α β : Int}
theorem fstS_in (hx : x0 ≤ x1) (hy : y0 ≤ y1) (i : Nat) : (x0 ≤ (fstS x0 x1 y0 y1 i).1 ∧ (fstS x0 x1 y0 y1 i).1 ≤ x1) ∧ (y0 ≤ (fstS x0 x1 y0 y1 i).2 ∧ (fstS x0 x1 y0 y1 i).2 ≤ y1) := by
  obtain ⟨j, -, hj⟩ := fstS_cor x0 x1 y0 y1 i
  rw [hj]
  exact cor_in hx hy j
theorem lstS_in (hx : x0 ≤ x1) (hy : y0 ≤ y1) (i : Nat) : (x0 ≤ (lstS x0 x1 y0 y1 i).1 ∧ (lstS x0 x1 y0 y1 i).1 ≤ x1) ∧ (y0 ≤ (lstS x0 x1 y0 y1 i).2 ∧ (lstS x0 x1 y0 y1 i).2 ≤ y1) := by
  obtain ⟨j, -, hj⟩ := lstS_cor x0 x1 y0 y1 i
  rw [hj]
  exact cor_in hx hy j
theorem fstS_min (hx : x0 ≤ x1) (hy : y0 ≤ y1) (hp : ∀ X Y, x0 ≤ X → X ≤ x1 → y0 ≤ Y → Y ≤ y1 → 0 < α * X + β * Y) :
    ∀ i j, j ≤ i → 0 ≤ crs (fstS x0 x1 y0 y1 i).1 (fstS x0 x1 y0 y1 i).2 (crX x0 x1 j) (crY y0 y1 j)
  | 0, j, h => by
    obtain rfl : j = 0 := by omega
    exact crs_self _ _
  | i + 1, j, h => by
    have ih := fstS_min hx hy hp i
    obtain ⟨⟨c1, c2⟩, c3, c4⟩ := cor_in hx hy (i + 1)
    obtain ⟨⟨d1, d2⟩, d3, d4⟩ := cor_in hx hy j
    obtain ⟨⟨f1, f2⟩, f3, f4⟩ := fstS_in hx hy i
    have e : fstS x0 x1 y0 y1 (i + 1) = if befR (crX x0 x1 (i + 1)) (crY y0 y1 (i + 1)) (fstS x0 x1 y0 y1 i).1 (fstS x0 x1 y0 y1 i).2 = true then (crX x0 x1 (i + 1), crY y0 y1 (i + 1)) else fstS x0 x1 y0 y1 i := rfl
    rw [e]
    by_cases hj : j ≤ i
    · cases hb : befR (crX x0 x1 (i + 1)) (crY y0 y1 (i + 1)) (fstS x0 x1 y0 y1 i).1 (fstS x0 x1 y0 y1 i).2
      · rw [if_neg Bool.false_ne_true]; exact ih j hj
      · rw [if_pos rfl]
        exact crs_trans (hp _ _ c1 c2 c3 c4) (hp _ _ f1 f2 f3 f4) (hp _ _ d1 d2 d3 d4) (Int.le_of_lt (befR_crs.1 hb)) (ih j hj)
    · obtain rfl : j = i + 1 := by omega
      cases hb : befR (crX x0 x1 (i + 1)) (crY y0 y1 (i + 1)) (fstS x0 x1 y0 y1 i).1 (fstS x0 x1 y0 y1 i).2
      · rw [if_neg Bool.false_ne_true]; exact befR_not hb
      · rw [if_pos rfl]; exact crs_self _ _
theorem lstS_max (hx : x0 ≤ x1) (hy : y0 ≤ y1) (hp : ∀ X Y, x0 ≤ X → X ≤ x1 → y0 ≤ Y → Y ≤ y1 → 0 < α * X + β * Y) :
    ∀ i j, j ≤ i → 0 ≤ crs (crX x0 x1 j) (crY y0 y1 j) (lstS x0 x1 y0 y1 i).1 (lstS x0 x1 y0 y1 i).2
  | 0, j, h => by
    obtain rfl : j = 0 := by omega
    exact crs_self _ _
  | i + 1, j, h => by
    have ih := lstS_max hx hy hp i
    obtain ⟨⟨c1, c2⟩, c3, c4⟩ := cor_in hx hy (i + 1)
    obtain ⟨⟨d1, d2⟩, d3, d4⟩ := cor_in hx hy j
    obtain ⟨⟨f1, f2⟩, f3, f4⟩ := lstS_in hx hy i
    have e : lstS x0 x1 y0 y1 (i + 1) = if befR (lstS x0 x1 y0 y1 i).1 (lstS x0 x1 y0 y1 i).2 (crX x0 x1 (i + 1)) (crY y0 y1 (i + 1)) = true then (crX x0 x1 (i + 1), crY y0 y1 (i + 1)) else lstS x0 x1 y0 y1 i := rfl
    rw [e]
    by_cases hj : j ≤ i
    · cases hb : befR (lstS x0 x1 y0 y1 i).1 (lstS x0 x1 y0 y1 i).2 (crX x0 x1 (i + 1)) (crY y0 y1 (i + 1))
      · rw [if_neg Bool.false_ne_true]; exact ih j hj
      · rw [if_pos rfl]
        exact crs_trans (hp _ _ d1 d2 d3 d4) (hp _ _ f1 f2 f3 f4) (hp _ _ c1 c2 c3 c4) (ih j hj) (Int.le_of_lt (befR_crs.1 hb))
    · obtain rfl : j = i + 1 := by omega
      cases hb : befR (lstS x0 x1 y0 y1 i).1 (lstS x0 x1 y0 y1 i).2 (crX x0 x1 (i + 1)) (crY y0 y1 (i + 1))
      · rw [if_neg Bool.false_ne_true]; exact befR_not hb
      · rw [if_pos rfl]; exact crs_self _ _
end
theorem quad_ex2 {X Y : Int} (h : ¬ (X = 0 ∧ Y = 0)) : ∃ q u v k, QuadP X Y q u v k ∧ (angF X Y).2 = exF u v k := by
  by_cases c0 : 0 < X ∧ 0 ≤ Y
  · exact ⟨0, X, Y, _, ⟨by decide, by decide, c0.1, c0.2, by simp [qx], by simp [qy], rfl, by unfold angF; rw [if_pos c0]; rfl⟩, by unfold angF; rw [if_pos c0]; rfl⟩
  · by_cases c1 : 0 < Y ∧ X ≤ 0
    · exact ⟨1, Y, -X, _, ⟨by decide, by decide, c1.1, by omega, by simp [qx], by simp [qy], rfl, by unfold angF; rw [if_neg c0, if_pos c1]; rfl⟩, by unfold angF; rw [if_neg c0, if_pos c1]; rfl⟩
    · by_cases c2 : X < 0 ∧ Y ≤ 0
      · exact ⟨2, -X, -Y, _, ⟨by decide, by decide, by omega, by omega, by simp [qx], by simp [qy], rfl, by unfold angF; rw [if_neg c0, if_neg c1, if_pos c2]; rfl⟩, by unfold angF; rw [if_neg c0, if_neg c1, if_pos c2]; rfl⟩
      · exact ⟨3, -Y, X, _, ⟨by decide, by decide, by omega, by omega, by simp [qx], by simp [qy], rfl, by unfold angF; rw [if_neg c0, if_neg c1, if_neg c2]; rfl⟩, by unfold angF; rw [if_neg c0, if_neg c1, if_neg c2]; rfl⟩
theorem ang_same {X Y X' Y' α β : Int} (h1 : 0 < α * X + β * Y) (h2 : 0 < α * X' + β * Y') (c1 : 0 ≤ crs X Y X' Y') (c2 : 0 ≤ crs X' Y' X Y) : angF X Y = angF X' Y' := by
  have c0 : crs X Y X' Y' = 0 := by
    have := crs_anti X Y X' Y'
    omega
  obtain ⟨q, a, b, k, P, e1⟩ := quad_ex2 (X := X) (Y := Y) (by rintro ⟨rfl, rfl⟩; simp at h1)
  obtain ⟨q', c, d, k', P', e2⟩ := quad_ex2 (X := X') (Y := Y') (by rintro ⟨rfl, rfl⟩; simp at h2)
  obtain ⟨r0, r1, r2, r3⟩ := crs_quad P P'
  have a0 := P.u0
  have b0 := P.v0
  have c0' := P'.u0
  have d0 := P'.v0
  have p1 := Int.mul_pos a0 c0'
  have p2 := Int.mul_nonneg b0 d0
  have n1 : (q' - q) % 4 ≠ 3 := fun h => by have := r3 h; omega
  have n2 : (q' - q) % 4 ≠ 1 := fun h => by have := r1 h; omega
  have hq : q = 0 ∨ q = 1 ∨ q = 2 ∨ q = 3 := by have := P.q0; have := P.q3; omega
  have n3 : (q' - q) % 4 ≠ 2 := fun h => by
    have hz : a * d = b * c := by have := r2 h; omega
    have hsum : c * (α * X + β * Y) + a * (α * X' + β * Y') = 0 := by
      have hx := P.x
      have hy := P.y
      have gx := P'.x
      have gy := P'.y
      have gq : q' = 0 ∨ q' = 1 ∨ q' = 2 ∨ q' = 3 := by have := P'.q0; have := P'.q3; omega
      clear P P' e1 e2 r0 r1 r2 r3 c1 c2 c0 n1 n2 h1 h2 p1 p2
      rcases hq with rfl | rfl | rfl | rfl <;> rcases gq with rfl | rfl | rfl | rfl
      all_goals
        first
          | (exfalso; revert h; decide)
          | (simp only [qx, qy, Int.reduceEq, ↓reduceIte] at hx hy gx gy
             subst hx hy gx gy
             grind)
    have u1 := Int.mul_pos c0' h1
    have u2 := Int.mul_pos a0 h2
    omega
  have hD : (q' - q) % 4 = 0 := by omega
  have hqq : q' = q := by have := P.q0; have := P.q3; have := P'.q0; have := P'.q3; omega
  have hz : a * d = b * c := by have := r0 hD; omega
  have k1 := same_quad a0 c0' P.kv P'.kv (by have e1 : d * a = a * d := Int.mul_comm _ _; omega)
  have k2 := same_quad c0' a0 P'.kv P.kv (by have e1 : d * a = a * d := Int.mul_comm _ _; omega)
  have hk : k' = k := by omega
  have hex : exF a b k = exF c d k' := by
    rw [hk]
    unfold exF
    have t1 : b = 0 ↔ d = 0 := by
      constructor
      · rintro rfl
        rw [Int.zero_mul] at hz
        rcases Int.mul_eq_zero.1 hz with h | h
        · omega
        · exact h
      · rintro rfl
        rw [Int.mul_zero] at hz
        rcases Int.mul_eq_zero.1 hz.symm with h | h
        · exact h
        · omega
    have t2 : a = b ↔ c = d := by
      constructor
      · rintro rfl
        exact (Int.eq_of_mul_eq_mul_left (by omega) hz).symm
      · rintro rfl
        exact Int.eq_of_mul_eq_mul_right (by omega) hz
    rw [decide_eq_decide.2 (show (k = 0 ∧ b = 0) ↔ (k = 0 ∧ d = 0) by rw [t1]), decide_eq_decide.2 (show (k = 2700000 ∧ a = b) ↔ (k = 2700000 ∧ c = d) by rw [t2])]
  refine Prod.ext ?_ ?_
  · rw [P.ang, P'.ang, hqq, hk]
  · rw [e1, e2, hex]
def refB (a c : Int × Int) : Int × Int := ((angF a.1 a.2).1, if (angF c.1 c.2).1 + (if (angF c.1 c.2).2 = true then 0 else 1) < (angF a.1 a.2).1 then (angF c.1 c.2).1 + (if (angF c.1 c.2).2 = true then 0 else 1) + 21600000 else (angF c.1 c.2).1 + (if (angF c.1 c.2).2 = true then 0 else 1))
theorem ang_next {X Y X' Y' α β : Int} (h1 : 0 < α * X + β * Y) (h2 : 0 < α * X' + β * Y') (c1 : 0 ≤ crs X Y X' Y') : (angF X' Y').1 + 1 ≠ (angF X Y).1 := by
  obtain ⟨q, a, b, k, P⟩ := quad_ex (X := X) (Y := Y) (by rintro ⟨rfl, rfl⟩; simp at h1)
  obtain ⟨q', c, d, k', P'⟩ := quad_ex (X := X') (Y := Y') (by rintro ⟨rfl, rfl⟩; simp at h2)
  obtain ⟨r0, r1, r2, r3⟩ := crs_quad P P'
  have a0 := P.u0
  have b0 := P.v0
  have c0' := P'.u0
  have d0 := P'.v0
  have p1 := Int.mul_pos a0 c0'
  have p2 := Int.mul_nonneg b0 d0
  have l1 := P.lt
  have l2 := P'.lt
  have n1 : (q' - q) % 4 ≠ 3 := fun h => by have := r3 h; omega
  have k1 : (q' - q) % 4 = 0 → k ≤ k' := fun h => same_quad a0 c0' P.kv P'.kv (by have := r0 h; have e1 : d * a = a * d := Int.mul_comm _ _; omega)
  rw [P.ang, P'.ang]
  have := P.q0
  have := P.q3
  have := P'.q0
  have := P'.q3
  clear r0 r1 r2 r3 p1 p2 P P'
  omega
theorem ref_br {x0 x1 y0 y1 : Int} (hx : x0 ≤ x1) (hy : y0 ≤ y1) (hn : ¬ oriB x0 x1 y0 y1) : refB (fstS x0 x1 y0 y1 3) (lstS x0 x1 y0 y1 3) = brF x0 x1 y0 y1 := by
  obtain ⟨α, β, hp⟩ := box_half hn
  have e1 : angF (fstS x0 x1 y0 y1 3).1 (fstS x0 x1 y0 y1 3).2 = angF (fstC x0 x1 y0 y1 4).1 (fstC x0 x1 y0 y1 4).2 := by
    obtain ⟨⟨f1, f2⟩, f3, f4⟩ := fstS_in hx hy 3
    obtain ⟨⟨g1, g2⟩, g3, g4⟩ := fst_in hx hy 4
    refine ang_same (hp _ _ f1 f2 f3 f4) (hp _ _ g1 g2 g3 g4) ?_ ?_
    · exact crs_box (fun j hj => fstS_min hx hy hp 3 j (by omega)) g1 g2 g3 g4
    · exact crs_box (fun j hj => fst_min hx hy hp 4 j hj) f1 f2 f3 f4
  have e2 : angF (lstS x0 x1 y0 y1 3).1 (lstS x0 x1 y0 y1 3).2 = angF (lstC x0 x1 y0 y1 4).1 (lstC x0 x1 y0 y1 4).2 := by
    obtain ⟨⟨f1, f2⟩, f3, f4⟩ := lstS_in hx hy 3
    obtain ⟨⟨g1, g2⟩, g3, g4⟩ := lst_in hx hy 4
    refine ang_same (hp _ _ f1 f2 f3 f4) (hp _ _ g1 g2 g3 g4) ?_ ?_
    · exact crs_box' (fun j hj => lst_max hx hy hp 4 j hj) f1 f2 f3 f4
    · exact crs_box' (fun j hj => lstS_max hx hy hp 3 j (by omega)) g1 g2 g3 g4
  have e3 : (angF (lstC x0 x1 y0 y1 4).1 (lstC x0 x1 y0 y1 4).2).1 + 1 ≠ (angF (fstC x0 x1 y0 y1 4).1 (fstC x0 x1 y0 y1 4).2).1 := by
    obtain ⟨⟨f1, f2⟩, f3, f4⟩ := lst_in hx hy 4
    obtain ⟨⟨g1, g2⟩, g3, g4⟩ := fst_in hx hy 4
    exact ang_next (hp _ _ g1 g2 g3 g4) (hp _ _ f1 f2 f3 f4) (crs_box (fun j hj => fst_min hx hy hp 4 j hj) f1 f2 f3 f4)
  unfold brF refB brG
  rw [if_neg hn, e1, e2]
  refine Prod.ext rfl ?_
  dsimp only
  generalize (angF (lstC x0 x1 y0 y1 4).1 (lstC x0 x1 y0 y1 4).2).2 = ex at *
  generalize (angF (lstC x0 x1 y0 y1 4).1 (lstC x0 x1 y0 y1 4).2).1 = s at *
  generalize (angF (fstC x0 x1 y0 y1 4).1 (fstC x0 x1 y0 y1 4).2).1 = m at *
  cases ex
  · rw [if_neg Bool.false_ne_true]
    split <;> split <;> omega
  · rw [if_pos rfl]
    split <;> split <;> omega
end Go.Proofs.YtnnmfdeeicpdlaaGreat
/- The reference's Origin and Bearing. -/
namespace Go.Proofs.YtnnmfdeeicpdlaaGreat
set_option maxHeartbeats 4000000
open Go.RowKit

theorem r7_Origin (y0 y1 x0 x1 : Int) (w : World) :
    Calls Tryz.prog 124 #[(.agg #[.int .i64 (y0), .int .i64 (y1)]), (.agg #[.int .i64 (x0), .int .i64 (x1)])] w fun e w' => e = .returned (.bool (decide (oriB x0 x1 y0 y1))) ∧ ∃ d, w' = bw w d := by
  by_cases h : oriB x0 x1 y0 y1
  · rw [decide_eq_true h]
    obtain ⟨a, b, c, d⟩ := h
    have t1 : decide (y0 ≤ 0) = true := decide_eq_true c
    have t2 : decide (0 ≤ y1) = true := decide_eq_true d
    have t3 : decide (x0 ≤ 0) = true := decide_eq_true a
    have t4 : decide (0 ≤ x1) = true := decide_eq_true b
    clear a b c d
    refine lay_start ?_
    go_enter Tryz.func124, Tryz.ntmps124
    go_wp2
    go_ret
    exact ⟨rfl, lay_ex _ _⟩
  · rw [decide_eq_false h]
    unfold oriB at h
    refine lay_start ?_
    go_enter Tryz.func124, Tryz.ntmps124
    go_wp2
    all_goals first | (exfalso; omega) | (go_ret; exact ⟨rfl, lay_ex _ _⟩) | (go_ret; exact ⟨by simp; omega, lay_ex _ _⟩)
theorem lay_join3 {w : World} {T : List (Obj ⊕ Ext)} (a b c : Ext) : ∃ z, Go.Proofs.YtnnmfdeeicpdlaaGreat.lay w (.inr a :: .inr b :: .inr c :: T) = Go.Proofs.YtnnmfdeeicpdlaaGreat.lay w (.inr z :: T) := by
  obtain ⟨z1, h1⟩ : ∃ z, Go.Proofs.YtnnmfdeeicpdlaaGreat.lay w (.inr b :: .inr c :: T) = Go.Proofs.YtnnmfdeeicpdlaaGreat.lay w (.inr z :: T) := ⟨_, bw_bw _ _ _⟩
  exact ⟨_, (congrArg (fun W => bw W a) h1).trans (bw_bw _ _ _)⟩
theorem fstS_bd {x0 x1 y0 y1 : Int} (X0 : Bd31 x0) (X1 : Bd31 x1) (Y0 : Bd31 y0) (Y1 : Bd31 y1) (hx : x0 ≤ x1) (hy : y0 ≤ y1) (hn : ¬ oriB x0 x1 y0 y1) {i : Nat} {a b : Int} (e : fstS x0 x1 y0 y1 i = (a, b)) : Bd31 a ∧ Bd31 b ∧ ¬ (a = 0 ∧ b = 0) := by
  obtain ⟨j, -, hj⟩ := fstS_cor x0 x1 y0 y1 i
  rw [e, Prod.mk.injEq] at hj
  obtain ⟨rfl, rfl⟩ := hj
  exact ⟨crX_bd X0 X1 _, crY_bd Y0 Y1 _, cor_ne hx hy hn _⟩
theorem lstS_bd {x0 x1 y0 y1 : Int} (X0 : Bd31 x0) (X1 : Bd31 x1) (Y0 : Bd31 y0) (Y1 : Bd31 y1) (hx : x0 ≤ x1) (hy : y0 ≤ y1) (hn : ¬ oriB x0 x1 y0 y1) {i : Nat} {a b : Int} (e : lstS x0 x1 y0 y1 i = (a, b)) : Bd31 a ∧ Bd31 b ∧ ¬ (a = 0 ∧ b = 0) := by
  obtain ⟨j, -, hj⟩ := lstS_cor x0 x1 y0 y1 i
  rw [e, Prod.mk.injEq] at hj
  obtain ⟨rfl, rfl⟩ := hj
  exact ⟨crX_bd X0 X1 _, crY_bd Y0 Y1 _, cor_ne hx hy hn _⟩
theorem fstS_next {x0 x1 y0 y1 : Int} {i : Nat} {a b : Int} (p q : Int) (e : fstS x0 x1 y0 y1 i = (a, b)) (hp : crX x0 x1 (i + 1) = p) (hq : crY y0 y1 (i + 1) = q) : fstS x0 x1 y0 y1 (i + 1) = if befR p q a b = true then (p, q) else (a, b) := by
  show (if befR (crX x0 x1 (i + 1)) (crY y0 y1 (i + 1)) (fstS x0 x1 y0 y1 i).1 (fstS x0 x1 y0 y1 i).2 = true then (crX x0 x1 (i + 1), crY y0 y1 (i + 1)) else fstS x0 x1 y0 y1 i) = _
  rw [e, hp, hq]
theorem lstS_next {x0 x1 y0 y1 : Int} {i : Nat} {a b : Int} (p q : Int) (e : lstS x0 x1 y0 y1 i = (a, b)) (hp : crX x0 x1 (i + 1) = p) (hq : crY y0 y1 (i + 1) = q) : lstS x0 x1 y0 y1 (i + 1) = if befR a b p q = true then (p, q) else (a, b) := by
  show (if befR (lstS x0 x1 y0 y1 i).1 (lstS x0 x1 y0 y1 i).2 (crX x0 x1 (i + 1)) (crY y0 y1 (i + 1)) = true then (crX x0 x1 (i + 1), crY y0 y1 (i + 1)) else lstS x0 x1 y0 y1 i) = _
  rw [e, hp, hq]
set_option maxRecDepth 100000 in
theorem r7_BearG (y0 y1 x0 x1 : Int) (hy : fxB y0 y1 = true) (hx : fxB x0 x1 = true) (w : World) :
    Calls Tryz.prog 52 #[(.agg #[.int .i64 (y0), .int .i64 (y1)]), (.agg #[.int .i64 (x0), .int .i64 (x1)])] w fun e w' => e = .returned (.tuple #[(.agg #[.int .i64 ((brF x0 x1 y0 y1).1), .int .i64 ((brF x0 x1 y0 y1).2)]), .int .i64 0]) ∧ ∃ d, w' = bw w d := by
  have HV1 := Lib.hid (fun W => r7_Valid y0 y1 W)
  have HV2 := Lib.hid (fun W => r7_Valid x0 x1 W)
  rw [hy] at HV1
  rw [hx] at HV2
  have HO := Lib.hid (fun W => r7_Origin y0 y1 x0 x1 W)
  obtain ⟨x01, xb0, xb1⟩ := fxB_iff.1 hx
  obtain ⟨y01, yb0, yb1⟩ := fxB_iff.1 hy
  by_cases h : oriB x0 x1 y0 y1
  · rw [decide_eq_true h] at HO
    rw [show brF x0 x1 y0 y1 = (0, 21600000) from if_pos h]
    clear h xb0 xb1 yb0 yb1 x01 y01 hx hy
    refine lay_start ?_
    go_enter Tryz.func52, Tryz.ntmps52
    go_wp2_with (first | (go_at_call 123; first | ((with_reducible refine (HV1.out _).mono ?_); rintro e w' ⟨rfl, d1, rfl⟩; rw [lay_bw]) | ((with_reducible refine (HV2.out _).mono ?_); rintro e w' ⟨rfl, d2, rfl⟩; rw [lay_bw])) | (go_at_call 124; refine (HO.out _).mono ?_; rintro e w' ⟨rfl, d3, rfl⟩; rw [lay_bw]))
    exact bodyPost_ret (v := .tuple #[(.agg #[.int .i64 (0), .int .i64 (21600000)]), .int .i64 0]) (by simp [results, Tryz.results52, go_sem]) rfl ⟨rfl, lay_ex _ _⟩
  · rw [decide_eq_false h] at HO
    rw [← ref_br x01 y01 h]
    have X0 : Bd31 x0 := ⟨by omega, by omega⟩
    have X1 : Bd31 x1 := ⟨by omega, by omega⟩
    have Y0 : Bd31 y0 := ⟨by omega, by omega⟩
    have Y1 : Bd31 y1 := ⟨by omega, by omega⟩
    have HBef := Lib.hid (fun a b c d W ha hb hc hd => r7_before a b c d W ha hb hc hd)
    have HAn := Lib.hid (fun X Y W hX hY hn => r7_Angle X Y W hX hY hn)
    have HFb := Lib.hid (fun i a b (e : fstS x0 x1 y0 y1 i = (a, b)) => fstS_bd X0 X1 Y0 Y1 x01 y01 h e)
    have HLb := Lib.hid (fun i a b (e : lstS x0 x1 y0 y1 i = (a, b)) => lstS_bd X0 X1 Y0 Y1 x01 y01 h e)
    have HXY := Lib.hid (And.intro X0 (And.intro X1 (And.intro Y0 Y1)))
    obtain ⟨RB, hRB⟩ : ∃ RB, refB (fstS x0 x1 y0 y1 3) (lstS x0 x1 y0 y1 3) = RB := ⟨_, rfl⟩
    rw [hRB]
    have HRB := Lib.hid hRB
    clear hRB X0 X1 Y0 Y1 h xb0 xb1 yb0 yb1 x01 y01 hx hy
    refine lay_start ?_
    go_enter Tryz.func52, Tryz.ntmps52
    go_wp2_with (first | (go_at_call 123; first | ((with_reducible refine (HV1.out _).mono ?_); rintro e w' ⟨rfl, d1, rfl⟩; rw [lay_bw]) | ((with_reducible refine (HV2.out _).mono ?_); rintro e w' ⟨rfl, d2, rfl⟩; rw [lay_bw])) | (go_at_call 124; refine (HO.out _).mono ?_; rintro e w' ⟨rfl, d3, rfl⟩; rw [lay_bw]))
    go_loopw [9] (fun v9 wr => ∃ (i : Nat) (a b c g : Int) (dd : Ext), i ≤ 3 ∧ v9 = .int .i64 ((i + 1 : Nat) : Int) ∧ fstS x0 x1 y0 y1 i = (a, b) ∧ lstS x0 x1 y0 y1 i = (c, g) ∧ wr = lay w [.inr dd, .inl (.cells #[.int .i64 c, .int .i64 g] 172 (0, 0)), .inl (.cells #[.int .i64 a, .int .i64 b] 172 (0, 0)), .inl (.cells #[.int .i64 x0, .int .i64 y0, .int .i64 x0, .int .i64 y1, .int .i64 x1, .int .i64 y0, .int .i64 x1, .int .i64 y1] 172 (0, 0)), .inr d3, .inr d2, .inr d1, .inl (.cells #[.int .i64 0, .int .i64 0] 23 (0, 0)), .inl (.cells #[.int .i64 x0, .int .i64 x1] 59 (0, 0)), .inl (.cells #[.int .i64 y0, .int .i64 y1] 59 (0, 0))]) (fun v9 _ => (5 - intOf v9).toNat)
    case atStart => exact ⟨0, x0, y0, x0, y0, noExt _, by decide, rfl, rfl, rfl, (bw_noExt _).symm⟩
    case round =>
      obtain ⟨i, a, b, c, g, dd, hi, rfl, hf, hl, rfl⟩ := hrel
      obtain ⟨A0, B0, -⟩ := HFb.out i a b hf
      obtain ⟨C0, D0, -⟩ := HLb.out i c g hl
      obtain ⟨X0, X1, Y0, Y1⟩ := HXY.out
      have hi4 : i = 0 ∨ i = 1 ∨ i = 2 ∨ i = 3 := by omega
      rcases hi4 with rfl | rfl | rfl | rfl
      · have hf2 := fstS_next x0 y1 hf rfl rfl
        have hl2 := lstS_next x0 y1 hl rfl rfl
        have HB1 := Lib.hid (fun W => HBef.out x0 y1 a b W X0 Y1 A0 B0)
        have HB2 := Lib.hid (fun W => HBef.out c g x0 y1 W C0 D0 X0 Y1)
        clear A0 B0 C0 D0 X0 X1 Y0 Y1 hi hf hl
        cases h1 : befR x0 y1 a b
        · rw [h1, if_neg Bool.false_ne_true] at hf2
          rw [h1] at HB1
          cases h2 : befR c g x0 y1
          · rw [h2, if_neg Bool.false_ne_true] at hl2
            rw [h2] at HB2
            have HF2 := Lib.hid (And.intro hf2 hl2)
            clear hf2 hl2 h1 h2
            go_wp2_with fail
            refine region_bw (by kernel_rfl) (by kernel_rfl) ?_
            repeat (go_big_quiet_step ((first | (go_at_call 125; first | (with_reducible refine bq (HB1.out _) ?_; exact (fun d => lay_join _ _ _ d)) | (with_reducible refine bq (HB1.out _) ?_; exact (fun d => ⟨d, rfl⟩))))))
            refine wpQuiet_nil ?_
            rintro w' ⟨d, rfl⟩
            rw [lay_bw]
            go_wp2_with fail
            refine region_bw (by kernel_rfl) (by kernel_rfl) ?_
            repeat (go_big_quiet_step ((first | (go_at_call 125; first | (with_reducible refine bq (HB2.out _) ?_; exact (fun d => lay_join _ _ _ d)) | (with_reducible refine bq (HB2.out _) ?_; exact (fun d => ⟨d, rfl⟩))))))
            refine wpQuiet_nil ?_
            rintro w' ⟨d, rfl⟩
            rw [lay_bw]
            go_wp2_with fail
            go_roundw
            case rel => exact ⟨1, a, b, c, g, _, by decide, rfl, HF2.out.1, HF2.out.2, (lay_join3 _ _ _).choose_spec⟩
            case measure => simp [intOf]
          · rw [h2, if_pos rfl] at hl2
            rw [h2] at HB2
            have HF2 := Lib.hid (And.intro hf2 hl2)
            clear hf2 hl2 h1 h2
            go_wp2_with fail
            refine region_bw (by kernel_rfl) (by kernel_rfl) ?_
            repeat (go_big_quiet_step ((first | (go_at_call 125; first | (with_reducible refine bq (HB1.out _) ?_; exact (fun d => lay_join _ _ _ d)) | (with_reducible refine bq (HB1.out _) ?_; exact (fun d => ⟨d, rfl⟩))))))
            refine wpQuiet_nil ?_
            rintro w' ⟨d, rfl⟩
            rw [lay_bw]
            go_wp2_with fail
            refine region_bw (by kernel_rfl) (by kernel_rfl) ?_
            repeat (go_big_quiet_step ((first | (go_at_call 125; first | (with_reducible refine bq (HB2.out _) ?_; exact (fun d => lay_join _ _ _ d)) | (with_reducible refine bq (HB2.out _) ?_; exact (fun d => ⟨d, rfl⟩))))))
            refine wpQuiet_nil ?_
            rintro w' ⟨d, rfl⟩
            rw [lay_bw]
            go_wp2_with fail
            go_roundw
            case rel => exact ⟨1, a, b, x0, y1, _, by decide, rfl, HF2.out.1, HF2.out.2, (lay_join3 _ _ _).choose_spec⟩
            case measure => simp [intOf]
        · rw [h1, if_pos rfl] at hf2
          rw [h1] at HB1
          cases h2 : befR c g x0 y1
          · rw [h2, if_neg Bool.false_ne_true] at hl2
            rw [h2] at HB2
            have HF2 := Lib.hid (And.intro hf2 hl2)
            clear hf2 hl2 h1 h2
            go_wp2_with fail
            refine region_bw (by kernel_rfl) (by kernel_rfl) ?_
            repeat (go_big_quiet_step ((first | (go_at_call 125; first | (with_reducible refine bq (HB1.out _) ?_; exact (fun d => lay_join _ _ _ d)) | (with_reducible refine bq (HB1.out _) ?_; exact (fun d => ⟨d, rfl⟩))))))
            refine wpQuiet_nil ?_
            rintro w' ⟨d, rfl⟩
            rw [lay_bw]
            go_wp2_with fail
            refine region_bw (by kernel_rfl) (by kernel_rfl) ?_
            repeat (go_big_quiet_step ((first | (go_at_call 125; first | (with_reducible refine bq (HB2.out _) ?_; exact (fun d => lay_join _ _ _ d)) | (with_reducible refine bq (HB2.out _) ?_; exact (fun d => ⟨d, rfl⟩))))))
            refine wpQuiet_nil ?_
            rintro w' ⟨d, rfl⟩
            rw [lay_bw]
            go_wp2_with fail
            go_roundw
            case rel => exact ⟨1, x0, y1, c, g, _, by decide, rfl, HF2.out.1, HF2.out.2, (lay_join3 _ _ _).choose_spec⟩
            case measure => simp [intOf]
          · rw [h2, if_pos rfl] at hl2
            rw [h2] at HB2
            have HF2 := Lib.hid (And.intro hf2 hl2)
            clear hf2 hl2 h1 h2
            go_wp2_with fail
            refine region_bw (by kernel_rfl) (by kernel_rfl) ?_
            repeat (go_big_quiet_step ((first | (go_at_call 125; first | (with_reducible refine bq (HB1.out _) ?_; exact (fun d => lay_join _ _ _ d)) | (with_reducible refine bq (HB1.out _) ?_; exact (fun d => ⟨d, rfl⟩))))))
            refine wpQuiet_nil ?_
            rintro w' ⟨d, rfl⟩
            rw [lay_bw]
            go_wp2_with fail
            refine region_bw (by kernel_rfl) (by kernel_rfl) ?_
            repeat (go_big_quiet_step ((first | (go_at_call 125; first | (with_reducible refine bq (HB2.out _) ?_; exact (fun d => lay_join _ _ _ d)) | (with_reducible refine bq (HB2.out _) ?_; exact (fun d => ⟨d, rfl⟩))))))
            refine wpQuiet_nil ?_
            rintro w' ⟨d, rfl⟩
            rw [lay_bw]
            go_wp2_with fail
            go_roundw
            case rel => exact ⟨1, x0, y1, x0, y1, _, by decide, rfl, HF2.out.1, HF2.out.2, (lay_join3 _ _ _).choose_spec⟩
            case measure => simp [intOf]
      · have hf2 := fstS_next x1 y0 hf rfl rfl
        have hl2 := lstS_next x1 y0 hl rfl rfl
        have HB1 := Lib.hid (fun W => HBef.out x1 y0 a b W X1 Y0 A0 B0)
        have HB2 := Lib.hid (fun W => HBef.out c g x1 y0 W C0 D0 X1 Y0)
        clear A0 B0 C0 D0 X0 X1 Y0 Y1 hi hf hl
        cases h1 : befR x1 y0 a b
        · rw [h1, if_neg Bool.false_ne_true] at hf2
          rw [h1] at HB1
          cases h2 : befR c g x1 y0
          · rw [h2, if_neg Bool.false_ne_true] at hl2
            rw [h2] at HB2
            have HF2 := Lib.hid (And.intro hf2 hl2)
            clear hf2 hl2 h1 h2
            go_wp2_with fail
            refine region_bw (by kernel_rfl) (by kernel_rfl) ?_
            repeat (go_big_quiet_step ((first | (go_at_call 125; first | (with_reducible refine bq (HB1.out _) ?_; exact (fun d => lay_join _ _ _ d)) | (with_reducible refine bq (HB1.out _) ?_; exact (fun d => ⟨d, rfl⟩))))))
            refine wpQuiet_nil ?_
            rintro w' ⟨d, rfl⟩
            rw [lay_bw]
            go_wp2_with fail
            refine region_bw (by kernel_rfl) (by kernel_rfl) ?_
            repeat (go_big_quiet_step ((first | (go_at_call 125; first | (with_reducible refine bq (HB2.out _) ?_; exact (fun d => lay_join _ _ _ d)) | (with_reducible refine bq (HB2.out _) ?_; exact (fun d => ⟨d, rfl⟩))))))
            refine wpQuiet_nil ?_
            rintro w' ⟨d, rfl⟩
            rw [lay_bw]
            go_wp2_with fail
            go_roundw
            case rel => exact ⟨2, a, b, c, g, _, by decide, rfl, HF2.out.1, HF2.out.2, (lay_join3 _ _ _).choose_spec⟩
            case measure => simp [intOf]
          · rw [h2, if_pos rfl] at hl2
            rw [h2] at HB2
            have HF2 := Lib.hid (And.intro hf2 hl2)
            clear hf2 hl2 h1 h2
            go_wp2_with fail
            refine region_bw (by kernel_rfl) (by kernel_rfl) ?_
            repeat (go_big_quiet_step ((first | (go_at_call 125; first | (with_reducible refine bq (HB1.out _) ?_; exact (fun d => lay_join _ _ _ d)) | (with_reducible refine bq (HB1.out _) ?_; exact (fun d => ⟨d, rfl⟩))))))
            refine wpQuiet_nil ?_
            rintro w' ⟨d, rfl⟩
            rw [lay_bw]
            go_wp2_with fail
            refine region_bw (by kernel_rfl) (by kernel_rfl) ?_
            repeat (go_big_quiet_step ((first | (go_at_call 125; first | (with_reducible refine bq (HB2.out _) ?_; exact (fun d => lay_join _ _ _ d)) | (with_reducible refine bq (HB2.out _) ?_; exact (fun d => ⟨d, rfl⟩))))))
            refine wpQuiet_nil ?_
            rintro w' ⟨d, rfl⟩
            rw [lay_bw]
            go_wp2_with fail
            go_roundw
            case rel => exact ⟨2, a, b, x1, y0, _, by decide, rfl, HF2.out.1, HF2.out.2, (lay_join3 _ _ _).choose_spec⟩
            case measure => simp [intOf]
        · rw [h1, if_pos rfl] at hf2
          rw [h1] at HB1
          cases h2 : befR c g x1 y0
          · rw [h2, if_neg Bool.false_ne_true] at hl2
            rw [h2] at HB2
            have HF2 := Lib.hid (And.intro hf2 hl2)
            clear hf2 hl2 h1 h2
            go_wp2_with fail
            refine region_bw (by kernel_rfl) (by kernel_rfl) ?_
            repeat (go_big_quiet_step ((first | (go_at_call 125; first | (with_reducible refine bq (HB1.out _) ?_; exact (fun d => lay_join _ _ _ d)) | (with_reducible refine bq (HB1.out _) ?_; exact (fun d => ⟨d, rfl⟩))))))
            refine wpQuiet_nil ?_
            rintro w' ⟨d, rfl⟩
            rw [lay_bw]
            go_wp2_with fail
            refine region_bw (by kernel_rfl) (by kernel_rfl) ?_
            repeat (go_big_quiet_step ((first | (go_at_call 125; first | (with_reducible refine bq (HB2.out _) ?_; exact (fun d => lay_join _ _ _ d)) | (with_reducible refine bq (HB2.out _) ?_; exact (fun d => ⟨d, rfl⟩))))))
            refine wpQuiet_nil ?_
            rintro w' ⟨d, rfl⟩
            rw [lay_bw]
            go_wp2_with fail
            go_roundw
            case rel => exact ⟨2, x1, y0, c, g, _, by decide, rfl, HF2.out.1, HF2.out.2, (lay_join3 _ _ _).choose_spec⟩
            case measure => simp [intOf]
          · rw [h2, if_pos rfl] at hl2
            rw [h2] at HB2
            have HF2 := Lib.hid (And.intro hf2 hl2)
            clear hf2 hl2 h1 h2
            go_wp2_with fail
            refine region_bw (by kernel_rfl) (by kernel_rfl) ?_
            repeat (go_big_quiet_step ((first | (go_at_call 125; first | (with_reducible refine bq (HB1.out _) ?_; exact (fun d => lay_join _ _ _ d)) | (with_reducible refine bq (HB1.out _) ?_; exact (fun d => ⟨d, rfl⟩))))))
            refine wpQuiet_nil ?_
            rintro w' ⟨d, rfl⟩
            rw [lay_bw]
            go_wp2_with fail
            refine region_bw (by kernel_rfl) (by kernel_rfl) ?_
            repeat (go_big_quiet_step ((first | (go_at_call 125; first | (with_reducible refine bq (HB2.out _) ?_; exact (fun d => lay_join _ _ _ d)) | (with_reducible refine bq (HB2.out _) ?_; exact (fun d => ⟨d, rfl⟩))))))
            refine wpQuiet_nil ?_
            rintro w' ⟨d, rfl⟩
            rw [lay_bw]
            go_wp2_with fail
            go_roundw
            case rel => exact ⟨2, x1, y0, x1, y0, _, by decide, rfl, HF2.out.1, HF2.out.2, (lay_join3 _ _ _).choose_spec⟩
            case measure => simp [intOf]
      · have hf2 := fstS_next x1 y1 hf rfl rfl
        have hl2 := lstS_next x1 y1 hl rfl rfl
        have HB1 := Lib.hid (fun W => HBef.out x1 y1 a b W X1 Y1 A0 B0)
        have HB2 := Lib.hid (fun W => HBef.out c g x1 y1 W C0 D0 X1 Y1)
        clear A0 B0 C0 D0 X0 X1 Y0 Y1 hi hf hl
        cases h1 : befR x1 y1 a b
        · rw [h1, if_neg Bool.false_ne_true] at hf2
          rw [h1] at HB1
          cases h2 : befR c g x1 y1
          · rw [h2, if_neg Bool.false_ne_true] at hl2
            rw [h2] at HB2
            have HF2 := Lib.hid (And.intro hf2 hl2)
            clear hf2 hl2 h1 h2
            go_wp2_with fail
            refine region_bw (by kernel_rfl) (by kernel_rfl) ?_
            repeat (go_big_quiet_step ((first | (go_at_call 125; first | (with_reducible refine bq (HB1.out _) ?_; exact (fun d => lay_join _ _ _ d)) | (with_reducible refine bq (HB1.out _) ?_; exact (fun d => ⟨d, rfl⟩))))))
            refine wpQuiet_nil ?_
            rintro w' ⟨d, rfl⟩
            rw [lay_bw]
            go_wp2_with fail
            refine region_bw (by kernel_rfl) (by kernel_rfl) ?_
            repeat (go_big_quiet_step ((first | (go_at_call 125; first | (with_reducible refine bq (HB2.out _) ?_; exact (fun d => lay_join _ _ _ d)) | (with_reducible refine bq (HB2.out _) ?_; exact (fun d => ⟨d, rfl⟩))))))
            refine wpQuiet_nil ?_
            rintro w' ⟨d, rfl⟩
            rw [lay_bw]
            go_wp2_with fail
            go_roundw
            case rel => exact ⟨3, a, b, c, g, _, by decide, rfl, HF2.out.1, HF2.out.2, (lay_join3 _ _ _).choose_spec⟩
            case measure => simp [intOf]
          · rw [h2, if_pos rfl] at hl2
            rw [h2] at HB2
            have HF2 := Lib.hid (And.intro hf2 hl2)
            clear hf2 hl2 h1 h2
            go_wp2_with fail
            refine region_bw (by kernel_rfl) (by kernel_rfl) ?_
            repeat (go_big_quiet_step ((first | (go_at_call 125; first | (with_reducible refine bq (HB1.out _) ?_; exact (fun d => lay_join _ _ _ d)) | (with_reducible refine bq (HB1.out _) ?_; exact (fun d => ⟨d, rfl⟩))))))
            refine wpQuiet_nil ?_
            rintro w' ⟨d, rfl⟩
            rw [lay_bw]
            go_wp2_with fail
            refine region_bw (by kernel_rfl) (by kernel_rfl) ?_
            repeat (go_big_quiet_step ((first | (go_at_call 125; first | (with_reducible refine bq (HB2.out _) ?_; exact (fun d => lay_join _ _ _ d)) | (with_reducible refine bq (HB2.out _) ?_; exact (fun d => ⟨d, rfl⟩))))))
            refine wpQuiet_nil ?_
            rintro w' ⟨d, rfl⟩
            rw [lay_bw]
            go_wp2_with fail
            go_roundw
            case rel => exact ⟨3, a, b, x1, y1, _, by decide, rfl, HF2.out.1, HF2.out.2, (lay_join3 _ _ _).choose_spec⟩
            case measure => simp [intOf]
        · rw [h1, if_pos rfl] at hf2
          rw [h1] at HB1
          cases h2 : befR c g x1 y1
          · rw [h2, if_neg Bool.false_ne_true] at hl2
            rw [h2] at HB2
            have HF2 := Lib.hid (And.intro hf2 hl2)
            clear hf2 hl2 h1 h2
            go_wp2_with fail
            refine region_bw (by kernel_rfl) (by kernel_rfl) ?_
            repeat (go_big_quiet_step ((first | (go_at_call 125; first | (with_reducible refine bq (HB1.out _) ?_; exact (fun d => lay_join _ _ _ d)) | (with_reducible refine bq (HB1.out _) ?_; exact (fun d => ⟨d, rfl⟩))))))
            refine wpQuiet_nil ?_
            rintro w' ⟨d, rfl⟩
            rw [lay_bw]
            go_wp2_with fail
            refine region_bw (by kernel_rfl) (by kernel_rfl) ?_
            repeat (go_big_quiet_step ((first | (go_at_call 125; first | (with_reducible refine bq (HB2.out _) ?_; exact (fun d => lay_join _ _ _ d)) | (with_reducible refine bq (HB2.out _) ?_; exact (fun d => ⟨d, rfl⟩))))))
            refine wpQuiet_nil ?_
            rintro w' ⟨d, rfl⟩
            rw [lay_bw]
            go_wp2_with fail
            go_roundw
            case rel => exact ⟨3, x1, y1, c, g, _, by decide, rfl, HF2.out.1, HF2.out.2, (lay_join3 _ _ _).choose_spec⟩
            case measure => simp [intOf]
          · rw [h2, if_pos rfl] at hl2
            rw [h2] at HB2
            have HF2 := Lib.hid (And.intro hf2 hl2)
            clear hf2 hl2 h1 h2
            go_wp2_with fail
            refine region_bw (by kernel_rfl) (by kernel_rfl) ?_
            repeat (go_big_quiet_step ((first | (go_at_call 125; first | (with_reducible refine bq (HB1.out _) ?_; exact (fun d => lay_join _ _ _ d)) | (with_reducible refine bq (HB1.out _) ?_; exact (fun d => ⟨d, rfl⟩))))))
            refine wpQuiet_nil ?_
            rintro w' ⟨d, rfl⟩
            rw [lay_bw]
            go_wp2_with fail
            refine region_bw (by kernel_rfl) (by kernel_rfl) ?_
            repeat (go_big_quiet_step ((first | (go_at_call 125; first | (with_reducible refine bq (HB2.out _) ?_; exact (fun d => lay_join _ _ _ d)) | (with_reducible refine bq (HB2.out _) ?_; exact (fun d => ⟨d, rfl⟩))))))
            refine wpQuiet_nil ?_
            rintro w' ⟨d, rfl⟩
            rw [lay_bw]
            go_wp2_with fail
            go_roundw
            case rel => exact ⟨3, x1, y1, x1, y1, _, by decide, rfl, HF2.out.1, HF2.out.2, (lay_join3 _ _ _).choose_spec⟩
            case measure => simp [intOf]
      · have HA1 := Lib.hid (fun W => HAn.out a b W A0 B0 (HFb.out 3 a b hf).2.2)
        have HA2 := Lib.hid (fun W => HAn.out c g W C0 D0 (HLb.out 3 c g hl).2.2)
        have hb1 := angF_bd a b
        have hb2 := angF_bd c g
        have hr := HRB.out
        rw [hf, hl] at hr
        unfold refB at hr
        dsimp only at hr
        generalize (angF a b).1 = m at *
        generalize (angF a b).2 = ea at *
        generalize (angF c g).1 = s at *
        generalize (angF c g).2 = ex at *
        obtain ⟨S1, hS1⟩ : ∃ S1 : Int, s + 1 = S1 := ⟨_, rfl⟩
        obtain ⟨S2, hS2⟩ : ∃ S2 : Int, s + 21600000 = S2 := ⟨_, rfl⟩
        obtain ⟨S3, hS3⟩ : ∃ S3 : Int, S1 + 21600000 = S3 := ⟨_, rfl⟩
        have k1 : IntKind.i64.wrap S1 = S1 := IntWalk.i64_in _ (by omega)
        have k2 : IntKind.i64.wrap S2 = S2 := IntWalk.i64_in _ (by omega)
        have k3 : IntKind.i64.wrap S3 = S3 := IntWalk.i64_in _ (by omega)
        clear A0 B0 C0 D0 X0 X1 Y0 Y1 hi hf hl hb1 hb2
        cases ex
        · rw [if_neg Bool.false_ne_true, hS1, hS3] at hr
          by_cases cs : S1 < m
          · rw [if_pos cs] at hr
            have HRR := Lib.hid hr
            clear hr
            go_wp2_with (go_at_call 126; first | ((with_reducible refine (HA1.out _).mono ?_); rintro e w' ⟨rfl, d5, rfl⟩; rw [lay_bw]) | ((with_reducible refine (HA2.out _).mono ?_); rintro e w' ⟨rfl, d6, rfl⟩; rw [lay_bw]))
            refine bodyPost_ret (v := .tuple #[(.agg #[.int .i64 (m), .int .i64 (S3)]), .int .i64 0]) (by simp [results, Tryz.results52, go_sem]) rfl ⟨by rw [← HRR.out], lay_ex _ _⟩
          · rw [if_neg cs] at hr
            have HRR := Lib.hid hr
            clear hr
            go_wp2_with (go_at_call 126; first | ((with_reducible refine (HA1.out _).mono ?_); rintro e w' ⟨rfl, d5, rfl⟩; rw [lay_bw]) | ((with_reducible refine (HA2.out _).mono ?_); rintro e w' ⟨rfl, d6, rfl⟩; rw [lay_bw]))
            refine bodyPost_ret (v := .tuple #[(.agg #[.int .i64 (m), .int .i64 (S1)]), .int .i64 0]) (by simp [results, Tryz.results52, go_sem]) rfl ⟨by rw [← HRR.out], lay_ex _ _⟩
        · rw [if_pos rfl, Int.add_zero, hS2] at hr
          by_cases cs : s < m
          · rw [if_pos cs] at hr
            have HRR := Lib.hid hr
            clear hr
            go_wp2_with (go_at_call 126; first | ((with_reducible refine (HA1.out _).mono ?_); rintro e w' ⟨rfl, d5, rfl⟩; rw [lay_bw]) | ((with_reducible refine (HA2.out _).mono ?_); rintro e w' ⟨rfl, d6, rfl⟩; rw [lay_bw]))
            refine bodyPost_ret (v := .tuple #[(.agg #[.int .i64 (m), .int .i64 (S2)]), .int .i64 0]) (by simp [results, Tryz.results52, go_sem]) rfl ⟨by rw [← HRR.out], lay_ex _ _⟩
          · rw [if_neg cs] at hr
            have HRR := Lib.hid hr
            clear hr
            go_wp2_with (go_at_call 126; first | ((with_reducible refine (HA1.out _).mono ?_); rintro e w' ⟨rfl, d5, rfl⟩; rw [lay_bw]) | ((with_reducible refine (HA2.out _).mono ?_); rintro e w' ⟨rfl, d6, rfl⟩; rw [lay_bw]))
            refine bodyPost_ret (v := .tuple #[(.agg #[.int .i64 (m), .int .i64 (s)]), .int .i64 0]) (by simp [results, Tryz.results52, go_sem]) rfl ⟨by rw [← HRR.out], lay_ex _ _⟩
end Go.Proofs.YtnnmfdeeicpdlaaGreat
