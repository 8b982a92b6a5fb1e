/- Contracts and plain laws, several texts in one: Hz0; Fc2; Hz3; Mk1; Mk2; Mk3; Fd1; Fk2; Ne5; As7; As8; As9 -/
import Derived.Test.YtnnmfdeeicpdlaaGreatProg
import Derived.WalkKit
import Derived.WalkSpells
import Derived.WalkLawsBesides
import Derived.Lib.Hide
import Derived.BigQuiet
import Derived.Test.YtnnmfdeeicpdlaaGreatPAA
import Derived.Test.YtnnmfdeeicpdlaaGreatPAE
import Derived.Test.YtnnmfdeeicpdlaaGreatPAF
import Derived.Test.YtnnmfdeeicpdlaaGreatPAR
import Derived.Test.YtnnmfdeeicpdlaaGreatPBB
import Derived.Test.YtnnmfdeeicpdlaaGreatPBD
import Derived.Test.YtnnmfdeeicpdlaaGreatPBE
import Derived.Test.YtnnmfdeeicpdlaaGreatPBF
import Derived.Test.YtnnmfdeeicpdlaaGreatPBG
import Derived.Test.YtnnmfdeeicpdlaaGreatPBK
/- Altitudes of arcs: a part's altitude lies within the whole's. Plain Lean. -/
namespace Go.Proofs.YtnnmfdeeicpdlaaGreat
open Go.RowKit Go.Shelf

variable {lp : List PgV} {ls : List StarV} {s : ByteArray}
end Go.Proofs.YtnnmfdeeicpdlaaGreat
/- cosine: Azimuth, Solve. -/
namespace Go.Proofs.YtnnmfdeeicpdlaaGreat
open Go.RowKit

end Go.Proofs.YtnnmfdeeicpdlaaGreat
/- Places (package place and the reference), sides, limits. -/
namespace Go.Proofs.YtnnmfdeeicpdlaaGreat
open Go.RowKit

end Go.Proofs.YtnnmfdeeicpdlaaGreat
/- Covers, the program's and the reference's; Pages and Stars. -/
namespace Go.Proofs.YtnnmfdeeicpdlaaGreat
open Go.RowKit Go.Shelf

end Go.Proofs.YtnnmfdeeicpdlaaGreat
/- Equal rows of stars, equal lists, equal pages. -/
namespace Go.Proofs.YtnnmfdeeicpdlaaGreat
open Go.RowKit Go.Shelf

end Go.Proofs.YtnnmfdeeicpdlaaGreat
/- The law AlmanacMakes. -/
namespace Go.Proofs.YtnnmfdeeicpdlaaGreat
open Go.RowKit Go.Shelf

end Go.Proofs.YtnnmfdeeicpdlaaGreat
/- Candidates: what they are. -/
namespace Go.Proofs.YtnnmfdeeicpdlaaGreat
open Go.RowKit Go.Shelf

variable {lp : List PgV} {ls : List StarV} {a b u v x y : Int} {s : ByteArray}
end Go.Proofs.YtnnmfdeeicpdlaaGreat
/- Bearings of a box within another one agree; azimuths of wider arcs. No function of the program. -/
namespace Go.Proofs.YtnnmfdeeicpdlaaGreat
open Go.RowKit

theorem box_half {x0 x1 y0 y1 : Int} (hn : ¬ oriB x0 x1 y0 y1) : ∃ α β : Int, ∀ X Y, x0 ≤ X → X ≤ x1 → y0 ≤ Y → Y ≤ y1 → 0 < α * X + β * Y := by
  unfold oriB at hn
  by_cases h0 : 0 < x0
  · exact ⟨1, 0, fun X Y _ _ _ _ => by omega⟩
  · by_cases h1 : x1 < 0
    · exact ⟨-1, 0, fun X Y _ _ _ _ => by omega⟩
    · by_cases h2 : 0 < y0
      · exact ⟨0, 1, fun X Y _ _ _ _ => by omega⟩
      · exact ⟨0, -1, fun X Y _ _ _ _ => by omega⟩
theorem befB_crs {a b c d : Int} : befB a b c d = true ↔ 0 ≤ crs a b c d := by
  unfold befB crs
  rw [decide_eq_true_eq]
  omega
theorem befB_not {a b c d : Int} (h : befB a b c d = false) : 0 ≤ crs c d a b := by
  unfold befB at h
  rw [decide_eq_false_iff_not] at h
  unfold crs
  have e1 := Int.mul_comm c b
  have e2 := Int.mul_comm d a
  omega
theorem crs_self (a b : Int) : 0 ≤ crs a b a b := by unfold crs; have := Int.mul_comm a b; omega
section
variable {x0 x1 y0 y1 α β : Int}
theorem cor_in (hx : x0 ≤ x1) (hy : y0 ≤ y1) (j : Nat) : (x0 ≤ crX x0 x1 j ∧ crX x0 x1 j ≤ x1) ∧ (y0 ≤ crY y0 y1 j ∧ crY y0 y1 j ≤ y1) := by
  unfold crX crY
  constructor <;> split <;> omega
theorem fst_in (hx : x0 ≤ x1) (hy : y0 ≤ y1) (i : Nat) : (x0 ≤ (fstC x0 x1 y0 y1 i).1 ∧ (fstC x0 x1 y0 y1 i).1 ≤ x1) ∧ (y0 ≤ (fstC x0 x1 y0 y1 i).2 ∧ (fstC x0 x1 y0 y1 i).2 ≤ y1) := by
  obtain ⟨j, hj⟩ := fst_cor x0 x1 y0 y1 i
  rw [hj]
  exact cor_in hx hy j
theorem lst_in (hx : x0 ≤ x1) (hy : y0 ≤ y1) (i : Nat) : (x0 ≤ (lstC x0 x1 y0 y1 i).1 ∧ (lstC x0 x1 y0 y1 i).1 ≤ x1) ∧ (y0 ≤ (lstC x0 x1 y0 y1 i).2 ∧ (lstC x0 x1 y0 y1 i).2 ≤ y1) := by
  obtain ⟨j, hj⟩ := lst_cor x0 x1 y0 y1 i
  rw [hj]
  exact cor_in hx hy j
theorem fst_min (hx : x0 ≤ x1) (hy : y0 ≤ y1) (hp : ∀ X Y, x0 ≤ X → X ≤ x1 → y0 ≤ Y → Y ≤ y1 → 0 < α * X + β * Y) :
    ∀ i j, j < i → 0 ≤ crs (fstC x0 x1 y0 y1 i).1 (fstC x0 x1 y0 y1 i).2 (crX x0 x1 j) (crY y0 y1 j)
  | 0, j, h => absurd h (Nat.not_lt_zero j)
  | i + 1, j, h => by
    have ih := fst_min hx hy hp i
    obtain ⟨⟨c1, c2⟩, c3, c4⟩ := cor_in hx hy i
    obtain ⟨⟨d1, d2⟩, d3, d4⟩ := cor_in hx hy j
    obtain ⟨⟨f1, f2⟩, f3, f4⟩ := fst_in hx hy i
    have e : fstC x0 x1 y0 y1 (i + 1) = if befB (crX x0 x1 i) (crY y0 y1 i) (fstC x0 x1 y0 y1 i).1 (fstC x0 x1 y0 y1 i).2 = true then (crX x0 x1 i, crY y0 y1 i) else fstC x0 x1 y0 y1 i := rfl
    rw [e]
    by_cases hj : j < i
    · cases hb : befB (crX x0 x1 i) (crY y0 y1 i) (fstC x0 x1 y0 y1 i).1 (fstC x0 x1 y0 y1 i).2
      · rw [if_neg Bool.false_ne_true]; exact ih j hj
      · rw [if_pos rfl]
        exact crs_trans (hp _ _ c1 c2 c3 c4) (hp _ _ f1 f2 f3 f4) (hp _ _ d1 d2 d3 d4) (befB_crs.1 hb) (ih j hj)
    · obtain rfl : j = i := by omega
      cases hb : befB (crX x0 x1 j) (crY y0 y1 j) (fstC x0 x1 y0 y1 j).1 (fstC x0 x1 y0 y1 j).2
      · rw [if_neg Bool.false_ne_true]; exact befB_not hb
      · rw [if_pos rfl]; exact crs_self _ _
theorem lst_max (hx : x0 ≤ x1) (hy : y0 ≤ y1) (hp : ∀ X Y, x0 ≤ X → X ≤ x1 → y0 ≤ Y → Y ≤ y1 → 0 < α * X + β * Y) :
    ∀ i j, j < i → 0 ≤ crs (crX x0 x1 j) (crY y0 y1 j) (lstC x0 x1 y0 y1 i).1 (lstC x0 x1 y0 y1 i).2
  | 0, j, h => absurd h (Nat.not_lt_zero j)
  | i + 1, j, h => by
    have ih := lst_max hx hy hp i
    obtain ⟨⟨c1, c2⟩, c3, c4⟩ := cor_in hx hy i
    obtain ⟨⟨d1, d2⟩, d3, d4⟩ := cor_in hx hy j
    obtain ⟨⟨f1, f2⟩, f3, f4⟩ := lst_in hx hy i
    have e : lstC x0 x1 y0 y1 (i + 1) = if befB (lstC x0 x1 y0 y1 i).1 (lstC x0 x1 y0 y1 i).2 (crX x0 x1 i) (crY y0 y1 i) = true then (crX x0 x1 i, crY y0 y1 i) else lstC x0 x1 y0 y1 i := rfl
    rw [e]
    by_cases hj : j < i
    · cases hb : befB (lstC x0 x1 y0 y1 i).1 (lstC x0 x1 y0 y1 i).2 (crX x0 x1 i) (crY y0 y1 i)
      · rw [if_neg Bool.false_ne_true]; exact ih j hj
      · rw [if_pos rfl]
        exact crs_trans (hp _ _ d1 d2 d3 d4) (hp _ _ f1 f2 f3 f4) (hp _ _ c1 c2 c3 c4) (ih j hj) (befB_crs.1 hb)
    · obtain rfl : j = i := by omega
      cases hb : befB (lstC x0 x1 y0 y1 j).1 (lstC x0 x1 y0 y1 j).2 (crX x0 x1 j) (crY y0 y1 j)
      · rw [if_neg Bool.false_ne_true]; exact befB_not hb
      · rw [if_pos rfl]; exact crs_self _ _
theorem crs_box {a b X Y : Int} (h : ∀ j, j < 4 → 0 ≤ crs a b (crX x0 x1 j) (crY y0 y1 j)) (h0 : x0 ≤ X) (h1 : X ≤ x1) (h2 : y0 ≤ Y) (h3 : Y ≤ y1) : 0 ≤ crs a b X Y := by
  have e0 := h 0 (by decide)
  have e1 := h 1 (by decide)
  have e2 := h 2 (by decide)
  have e3 := h 3 (by decide)
  unfold crs crX crY at *
  simp at e0 e1 e2 e3
  rcases Int.le_total 0 a with ha | ha <;> rcases Int.le_total 0 b with hb | hb
  · have m1 := Int.mul_le_mul_of_nonneg_left h2 ha
    have m2 := Int.mul_le_mul_of_nonneg_left h1 hb
    omega
  · have m1 := Int.mul_le_mul_of_nonneg_left h2 ha
    have m2 := Int.mul_le_mul_of_nonpos_left hb h0
    omega
  · have m1 := Int.mul_le_mul_of_nonpos_left ha h3
    have m2 := Int.mul_le_mul_of_nonneg_left h1 hb
    omega
  · have m1 := Int.mul_le_mul_of_nonpos_left ha h3
    have m2 := Int.mul_le_mul_of_nonpos_left hb h0
    omega
theorem crs_anti (a b c d : Int) : crs a b c d = -(crs c d a b) := by unfold crs; have := Int.mul_comm a d; have := Int.mul_comm b c; omega
theorem crs_box' {a b X Y : Int} (h : ∀ j, j < 4 → 0 ≤ crs (crX x0 x1 j) (crY y0 y1 j) a b) (h0 : x0 ≤ X) (h1 : X ≤ x1) (h2 : y0 ≤ Y) (h3 : Y ≤ y1) : 0 ≤ crs X Y a b := by
  have k : ∀ j, j < 4 → 0 ≤ crs (-a) (-b) (crX x0 x1 j) (crY y0 y1 j) := fun j hj => by
    have := h j hj
    rw [crs_anti] at this
    have e : crs (-a) (-b) (crX x0 x1 j) (crY y0 y1 j) = -(crs a b (crX x0 x1 j) (crY y0 y1 j)) := by unfold crs; grind
    omega
  have := crs_box k h0 h1 h2 h3
  rw [crs_anti]
  have e : crs (-a) (-b) X Y = -(crs a b X Y) := by unfold crs; grind
  omega
end
def SbI (p q : Int × Int) : Prop := q.1 ≤ p.1 ∧ p.2 ≤ q.2
theorem SbI.mul {p q p' q' : Int × Int} (h : SbI p q) (hu : UnI p) (h' : SbI p' q') (hu' : UnI p') : SbI (mL p p') (mL q q') := mul_part h.1 hu.2.1 h.2 h'.1 hu'.2.1 h'.2
end Go.Proofs.YtnnmfdeeicpdlaaGreat
/- The reference's choice of corners, and its arc: the program's. No walk. -/
namespace Go.Proofs.YtnnmfdeeicpdlaaGreat
open Go.RowKit

theorem befR_crs {a b c d : Int} : befR a b c d = true ↔ 0 < crs a b c d := by
  unfold befR crs
  rw [decide_eq_true_eq]
  omega
theorem befR_not {a b c d : Int} (h : befR a b c d = false) : 0 ≤ crs c d a b := by
  unfold befR at h
  rw [decide_eq_false_iff_not] at h
  unfold crs
  have e1 : d * a = a * d := Int.mul_comm _ _
  have e2 : c * b = b * c := Int.mul_comm _ _
  omega
def fstS (x0 x1 y0 y1 : Int) : Nat → Int × Int
  | 0 => (x0, y0)
  | i + 1 => if befR (crX x0 x1 (i + 1)) (crY y0 y1 (i + 1)) (fstS x0 x1 y0 y1 i).1 (fstS x0 x1 y0 y1 i).2 = true then (crX x0 x1 (i + 1), crY y0 y1 (i + 1)) else fstS x0 x1 y0 y1 i
def lstS (x0 x1 y0 y1 : Int) : Nat → Int × Int
  | 0 => (x0, y0)
  | i + 1 => if befR (lstS x0 x1 y0 y1 i).1 (lstS x0 x1 y0 y1 i).2 (crX x0 x1 (i + 1)) (crY y0 y1 (i + 1)) = true then (crX x0 x1 (i + 1), crY y0 y1 (i + 1)) else lstS x0 x1 y0 y1 i
theorem fstS_cor (x0 x1 y0 y1 : Int) : ∀ i, ∃ j, j ≤ i ∧ fstS x0 x1 y0 y1 i = (crX x0 x1 j, crY y0 y1 j)
  | 0 => ⟨0, Nat.le_refl _, rfl⟩
  | i + 1 => by
    unfold fstS
    split
    · exact ⟨i + 1, Nat.le_refl _, rfl⟩
    · obtain ⟨j, h1, h2⟩ := fstS_cor x0 x1 y0 y1 i
      exact ⟨j, by omega, h2⟩
theorem lstS_cor (x0 x1 y0 y1 : Int) : ∀ i, ∃ j, j ≤ i ∧ lstS x0 x1 y0 y1 i = (crX x0 x1 j, crY y0 y1 j)
  | 0 => ⟨0, Nat.le_refl _, rfl⟩
  | i + 1 => by
    unfold lstS
    split
    · exact ⟨i + 1, Nat.le_refl _, rfl⟩
    · obtain ⟨j, h1, h2⟩ := lstS_cor x0 x1 y0 y1 i
      exact ⟨j, by omega, h2⟩
section
variable {x0 x1 y0 y1 α β : Int}
theorem fstS_in (hx : x0 ≤ x1) (hy : y0 ≤ y1) (i : Nat) : (x0 ≤ (fstS x0 x1 y0 y1 i).1 ∧ (fstS x0 x1 y0 y1 i).1 ≤ x1) ∧ (y0 ≤ (fstS x0 x1 y0 y1 i).2 ∧ (fstS x0 x1 y0 y1 i).2 ≤ y1) := by
  obtain ⟨j, -, hj⟩ := fstS_cor x0 x1 y0 y1 i
  rw [hj]
  exact cor_in hx hy j
theorem lstS_in (hx : x0 ≤ x1) (hy : y0 ≤ y1) (i : Nat) : (x0 ≤ (lstS x0 x1 y0 y1 i).1 ∧ (lstS x0 x1 y0 y1 i).1 ≤ x1) ∧ (y0 ≤ (lstS x0 x1 y0 y1 i).2 ∧ (lstS x0 x1 y0 y1 i).2 ≤ y1) := by
  obtain ⟨j, -, hj⟩ := lstS_cor x0 x1 y0 y1 i
  rw [hj]
  exact cor_in hx hy j
theorem fstS_min (hx : x0 ≤ x1) (hy : y0 ≤ y1) (hp : ∀ X Y, x0 ≤ X → X ≤ x1 → y0 ≤ Y → Y ≤ y1 → 0 < α * X + β * Y) :
    ∀ i j, j ≤ i → 0 ≤ crs (fstS x0 x1 y0 y1 i).1 (fstS x0 x1 y0 y1 i).2 (crX x0 x1 j) (crY y0 y1 j)
  | 0, j, h => by
    obtain rfl : j = 0 := by omega
    exact crs_self _ _
  | i + 1, j, h => by
    have ih := fstS_min hx hy hp i
    obtain ⟨⟨c1, c2⟩, c3, c4⟩ := cor_in hx hy (i + 1)
    obtain ⟨⟨d1, d2⟩, d3, d4⟩ := cor_in hx hy j
    obtain ⟨⟨f1, f2⟩, f3, f4⟩ := fstS_in hx hy i
    have e : fstS x0 x1 y0 y1 (i + 1) = if befR (crX x0 x1 (i + 1)) (crY y0 y1 (i + 1)) (fstS x0 x1 y0 y1 i).1 (fstS x0 x1 y0 y1 i).2 = true then (crX x0 x1 (i + 1), crY y0 y1 (i + 1)) else fstS x0 x1 y0 y1 i := rfl
    rw [e]
    by_cases hj : j ≤ i
    · cases hb : befR (crX x0 x1 (i + 1)) (crY y0 y1 (i + 1)) (fstS x0 x1 y0 y1 i).1 (fstS x0 x1 y0 y1 i).2
      · rw [if_neg Bool.false_ne_true]; exact ih j hj
      · rw [if_pos rfl]
        exact crs_trans (hp _ _ c1 c2 c3 c4) (hp _ _ f1 f2 f3 f4) (hp _ _ d1 d2 d3 d4) (Int.le_of_lt (befR_crs.1 hb)) (ih j hj)
    · obtain rfl : j = i + 1 := by omega
      cases hb : befR (crX x0 x1 (i + 1)) (crY y0 y1 (i + 1)) (fstS x0 x1 y0 y1 i).1 (fstS x0 x1 y0 y1 i).2
      · rw [if_neg Bool.false_ne_true]; exact befR_not hb
      · rw [if_pos rfl]; exact crs_self _ _
theorem lstS_max (hx : x0 ≤ x1) (hy : y0 ≤ y1) (hp : ∀ X Y, x0 ≤ X → X ≤ x1 → y0 ≤ Y → Y ≤ y1 → 0 < α * X + β * Y) :
    ∀ i j, j ≤ i → 0 ≤ crs (crX x0 x1 j) (crY y0 y1 j) (lstS x0 x1 y0 y1 i).1 (lstS x0 x1 y0 y1 i).2
  | 0, j, h => by
    obtain rfl : j = 0 := by omega
    exact crs_self _ _
  | i + 1, j, h => by
    have ih := lstS_max hx hy hp i
    obtain ⟨⟨c1, c2⟩, c3, c4⟩ := cor_in hx hy (i + 1)
    obtain ⟨⟨d1, d2⟩, d3, d4⟩ := cor_in hx hy j
    obtain ⟨⟨f1, f2⟩, f3, f4⟩ := lstS_in hx hy i
    have e : lstS x0 x1 y0 y1 (i + 1) = if befR (lstS x0 x1 y0 y1 i).1 (lstS x0 x1 y0 y1 i).2 (crX x0 x1 (i + 1)) (crY y0 y1 (i + 1)) = true then (crX x0 x1 (i + 1), crY y0 y1 (i + 1)) else lstS x0 x1 y0 y1 i := rfl
    rw [e]
    by_cases hj : j ≤ i
    · cases hb : befR (lstS x0 x1 y0 y1 i).1 (lstS x0 x1 y0 y1 i).2 (crX x0 x1 (i + 1)) (crY y0 y1 (i + 1))
      · rw [if_neg Bool.false_ne_true]; exact ih j hj
      · rw [if_pos rfl]
        exact crs_trans (hp _ _ d1 d2 d3 d4) (hp _ _ f1 f2 f3 f4) (hp _ _ c1 c2 c3 c4) (ih j hj) (Int.le_of_lt (befR_crs.1 hb))
    · obtain rfl : j = i + 1 := by omega
      cases hb : befR (lstS x0 x1 y0 y1 i).1 (lstS x0 x1 y0 y1 i).2 (crX x0 x1 (i + 1)) (crY y0 y1 (i + 1))
      · rw [if_neg Bool.false_ne_true]; exact befR_not hb
      · rw [if_pos rfl]; exact crs_self _ _
end
theorem quad_ex2 {X Y : Int} (h : ¬ (X = 0 ∧ Y = 0)) : ∃ q u v k, QuadP X Y q u v k ∧ (angF X Y).2 = exF u v k := by
  by_cases c0 : 0 < X ∧ 0 ≤ Y
  · exact ⟨0, X, Y, _, ⟨by decide, by decide, c0.1, c0.2, by simp [qx], by simp [qy], rfl, by unfold angF; rw [if_pos c0]; rfl⟩, by unfold angF; rw [if_pos c0]; rfl⟩
  · by_cases c1 : 0 < Y ∧ X ≤ 0
    · exact ⟨1, Y, -X, _, ⟨by decide, by decide, c1.1, by omega, by simp [qx], by simp [qy], rfl, by unfold angF; rw [if_neg c0, if_pos c1]; rfl⟩, by unfold angF; rw [if_neg c0, if_pos c1]; rfl⟩
    · by_cases c2 : X < 0 ∧ Y ≤ 0
      · exact ⟨2, -X, -Y, _, ⟨by decide, by decide, by omega, by omega, by simp [qx], by simp [qy], rfl, by unfold angF; rw [if_neg c0, if_neg c1, if_pos c2]; rfl⟩, by unfold angF; rw [if_neg c0, if_neg c1, if_pos c2]; rfl⟩
      · exact ⟨3, -Y, X, _, ⟨by decide, by decide, by omega, by omega, by simp [qx], by simp [qy], rfl, by unfold angF; rw [if_neg c0, if_neg c1, if_neg c2]; rfl⟩, by unfold angF; rw [if_neg c0, if_neg c1, if_neg c2]; rfl⟩
theorem ang_same {X Y X' Y' α β : Int} (h1 : 0 < α * X + β * Y) (h2 : 0 < α * X' + β * Y') (c1 : 0 ≤ crs X Y X' Y') (c2 : 0 ≤ crs X' Y' X Y) : angF X Y = angF X' Y' := by
  have c0 : crs X Y X' Y' = 0 := by
    have := crs_anti X Y X' Y'
    omega
  obtain ⟨q, a, b, k, P, e1⟩ := quad_ex2 (X := X) (Y := Y) (by rintro ⟨rfl, rfl⟩; simp at h1)
  obtain ⟨q', c, d, k', P', e2⟩ := quad_ex2 (X := X') (Y := Y') (by rintro ⟨rfl, rfl⟩; simp at h2)
  obtain ⟨r0, r1, r2, r3⟩ := crs_quad P P'
  have a0 := P.u0
  have b0 := P.v0
  have c0' := P'.u0
  have d0 := P'.v0
  have p1 := Int.mul_pos a0 c0'
  have p2 := Int.mul_nonneg b0 d0
  have n1 : (q' - q) % 4 ≠ 3 := fun h => by have := r3 h; omega
  have n2 : (q' - q) % 4 ≠ 1 := fun h => by have := r1 h; omega
  have hq : q = 0 ∨ q = 1 ∨ q = 2 ∨ q = 3 := by have := P.q0; have := P.q3; omega
  have n3 : (q' - q) % 4 ≠ 2 := fun h => by
    have hz : a * d = b * c := by have := r2 h; omega
    have hsum : c * (α * X + β * Y) + a * (α * X' + β * Y') = 0 := by
      have hx := P.x
      have hy := P.y
      have gx := P'.x
      have gy := P'.y
      have gq : q' = 0 ∨ q' = 1 ∨ q' = 2 ∨ q' = 3 := by have := P'.q0; have := P'.q3; omega
      clear P P' e1 e2 r0 r1 r2 r3 c1 c2 c0 n1 n2 h1 h2 p1 p2
      rcases hq with rfl | rfl | rfl | rfl <;> rcases gq with rfl | rfl | rfl | rfl
      all_goals
        first
          | (exfalso; revert h; decide)
          | (simp only [qx, qy, Int.reduceEq, ↓reduceIte] at hx hy gx gy
             subst hx hy gx gy
             grind)
    have u1 := Int.mul_pos c0' h1
    have u2 := Int.mul_pos a0 h2
    omega
  have hD : (q' - q) % 4 = 0 := by omega
  have hqq : q' = q := by have := P.q0; have := P.q3; have := P'.q0; have := P'.q3; omega
  have hz : a * d = b * c := by have := r0 hD; omega
  have k1 := same_quad a0 c0' P.kv P'.kv (by have e1 : d * a = a * d := Int.mul_comm _ _; omega)
  have k2 := same_quad c0' a0 P'.kv P.kv (by have e1 : d * a = a * d := Int.mul_comm _ _; omega)
  have hk : k' = k := by omega
  have hex : exF a b k = exF c d k' := by
    rw [hk]
    unfold exF
    have t1 : b = 0 ↔ d = 0 := by
      constructor
      · rintro rfl
        rw [Int.zero_mul] at hz
        rcases Int.mul_eq_zero.1 hz with h | h
        · omega
        · exact h
      · rintro rfl
        rw [Int.mul_zero] at hz
        rcases Int.mul_eq_zero.1 hz.symm with h | h
        · exact h
        · omega
    have t2 : a = b ↔ c = d := by
      constructor
      · rintro rfl
        exact (Int.eq_of_mul_eq_mul_left (by omega) hz).symm
      · rintro rfl
        exact Int.eq_of_mul_eq_mul_right (by omega) hz
    rw [decide_eq_decide.2 (show (k = 0 ∧ b = 0) ↔ (k = 0 ∧ d = 0) by rw [t1]), decide_eq_decide.2 (show (k = 2700000 ∧ a = b) ↔ (k = 2700000 ∧ c = d) by rw [t2])]
  refine Prod.ext ?_ ?_
  · rw [P.ang, P'.ang, hqq, hk]
  · rw [e1, e2, hex]
def refB (a c : Int × Int) : Int × Int := ((angF a.1 a.2).1, if (angF c.1 c.2).1 + (if (angF c.1 c.2).2 = true then 0 else 1) < (angF a.1 a.2).1 then (angF c.1 c.2).1 + (if (angF c.1 c.2).2 = true then 0 else 1) + 21600000 else (angF c.1 c.2).1 + (if (angF c.1 c.2).2 = true then 0 else 1))
theorem ang_next {X Y X' Y' α β : Int} (h1 : 0 < α * X + β * Y) (h2 : 0 < α * X' + β * Y') (c1 : 0 ≤ crs X Y X' Y') : (angF X' Y').1 + 1 ≠ (angF X Y).1 := by
  obtain ⟨q, a, b, k, P⟩ := quad_ex (X := X) (Y := Y) (by rintro ⟨rfl, rfl⟩; simp at h1)
  obtain ⟨q', c, d, k', P'⟩ := quad_ex (X := X') (Y := Y') (by rintro ⟨rfl, rfl⟩; simp at h2)
  obtain ⟨r0, r1, r2, r3⟩ := crs_quad P P'
  have a0 := P.u0
  have b0 := P.v0
  have c0' := P'.u0
  have d0 := P'.v0
  have p1 := Int.mul_pos a0 c0'
  have p2 := Int.mul_nonneg b0 d0
  have l1 := P.lt
  have l2 := P'.lt
  have n1 : (q' - q) % 4 ≠ 3 := fun h => by have := r3 h; omega
  have k1 : (q' - q) % 4 = 0 → k ≤ k' := fun h => same_quad a0 c0' P.kv P'.kv (by have := r0 h; have e1 : d * a = a * d := Int.mul_comm _ _; omega)
  rw [P.ang, P'.ang]
  have := P.q0
  have := P.q3
  have := P'.q0
  have := P'.q3
  clear r0 r1 r2 r3 p1 p2 P P'
  omega
theorem ref_br {x0 x1 y0 y1 : Int} (hx : x0 ≤ x1) (hy : y0 ≤ y1) (hn : ¬ oriB x0 x1 y0 y1) : refB (fstS x0 x1 y0 y1 3) (lstS x0 x1 y0 y1 3) = brF x0 x1 y0 y1 := by
  obtain ⟨α, β, hp⟩ := box_half hn
  have e1 : angF (fstS x0 x1 y0 y1 3).1 (fstS x0 x1 y0 y1 3).2 = angF (fstC x0 x1 y0 y1 4).1 (fstC x0 x1 y0 y1 4).2 := by
    obtain ⟨⟨f1, f2⟩, f3, f4⟩ := fstS_in hx hy 3
    obtain ⟨⟨g1, g2⟩, g3, g4⟩ := fst_in hx hy 4
    refine ang_same (hp _ _ f1 f2 f3 f4) (hp _ _ g1 g2 g3 g4) ?_ ?_
    · exact crs_box (fun j hj => fstS_min hx hy hp 3 j (by omega)) g1 g2 g3 g4
    · exact crs_box (fun j hj => fst_min hx hy hp 4 j hj) f1 f2 f3 f4
  have e2 : angF (lstS x0 x1 y0 y1 3).1 (lstS x0 x1 y0 y1 3).2 = angF (lstC x0 x1 y0 y1 4).1 (lstC x0 x1 y0 y1 4).2 := by
    obtain ⟨⟨f1, f2⟩, f3, f4⟩ := lstS_in hx hy 3
    obtain ⟨⟨g1, g2⟩, g3, g4⟩ := lst_in hx hy 4
    refine ang_same (hp _ _ f1 f2 f3 f4) (hp _ _ g1 g2 g3 g4) ?_ ?_
    · exact crs_box' (fun j hj => lst_max hx hy hp 4 j hj) f1 f2 f3 f4
    · exact crs_box' (fun j hj => lstS_max hx hy hp 3 j (by omega)) g1 g2 g3 g4
  have e3 : (angF (lstC x0 x1 y0 y1 4).1 (lstC x0 x1 y0 y1 4).2).1 + 1 ≠ (angF (fstC x0 x1 y0 y1 4).1 (fstC x0 x1 y0 y1 4).2).1 := by
    obtain ⟨⟨f1, f2⟩, f3, f4⟩ := lst_in hx hy 4
    obtain ⟨⟨g1, g2⟩, g3, g4⟩ := fst_in hx hy 4
    exact ang_next (hp _ _ g1 g2 g3 g4) (hp _ _ f1 f2 f3 f4) (crs_box (fun j hj => fst_min hx hy hp 4 j hj) f1 f2 f3 f4)
  unfold brF refB brG
  rw [if_neg hn, e1, e2]
  refine Prod.ext rfl ?_
  dsimp only
  generalize (angF (lstC x0 x1 y0 y1 4).1 (lstC x0 x1 y0 y1 4).2).2 = ex at *
  generalize (angF (lstC x0 x1 y0 y1 4).1 (lstC x0 x1 y0 y1 4).2).1 = s at *
  generalize (angF (fstC x0 x1 y0 y1 4).1 (fstC x0 x1 y0 y1 4).2).1 = m at *
  cases ex
  · rw [if_neg Bool.false_ne_true]
    split <;> split <;> omega
  · rw [if_pos rfl]
    split <;> split <;> omega
end Go.Proofs.YtnnmfdeeicpdlaaGreat
/- The reference's arcsines: Below, Rough, guess, Floor, Ceil. -/
namespace Go.Proofs.YtnnmfdeeicpdlaaGreat
set_option maxRecDepth 100000
open Go.RowKit

def belR (n v : Int) : Int := if exaQ (foldT n) = true ∧ bLo n = v then 0 else if v ≤ bLo n then 1 else -1
theorem belR_iff (n v : Int) : belR n v ≤ 0 ↔ bHi n ≤ v := by
  unfold belR
  cases h : exaQ (foldT n)
  · have hb := (bb_no h).1
    rw [if_neg (by simp)]
    split <;> omega
  · have hb := (bb_ex h).1
    by_cases c : bLo n = v
    · rw [if_pos ⟨rfl, c⟩]; omega
    · rw [if_neg (fun g => c g.2)]
      split <;> omega
theorem r6_Below (n v : Int) (w : World) :
    Calls Tryz.prog 202 #[.int .i64 n, .int .i64 v] w fun e w' => e = .returned (.int .i64 (belR n v)) ∧ ∃ d, w' = bw w d := by
  have HF := Lib.hid (fun W => r6_Floor n W)
  unfold belR
  generalize exaQ (foldT n) = x at *
  generalize bLo n = b at *
  cases x
  · by_cases c : v ≤ b
    · rw [if_neg (by simp), if_pos c]
      refine lay_start ?_
      go_enter Tryz.func202, Tryz.ntmps202
      go_wp2_with (go_at_call 248; refine (HF.out _).mono ?_; rintro e w' ⟨rfl, d1, rfl⟩; rw [lay_bw])
      go_ret
      exact ⟨rfl, lay_ex _ _⟩
    · rw [if_neg (by simp), if_neg c]
      refine lay_start ?_
      go_enter Tryz.func202, Tryz.ntmps202
      go_wp2_with (go_at_call 248; refine (HF.out _).mono ?_; rintro e w' ⟨rfl, d1, rfl⟩; rw [lay_bw])
      go_ret
      exact ⟨rfl, lay_ex _ _⟩
  · by_cases c0 : b = v
    · have e1 : (b == v) = true := beq_iff_eq.2 c0
      rw [if_pos ⟨rfl, c0⟩]
      refine lay_start ?_
      go_enter Tryz.func202, Tryz.ntmps202
      go_wp2_with (go_at_call 248; refine (HF.out _).mono ?_; rintro e w' ⟨rfl, d1, rfl⟩; rw [lay_bw])
      go_ret
      exact ⟨rfl, lay_ex _ _⟩
    · have e1 : (b == v) = false := beq_eq_false_iff_ne.2 c0
      rw [if_neg (fun g => c0 g.2)]
      by_cases c : v ≤ b
      · rw [if_pos c]
        refine lay_start ?_
        go_enter Tryz.func202, Tryz.ntmps202
        go_wp2_with (go_at_call 248; refine (HF.out _).mono ?_; rintro e w' ⟨rfl, d1, rfl⟩; rw [lay_bw])
        go_ret
        exact ⟨rfl, lay_ex _ _⟩
      · rw [if_neg c]
        refine lay_start ?_
        go_enter Tryz.func202, Tryz.ntmps202
        go_wp2_with (go_at_call 248; refine (HF.out _).mono ?_; rintro e w' ⟨rfl, d1, rfl⟩; rw [lay_bw])
        go_ret
        exact ⟨rfl, lay_ex _ _⟩
theorem r7_Rough0 (n : Int) (h0 : 0 ≤ n) (w : World) :
    Calls Tryz.prog 251 #[.int .i64 n] w fun e w' => (∃ r : Int, e = .returned (.int .i64 r)) ∧ ∃ d, w' = bw w d := by
  have h1 : ¬ n < 0 := by omega
  refine lay_start ?_
  go_enter Tryz.func251, Tryz.ntmps251
  go_wp2_with fail
  go_loopw [5, 6] (fun v5 v6 wr => ∃ (t k : Int), v5 = .int .i64 t ∧ v6 = .int .i64 k ∧ wr = lay w [] ∧ (k = 1 ∨ k = 3 ∨ k = 5 ∨ k = 7 ∨ k = 9 ∨ k = 11 ∨ k = 13)) (fun _ v6 _ => (intOf v6 + 5).toNat)
  case atStart => exact ⟨_, _, rfl, rfl, rfl, by decide⟩
  case round =>
    obtain ⟨t, k, rfl, rfl, hw, hk⟩ := hrel
    rw [hw]
    rcases hk with rfl | rfl | rfl | rfl | rfl | rfl | rfl
    · go_wp2_with fail
      go_ret
      exact ⟨⟨_, rfl⟩, lay_ex _ _⟩
    all_goals
      go_wp2_with fail
      exact ⟨⟨_, _, rfl, rfl, by first | trivial | rfl, by decide⟩, by simp only [intOf]; decide⟩
theorem r7_Rough (n : Int) (h0 : -5400000 ≤ n) (w : World) :
    Calls Tryz.prog 251 #[.int .i64 n] w fun e w' => (∃ r : Int, e = .returned (.int .i64 r)) ∧ ∃ d, w' = bw w d := by
  by_cases h : 0 ≤ n
  · exact r7_Rough0 n h w
  · have HR := Lib.hid (fun W => r7_Rough0 (-n) (by omega) W)
    have h1 : n < 0 := by omega
    have k1 : IntKind.i64.wrap (-n) = -n := IntWalk.i64_in _ (by omega)
    obtain ⟨m, hm⟩ : ∃ m, -n = m := ⟨_, rfl⟩
    rw [hm] at HR
    have k2 : IntKind.i64.wrap (-n) = m := k1.trans hm
    clear hm h h0 k1
    refine lay_start ?_
    go_enter Tryz.func251, Tryz.ntmps251
    go_wp2_with (go_at_call 251; refine (HR.out _).mono ?_; rintro e w' ⟨⟨r, rfl⟩, d1, rfl⟩; rw [lay_bw])
    go_ret
    exact ⟨⟨_, rfl⟩, lay_ex _ _⟩
theorem r7_guess (v : Int) (w : World) :
    Calls Tryz.prog 201 #[.int .i64 v] w fun e w' => (∃ r : Int, e = .returned (.int .i64 r) ∧ -5400000 ≤ r ∧ r ≤ 5400000) ∧ ∃ d, w' = bw w d := by
  have HB := Lib.hid (fun n h W => r7_Rough n h W)
  refine lay_start ?_
  go_enter Tryz.func201, Tryz.ntmps201
  go_wp2_with fail
  go_loopw [3, 4] (fun v3 v4 wr => ∃ (l h : Int) (dd : Ext), v3 = .int .i64 l ∧ v4 = .int .i64 h ∧ wr = lay w [.inr dd] ∧ -5400000 ≤ l ∧ l ≤ h ∧ h ≤ 5400000) (fun v3 v4 _ => (intOf v4 - intOf v3).toNat)
  case atStart => exact ⟨-5400000, 5400000, noExt _, rfl, rfl, (bw_noExt _).symm, by decide, by decide, by decide⟩
  case round =>
    obtain ⟨l, h, dd, rfl, rfl, rfl, hl, hlh, hh⟩ := hrel
    by_cases c : l < h
    · obtain ⟨X, hX⟩ : ∃ X, h - l = X := ⟨_, rfl⟩
      obtain ⟨Y, hY⟩ : ∃ Y, X + 1 = Y := ⟨_, rfl⟩
      have k1 : IntKind.i64.wrap (h - l) = X := by rw [hX]; exact IntWalk.i64_in _ (by omega)
      have k2 : IntKind.i64.wrap (X + 1) = Y := by rw [hY]; exact IntWalk.i64_in _ (by omega)
      have hq : Y.tdiv 2 = Y / 2 := Int.tdiv_eq_ediv_of_nonneg (by omega)
      obtain ⟨q, hq2⟩ : ∃ q, Y / 2 = q := ⟨_, rfl⟩
      rw [hq2] at hq
      have hq3 : 1 ≤ q ∧ q ≤ h - l := by omega
      have k3 : IntKind.i64.wrap q = q := IntWalk.i64_in _ (by omega)
      obtain ⟨m, hm⟩ : ∃ m, l + q = m := ⟨_, rfl⟩
      have k4 : IntKind.i64.wrap (l + q) = m := by rw [hm]; exact IntWalk.i64_in _ (by omega)
      have k5 : IntKind.i64.wrap (m - 1) = m - 1 := IntWalk.i64_in _ (by omega)
      have HLH := Lib.hid (And.intro hl (And.intro hh (And.intro hlh (show l < m ∧ m ≤ h by omega))))
      have HBm := Lib.hid (fun W => HB.out m (by omega) W)
      clear hX hY hl hlh hh hm hq2 hq3 HB
      go_wp2_with (go_at_call 251; refine (HBm.out _).mono ?_; rintro e w' ⟨⟨r, rfl⟩, d1, rfl⟩; rw [lay_bw])
      · obtain ⟨g1, g2, g3, g4, g5⟩ := HLH.out
        rename_i d1 _
        obtain ⟨de, hde⟩ := lay_all w [.inr d1, .inr dd]
        exact ⟨⟨_, _, de, rfl, rfl, hde, by omega, by omega, by omega⟩, by simp only [intOf]; omega⟩
      · obtain ⟨g1, g2, g3, g4, g5⟩ := HLH.out
        rename_i d1 _
        obtain ⟨de, hde⟩ := lay_all w [.inr d1, .inr dd]
        exact ⟨⟨_, _, de, rfl, rfl, hde, by omega, by omega, by omega⟩, by simp only [intOf]; omega⟩
    · have HLH := Lib.hid (And.intro hl hh)
      have HH := Lib.hid hlh
      clear hl hh hlh
      go_wp2_with fail
      go_ret
      exact ⟨⟨_, rfl, HLH.out.1, by have := HLH.out.2; have := HH.out; omega⟩, lay_ex _ _⟩
end Go.Proofs.YtnnmfdeeicpdlaaGreat
/- The reference's arcsines: Floor. -/
namespace Go.Proofs.YtnnmfdeeicpdlaaGreat
open Go.RowKit

set_option maxHeartbeats 4000000 in
set_option maxRecDepth 100000 in
theorem r7_Floor (v : Int) (hv : -1073741824 ≤ v) (w : World) :
    Calls Tryz.prog 135 #[.int .i64 v] w fun e w' => e = .returned (.int .i64 (asnI v)) ∧ ∃ d, w' = bw w d := by
  have HB := Lib.hid (fun n W => r6_Below n v W)
  have HG := Lib.hid (fun W => r7_guess v W)
  obtain ⟨R, hR⟩ : ∃ R, asnI v = R := ⟨_, rfl⟩
  have HR : Hid (∀ r, IsAsn v r → R = r) := Lib.hid fun r h => by rw [← hR]; exact asnI_eq h
  rw [hR]
  have HV := Lib.hid hv
  clear hR hv
  refine lay_start ?_
  go_enter Tryz.func135, Tryz.ntmps135
  go_wp2_with (go_at_call 201; refine (HG.out _).mono ?_; rintro e w' ⟨⟨r0, rfl, hr1, hr2⟩, d0, rfl⟩; rw [lay_bw])
  go_loopw [3, 4] (fun v3 v4 wr => ∃ (l s : Int) (dd : Ext), v3 = .int .i64 l ∧ v4 = .int .i64 s ∧ wr = lay w [.inr dd] ∧ -5400000 ≤ l ∧ l ≤ 5400000 ∧ 1 ≤ s ∧ s ≤ 21600002 ∧ (l = -5400000 ∨ s ≤ 5400001 - l)) (fun v3 _ _ => (intOf v3 + 5400000).toNat)
  case atStart => exact ⟨r0, 1, d0, rfl, rfl, rfl, hr1, hr2, by decide, by decide, .inr (by omega)⟩
  case round =>
    obtain ⟨l, s, dd, rfl, rfl, rfl, hl, hl2, hs, hs2, hd⟩ := hrel
    have HI := belR_iff l v
    have HBl := Lib.hid (fun W => HB.out l W)
    generalize belR l v = r at *
    by_cases cb : 0 < r
    · have hne : l ≠ -5400000 := fun e => by
        subst e
        rw [b_bot] at HI
        have := HI.2 HV.out
        omega
      have hd2 : s ≤ 5400001 - l := by omega
      obtain ⟨m, hm⟩ : ∃ m, l - s = m := ⟨_, rfl⟩
      have k1 : IntKind.i64.wrap (l - s) = m := by rw [hm]; exact IntWalk.i64_in _ (by omega)
      have k2 : IntKind.i64.wrap (2 * s) = 2 * s := IntWalk.i64_in _ (by omega)
      have HF := Lib.hid (And.intro hl (And.intro hl2 (And.intro hs (And.intro hd2 (And.intro hm hne)))))
      clear HI hl hl2 hs hs2 hd hne hd2 hm
      by_cases cm : m < -5400000
      · go_wp2_with (go_at_call 202; refine (HBl.out _).mono ?_; rintro e w' ⟨rfl, d1, rfl⟩; rw [lay_bw])
        obtain ⟨f1, f2, f3, f4, f5, f6⟩ := HF.out
        obtain ⟨de, hde⟩ := lay_all w [.inr d1, .inr dd]
        exact ⟨⟨_, _, de, rfl, rfl, hde, by decide, by decide, by omega, by omega, .inl rfl⟩, by simp only [intOf]; omega⟩
      · go_wp2_with (go_at_call 202; refine (HBl.out _).mono ?_; rintro e w' ⟨rfl, d1, rfl⟩; rw [lay_bw])
        obtain ⟨f1, f2, f3, f4, f5, f6⟩ := HF.out
        obtain ⟨de, hde⟩ := lay_all w [.inr d1, .inr dd]
        exact ⟨⟨_, _, de, rfl, rfl, hde, by omega, by omega, by omega, by omega, .inr (by omega)⟩, by simp only [intOf]; omega⟩
    · have hle : bHi l ≤ v := HI.1 (by omega)
      have kl : IntKind.i64.wrap (l + 1) = l + 1 := IntWalk.i64_in _ (by omega)
      have HF := Lib.hid (And.intro hl (And.intro hl2 hle))
      clear HI hl hl2 hs hs2 hd hle HG hr1 hr2
      go_wp2_with (go_at_call 202; refine (HBl.out _).mono ?_; rintro e w' ⟨rfl, d1, rfl⟩; rw [lay_bw])
      clear HBl cb
      obtain ⟨de, hde⟩ := lay_all w [.inr d1, .inr dd]
      rw [hde]
      clear hde
      go_loopw [3, 5, 6] (fun v3 v5 v6 wr => ∃ (a b s : Int) (dd : Ext), v3 = .int .i64 a ∧ v5 = .int .i64 b ∧ v6 = .int .i64 s ∧ wr = lay w [.inr dd] ∧ -5400000 ≤ a ∧ a ≤ 5400000 ∧ a < b ∧ b ≤ 27000009 ∧ bHi a ≤ v ∧ (a < 5400000 → b ≤ 5400000) ∧ 1 ≤ s ∧ (s ≤ b + 5400001 ∨ (b = 5400000 ∧ s ≤ 21600004) ∨ 5400000 < b)) (fun v3 _ _ _ => (5400000 - intOf v3).toNat)
      case atStart =>
        obtain ⟨f1, f2, f3⟩ := HF.out
        exact ⟨_, _, 1, de, rfl, rfl, rfl, rfl, f1, f2, by omega, by omega, f3, by omega, by decide, .inl (by omega)⟩
      case round =>
        clear HF kl
        obtain ⟨a, b, s, de, rfl, rfl, rfl, rfl, ha, ha2, hab, hb2, hva, hk, hs, hd⟩ := hrel
        have HI := belR_iff b v
        have HBb := Lib.hid (fun W => HB.out b W)
        generalize belR b v = r at *
        by_cases c1 : b ≤ 5400000
        · by_cases c2 : r ≤ 0
          · have hvb := HI.1 c2
            obtain ⟨x, hx⟩ : ∃ x, b + s = x := ⟨_, rfl⟩
            have hs3 : s ≤ 21600004 := by omega
            have k1 : IntKind.i64.wrap (b + s) = x := by rw [hx]; exact IntWalk.i64_in _ (by omega)
            have k2 : IntKind.i64.wrap (2 * s) = 2 * s := IntWalk.i64_in _ (by omega)
            have HF := Lib.hid (And.intro ha (And.intro hab (And.intro hvb (And.intro hs (And.intro hd (And.intro hx c1))))))
            clear HI ha ha2 hab hb2 hva hk hs hd hx hvb hs3
            by_cases c3 : b < 5400000
            · by_cases c4 : 5400000 < x
              · go_wp2_with (go_at_call 202; refine (HBb.out _).mono ?_; rintro e w' ⟨rfl, d1, rfl⟩; rw [lay_bw])
                obtain ⟨f1, f2, f3, f4, f5, f6, f7⟩ := HF.out
                obtain ⟨df, hdf⟩ := lay_all w [.inr d1, .inr de]
                exact ⟨⟨_, _, _, df, rfl, rfl, rfl, hdf, by omega, by omega, by omega, by omega, f3, by omega, by omega, .inr (.inl ⟨rfl, by omega⟩)⟩, by simp only [intOf]; omega⟩
              · go_wp2_with (go_at_call 202; refine (HBb.out _).mono ?_; rintro e w' ⟨rfl, d1, rfl⟩; rw [lay_bw])
                obtain ⟨f1, f2, f3, f4, f5, f6, f7⟩ := HF.out
                obtain ⟨df, hdf⟩ := lay_all w [.inr d1, .inr de]
                exact ⟨⟨_, _, _, df, rfl, rfl, rfl, hdf, by omega, by omega, by omega, by omega, f3, by omega, by omega, .inl (by omega)⟩, by simp only [intOf]; omega⟩
            · go_wp2_with (go_at_call 202; refine (HBb.out _).mono ?_; rintro e w' ⟨rfl, d1, rfl⟩; rw [lay_bw])
              obtain ⟨f1, f2, f3, f4, f5, f6, f7⟩ := HF.out
              obtain ⟨df, hdf⟩ := lay_all w [.inr d1, .inr de]
              exact ⟨⟨_, _, _, df, rfl, rfl, rfl, hdf, by omega, by omega, by omega, by omega, f3, by omega, by omega, .inr (.inr (by omega))⟩, by simp only [intOf]; omega⟩
          · have hvb : v < bHi b := by omega
            clear HI hs hd
            by_cases c3 : a = 5400000
            · have hR := HR.out a ⟨ha, ha2, hva, .inl c3⟩
              have e1 : (a == 5400000) = true := beq_iff_eq.2 c3
              have HF := Lib.hid (And.intro hab c1)
              clear hva hk ha ha2 hab hb2
              subst hR
              exact absurd HF.out.1 (by have := HF.out.2; omega)
            · have hR : Hid (∀ r, IsAsn v r → R = r) := HR
              have e1 : (a == 5400000) = false := beq_eq_false_iff_ne.2 c3
              have HF := Lib.hid (And.intro ha (And.intro hab (And.intro c1 (And.intro hva hvb))))
              clear hva hk ha ha2 hab hb2 hvb
              go_wp2_with (go_at_call 202; refine (HBb.out _).mono ?_; rintro e w' ⟨rfl, d1, rfl⟩; rw [lay_bw])
              clear HBb c1 c2 c3 e1
              obtain ⟨df, hdf⟩ := lay_all w [.inr d1, .inr de]
              rw [hdf]
              clear hdf
              go_loopw [3, 5] (fun v3 v5 wr => ∃ (l h : Int) (dd : Ext), v3 = .int .i64 l ∧ v5 = .int .i64 h ∧ wr = lay w [.inr dd] ∧ -5400000 ≤ l ∧ l < h ∧ h ≤ 5400000 ∧ bHi l ≤ v ∧ v < bHi h) (fun v3 v5 _ => (intOf v5 - intOf v3).toNat)
              case atStart =>
                obtain ⟨f1, f2, f3, f4, f5⟩ := HF.out
                exact ⟨_, _, df, rfl, rfl, rfl, f1, f2, f3, f4, f5⟩
              case round =>
                clear HF
                obtain ⟨l, h, dd, rfl, rfl, rfl, hl, hlh, hh, hA, hB⟩ := hrel
                have k0 : IntKind.i64.wrap (l + 1) = l + 1 := IntWalk.i64_in _ (by omega)
                by_cases c : l + 1 < h
                · obtain ⟨X, hX⟩ : ∃ X, h - l = X := ⟨_, rfl⟩
                  have k1 : IntKind.i64.wrap (h - l) = X := by rw [hX]; exact IntWalk.i64_in _ (by omega)
                  have hq : X.tdiv 2 = X / 2 := Int.tdiv_eq_ediv_of_nonneg (by omega)
                  obtain ⟨q, hq2⟩ : ∃ q, X / 2 = q := ⟨_, rfl⟩
                  rw [hq2] at hq
                  have hq3 : 1 ≤ q ∧ q < h - l := by omega
                  have k3 : IntKind.i64.wrap q = q := IntWalk.i64_in _ (by omega)
                  obtain ⟨m, hm⟩ : ∃ m, l + q = m := ⟨_, rfl⟩
                  have k4 : IntKind.i64.wrap (l + q) = m := by rw [hm]; exact IntWalk.i64_in _ (by omega)
                  have HI := belR_iff m v
                  have HBm := Lib.hid (fun W => HB.out m W)
                  generalize belR m v = r at *
                  have HF := Lib.hid (And.intro hl (And.intro hlh (And.intro hh (And.intro hA (And.intro hB (show l < m ∧ m < h by omega))))))
                  by_cases cb : r ≤ 0
                  · have HLe := Lib.hid (HI.1 cb)
                    clear hX hl hlh hh hm hA hB hq2 hq3 HI
                    go_wp2_with (go_at_call 202; refine (HBm.out _).mono ?_; rintro e w' ⟨rfl, d1, rfl⟩; rw [lay_bw])
                    obtain ⟨f1, f2, f3, f4, f5, f6, f7⟩ := HF.out
                    obtain ⟨dg, hdg⟩ := lay_all w [.inr d1, .inr dd]
                    exact ⟨⟨_, _, dg, rfl, rfl, hdg, by omega, by omega, by omega, HLe.out, f5⟩, by simp only [intOf]; omega⟩
                  · have HLe : Hid (v < bHi m) := Lib.hid (by omega)
                    clear hX hl hlh hh hm hA hB hq2 hq3 HI
                    go_wp2_with (go_at_call 202; refine (HBm.out _).mono ?_; rintro e w' ⟨rfl, d1, rfl⟩; rw [lay_bw])
                    obtain ⟨f1, f2, f3, f4, f5, f6, f7⟩ := HF.out
                    obtain ⟨dg, hdg⟩ := lay_all w [.inr d1, .inr dd]
                    exact ⟨⟨_, _, dg, rfl, rfl, hdg, by omega, by omega, by omega, f4, HLe.out⟩, by simp only [intOf]; omega⟩
                · obtain rfl : h = l + 1 := by omega
                  have hR2 := HR.out l ⟨hl, by omega, hA, .inr hB⟩
                  clear hA hB hlh hh hl HB HR hR HV
                  subst hR2
                  go_wp2_with fail
                  go_ret
                  exact ⟨rfl, lay_ex _ _⟩
        · have haQ : a = 5400000 := by omega
          have e1 : (a == 5400000) = true := beq_iff_eq.2 haQ
          have hR := HR.out a ⟨ha, ha2, hva, .inl haQ⟩
          clear hva hk ha ha2 hab hb2 hs hd HI HB HR HV
          subst haQ
          subst hR
          go_wp2_with fail
          go_ret
          exact ⟨rfl, lay_ex _ _⟩
end Go.Proofs.YtnnmfdeeicpdlaaGreat
/- The reference's arcsines: Valid, Ceil, Asin, Acos, Ahav. -/
namespace Go.Proofs.YtnnmfdeeicpdlaaGreat
set_option maxRecDepth 100000
open Go.RowKit

theorem r7_Valid (lo hi : Int) (w : World) :
    Calls Tryz.prog 123 #[(.agg #[.int .i64 (lo), .int .i64 (hi)])] w fun e w' => e = .returned (.bool (fxB lo hi)) ∧ ∃ d, w' = bw w d := by
  refine lay_start ?_
  go_enter Tryz.func123, Tryz.ntmps123
  go_wp2
  all_goals go_ret
  all_goals exact ⟨ret_bool (by rw [Bool.eq_iff_iff]; simp [fxB]; omega), lay_ex _ _⟩
theorem r7_Ceil (v : Int) (hv : -1073741824 ≤ -v) (h2 : -2147483648 ≤ v) (w : World) :
    Calls Tryz.prog 136 #[.int .i64 v] w fun e w' => e = .returned (.int .i64 (-(asnI (-v)))) ∧ ∃ d, w' = bw w d := by
  have HF := Lib.hid (fun W => r7_Floor (-v) hv W)
  have hi := asnI_in hv
  obtain ⟨m, hm⟩ : ∃ m, -v = m := ⟨_, rfl⟩
  have k1 : IntKind.i64.wrap (-v) = m := by rw [hm]; exact IntWalk.i64_in _ (by omega)
  rw [hm] at HF hi
  rw [hm]
  generalize asnI m = r at *
  have k2 : IntKind.i64.wrap (-r) = -r := IntWalk.i64_in _ (by omega)
  clear hv h2 hi hm
  refine lay_start ?_
  go_enter Tryz.func136, Tryz.ntmps136
  go_wp2_with (go_at_call 135; refine (HF.out _).mono ?_; rintro e w' ⟨rfl, d1, rfl⟩; rw [lay_bw])
  go_ret
  exact ⟨rfl, lay_ex _ _⟩
set_option maxHeartbeats 1000000 in
theorem r7_Asin (lo hi : Int) (w : World) :
    Calls Tryz.prog 56 #[(.agg #[.int .i64 (lo), .int .i64 (hi)])] w fun e w' => e = .returned (.tuple #[(.agg #[.int .i64 (asL lo hi), .int .i64 (asH lo hi)]), .int .i64 (asE lo hi)]) ∧ ∃ d, w' = bw w d := by
  have HV := Lib.hid (fun W => r7_Valid lo hi W)
  unfold asL asH
  rw [asE_at]
  cases h : fxB lo hi
  · rw [h] at HV
    clear h
    rw [if_pos rfl, if_neg (show ¬ ((1 : Int) = 0) by decide), if_neg (show ¬ ((1 : Int) = 0) by decide)]
    refine lay_start ?_
    go_enter Tryz.func56, Tryz.ntmps56
    go_wp2_with (go_at_call 123; refine (HV.out _).mono ?_; rintro e w' ⟨rfl, d, rfl⟩)
    exact bodyPost_ret (v := .tuple #[(.agg #[.int .i64 (0), .int .i64 (0)]), .int .i64 1]) (by simp [results, Tryz.results56, go_sem]) rfl ⟨rfl, lay_ex _ _⟩
  · rw [h] at HV
    have hb := fxB_iff.1 h
    have hx : -1073741824 ≤ mx lo (-1073741824) := by rw [mx_eq]; omega
    have hn : mn hi 1073741824 ≤ 1073741824 := by rw [mn_eq]; omega
    have hn2 : -2147483648 ≤ mn hi 1073741824 := by rw [mn_eq]; omega
    have hd : (mn hi 1073741824 < mx lo (-1073741824)) ∨ ¬ mn hi 1073741824 < mx lo (-1073741824) := by omega
    have H1 := Lib.hid (fun W => r7_Floor (mx lo (-1073741824)) hx W)
    have H2 := Lib.hid (fun W => r7_Ceil (mn hi 1073741824) (by omega) hn2 W)
    have w1 : (lo < -1073741824 ∧ mx lo (-1073741824) = -1073741824) ∨ (¬ lo < -1073741824 ∧ mx lo (-1073741824) = lo) := by rw [mx_eq]; omega
    have w2 : (1073741824 < hi ∧ mn hi 1073741824 = 1073741824) ∨ (¬ 1073741824 < hi ∧ mn hi 1073741824 = hi) := by rw [mn_eq]; omega
    rw [if_neg (show ¬ (true = false) by decide)]
    clear h hb hx hn hn2
    generalize mx lo (-1073741824) = x at *
    generalize mn hi 1073741824 = y at *
    generalize asnI x = u at *
    generalize -(asnI (-y)) = v at *
    rcases hd with hd | hd
    · rw [if_pos hd, if_neg (show ¬ ((2 : Int) = 0) by decide), if_neg (show ¬ ((2 : Int) = 0) by decide)]
      clear H1 H2
      rcases w1 with ⟨w1, rfl⟩ | ⟨w1, rfl⟩
      all_goals rcases w2 with ⟨w2, rfl⟩ | ⟨w2, rfl⟩
      · exact False.elim (by omega)
      all_goals
        refine lay_start ?_
        go_enter Tryz.func56, Tryz.ntmps56
        go_wp2_with (first | (go_at_call 123; refine (HV.out _).mono ?_; rintro e w' ⟨rfl, d, rfl⟩))
      all_goals exact bodyPost_ret (v := .tuple #[(.agg #[.int .i64 (0), .int .i64 (0)]), .int .i64 2]) (by simp [results, Tryz.results56, go_sem]) rfl ⟨rfl, lay_ex _ _⟩
    · rw [if_neg hd, if_pos rfl, if_pos rfl]
      rcases w1 with ⟨w1, rfl⟩ | ⟨w1, rfl⟩
      all_goals rcases w2 with ⟨w2, rfl⟩ | ⟨w2, rfl⟩
      all_goals
        refine lay_start ?_
        go_enter Tryz.func56, Tryz.ntmps56
        go_wp2_with (first | (go_at_call 123; refine (HV.out _).mono ?_; rintro e w' ⟨rfl, d, rfl⟩) | (go_at_call 135; refine (H1.out _).mono ?_; rintro e w' ⟨rfl, d, rfl⟩) | (go_at_call 136; refine (H2.out _).mono ?_; rintro e w' ⟨rfl, d, rfl⟩))
      all_goals exact bodyPost_ret (v := .tuple #[(.agg #[.int .i64 (u), .int .i64 (v)]), .int .i64 0]) (by simp [results, Tryz.results56, go_sem]) rfl ⟨rfl, lay_ex _ _⟩
end Go.Proofs.YtnnmfdeeicpdlaaGreat
