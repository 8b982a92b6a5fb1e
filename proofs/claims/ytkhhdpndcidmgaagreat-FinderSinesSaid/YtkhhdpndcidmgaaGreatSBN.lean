/- Contracts and plain laws, several texts in one: Fk1; Fk0; Fa4 -/
import Derived.Test.YtkhhdpndcidmgaaGreatProg
import Derived.WalkKit
import Derived.WalkSpells
import Derived.WalkLawsBesides
import Derived.Lib.Hide
import Derived.BigQuiet
import Derived.Test.YtkhhdpndcidmgaaGreatSAC
import Derived.Test.YtkhhdpndcidmgaaGreatSAD
import Derived.Test.YtkhhdpndcidmgaaGreatSAE
import Derived.Test.YtkhhdpndcidmgaaGreatSBJ
/- Directions in order: the bisection grows with the direction; three points in a half-plane. No function of the program. -/
namespace Go.Proofs.YtkhhdpndcidmgaaGreat
open Go.RowKit

theorem coA_nn {k : Nat} (h0 : 0 < k) (hk : k < 5400000) : 0 ≤ coA k := by
  rcases Int.lt_or_le (coA k) 0 with h | h
  · exfalso
    obtain ⟨n1, n2⟩ := (siA_near (k := k) (by omega)).2
    obtain ⟨b1, b2⟩ := (back_q k).1
    have z := zS_min (m := 5400000 - (k : Int)) (by omega) (by omega)
    have e : zS ((k : Int) - 5400000) = -(zS (5400000 - (k : Int))) := by rw [← zS_neg]; congr 1; omega
    have hd : (coA k : Rat) / (m192 : Rat) ≤ 0 := by
      have := div_mono (Int.le_of_lt h)
      have e0 : ((0 : Int) : Rat) / (m192 : Rat) = 0 := by rw [Rat.intCast_zero, Rat.div_def, Rat.zero_mul]
      rw [e0] at this
      exact this
    rw [e] at b1 b2
    unfold eA at n2
    unfold e60 at b2
    grind
  · exact h
theorem le_cancel {a b u : Int} (hu : 0 < u) (h : a * u ≤ b * u) : a ≤ b := Int.le_of_mul_le_mul_right h hu
theorem rch_mono {u v u' v' : Int} {k : Nat} (hk : k < 5400000) (hu : 0 < u) (hu' : 0 < u') (h : v * u' ≤ v' * u) (hr : rchB u v k = true) : rchB u' v' k = true := by
  unfold rchB at *
  by_cases k0 : k = 0
  · rw [if_pos k0]
  · rw [if_neg k0] at hr ⊢
    by_cases k1 : k = 2700000
    · rw [if_pos k1, decide_eq_true_eq] at hr ⊢
      have h1 := Int.mul_le_mul_of_nonneg_right hr (Int.le_of_lt hu')
      refine le_cancel hu ?_
      have e : u' * u = u * u' := Int.mul_comm _ _
      omega
    · rw [if_neg k1, decide_eq_true_eq] at hr ⊢
      have hc := coA_nn (k := k) (by omega) hk
      have h1 := Int.mul_le_mul_of_nonneg_right hr (Int.le_of_lt hu')
      have h2 := Int.mul_le_mul_of_nonneg_left h hc
      generalize siA k = A at *
      generalize coA k = C at *
      refine le_cancel hu ?_
      have e1 : A * u' * u = A * u * u' := by grind
      have e2 : C * (v * u') = C * v * u' := by grind
      have e3 : C * (v' * u) = C * v' * u := by grind
      omega
theorem bisF_ge {u v : Int} : ∀ {f l h : Nat}, l ≤ bisF u v f l h
  | 0, l, h => Nat.le_refl _
  | f + 1, l, h => by
    unfold bisF
    split
    · split
      · have := bisF_ge (u := u) (v := v) (f := f) (l := (l + h) / 2) (h := h)
        omega
      · exact bisF_ge
    · exact Nat.le_refl _
theorem bisF_mono {u v u' v' : Int} (hr : ∀ k, k < 5400000 → rchB u v k = true → rchB u' v' k = true) : ∀ {f l h : Nat}, h ≤ 5400000 → bisF u v f l h ≤ bisF u' v' f l h
  | 0, l, h, _ => Nat.le_refl _
  | f + 1, l, h, hh => by
    unfold bisF
    by_cases c : l + 1 < h
    · rw [if_pos c, if_pos c]
      have hm := hr ((l + h) / 2) (by omega)
      cases c1 : rchB u v ((l + h) / 2)
      · rw [if_neg Bool.false_ne_true]
        cases c2 : rchB u' v' ((l + h) / 2)
        · rw [if_neg Bool.false_ne_true]
          exact bisF_mono hr (by omega)
        · rw [if_pos rfl]
          have h1 := bisF_lt (u := u) (v := v) (f := f) (l := l) (h := (l + h) / 2) (by omega)
          have h2 := bisF_ge (u := u') (v := v') (f := f) (l := (l + h) / 2) (h := h)
          omega
      · rw [hm c1, if_pos rfl, if_pos rfl]
        exact bisF_mono hr hh
    · rw [if_neg c, if_neg c]; exact Nat.le_refl _
def qx (q u v : Int) : Int := if q = 0 then u else if q = 1 then -v else if q = 2 then -u else v
def qy (q u v : Int) : Int := if q = 0 then v else if q = 1 then u else if q = 2 then -v else -u
structure QuadP (X Y : Int) (q u v : Int) (k : Nat) : Prop where
  q0 : 0 ≤ q
  q3 : q ≤ 3
  u0 : 0 < u
  v0 : 0 ≤ v
  x : X = qx q u v
  y : Y = qy q u v
  kv : k = bisF u v 23 0 5400000
  ang : (angF X Y).1 = 5400000 * q + (k : Int)
theorem quad_ex {X Y : Int} (h : ¬ (X = 0 ∧ Y = 0)) : ∃ q u v k, QuadP X Y q u v k := by
  by_cases c0 : 0 < X ∧ 0 ≤ Y
  · exact ⟨0, X, Y, _, ⟨by decide, by decide, c0.1, c0.2, by simp [qx], by simp [qy], rfl, by unfold angF; rw [if_pos c0]; rfl⟩⟩
  · by_cases c1 : 0 < Y ∧ X ≤ 0
    · exact ⟨1, Y, -X, _, ⟨by decide, by decide, c1.1, by omega, by simp [qx], by simp [qy], rfl, by unfold angF; rw [if_neg c0, if_pos c1]; rfl⟩⟩
    · by_cases c2 : X < 0 ∧ Y ≤ 0
      · exact ⟨2, -X, -Y, _, ⟨by decide, by decide, by omega, by omega, by simp [qx], by simp [qy], rfl, by unfold angF; rw [if_neg c0, if_neg c1, if_pos c2]; rfl⟩⟩
      · exact ⟨3, -Y, X, _, ⟨by decide, by decide, by omega, by omega, by simp [qx], by simp [qy], rfl, by unfold angF; rw [if_neg c0, if_neg c1, if_neg c2]; rfl⟩⟩
theorem QuadP.lt {X Y q u v : Int} {k : Nat} (h : QuadP X Y q u v k) : k < 5400000 := by rw [h.kv]; exact bisF_lt (by decide)
def crs (X Y X' Y' : Int) : Int := X * Y' - Y * X'
theorem crs_quad {X Y X' Y' q a b q' c d : Int} {k k' : Nat} (h : QuadP X Y q a b k) (g : QuadP X' Y' q' c d k') :
    ((q' - q) % 4 = 0 → crs X Y X' Y' = a * d - b * c) ∧ ((q' - q) % 4 = 1 → crs X Y X' Y' = a * c + b * d) ∧ ((q' - q) % 4 = 2 → crs X Y X' Y' = -(a * d - b * c)) ∧ ((q' - q) % 4 = 3 → crs X Y X' Y' = -(a * c + b * d)) := by
  have h0 := h.q0
  have h3 := h.q3
  have g0 := g.q0
  have g3 := g.q3
  have hx := h.x
  have hy := h.y
  have gx := g.x
  have gy := g.y
  have hq : q = 0 ∨ q = 1 ∨ q = 2 ∨ q = 3 := by omega
  have gq : q' = 0 ∨ q' = 1 ∨ q' = 2 ∨ q' = 3 := by omega
  clear h g h0 h3 g0 g3
  unfold crs
  rcases hq with rfl | rfl | rfl | rfl <;> rcases gq with rfl | rfl | rfl | rfl
  all_goals
    simp only [qx, qy, Int.reduceEq, ↓reduceIte] at hx hy gx gy
    subst hx hy gx gy
    refine ⟨fun h => ?_, fun h => ?_, fun h => ?_, fun h => ?_⟩ <;> first | (exfalso; revert h; decide) | grind
theorem crs_trans {X Y X' Y' X'' Y'' α β : Int} (h1 : 0 < α * X + β * Y) (h2 : 0 < α * X' + β * Y') (h3 : 0 < α * X'' + β * Y'') (c1 : 0 ≤ crs X Y X' Y') (c2 : 0 ≤ crs X' Y' X'' Y'') : 0 ≤ crs X Y X'' Y'' := by
  have m1 := Int.mul_nonneg c1 (Int.le_of_lt h3)
  have m2 := Int.mul_nonneg c2 (Int.le_of_lt h1)
  have e : crs X Y X'' Y'' * (α * X' + β * Y') = crs X Y X' Y' * (α * X'' + β * Y'') + crs X' Y' X'' Y'' * (α * X + β * Y) := by unfold crs; grind
  refine le_cancel h2 ?_
  rw [Int.zero_mul, e]
  omega
theorem same_quad {a b c d : Int} {k k' : Nat} (ha : 0 < a) (hc : 0 < c) (hk : k = bisF a b 23 0 5400000) (hk' : k' = bisF c d 23 0 5400000) (h : b * c ≤ d * a) : k ≤ k' := by
  rw [hk, hk']
  exact bisF_mono (fun k hk hr => rch_mono hk ha hc h hr) (Nat.le_refl _)
end Go.Proofs.YtkhhdpndcidmgaaGreat
/- Corners of a box: the first, the last, all between. No function of the program. -/
namespace Go.Proofs.YtkhhdpndcidmgaaGreat
open Go.RowKit

theorem box_half {x0 x1 y0 y1 : Int} (hn : ¬ oriB x0 x1 y0 y1) : ∃ α β : Int, ∀ X Y, x0 ≤ X → X ≤ x1 → y0 ≤ Y → Y ≤ y1 → 0 < α * X + β * Y := by
  unfold oriB at hn
  by_cases h0 : 0 < x0
  · exact ⟨1, 0, fun X Y _ _ _ _ => by omega⟩
  · by_cases h1 : x1 < 0
    · exact ⟨-1, 0, fun X Y _ _ _ _ => by omega⟩
    · by_cases h2 : 0 < y0
      · exact ⟨0, 1, fun X Y _ _ _ _ => by omega⟩
      · exact ⟨0, -1, fun X Y _ _ _ _ => by omega⟩
theorem befB_crs {a b c d : Int} : befB a b c d = true ↔ 0 ≤ crs a b c d := by
  unfold befB crs
  rw [decide_eq_true_eq]
  omega
theorem befB_not {a b c d : Int} (h : befB a b c d = false) : 0 ≤ crs c d a b := by
  unfold befB at h
  rw [decide_eq_false_iff_not] at h
  unfold crs
  have e1 := Int.mul_comm c b
  have e2 := Int.mul_comm d a
  omega
theorem crs_self (a b : Int) : 0 ≤ crs a b a b := by unfold crs; have := Int.mul_comm a b; omega
section
variable {x0 x1 y0 y1 α β : Int}
theorem cor_in (hx : x0 ≤ x1) (hy : y0 ≤ y1) (j : Nat) : (x0 ≤ crX x0 x1 j ∧ crX x0 x1 j ≤ x1) ∧ (y0 ≤ crY y0 y1 j ∧ crY y0 y1 j ≤ y1) := by
  unfold crX crY
  constructor <;> split <;> omega
theorem fst_in (hx : x0 ≤ x1) (hy : y0 ≤ y1) (i : Nat) : (x0 ≤ (fstC x0 x1 y0 y1 i).1 ∧ (fstC x0 x1 y0 y1 i).1 ≤ x1) ∧ (y0 ≤ (fstC x0 x1 y0 y1 i).2 ∧ (fstC x0 x1 y0 y1 i).2 ≤ y1) := by
  obtain ⟨j, hj⟩ := fst_cor x0 x1 y0 y1 i
  rw [hj]
  exact cor_in hx hy j
theorem lst_in (hx : x0 ≤ x1) (hy : y0 ≤ y1) (i : Nat) : (x0 ≤ (lstC x0 x1 y0 y1 i).1 ∧ (lstC x0 x1 y0 y1 i).1 ≤ x1) ∧ (y0 ≤ (lstC x0 x1 y0 y1 i).2 ∧ (lstC x0 x1 y0 y1 i).2 ≤ y1) := by
  obtain ⟨j, hj⟩ := lst_cor x0 x1 y0 y1 i
  rw [hj]
  exact cor_in hx hy j
theorem fst_min (hx : x0 ≤ x1) (hy : y0 ≤ y1) (hp : ∀ X Y, x0 ≤ X → X ≤ x1 → y0 ≤ Y → Y ≤ y1 → 0 < α * X + β * Y) :
    ∀ i j, j < i → 0 ≤ crs (fstC x0 x1 y0 y1 i).1 (fstC x0 x1 y0 y1 i).2 (crX x0 x1 j) (crY y0 y1 j)
  | 0, j, h => absurd h (Nat.not_lt_zero j)
  | i + 1, j, h => by
    have ih := fst_min hx hy hp i
    obtain ⟨⟨c1, c2⟩, c3, c4⟩ := cor_in hx hy i
    obtain ⟨⟨d1, d2⟩, d3, d4⟩ := cor_in hx hy j
    obtain ⟨⟨f1, f2⟩, f3, f4⟩ := fst_in hx hy i
    have e : fstC x0 x1 y0 y1 (i + 1) = if befB (crX x0 x1 i) (crY y0 y1 i) (fstC x0 x1 y0 y1 i).1 (fstC x0 x1 y0 y1 i).2 = true then (crX x0 x1 i, crY y0 y1 i) else fstC x0 x1 y0 y1 i := rfl
    rw [e]
    by_cases hj : j < i
    · cases hb : befB (crX x0 x1 i) (crY y0 y1 i) (fstC x0 x1 y0 y1 i).1 (fstC x0 x1 y0 y1 i).2
      · rw [if_neg Bool.false_ne_true]; exact ih j hj
      · rw [if_pos rfl]
        exact crs_trans (hp _ _ c1 c2 c3 c4) (hp _ _ f1 f2 f3 f4) (hp _ _ d1 d2 d3 d4) (befB_crs.1 hb) (ih j hj)
    · obtain rfl : j = i := by omega
      cases hb : befB (crX x0 x1 j) (crY y0 y1 j) (fstC x0 x1 y0 y1 j).1 (fstC x0 x1 y0 y1 j).2
      · rw [if_neg Bool.false_ne_true]; exact befB_not hb
      · rw [if_pos rfl]; exact crs_self _ _
theorem lst_max (hx : x0 ≤ x1) (hy : y0 ≤ y1) (hp : ∀ X Y, x0 ≤ X → X ≤ x1 → y0 ≤ Y → Y ≤ y1 → 0 < α * X + β * Y) :
    ∀ i j, j < i → 0 ≤ crs (crX x0 x1 j) (crY y0 y1 j) (lstC x0 x1 y0 y1 i).1 (lstC x0 x1 y0 y1 i).2
  | 0, j, h => absurd h (Nat.not_lt_zero j)
  | i + 1, j, h => by
    have ih := lst_max hx hy hp i
    obtain ⟨⟨c1, c2⟩, c3, c4⟩ := cor_in hx hy i
    obtain ⟨⟨d1, d2⟩, d3, d4⟩ := cor_in hx hy j
    obtain ⟨⟨f1, f2⟩, f3, f4⟩ := lst_in hx hy i
    have e : lstC x0 x1 y0 y1 (i + 1) = if befB (lstC x0 x1 y0 y1 i).1 (lstC x0 x1 y0 y1 i).2 (crX x0 x1 i) (crY y0 y1 i) = true then (crX x0 x1 i, crY y0 y1 i) else lstC x0 x1 y0 y1 i := rfl
    rw [e]
    by_cases hj : j < i
    · cases hb : befB (lstC x0 x1 y0 y1 i).1 (lstC x0 x1 y0 y1 i).2 (crX x0 x1 i) (crY y0 y1 i)
      · rw [if_neg Bool.false_ne_true]; exact ih j hj
      · rw [if_pos rfl]
        exact crs_trans (hp _ _ d1 d2 d3 d4) (hp _ _ f1 f2 f3 f4) (hp _ _ c1 c2 c3 c4) (ih j hj) (befB_crs.1 hb)
    · obtain rfl : j = i := by omega
      cases hb : befB (lstC x0 x1 y0 y1 j).1 (lstC x0 x1 y0 y1 j).2 (crX x0 x1 j) (crY y0 y1 j)
      · rw [if_neg Bool.false_ne_true]; exact befB_not hb
      · rw [if_pos rfl]; exact crs_self _ _
theorem crs_box {a b X Y : Int} (h : ∀ j, j < 4 → 0 ≤ crs a b (crX x0 x1 j) (crY y0 y1 j)) (h0 : x0 ≤ X) (h1 : X ≤ x1) (h2 : y0 ≤ Y) (h3 : Y ≤ y1) : 0 ≤ crs a b X Y := by
  have e0 := h 0 (by decide)
  have e1 := h 1 (by decide)
  have e2 := h 2 (by decide)
  have e3 := h 3 (by decide)
  unfold crs crX crY at *
  simp at e0 e1 e2 e3
  rcases Int.le_total 0 a with ha | ha <;> rcases Int.le_total 0 b with hb | hb
  · have m1 := Int.mul_le_mul_of_nonneg_left h2 ha
    have m2 := Int.mul_le_mul_of_nonneg_left h1 hb
    omega
  · have m1 := Int.mul_le_mul_of_nonneg_left h2 ha
    have m2 := Int.mul_le_mul_of_nonpos_left hb h0
    omega
  · have m1 := Int.mul_le_mul_of_nonpos_left ha h3
    have m2 := Int.mul_le_mul_of_nonneg_left h1 hb
    omega
  · have m1 := Int.mul_le_mul_of_nonpos_left ha h3
    have m2 := Int.mul_le_mul_of_nonpos_left hb h0
    omega
theorem crs_anti (a b c d : Int) : crs a b c d = -(crs c d a b) := by unfold crs; have := Int.mul_comm a d; have := Int.mul_comm b c; omega
theorem crs_box' {a b X Y : Int} (h : ∀ j, j < 4 → 0 ≤ crs (crX x0 x1 j) (crY y0 y1 j) a b) (h0 : x0 ≤ X) (h1 : X ≤ x1) (h2 : y0 ≤ Y) (h3 : Y ≤ y1) : 0 ≤ crs X Y a b := by
  have k : ∀ j, j < 4 → 0 ≤ crs (-a) (-b) (crX x0 x1 j) (crY y0 y1 j) := fun j hj => by
    have := h j hj
    rw [crs_anti] at this
    have e : crs (-a) (-b) (crX x0 x1 j) (crY y0 y1 j) = -(crs a b (crX x0 x1 j) (crY y0 y1 j)) := by unfold crs; grind
    omega
  have := crs_box k h0 h1 h2 h3
  rw [crs_anti]
  have e : crs (-a) (-b) X Y = -(crs a b X Y) := by unfold crs; grind
  omega
end
end Go.Proofs.YtkhhdpndcidmgaaGreat
/- arctrig: angle, as a function: two turns by a quarter. -/
namespace Go.Proofs.YtkhhdpndcidmgaaGreat
open Go.RowKit

set_option maxHeartbeats 4000000 in
set_option maxRecDepth 100000 in
theorem ar_angF2 (u v : Nat) (a b : Int) (hu0 : 0 < u) (hu : u ≤ 2147483648) (hv : v ≤ 2147483648) (ha : a = -(u : Int)) (hb : b = -(v : Int)) (w : World) :
    Calls Tryz.prog 73 #[.agg #[.int .i64 a, .int .i64 b]] w fun e w' => ∃ (k : Nat) (ex : Bool) (d : Ext), e = .returned (.tuple #[.int .i64 (10800000 + (k : Int)), .bool ex]) ∧ AngF u v k ex ∧ w' = bw w d := by
  have a3 : ¬ (0 : Int) < a := by omega
  have a4 : ¬ (0 : Int) < b := by omega
  have a5 : (0 : Int) < (u : Int) := by omega
  have a6 : (0 : Int) ≤ (v : Int) := by omega
  have k1 : IntKind.i64.wrap (-a) = (u : Int) := by rw [ha, Int.neg_neg]; exact IntWalk.i64_in _ (by omega)
  have k2 : IntKind.i64.wrap (-b) = (v : Int) := by rw [hb, Int.neg_neg]; exact IntWalk.i64_in _ (by omega)
  have t1 : IntKind.i64.wrap ((0 : Int) + 5400000) = 5400000 := by decide
  have t2 : IntKind.i64.wrap ((5400000 : Int) + 5400000) = 10800000 := by decide
  clear ha hb
  refine lay_start ?_
  go_enter Tryz.func73, Tryz.ntmps73
  go_wp2_with fail
  go_loopw [4] (fun v4 wr => (v4 = .int .i64 0 ∧ wr = lay w [.inl (.cells #[.int .i64 a, .int .i64 b] 116 (0, 0))]) ∨ (v4 = .int .i64 5400000 ∧ wr = lay w [.inl (.cells #[.int .i64 b, .int .i64 (u : Int)] 116 (0, 0))]) ∨ (v4 = .int .i64 10800000 ∧ wr = lay w [.inl (.cells #[.int .i64 (u : Int), .int .i64 (v : Int)] 116 (0, 0))])) (fun v4 _ => (21600000 - intOf v4).toNat)
  case atStart => exact .inl ⟨rfl, rfl⟩
  case round =>
    rcases hrel with ⟨rfl, rfl⟩ | ⟨rfl, rfl⟩ | ⟨rfl, rfl⟩
    · go_wp2_with fail
      exact ⟨.inr (.inl ⟨by first | rfl | decide, by first | rfl | trivial⟩), by first | decide | (simp only [intOf]; decide)⟩
    · go_wp2_with fail
      exact ⟨.inr (.inr ⟨by first | rfl | decide, by first | rfl | trivial⟩), by first | decide | (simp only [intOf]; decide)⟩
    · go_wp2_with fail
      go_loopw [5, 6] (fun v5 v6 wr => ∃ (l h : Nat) (dd : Ext), v5 = .int .i64 (l : Int) ∧ v6 = .int .i64 (h : Int) ∧ wr = lay w (.inr dd :: [.inl (.cells #[.int .i64 (u : Int), .int .i64 (v : Int)] 116 (0, 0))]) ∧ l < h ∧ h ≤ 5400000 ∧ ∃ f, h - l ≤ 2 ^ f ∧ bisF (u : Int) (v : Int) f l h = bisF (u : Int) (v : Int) 23 0 5400000) (fun v5 v6 _ => (intOf v6 - intOf v5).toNat)
      case atStart => exact ⟨0, 5400000, noExt _, rfl, rfl, (bw_noExt _).symm, by decide, by decide, 23, by decide, rfl⟩
      case round =>
        obtain ⟨l, h, dd, rfl, rfl, rfl, hlh, hh, f, hA, hB⟩ := hrel
        have HA := Lib.hid hA
        have HB2 := Lib.hid hB
        clear hA hB
        have k1 : IntKind.i64.wrap ((h : Int) - (l : Int)) = (h : Int) - (l : Int) := IntWalk.i64_in _ (by omega)
        by_cases c : (1 : Int) < (h : Int) - (l : Int)
        · obtain ⟨XQ, hXQ⟩ : ∃ XQ : Int, (l : Int) + (h : Int) = XQ := ⟨_, rfl⟩
          obtain ⟨m, hm⟩ : ∃ m : Nat, XQ.tdiv 2 = (m : Int) := ⟨(XQ.tdiv 2).toNat, by rw [Int.tdiv_eq_ediv_of_nonneg (by omega)]; omega⟩
          have k2 : IntKind.i64.wrap ((l : Int) + (h : Int)) = XQ := by rw [hXQ]; exact IntWalk.i64_in _ (by omega)
          have hmid : m = (l + h) / 2 := by rw [Int.tdiv_eq_ediv_of_nonneg (by omega)] at hm; omega
          obtain ⟨f', hf0, hf1⟩ := bisF_step (u := (u : Int)) (v := (v : Int)) hmid (by omega) HA.out
          rw [HB2.out] at hf0 hf1
          have HF0 := Lib.hid hf0
          have HF1 := Lib.hid hf1
          clear hmid hf0 hf1
          have hml : l < m ∧ m < h := by rw [Int.tdiv_eq_ediv_of_nonneg (by omega)] at hm; omega
          have k3 : IntKind.i64.wrap (m : Int) = (m : Int) := IntWalk.i64_in _ (by omega)
          have HBm := Lib.hid (fun W => ar_reaches u v m (by omega) (by omega) (by omega) W)
          have HLH := Lib.hid (And.intro hlh (And.intro hh hml))
          clear hXQ hlh hh hml
          cases cb : rchB (u : Int) (v : Int) m
          · rw [cb] at HBm
            have HC := Lib.hid cb
            clear cb
            go_wp2_with (go_at_call 108; refine (HBm.out _).mono ?_; rintro e w' ⟨rfl, d1, rfl⟩; rw [lay_bw])
            obtain ⟨g1, g2, g3, g4⟩ := HLH.out
            obtain ⟨de, hde⟩ := lay_fold w [.inr d1, .inr dd] [.inl (.cells #[.int .i64 (u : Int), .int .i64 (v : Int)] 116 (0, 0))]
            exact ⟨⟨_, _, de, rfl, rfl, hde, by omega, by omega, f', (HF0.out HC.out).1, (HF0.out HC.out).2⟩, by simp only [intOf]; omega⟩
          · rw [cb] at HBm
            have HC := Lib.hid cb
            clear cb
            go_wp2_with (go_at_call 108; refine (HBm.out _).mono ?_; rintro e w' ⟨rfl, d1, rfl⟩; rw [lay_bw])
            obtain ⟨g1, g2, g3, g4⟩ := HLH.out
            obtain ⟨de, hde⟩ := lay_fold w [.inr d1, .inr dd] [.inl (.cells #[.int .i64 (u : Int), .int .i64 (v : Int)] 116 (0, 0))]
            exact ⟨⟨_, _, de, rfl, rfl, hde, by omega, by omega, f', (HF1.out HC.out).1, (HF1.out HC.out).2⟩, by simp only [intOf]; omega⟩
        · have hhl : h = l + 1 := by omega
          have kT : IntKind.i64.wrap (10800000 + (l : Int)) = 10800000 + (l : Int) := IntWalk.i64_in _ (by omega)
          subst hhl
          have HAng : ∀ ex, ex = (decide (l = 0 ∧ (v : Int) = 0) || decide (l = 2700000 ∧ (u : Int) = (v : Int))) → AngF (u : Int) (v : Int) l ex := fun ex h => ⟨by omega, by have := HB2.out; rw [bisF_end] at this; exact this, h⟩
          have HAng := Lib.hid HAng
          have HL := Lib.hid (And.intro hlh hh)
          clear hlh hh HA HB2
          have kT0 : IntKind.i64.wrap (10800000 + (l : Int)) = (10800000 + (l : Int)) := by simpa using kT
          by_cases c1 : (l : Int) = 0
          · have n1 : ¬ (l : Int) = 2700000 := by omega
            have n2 : ¬ l = 2700000 := by omega
            by_cases c2 : (v : Int) = 0
            · have N : Hid (l = 0 ∧ (v : Int) = 0 ∧ ¬ l = 2700000 ∧ True) := Lib.hid ⟨by omega, c2, n2, trivial⟩
              go_wp2_with fail
              refine region_mixS 22 [(0, 0), (1, 0), (2, 0), (3, 0), (4, 0), (5, 0), (6, 0), (7, 0), (8, 0), (9, 0), (10, 0), (11, 0), (12, 0), (13, 0), (14, 0), (15, 0), (16, 0), (17, 0), (18, 0), (19, 0), (20, 0), (21, 0), (22, 3)] (by kernel_rfl) (by kernel_rfl) (by kernel_rfl) rfl ?_
              iterate 22 (refine wpMS_quiet rfl (fun K hK => ?_); go_simp; refine hK _ ?_; clear hK K)
              refine wpMS_store rfl (fun K hK e1 => ?_)
              rw [lay_bw]
              go_simp
              refine hK _ _ ?_
              clear hK K
              refine wpMS_nil (fun e2 => ?_)
              rw [lay_bw]
              go_wp2_with fail
              refine bodyPost_ret (v := .tuple #[.int .i64 10800000, .bool true]) (by simp [results, Tryz.results73, go_sem] <;> first | done | decide | exact kT0 | omega | (refine ⟨by first | decide | exact kT0, by omega⟩)) rfl ?_
              exact ⟨l, true, _, by first | rfl | (rw [c1]; done) | (rw [c1]; rfl) | (rw [c1]; simp), HAng.out _ (by have := N.out; simp_all <;> omega), (lay_ex _ _).choose_spec⟩
            · have c3 : ¬ v = 0 := by omega
              have N : Hid (l = 0 ∧ ¬ (v : Int) = 0 ∧ ¬ l = 2700000 ∧ True) := Lib.hid ⟨by omega, c2, n2, trivial⟩
              go_wp2_with fail
              refine region_mixS 22 [(0, 0), (1, 0), (2, 0), (3, 0), (4, 0), (5, 0), (6, 0), (7, 0), (8, 0), (9, 0), (10, 0), (11, 0), (12, 0), (13, 0), (14, 0), (15, 0), (16, 0), (17, 0), (18, 0), (19, 0), (20, 0), (21, 0), (22, 3)] (by kernel_rfl) (by kernel_rfl) (by kernel_rfl) rfl ?_
              iterate 22 (refine wpMS_quiet rfl (fun K hK => ?_); go_simp; refine hK _ ?_; clear hK K)
              refine wpMS_store rfl (fun K hK e1 => ?_)
              rw [lay_bw]
              go_simp
              refine hK _ _ ?_
              clear hK K
              refine wpMS_nil (fun e2 => ?_)
              rw [lay_bw]
              go_wp2_with fail
              refine bodyPost_ret (v := .tuple #[.int .i64 10800000, .bool false]) (by simp [results, Tryz.results73, go_sem] <;> first | done | decide | exact kT0 | omega | (refine ⟨by first | decide | exact kT0, by omega⟩)) rfl ?_
              exact ⟨l, false, _, by first | rfl | (rw [c1]; done) | (rw [c1]; rfl) | (rw [c1]; simp), HAng.out _ (by have := N.out; simp_all <;> omega), (lay_ex _ _).choose_spec⟩
          · have n1 : ¬ l = 0 := by omega
            by_cases c2 : l = 2700000
            · subst c2
              by_cases c3 : u = v
              · have c4 : (u : Int) = (v : Int) := by omega
                have N : Hid (True ∧ True ∧ True ∧ (u : Int) = (v : Int)) := Lib.hid ⟨trivial, trivial, trivial, c4⟩
                go_wp2_with fail
                refine region_mixS 22 [(0, 0), (1, 0), (2, 0), (3, 0), (4, 0), (5, 0), (6, 0), (7, 0), (8, 0), (9, 0), (10, 0), (11, 0), (12, 0), (13, 0), (14, 0), (15, 0), (16, 0), (17, 0), (18, 0), (19, 0), (20, 0), (21, 0), (22, 3)] (by kernel_rfl) (by kernel_rfl) (by kernel_rfl) rfl ?_
                iterate 22 (refine wpMS_quiet rfl (fun K hK => ?_); go_simp; refine hK _ ?_; clear hK K)
                refine wpMS_store rfl (fun K hK e1 => ?_)
                rw [lay_bw]
                go_simp
                refine hK _ _ ?_
                clear hK K
                refine wpMS_nil (fun e2 => ?_)
                rw [lay_bw]
                go_wp2_with fail
                refine bodyPost_ret (v := .tuple #[.int .i64 (10800000 + 2700000), .bool true]) (by simp [results, Tryz.results73, go_sem] <;> first | done | decide | exact kT0 | omega | (refine ⟨by first | decide | exact kT0, by omega⟩)) rfl ?_
                exact ⟨2700000, true, _, by first | rfl | (rw [c1]; done) | (rw [c1]; rfl) | (rw [c1]; simp), HAng.out _ (by have := N.out; simp_all <;> omega), (lay_ex _ _).choose_spec⟩
              · have c4 : ¬ (u : Int) = (v : Int) := by omega
                have N : Hid (True ∧ True ∧ True ∧ ¬ (u : Int) = (v : Int)) := Lib.hid ⟨trivial, trivial, trivial, c4⟩
                go_wp2_with fail
                refine region_mixS 22 [(0, 0), (1, 0), (2, 0), (3, 0), (4, 0), (5, 0), (6, 0), (7, 0), (8, 0), (9, 0), (10, 0), (11, 0), (12, 0), (13, 0), (14, 0), (15, 0), (16, 0), (17, 0), (18, 0), (19, 0), (20, 0), (21, 0), (22, 3)] (by kernel_rfl) (by kernel_rfl) (by kernel_rfl) rfl ?_
                iterate 22 (refine wpMS_quiet rfl (fun K hK => ?_); go_simp; refine hK _ ?_; clear hK K)
                refine wpMS_store rfl (fun K hK e1 => ?_)
                rw [lay_bw]
                go_simp
                refine hK _ _ ?_
                clear hK K
                refine wpMS_nil (fun e2 => ?_)
                rw [lay_bw]
                go_wp2_with fail
                refine bodyPost_ret (v := .tuple #[.int .i64 (10800000 + 2700000), .bool false]) (by simp [results, Tryz.results73, go_sem] <;> first | done | decide | exact kT0 | omega | (refine ⟨by first | decide | exact kT0, by omega⟩)) rfl ?_
                exact ⟨2700000, false, _, by first | rfl | (rw [c1]; done) | (rw [c1]; rfl) | (rw [c1]; simp), HAng.out _ (by have := N.out; simp_all <;> omega), (lay_ex _ _).choose_spec⟩
            · have c3 : ¬ (l : Int) = 2700000 := by omega
              have N : Hid (¬ l = 0 ∧ True ∧ ¬ l = 2700000 ∧ True) := Lib.hid ⟨n1, trivial, c2, trivial⟩
              go_wp2_with fail
              refine region_mixS 22 [(0, 0), (1, 0), (2, 0), (3, 0), (4, 0), (5, 0), (6, 0), (7, 0), (8, 0), (9, 0), (10, 0), (11, 0), (12, 0), (13, 0), (14, 0), (15, 0), (16, 0), (17, 0), (18, 0), (19, 0), (20, 0), (21, 0), (22, 3)] (by kernel_rfl) (by kernel_rfl) (by kernel_rfl) rfl ?_
              iterate 22 (refine wpMS_quiet rfl (fun K hK => ?_); go_simp; refine hK _ ?_; clear hK K)
              refine wpMS_store rfl (fun K hK e1 => ?_)
              rw [lay_bw]
              go_simp
              refine hK _ _ ?_
              clear hK K
              refine wpMS_nil (fun e2 => ?_)
              rw [lay_bw]
              go_wp2_with fail
              refine bodyPost_ret (v := .tuple #[.int .i64 (10800000 + (l : Int)), .bool false]) (by simp [results, Tryz.results73, go_sem] <;> first | done | decide | exact kT0 | omega | (refine ⟨by first | decide | exact kT0, by omega⟩)) rfl ?_
              exact ⟨l, false, _, by first | rfl | (rw [c1]; done) | (rw [c1]; rfl) | (rw [c1]; simp), HAng.out _ (by have := N.out; simp_all <;> omega), (lay_ex _ _).choose_spec⟩
end Go.Proofs.YtkhhdpndcidmgaaGreat
