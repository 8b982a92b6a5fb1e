/- Contracts and plain laws, several texts in one: WrI; WrJ -/
import Derived.Test.YtkhhdpndcidmgaaGreatProg
import Derived.WalkKit
import Derived.WalkSpells
import Derived.WalkLawsBesides
import Derived.Lib.Hide
import Derived.BigQuiet
import Derived.Test.YtkhhdpndcidmgaaGreatTAE
import Derived.Test.YtkhhdpndcidmgaaGreatTAF
import Derived.Test.YtkhhdpndcidmgaaGreatTAI
import Derived.Test.YtkhhdpndcidmgaaGreatTBK
/- The direction of a point of a box: a cone within the box's arc. No program in sight. -/
namespace Go.Proofs.YtkhhdpndcidmgaaGreat
open Go.RowKit

theorem one_inv : ∃ r : Rat, r * wS 1 = 1 ∧ 0 ≤ r ∧ r ≤ 3500000 := by
  obtain ⟨-, -, h1, h2⟩ := one_w
  generalize wS 1 = s at *
  have e : 1 / s * s = 1 := Rat.div_mul_cancel (by grind)
  refine ⟨1 / s, e, ?_, ?_⟩
  · refine Rat.le_of_mul_le_mul_right (c := s) ?_ (by grind)
    rw [e]; grind
  · refine Rat.le_of_mul_le_mul_right (c := s) ?_ (by grind)
    rw [e]; grind
theorem cut0 {a t : Rat} (h : -t ≤ a) (t0 : 0 ≤ t) : ∃ b : Rat, 0 ≤ b ∧ 0 ≤ b - a ∧ b - a ≤ t := by
  rcases (Rat.le_total : 0 ≤ a ∨ a ≤ 0) with g | g
  · exact ⟨a, g, by grind, by grind⟩
  · exact ⟨0, Rat.le_refl, by grind, by grind⟩
theorem dir_two {k : Int} {X Y t : Rat} (h0 : -t ≤ crW k X Y) (h1 : crW (k + 1) X Y ≤ t) (t0 : 0 ≤ t) : ∃ x y a b, Cone k (k + 1) x y a b ∧ Nr x X (t * 7000000) ∧ Nr y Y (t * 7000000) := by
  obtain ⟨r, r1, r0, r2⟩ := one_inv
  obtain ⟨e1, e2⟩ := W_add k 1
  have u := W_unit k
  have u' := W_unit (k + 1)
  obtain ⟨⟨z1, z2⟩, z3, z4⟩ := W_in k
  obtain ⟨⟨y1, y2⟩, y3, y4⟩ := W_in (k + 1)
  obtain ⟨P, hP⟩ : ∃ P, P = crW k X Y := ⟨_, rfl⟩
  obtain ⟨Q, hQ⟩ : ∃ Q, Q = crW (k + 1) X Y := ⟨_, rfl⟩
  rw [← hP] at h0
  rw [← hQ] at h1
  unfold crW at hP hQ
  have eX : -Q * wC k + P * wC (k + 1) = wS 1 * X := by rw [hQ, hP, e1, e2]; grind
  have eY : -Q * wS k + P * wS (k + 1) = wS 1 * Y := by rw [hQ, hP, e1, e2]; grind
  clear hP hQ e1 e2
  have q1 := rmul0 (show 0 ≤ t - Q by grind) r0
  have q2 := rmul0 (show 0 ≤ P + t by grind) r0
  have q3 := rmul (a := t) (b := t) (c := r) (d := 3500000) t0 Rat.le_refl r0 r2
  obtain ⟨a, a0, a1, a2⟩ := cut0 (a := -Q * r) (t := t * r) (by grind) (rmul0 t0 r0)
  obtain ⟨b, b0, b1, b2⟩ := cut0 (a := P * r) (t := t * r) (by grind) (rmul0 t0 r0)
  have fX : X = (-Q * r) * wC k + (P * r) * wC (k + 1) := by
    have : (-Q * r) * wC k + (P * r) * wC (k + 1) = (r * wS 1) * X := by
      have : (r * wS 1) * X = r * (wS 1 * X) := by grind
      rw [this, ← eX]; grind
    rw [this, r1]; grind
  have fY : Y = (-Q * r) * wS k + (P * r) * wS (k + 1) := by
    have : (-Q * r) * wS k + (P * r) * wS (k + 1) = (r * wS 1) * Y := by
      have : (r * wS 1) * Y = r * (wS 1 * Y) := by grind
      rw [this, ← eY]; grind
    rw [this, r1]; grind
  refine ⟨a * wC k + b * wC (k + 1), a * wS k + b * wS (k + 1), a, b, ⟨Or.inr rfl, a0, b0, rfl, rfl⟩, ?_, ?_⟩
  · rw [fX]
    generalize -Q * r = A at *
    generalize P * r = B at *
    obtain ⟨p1, p2⟩ := rabs (x := a - A) (y := wC k) (m := t * 3500000) (f := 1) (by grind) (by grind) z3 z4
    obtain ⟨p3, p4⟩ := rabs (x := b - B) (y := wC (k + 1)) (m := t * 3500000) (f := 1) (by grind) (by grind) y3 y4
    clear fX fY eX eY u u' r1 q1 q2
    constructor <;> grind
  · rw [fY]
    generalize -Q * r = A at *
    generalize P * r = B at *
    obtain ⟨p1, p2⟩ := rabs (x := a - A) (y := wS k) (m := t * 3500000) (f := 1) (by grind) (by grind) z1 z2
    obtain ⟨p3, p4⟩ := rabs (x := b - B) (y := wS (k + 1)) (m := t * 3500000) (f := 1) (by grind) (by grind) y1 y2
    clear fX fY eX eY u u' r1 q1 q2
    constructor <;> grind
theorem dir_one {k : Int} {X Y t : Rat} (h0 : -t ≤ crW k X Y) (h1 : crW k X Y ≤ t) (hd : 0 ≤ wC k * X + wS k * Y) : ∃ x y a b, Cone k k x y a b ∧ Nr x X t ∧ Nr y Y t := by
  have u := W_unit k
  obtain ⟨⟨z1, z2⟩, z3, z4⟩ := W_in k
  refine ⟨(wC k * X + wS k * Y) * wC k + 0 * wC k, (wC k * X + wS k * Y) * wS k + 0 * wS k, _, 0, ⟨Or.inl rfl, hd, Rat.le_refl, rfl, rfl⟩, ?_, ?_⟩
  · obtain ⟨p1, p2⟩ := rabs (x := crW k X Y) (y := wS k) (m := t) (f := 1) h0 h1 z1 z2
    have e : (wC k * X + wS k * Y) * wC k = X + crW k X Y * wS k := by unfold crW; grind
    rw [e]
    generalize crW k X Y * wS k = A at *
    constructor <;> grind
  · obtain ⟨p1, p2⟩ := rabs (x := crW k X Y) (y := wC k) (m := t) (f := 1) h0 h1 z3 z4
    have e : (wC k * X + wS k * Y) * wS k = Y - crW k X Y * wC k := by unfold crW; grind
    rw [e]
    generalize crW k X Y * wC k = A at *
    constructor <;> grind
theorem cr_ivt {X Y t : Rat} (t0 : 0 ≤ t) : ∀ (d : Nat) (m : Int), -t ≤ crW m X Y → crW (m + d + 1) X Y ≤ t → ∃ k : Int, m ≤ k ∧ k + 1 ≤ m + d + 1 ∧ -t ≤ crW k X Y ∧ crW (k + 1) X Y ≤ t
  | 0, m, h0, h1 => ⟨m, by omega, by omega, h0, by rw [show m + ((0 : Nat) : Int) + 1 = m + 1 by omega] at h1; exact h1⟩
  | d + 1, m, h0, h1 => by
    rcases (Rat.le_total : crW (m + 1) X Y ≤ t ∨ t ≤ crW (m + 1) X Y) with g | g
    · exact ⟨m, by omega, by omega, h0, g⟩
    · rw [show m + ((d + 1 : Nat) : Int) + 1 = m + 1 + (d : Int) + 1 by omega] at h1
      obtain ⟨k, a1, a2, a3, a4⟩ := cr_ivt t0 d (m + 1) (by grind) h1
      exact ⟨k, by omega, by omega, a3, a4⟩
theorem cr_dir {X Y t : Rat} (t0 : 0 ≤ t) {m M : Int} (hm : m < M) (h0 : -t ≤ crW m X Y) (h1 : crW M X Y ≤ t) : ∃ k j x y a b, m ≤ k ∧ j ≤ M ∧ Cone k j x y a b ∧ Nr x X (t * 7000000) ∧ Nr y Y (t * 7000000) := by
  obtain ⟨k, a1, a2, a3, a4⟩ := cr_ivt t0 (M - m - 1).toNat m h0 (by rw [show m + (((M - m - 1).toNat : Nat) : Int) + 1 = M by omega]; exact h1)
  obtain ⟨x, y, a, b, c, d, e⟩ := dir_two a3 a4 t0
  exact ⟨k, k + 1, x, y, a, b, a1, by omega, c, d, e⟩
theorem crW_turn (n : Int) {x y : Rat} (x0 : -2147483648 ≤ x) (x1 : x ≤ 2147483648) (y0 : -2147483648 ≤ y) (y1 : y ≤ 2147483648) : Nr (crW (n + 21600000) x y) (crW n x y) (4 * tolR) := by
  have h1 := crW_rot n x0 x1 y0 y1
  have h2 := crW_rot (n + 5400000) (x := -y) (y := x) (by grind) (by grind) x0 x1
  have h3 := crW_rot (n + 5400000 + 5400000) (x := -x) (y := -y) (by grind) (by grind) (by grind) (by grind)
  have h4 := crW_rot (n + 5400000 + 5400000 + 5400000) (x := -(-y)) (y := -x) (by grind) (by grind) (by grind) (by grind)
  have h := h4.trans (h3.trans (h2.trans h1))
  rw [show n + 5400000 + 5400000 + 5400000 + 5400000 = n + 21600000 by omega, show -(-x) = x by grind, show -(-y) = y by grind] at h
  exact h.le (by grind)
theorem crW_half (n : Int) {x y : Rat} (x0 : -2147483648 ≤ x) (x1 : x ≤ 2147483648) (y0 : -2147483648 ≤ y) (y1 : y ≤ 2147483648) : Nr (crW (n + 10800000) x y) (-(crW n x y)) (2 * tolR) := by
  have h1 := crW_rot n (x := -x) (y := -y) (by grind) (by grind) (by grind) (by grind)
  have h2 := crW_rot (n + 5400000) (x := -(-y)) (y := -x) (by grind) (by grind) (by grind) (by grind)
  have h := h2.trans h1
  rw [show n + 5400000 + 5400000 = n + 10800000 by omega, show -(-x) = x by grind, show -(-y) = y by grind] at h
  have e : crW n (-x) (-y) = -(crW n x y) := by unfold crW; grind
  rw [e] at h
  exact h.le (by grind)
def tG : Rat := 1 / 5000000000000
theorem num_G : tT + 4 * tolR ≤ tG ∧ 0 ≤ tG ∧ tG * 7000000 ≤ 1 / 500000 ∧ 0 ≤ tolR ∧ 4 * tolR ≤ tG ∧ tolD + 4 * tolR ≤ tG ∧ 0 ≤ tT := by unfold tT tolR tG tolD; refine ⟨?_, ?_, ?_, ?_, ?_, ?_, ?_⟩ <;> grind
theorem all_cone {X Y : Rat} (x0 : -2147483648 ≤ X) (x1 : X ≤ 2147483648) (y0 : -2147483648 ≤ Y) (y1 : Y ≤ 2147483648) : ∃ k j x y a b, 0 ≤ k ∧ j ≤ 21600000 ∧ Cone k j x y a b ∧ Nr x X (1 / 500000) ∧ Nr y Y (1 / 500000) := by
  obtain ⟨g1, g2, g3, g4, g5, g6, g7⟩ := num_G
  have e0 : crW 0 X Y = Y := by
    have a : wS 0 = 0 := rfl
    have b : wC 0 = 1 := rfl
    unfold crW
    rw [a, b]; grind
  obtain ⟨p1, p2⟩ := crW_half 0 x0 x1 y0 y1
  obtain ⟨q1, q2⟩ := crW_turn 0 x0 x1 y0 y1
  rw [e0] at p1 p2 q1 q2
  rw [show (0 : Int) + 10800000 = 10800000 by omega] at p1 p2
  rw [show (0 : Int) + 21600000 = 21600000 by omega] at q1 q2
  rcases (Rat.le_total : 0 ≤ Y ∨ Y ≤ 0) with g | g
  · have c1 : -tG ≤ crW 0 X Y := by rw [e0]; clear p1 p2 q1 q2 e0; grind
    have c2 : crW 10800000 X Y ≤ tG := by
      clear q1 q2 c1 e0
      generalize crW 10800000 X Y = A at *
      grind
    obtain ⟨k, j, x, y, a, b, h1, h2, h3, h4, h5⟩ := cr_dir g2 (m := 0) (M := 10800000) (by decide) c1 c2
    exact ⟨k, j, x, y, a, b, h1, by omega, h3, h4.le g3, h5.le g3⟩
  · have c1 : -tG ≤ crW 10800000 X Y := by
      clear q1 q2 e0
      generalize crW 10800000 X Y = A at *
      grind
    have c2 : crW 21600000 X Y ≤ tG := by
      clear p1 p2 c1 e0
      generalize crW 21600000 X Y = A at *
      grind
    obtain ⟨k, j, x, y, a, b, h1, h2, h3, h4, h5⟩ := cr_dir g2 (m := 10800000) (M := 21600000) (by decide) c1 c2
    exact ⟨k, j, x, y, a, b, by omega, h2, h3, h4.le g3, h5.le g3⟩
theorem ahead {α β : Int} {c s X Y e : Rat} (hu : c * c + s * s = 1) (hD : HalfD α β) (x0 : -2147483648 ≤ X) (x1 : X ≤ 2147483648) (y0 : -2147483648 ≤ Y) (y1 : Y ≤ 2147483648) (hp : 1 ≤ (α : Rat) * X + (β : Rat) * Y) (hd : -eQ ≤ (α : Rat) * c + (β : Rat) * s) (h0 : -e ≤ Y * c - X * s) (h1 : Y * c - X * s ≤ e) (he : e ≤ 1 / 2) : 0 ≤ c * X + s * Y := by
  obtain ⟨⟨z3, z4⟩, z1, z2⟩ := (⟨sq_one hu, sq_one (x := s) (y := c) (by grind)⟩ : (-1 ≤ c ∧ c ≤ 1) ∧ -1 ≤ s ∧ s ≤ 1)
  rcases (Rat.le_total : 0 ≤ c * X + s * Y ∨ c * X + s * Y ≤ 0) with g | g
  · exact g
  exfalso
  obtain ⟨d1, d2⟩ := rabs (x := X) (y := c) (m := 2147483648) (f := 1) x0 x1 z3 z4
  obtain ⟨d3, d4⟩ := rabs (x := Y) (y := s) (m := 2147483648) (f := 1) y0 y1 z1 z2
  have eX : X = (c * X + s * Y) * c - (Y * c - X * s) * s := by grind
  have eY : Y = (c * X + s * Y) * s + (Y * c - X * s) * c := by grind
  have hQ : eQ ≤ 1 / 1000000000000 ∧ 0 ≤ eQ := by unfold eQ; constructor <;> grind
  have hb : -4294967296 ≤ c * X + s * Y := by grind
  generalize c * X + s * Y = d at *
  generalize Y * c - X * s = w at *
  clear d1 d2 d3 d4
  have e0 : 0 ≤ e := by grind
  obtain ⟨p1, p2⟩ := rabs (x := w) (y := s) (m := e) (f := 1) h0 h1 z1 z2
  obtain ⟨p3, p4⟩ := rabs (x := w) (y := c) (m := e) (f := 1) h0 h1 z3 z4
  have key : (α : Rat) * X + (β : Rat) * Y ≤ ((α : Rat) * c + (β : Rat) * s) * d + e := by
    rcases hD with ⟨rfl, rfl⟩ | ⟨rfl, rfl⟩ | ⟨rfl, rfl⟩ | ⟨rfl, rfl⟩ <;> push_cast <;> grind
  generalize (α : Rat) * c + (β : Rat) * s = A at *
  have p5 := rmul0 (show 0 ≤ A + eQ by grind) (show 0 ≤ -d by grind)
  have p6 := rmul (a := eQ) (b := 1 / 1000000000000) (c := -d) (d := 4294967296) hQ.2 hQ.1 (by grind) (by grind)
  grind
theorem br_cone {x0 x1 y0 y1 : Int} (hx : x0 ≤ x1) (hy : y0 ≤ y1) (bx0 : Bd31 x0) (bx1 : Bd31 x1) (by0 : Bd31 y0) (by1 : Bd31 y1) {X Y : Rat} (h0 : (x0 : Rat) ≤ X) (h1 : X ≤ (x1 : Rat)) (h2 : (y0 : Rat) ≤ Y) (h3 : Y ≤ (y1 : Rat)) :
    ∃ k j x y a b, (brF x0 x1 y0 y1).1 ≤ k ∧ j ≤ (brF x0 x1 y0 y1).2 ∧ Cone k j x y a b ∧ Nr x X (1 / 500000) ∧ Nr y Y (1 / 500000) := by
  have cx0 := castle bx0.1
  have cx1 := castle bx1.2
  have cy0 := castle by0.1
  have cy1 := castle by1.2
  push_cast at cx0 cx1 cy0 cy1
  have X0 : -2147483648 ≤ X := Rat.le_trans cx0 h0
  have X1 : X ≤ 2147483648 := Rat.le_trans h1 cx1
  have Y0 : -2147483648 ≤ Y := Rat.le_trans cy0 h2
  have Y1 : Y ≤ 2147483648 := Rat.le_trans h3 cy1
  by_cases ho : oriB x0 x1 y0 y1
  · rw [show brF x0 x1 y0 y1 = (0, 21600000) from if_pos ho]
    exact all_cone X0 X1 Y0 Y1
  rw [show brF x0 x1 y0 y1 = brG (fstC x0 x1 y0 y1 4) (lstC x0 x1 y0 y1 4) from if_neg ho]
  obtain ⟨α, β, hD, hp⟩ := half_D ho
  have f1 := fun j hj => fst_min hx hy hp 4 j hj
  have l1 := fun j hj => lst_max hx hy hp 4 j hj
  obtain ⟨⟨fx0, fx1⟩, fy0, fy1⟩ := fst_in hx hy 4 (x0 := x0) (x1 := x1) (y0 := y0) (y1 := y1)
  obtain ⟨⟨lx0, lx1⟩, ly0, ly1⟩ := lst_in hx hy 4 (x0 := x0) (x1 := x1) (y0 := y0) (y1 := y1)
  have g1 : 0 ≤ ((fstC x0 x1 y0 y1 4).1 : Rat) * Y - ((fstC x0 x1 y0 y1 4).2 : Rat) * X := crs_boxR f1 h0 h1 h2 h3
  have g2 : 0 ≤ ((-(lstC x0 x1 y0 y1 4).1 : Int) : Rat) * Y - ((-(lstC x0 x1 y0 y1 4).2 : Int) : Rat) * X := by
    refine crs_boxR (fun j hj => ?_) h0 h1 h2 h3
    have := l1 j hj
    rw [crs_anti] at this
    have e : ∀ a b c d : Int, crs (-a) (-b) c d = -(crs a b c d) := fun a b c d => by unfold crs; grind
    rw [e]
    exact this
  clear f1 l1
  unfold brG
  generalize fstC x0 x1 y0 y1 4 = F at *
  generalize lstC x0 x1 y0 y1 4 = L at *
  obtain ⟨fx, fy⟩ := F
  obtain ⟨lx, ly⟩ := L
  dsimp only at *
  unfold Bd31 at *
  have hf : 0 < α * fx + β * fy := hp _ _ fx0 fx1 fy0 fy1
  have hl : 0 < α * lx + β * ly := hp _ _ lx0 lx1 ly0 ly1
  have fne : ¬ (fx = 0 ∧ fy = 0) := fun ⟨a, b⟩ => by rw [a, b] at hf; simp at hf
  have lne : ¬ (lx = 0 ∧ ly = 0) := fun ⟨a, b⟩ => by rw [a, b] at hl; simp at hl
  obtain ⟨af, -⟩ := ang_D hD fne hf
  obtain ⟨-, al⟩ := ang_D hD lne hl
  obtain ⟨cf, -⟩ := ang_crW fne (by omega) (by omega)
  obtain ⟨-, cl⟩ := ang_crW lne (by omega) (by omega)
  have DP := D_ge hD hx hy hp h0 h1 h2 h3
  have DP1 := D_le hD X0 X1 Y0 Y1
  have Df : 1 ≤ (α : Rat) * (fx : Rat) + (β : Rat) * (fy : Rat) := D_ge hD hx hy hp (castle fx0) (castle fx1) (castle fy0) (castle fy1)
  have Dl : 1 ≤ (α : Rat) * (lx : Rat) + (β : Rat) * (ly : Rat) := D_ge hD hx hy hp (castle lx0) (castle lx1) (castle ly0) (castle ly1)
  have rf0 := castle (show (-2147483648 : Int) ≤ fx by omega)
  have rf1 := castle (show fx ≤ (2147483648 : Int) by omega)
  have rf2 := castle (show (-2147483648 : Int) ≤ fy by omega)
  have rf3 := castle (show fy ≤ (2147483648 : Int) by omega)
  have rl0 := castle (show (-2147483648 : Int) ≤ lx by omega)
  have rl1 := castle (show lx ≤ (2147483648 : Int) by omega)
  have rl2 := castle (show (-2147483648 : Int) ≤ ly by omega)
  have rl3 := castle (show ly ≤ (2147483648 : Int) by omega)
  push_cast at rf0 rf1 rf2 rf3 rl0 rl1 rl2 rl3 g2
  obtain ⟨w1, w2⟩ := rabs (x := (fx : Rat)) (y := Y) (m := 2147483648) (f := 2147483648) rf0 rf1 Y0 Y1
  obtain ⟨w3, w4⟩ := rabs (x := (fy : Rat)) (y := X) (m := 2147483648) (f := 2147483648) rf2 rf3 X0 X1
  obtain ⟨w5, w6⟩ := rabs (x := (lx : Rat)) (y := Y) (m := 2147483648) (f := 2147483648) rl0 rl1 Y0 Y1
  obtain ⟨w7, w8⟩ := rabs (x := (ly : Rat)) (y := X) (m := 2147483648) (f := 2147483648) rl2 rl3 X0 X1
  have ea : (angF lx ly).1 + (if (angF lx ly).2 = true then 0 else 1) = nxI (angF lx ly) := rfl
  rw [ea] at cl
  obtain ⟨G1, G2, G3, G4, G5, G6, G7⟩ := num_G
  have B0 : -tT ≤ crW (angF fx fy).1 X Y := by
    have := cr_past (α := (α : Rat)) (β := (β : Rat)) (ax := wC (angF fx fy).1) (ay := wS (angF fx fy).1) (bx := (fx : Rat)) (by' := (fy : Rat)) (cx := X) (cy := Y) (t := tT) Df (by grind) DP1 af (by unfold crW at cf; grind) g1 (by grind) Rat.le_refl
    unfold crW; grind
  have B1 : crW (nxI (angF lx ly)) X Y ≤ tT := by
    have := cr_past' (α := (α : Rat)) (β := (β : Rat)) (ax := wC (nxI (angF lx ly))) (ay := wS (nxI (angF lx ly))) (bx := (lx : Rat)) (by' := (ly : Rat)) (cx := X) (cy := Y) (t := tT) Dl (by grind) DP1 al (by unfold crW at cl; grind) (by grind) (by grind) Rat.le_refl
    unfold crW; grind
  obtain ⟨bf1, bf2⟩ := angF_bd fx fy
  obtain ⟨bl1, bl2⟩ := angF_bd lx ly
  clear w1 w2 w3 w4 w5 w6 w7 w8 g1 g2 cf cl Df Dl rf0 rf1 rf2 rf3 rl0 rl1 rl2 rl3
  have eN : (if (angF lx ly).1 < (angF fx fy).1 then (angF lx ly).1 + 21600000 else (angF lx ly).1) + (if (angF lx ly).2 = true then 0 else 1) = nxI (angF lx ly) + (if (angF lx ly).1 < (angF fx fy).1 then 21600000 else 0) := by
    unfold nxI; split <;> omega
  rw [eN]
  obtain ⟨T1, T2⟩ := crW_turn (nxI (angF lx ly)) X0 X1 Y0 Y1
  have hN : (angF lx ly).1 ≤ nxI (angF lx ly) ∧ nxI (angF lx ly) ≤ (angF lx ly).1 + 1 := by unfold nxI; constructor <;> split <;> omega
  have ef : ¬ (angF lx ly).1 < (angF fx fy).1 → (angF fx fy).1 = nxI (angF lx ly) → ∃ k j x y a b, (angF fx fy).1 ≤ k ∧ j ≤ nxI (angF lx ly) ∧ Cone k j x y a b ∧ Nr x X (1 / 500000) ∧ Nr y Y (1 / 500000) := fun _ he => by
    rw [← he] at B1
    obtain ⟨x, y, a, b, c, d, e⟩ := dir_one (k := (angF fx fy).1) (X := X) (Y := Y) (t := tT) B0 B1 (ahead (by have := W_unit (angF fx fy).1; grind) hD X0 X1 Y0 Y1 DP af (e := tT) (by unfold crW at B0; exact B0) (by unfold crW at B1; exact B1) (by unfold tT; grind))
    exact ⟨_, _, x, y, a, b, Int.le_refl _, by omega, c, d.le (by unfold tT; grind), e.le (by unfold tT; grind)⟩
  generalize nxI (angF lx ly) = N at *
  generalize (angF lx ly).1 = B at *
  generalize (angF fx fy).1 = A at *
  by_cases c : B < A
  · rw [if_pos c]
    obtain ⟨k, j, x, y, a, b, h1, h2, h3, h4, h5⟩ := cr_dir G2 (m := A) (M := N + 21600000) (by omega) (X := X) (Y := Y) (by grind) (by grind)
    exact ⟨k, j, x, y, a, b, h1, h2, h3, h4.le G3, h5.le G3⟩
  · rw [if_neg c, Int.add_zero]
    by_cases e : A = N
    · exact ef c e
    · obtain ⟨k, j, x, y, a, b, h1, h2, h3, h4, h5⟩ := cr_dir G2 (m := A) (M := N) (by omega) (X := X) (Y := Y) (by grind) (by grind)
      exact ⟨k, j, x, y, a, b, h1, h2, h3, h4.le G3, h5.le G3⟩
end Go.Proofs.YtkhhdpndcidmgaaGreat
/- The arc of a box: its sine and cosine contain those of a point of the box. No program in sight. -/
namespace Go.Proofs.YtkhhdpndcidmgaaGreat
open Go.RowKit

theorem step_ex {v : Rat} {f : Nat → Rat} : ∀ K : Nat, f 0 ≤ v → v ≤ f K → 0 < K → ∃ i, i < K ∧ f i ≤ v ∧ v ≤ f (i + 1)
  | 0, _, _, h => absurd h (Nat.lt_irrefl 0)
  | K + 1, h0, h1, _ => by
    rcases (Rat.le_total : f K ≤ v ∨ v ≤ f K) with g | g
    · exact ⟨K, by omega, g, h1⟩
    · by_cases hK : K = 0
      · subst hK; exact ⟨0, by omega, h0, h1⟩
      · obtain ⟨i, a, b, c⟩ := step_ex K h0 g (by omega)
        exact ⟨i, by omega, b, c⟩
def e40 : Rat := 1 / 10000000000000000000000000000000000000000
theorem root_ex {v : Rat} (h0 : 0 ≤ v) (h1 : v ≤ 101 / 100) : ∃ r, 0 ≤ r ∧ r ≤ 101 / 100 ∧ Nr (r * r) v wtA ∧ r * r ≤ v := by
  obtain ⟨i, hi, a, b⟩ := step_ex (v := v) (f := fun i => ((i : Rat) * e40) * ((i : Rat) * e40)) 10100000000000000000000000000000000000000 (by
      have : ((0 : Nat) : Rat) = 0 := rfl
      rw [this]; grind) (by
      have : ((10100000000000000000000000000000000000000 : Nat) : Rat) * e40 = 101 / 100 := by decide +kernel
      rw [this]; grind) (by decide)
  have hc : ((i : Nat) : Rat) ≤ 10100000000000000000000000000000000000000 := by
    have := castle (show (i : Int) ≤ 10100000000000000000000000000000000000000 by omega)
    exact this
  have hi0 : (0 : Rat) ≤ (i : Rat) := castle (show (0 : Int) ≤ (i : Int) by omega)
  have he : 0 ≤ e40 ∧ 10100000000000000000000000000000000000000 * e40 = 101 / 100 := by decide +kernel
  have p := rmul0 hi0 he.1
  have q := rmul (a := (i : Rat)) (b := 10100000000000000000000000000000000000000) (c := e40) (d := e40) hi0 hc he.1 Rat.le_refl
  refine ⟨(i : Rat) * e40, p, by grind, ?_, a⟩
  rw [show ((i + 1 : Nat) : Rat) * e40 = (i : Rat) * e40 + e40 by push_cast; grind] at b
  have hw : 3 * e40 + e40 * e40 ≤ wtA := by unfold e40 wtA; decide +kernel
  generalize (i : Rat) * e40 = r at *
  have w := rmul (a := r) (b := 101 / 100) (c := e40) (d := e40) p (by grind) he.1 Rat.le_refl
  have hA : 0 ≤ wtA := by unfold wtA; grind
  constructor <;> grind
def e18 : Rat := 1 / 1000000000000000000
def e15 : Rat := 1 / 1000000000000000
def e14 : Rat := 1 / 50000000000000
theorem le_sq {x c : Rat} (c0 : 0 ≤ c) (h : x * x ≤ c * c) : x ≤ c := by
  rcases (Rat.le_total : x ≤ c ∨ c ≤ x) with g | g
  · exact g
  · have p1 := rmul0 (show 0 ≤ x - c by grind) (show 0 ≤ x - c by grind)
    have p2 := rmul0 (show 0 ≤ x - c by grind) c0
    have p3 : (x - c) * (x - c) = 0 := by grind
    have : x - c = 0 := by
      rcases Rat.le_iff_lt_or_eq.1 (show 0 ≤ x - c by grind) with k | k
      · have := Rat.mul_pos k k; grind
      · exact k.symm
    grind
theorem abs_le_root {x y C : Rat} (c0 : 0 ≤ C) (h : x * x + y * y ≤ C * C + wtA) : x ≤ C + e18 ∧ -(C + e18) ≤ x := by
  have hA : wtA = e18 * e18 ∧ 0 ≤ e18 := by unfold wtA e18; constructor <;> grind
  have s := sqnn y
  have p := rmul0 c0 hA.2
  have h2 : x * x ≤ (C + e18) * (C + e18) := by grind
  have a := le_sq (x := x) (c := C + e18) (by grind) h2
  have b := le_sq (x := -x) (c := C + e18) (by grind) (by grind)
  exact ⟨a, by grind⟩
theorem norm_lip {x y x' y' C r d : Rat} (c0 : 0 ≤ C) (r0 : 0 ≤ r) (d0 : 0 ≤ d) (d1 : d ≤ e14) (hC : C * C ≤ x * x + y * y + wtA ∧ x * x + y * y ≤ C * C + wtA) (hr : r * r ≤ x' * x' + y' * y' + wtA ∧ x' * x' + y' * y' ≤ r * r + wtA) (hx : Nr x' x d) (hy : Nr y' y d) : r ≤ C + 2 * d + e15 := by
  rcases (Rat.le_total : r ≤ C + 2 * d + e15 ∨ C + 2 * d + e15 ≤ r) with g | g
  · exact g
  exfalso
  obtain ⟨a1, a2⟩ := abs_le_root c0 hC.2
  obtain ⟨a3, a4⟩ := abs_le_root (x := y) (y := x) c0 (by grind)
  obtain ⟨b1, b2⟩ := abs_le_root r0 hr.2
  obtain ⟨b3, b4⟩ := abs_le_root (x := y') (y := x') r0 (by grind)
  obtain ⟨x1, x2⟩ := hx
  obtain ⟨y1, y2⟩ := hy
  obtain ⟨p1, p2⟩ := rabs (x := x' - x) (y := x' + x) (m := d) (f := r + C + 2 * e18) (by grind) (by grind) (by grind) (by grind)
  obtain ⟨p3, p4⟩ := rabs (x := y' - y) (y := y' + y) (m := d) (f := r + C + 2 * e18) (by grind) (by grind) (by grind) (by grind)
  have k : (r - C) * (r + C) ≤ 2 * (d * (r + C + 2 * e18)) + 2 * wtA := by grind
  have e0 : 0 ≤ e15 ∧ 0 ≤ e18 ∧ 0 ≤ e14 ∧ 4 * (e14 * e18) + 2 * wtA < e15 * e15 := by unfold e15 e18 wtA e14; decide +kernel
  have p5 := rmul (a := d) (b := e14) (c := e18) (d := e18) d0 d1 e0.2.1 Rat.le_refl
  have p6 := rmul (a := e15) (b := r - C - 2 * d) (c := e15) (d := r + C) e0.1 (by grind) e0.1 (by grind)
  grind
def wtQ : Rat := 1 / 10000000000000
theorem num_Q : 0 ≤ e15 ∧ (1 / 500000 + 1 / 100000) / 1073741824 ≤ e14 ∧ wtE + 4 * ((1 / 500000 + 1 / 100000) / 1073741824) + e15 ≤ wtQ := by unfold wtE e15 wtQ e14; decide +kernel
theorem br_enc {x0 x1 y0 y1 : Int} (hx : x0 ≤ x1) (hy : y0 ≤ y1) (bx0 : Bd31 x0) (bx1 : Bd31 x1) (by0 : Bd31 y0) (by1 : Bd31 y1) {x y C : Rat} (ix : InR x0 x1 x (1 / 100000)) (iy : InR y0 y1 y (1 / 100000)) (c0 : 0 ≤ C) (c1 : C ≤ 1) (hC : Nr (C * C) (x * x + y * y) wtA) :
    (∃ s, InR (encL (brF x0 x1 y0 y1).1 (brF x0 x1 y0 y1).2) (encH (brF x0 x1 y0 y1).1 (brF x0 x1 y0 y1).2) s 0 ∧ Nr (s * C) y wtQ) ∧
    ∃ c, InR (cosL (brF x0 x1 y0 y1).1 (brF x0 x1 y0 y1).2) (cosH (brF x0 x1 y0 y1).1 (brF x0 x1 y0 y1).2) c 0 ∧ Nr (c * C) x wtQ := by
  obtain ⟨X, X0, X1, X2, X3⟩ := clampR (castle hx) (X := 1073741824 * x) (e := 1 / 100000) ix.lo ix.hi (by grind)
  obtain ⟨Y, Y0, Y1, Y2, Y3⟩ := clampR (castle hy) (X := 1073741824 * y) (e := 1 / 100000) iy.lo iy.hi (by grind)
  obtain ⟨k, j, u, v, a, b, hk, hj, hc, hu, hv⟩ := br_cone hx hy bx0 bx1 by0 by1 X0 X1 Y0 Y1
  obtain ⟨n0, n1, n2⟩ := brF_bd x0 x1 y0 y1
  obtain ⟨u1, u2⟩ := hu
  obtain ⟨v1, v2⟩ := hv
  obtain ⟨q2, q3, q4⟩ := num_Q
  have hc' : Cone k j (u / 1073741824) (v / 1073741824) (a / 1073741824) (b / 1073741824) := by
    obtain ⟨h1, h2, h3, h4, h5⟩ := hc
    exact ⟨h1, by grind, by grind, by rw [h4]; grind, by rw [h5]; grind⟩
  obtain ⟨d, hd⟩ : ∃ d : Rat, d = (1 / 500000 + 1 / 100000) / 1073741824 := ⟨_, rfl⟩
  rw [← hd] at q3 q4
  have nu : Nr (u / 1073741824) x d := by constructor <;> grind
  have nv : Nr (v / 1073741824) y d := by constructor <;> grind
  have d0 : 0 ≤ d := by grind
  clear X0 X1 X2 X3 Y0 Y1 Y2 Y3 u1 u2 v1 v2 hc ix iy hd
  generalize u / 1073741824 = x' at *
  generalize v / 1073741824 = y' at *
  have hA : 0 ≤ wtA ∧ wtA ≤ 1 / 1000000 ∧ e14 ≤ 1 / 1000000 := by unfold wtA e14; decide +kernel
  have sx := sqnn x'
  have sy := sqnn y'
  obtain ⟨m1, m2⟩ := hC
  have cc := rmul (a := C) (b := 1) (c := C) (d := 1) c0 c1 c0 c1
  obtain ⟨a1, a2⟩ := abs_le_root c0 m2
  obtain ⟨a3, a4⟩ := abs_le_root (x := y) (y := x) c0 (by grind)
  have h18 : e18 ≤ 1 / 1000000 := by unfold e18; grind
  have bd : x' * x' + y' * y' ≤ 101 / 100 := by
    obtain ⟨x1, x2⟩ := nu
    obtain ⟨y1, y2⟩ := nv
    obtain ⟨p1, p2⟩ := rabs (x := x' - x) (y := x' + x) (m := d) (f := 3) (by grind) (by grind) (by grind) (by grind)
    obtain ⟨p3, p4⟩ := rabs (x := y' - y) (y := y' + y) (m := d) (f := 3) (by grind) (by grind) (by grind) (by grind)
    grind
  obtain ⟨r, r0, r1, hr, -⟩ := root_ex (v := x' * x' + y' * y') (by grind) bd
  obtain ⟨⟨s, s1, s2⟩, c, c2, c3⟩ := hc'.enc hk hj (by omega) n2 r0 r1 hr
  have l1 := norm_lip c0 r0 d0 q3 ⟨m1, m2⟩ hr nu nv
  have l2 := norm_lip r0 c0 d0 q3 hr ⟨m1, m2⟩ nu.symm nv.symm
  obtain ⟨nu1, nu2⟩ := nu
  obtain ⟨nv1, nv2⟩ := nv
  obtain ⟨i1, i2, i3⟩ := enc_in (lo := (brF x0 x1 y0 y1).1) (hi := (brF x0 x1 y0 y1).2)
  obtain ⟨j1, j2, j3⟩ := cos_in2 (brF x0 x1 y0 y1).1 (brF x0 x1 y0 y1).2
  have I1 := castle i1
  have I3 := castle i3
  have J1 := castle j1
  have J3 := castle j3
  push_cast at I1 I3 J1 J3
  obtain ⟨t1, t2⟩ := s1
  obtain ⟨t3, t4⟩ := c2
  obtain ⟨o1, o2⟩ := rabs (x := s) (y := r - C) (m := 1) (f := 2 * d + e15) (by grind) (by grind) (by grind) (by grind)
  obtain ⟨o3, o4⟩ := rabs (x := c) (y := r - C) (m := 1) (f := 2 * d + e15) (by grind) (by grind) (by grind) (by grind)
  obtain ⟨s2, s3⟩ := s2
  obtain ⟨c3, c4⟩ := c3
  refine ⟨⟨s, ⟨t1, t2⟩, ?_⟩, c, ⟨t3, t4⟩, ?_⟩
  · clear t1 t2 t3 t4 c3 c4 o3 o4 l1 l2 hr m1 m2 sx sy cc bd I1 I3 J1 J3
    constructor <;> grind
  · clear t1 t2 t3 t4 s2 s3 o1 o2 l1 l2 hr m1 m2 sx sy cc bd I1 I3 J1 J3
    constructor <;> grind
end Go.Proofs.YtkhhdpndcidmgaaGreat
