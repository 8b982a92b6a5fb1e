/- Contracts and plain laws, several texts in one: InP -/
import Derived.Test.YtkhhdpndcidmgaaGreatProg
import Derived.WalkKit
import Derived.WalkSpells
import Derived.WalkLawsBesides
import Derived.Lib.Hide
import Derived.BigQuiet
import Derived.Test.YtkhhdpndcidmgaaGreatTAE
import Derived.Test.YtkhhdpndcidmgaaGreatTAF
import Derived.Test.YtkhhdpndcidmgaaGreatTAI
import Derived.Test.YtkhhdpndcidmgaaGreatTAT
import Derived.Test.YtkhhdpndcidmgaaGreatTAW
/- Values of the exact rotation within intervals of whole numbers, but for small errors. No program in sight. -/
namespace Go.Proofs.YtkhhdpndcidmgaaGreat
open Go.RowKit

structure InR (l h : Int) (v e : Rat) : Prop where
  lo : (l : Rat) ≤ 1073741824 * v + e
  hi : 1073741824 * v ≤ (h : Rat) + e
theorem InR.mono {l h l' h' : Int} {v e e' : Rat} (x : InR l h v e) (h1 : l' ≤ l) (h2 : h ≤ h') (h3 : e ≤ e') : InR l' h' v e' := by
  obtain ⟨a, b⟩ := x
  have g1 : (l' : Rat) ≤ (l : Rat) := by exact_mod_cast h1
  have g2 : (h : Rat) ≤ (h' : Rat) := by exact_mod_cast h2
  constructor <;> grind
theorem InR.add {a0 a1 b0 b1 : Int} {x y e f : Rat} (hx : InR a0 a1 x e) (hy : InR b0 b1 y f) : InR (a0 + b0) (a1 + b1) (x + y) (e + f) := by
  obtain ⟨a, b⟩ := hx
  obtain ⟨c, d⟩ := hy
  constructor <;> push_cast <;> grind
theorem InR.sub {a0 a1 b0 b1 : Int} {x y e f : Rat} (hx : InR a0 a1 x e) (hy : InR b0 b1 y f) : InR (a0 - b1) (a1 - b0) (x - y) (e + f) := by
  obtain ⟨a, b⟩ := hx
  obtain ⟨c, d⟩ := hy
  constructor <;> push_cast <;> grind
theorem InR.neg {a0 a1 : Int} {x e : Rat} (hx : InR a0 a1 x e) : InR (-a1) (-a0) (-x) e := by
  obtain ⟨a, b⟩ := hx
  constructor <;> push_cast <;> grind
theorem InR.near {l h : Int} {v u e d e' : Rat} (x : InR l h v e) (hn : Nr u v d) (he : e + 1073741824 * d ≤ e') : InR l h u e' := by
  obtain ⟨a, b⟩ := x
  obtain ⟨c, d⟩ := hn
  constructor <;> grind
theorem clampR {a0 a1 X e : Rat} (h : a0 ≤ a1) (h1 : a0 ≤ X + e) (h2 : X ≤ a1 + e) (h0 : 0 ≤ e) : ∃ x, a0 ≤ x ∧ x ≤ a1 ∧ -e ≤ X - x ∧ X - x ≤ e := by
  by_cases c1 : X ≤ a0
  · exact ⟨a0, by grind, h, by grind, by grind⟩
  · by_cases c2 : X ≤ a1
    · exact ⟨X, by grind, c2, by grind, by grind⟩
    · exact ⟨a1, h, by grind, by grind, by grind⟩
theorem linR {a0 a1 x k : Rat} (h0 : a0 ≤ x) (h1 : x ≤ a1) : (a0 * k ≤ x * k ∨ a1 * k ≤ x * k) ∧ (x * k ≤ a0 * k ∨ x * k ≤ a1 * k) := by
  rcases (Rat.le_total : (0 : Rat) ≤ k ∨ k ≤ 0) with g | g
  · exact ⟨.inl (Rat.mul_le_mul_of_nonneg_right h0 g), .inr (Rat.mul_le_mul_of_nonneg_right h1 g)⟩
  · have a := Rat.mul_le_mul_of_nonneg_right h0 (show 0 ≤ -k by grind)
    have b := Rat.mul_le_mul_of_nonneg_right h1 (show 0 ≤ -k by grind)
    exact ⟨.inr (by grind), .inl (by grind)⟩
theorem boxR {a0 a1 b0 b1 x y : Rat} (h0 : a0 ≤ x) (h1 : x ≤ a1) (g0 : b0 ≤ y) (g1 : y ≤ b1) : (a0 * b0 ≤ x * y ∨ a0 * b1 ≤ x * y ∨ a1 * b0 ≤ x * y ∨ a1 * b1 ≤ x * y) ∧ (x * y ≤ a0 * b0 ∨ x * y ≤ a0 * b1 ∨ x * y ≤ a1 * b0 ∨ x * y ≤ a1 * b1) := by
  obtain ⟨p, q⟩ := linR (k := y) h0 h1
  obtain ⟨p0, q0⟩ := linR (k := a0) g0 g1
  obtain ⟨p1, q1⟩ := linR (k := a1) g0 g1
  constructor
  · rcases p with p | p
    · rcases p0 with p0 | p0
      · left; grind
      · right; left; grind
    · rcases p1 with p1 | p1
      · right; right; left; grind
      · right; right; right; grind
  · rcases q with q | q
    · rcases q0 with q0 | q0
      · left; grind
      · right; left; grind
    · rcases q1 with q1 | q1
      · right; right; left; grind
      · right; right; right; grind
theorem castle {a b : Int} (h : a ≤ b) : (a : Rat) ≤ (b : Rat) := by exact_mod_cast h
theorem InR.mul {a0 a1 b0 b1 : Int} {x y e f g : Rat} (hx : InR a0 a1 x e) (hy : InR b0 b1 y f) (ha : -1073741824 ≤ a0 ∧ a0 ≤ a1 ∧ a1 ≤ 1073741824) (hb : -1073741824 ≤ b0 ∧ b0 ≤ b1 ∧ b1 ≤ 1073741824)
    (he : 0 ≤ e) (hf : 0 ≤ f) (hf1 : f ≤ 1073741824) (hg : 2 * e + f ≤ g) : InR (mulL a0 a1 b0 b1) (mulH a0 a1 b0 b1) (x * y) g := by
  obtain ⟨x1, x2⟩ := hx
  obtain ⟨y1, y2⟩ := hy
  obtain ⟨X, hX⟩ : ∃ X, 1073741824 * x = X := ⟨_, rfl⟩
  obtain ⟨Y, hY⟩ : ∃ Y, 1073741824 * y = Y := ⟨_, rfl⟩
  rw [hX] at x1 x2
  rw [hY] at y1 y2
  have ca0 : (-1073741824 : Rat) ≤ (a0 : Rat) := castle ha.1
  have ca : (a0 : Rat) ≤ (a1 : Rat) := castle ha.2.1
  have ca1 : (a1 : Rat) ≤ 1073741824 := castle ha.2.2
  have cb0 : (-1073741824 : Rat) ≤ (b0 : Rat) := castle hb.1
  have cb : (b0 : Rat) ≤ (b1 : Rat) := castle hb.2.1
  have cb1 : (b1 : Rat) ≤ 1073741824 := castle hb.2.2
  obtain ⟨u, u1, u2, u3, u4⟩ := clampR ca x1 x2 he
  obtain ⟨v, v1, v2, v3, v4⟩ := clampR cb y1 y2 hf
  obtain ⟨p1, p2⟩ := boxR u1 u2 v1 v2
  obtain ⟨r1, r2⟩ := rabs (x := Y) (y := X - u) (m := 2147483648) (f := e) (by grind) (by grind) u3 u4
  obtain ⟨s1, s2⟩ := rabs (x := u) (y := Y - v) (m := 1073741824) (f := f) (by grind) (by grind) v3 v4
  have hm := mn4_is (a0 * b0) (a0 * b1) (a1 * b0) (a1 * b1)
  have hx4 := mx4_is (a0 * b0) (a0 * b1) (a1 * b0) (a1 * b1)
  have e1 : m4 a0 a1 b0 b1 = mn (mn (mn (a0 * b0) (a0 * b1)) (a1 * b0)) (a1 * b1) := rfl
  have e2 : x4 a0 a1 b0 b1 = mx (mx (mx (a0 * b0) (a0 * b1)) (a1 * b0)) (a1 * b1) := rfl
  have hlo : mulL a0 a1 b0 b1 * 1073741824 ≤ m4 a0 a1 b0 b1 := by unfold mulL; omega
  have hhi : x4 a0 a1 b0 b1 ≤ mulH a0 a1 b0 b1 * 1073741824 := by unfold mulH; omega
  rw [← e1] at hm
  rw [← e2] at hx4
  obtain ⟨⟨m1, m2, m3, m4'⟩, -⟩ := hm
  obtain ⟨⟨n1, n2, n3, n4⟩, -⟩ := hx4
  generalize m4 a0 a1 b0 b1 = M at *
  generalize x4 a0 a1 b0 b1 = N at *
  generalize mulL a0 a1 b0 b1 = L at *
  generalize mulH a0 a1 b0 b1 = H at *
  have c1 := castle m1
  have c2 := castle m2
  have c3 := castle m3
  have c4 := castle m4'
  have d1 := castle n1
  have d2 := castle n2
  have d3 := castle n3
  have d4 := castle n4
  have cl := castle hlo
  have ch := castle hhi
  push_cast at c1 c2 c3 c4 d1 d2 d3 d4 cl ch
  have hM : (M : Rat) ≤ u * v := by rcases p1 with p | p | p | p <;> grind
  have hN : u * v ≤ (N : Rat) := by rcases p2 with p | p | p | p <;> grind
  have hXY : 1073741824 * (1073741824 * (x * y)) = X * Y := by rw [← hX, ← hY]; grind
  have k1 : u * v ≤ X * Y + 2147483648 * e + 1073741824 * f := by grind
  have k2 : X * Y ≤ u * v + 2147483648 * e + 1073741824 * f := by grind
  obtain ⟨Z, hZ⟩ : ∃ Z, 1073741824 * (x * y) = Z := ⟨_, rfl⟩
  rw [hZ] at hXY
  constructor
  · rw [hZ]; grind
  · rw [hZ]; grind
theorem sin_InR {lo hi n : Int} (h1 : lo ≤ n) (h2 : n ≤ hi) (h3 : -5400000 ≤ n) (h4 : n ≤ 27000000) : InR (encL lo hi) (encH lo hi) (zS n) t31 := by
  have hp := enc_part h1 (Int.le_refl n) h2
  rw [(enc_point n).1, (enc_point n).2] at hp
  have hc := cell_all h3 h4
  exact InR.mono ⟨hc.lo, hc.hi⟩ hp.1 hp.2 Rat.le_refl
theorem zC_quarter (n : Int) : Nr (zS (n + 5400000)) (zC n) (2 * e60) := by
  obtain ⟨q1, q2, q3, q4⟩ := q_near
  obtain ⟨a1, -⟩ := Z_add n 5400000
  obtain ⟨⟨b1, b2⟩, b3, b4⟩ := Z_in n
  rw [a1]
  clear a1
  generalize zS 5400000 = s at *
  generalize zC 5400000 = c at *
  generalize zS n = x at *
  generalize zC n = y at *
  have he : (0 : Rat) < e60 ∧ e60 ≤ 1 / 1000 := by unfold e60; constructor <;> grind
  generalize e60 = e at *
  obtain ⟨p1, p2⟩ := rabs (x := x) (y := c) (m := 1) (f := e) b1 b2 q1 q2
  obtain ⟨p3, p4⟩ := rabs (x := y) (y := s - 1) (m := 1) (f := e) b3 b4 (by grind) (by grind)
  constructor <;> grind
def t30 : Rat := 1 / 1073741824
theorem t_30 : t31 + 1073741824 * (2 * e60) ≤ t30 := by unfold t31 t30 e60; grind
theorem cos_InR {lo hi n : Int} (h1 : lo ≤ n) (h2 : n ≤ hi) (h3 : -10800000 ≤ n) (h4 : n ≤ 21600000) : InR (cosL lo hi) (cosH lo hi) (zC n) t30 := by
  have h := sin_InR (lo := lo + 5400000) (hi := hi + 5400000) (n := n + 5400000) (by omega) (by omega) (by omega) (by omega)
  exact h.near (zC_quarter n).symm t_30
theorem cos_InRT (n : Int) : InR (cosL n n) (cosH n n) (zC (n % 21600000)) t30 := by
  have h := cos_InR (lo := n % 21600000) (hi := n % 21600000) (n := n % 21600000) (Int.le_refl _) (Int.le_refl _) (by omega) (by omega)
  have e1 : cosL n n = cosL (n % 21600000) (n % 21600000) ∧ cosH n n = cosH (n % 21600000) (n % 21600000) := by
    unfold cosL cosH
    rw [(enc_point _).1, (enc_point _).1, (enc_point _).2, (enc_point _).2]
    have := b_shift (n % 21600000 + 5400000) (n / 21600000)
    rw [show n % 21600000 + 5400000 + 21600000 * (n / 21600000) = n + 5400000 by omega] at this
    exact this
  rw [e1.1, e1.2]
  exact h
end Go.Proofs.YtkhhdpndcidmgaaGreat
