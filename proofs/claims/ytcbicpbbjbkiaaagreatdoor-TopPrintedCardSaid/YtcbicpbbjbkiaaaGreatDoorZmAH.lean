/- Contracts and plain laws, several texts in one: Mer1; ExP; InP; AlP; BkP; NeP; NeQ; SaP; SaQ; SaR; Wd; We; TpP; TpQ; TpR; Chn; TpS; TpT -/
import Derived.Test.YtcbicpbbjbkiaaaGreatDoorProg
import Derived.WalkKit
import Derived.WalkSpells
import Derived.WalkLawsBesides
import Derived.Lib.Hide
import Derived.BigQuiet
import Derived.Test.YtcbicpbbjbkiaaaGreatDoorZmAA
import Derived.Test.YtcbicpbbjbkiaaaGreatDoorZmAB
import Derived.Test.YtcbicpbbjbkiaaaGreatDoorZmAD
import Derived.Test.YtcbicpbbjbkiaaaGreatDoorZmAE
import Derived.Test.YtcbicpbbjbkiaaaGreatDoorZmAF
import Derived.Test.YtcbicpbbjbkiaaaGreatDoorZmAG
namespace Go.Proofs.YtcbicpbbjbkiaaaGreatDoor
open Go.RowKit

def latB (x0 y0 : Int) : Bool := decide (x0 ≤ y0 ∧ -5400000 ≤ x0 ∧ y0 ≤ 5400000)
theorem latB_iff {x0 y0 : Int} : latB x0 y0 = true ↔ x0 ≤ y0 ∧ -5400000 ≤ x0 ∧ y0 ≤ 5400000 := by simp [latB]
theorem lat_valid {x0 y0 : Int} (h : latB x0 y0 = true) : validB x0 y0 = true := by
 have := latB_iff.1 h; rw [validB_iff]; omega
set_option maxHeartbeats 400000 in
theorem ref25_Latitude (x0 y0 : Int) (w : World) :
  Calls Tryz.prog 36 #[(.agg #[.int .i64 (x0), .int .i64 (y0)])] w fun e w' => e = .returned (.bool (latB x0 y0)) ∧ ∃ d, w' = bw w d := by
 refine lay_start ?_
 go_enter Tryz.func36, Tryz.ntmps36
 go_wp2
 all_goals go_ret
 all_goals exact ⟨ret_bool (by rw [Bool.eq_iff_iff]; simp [latB]; omega), lay_ex _ _⟩
theorem lat_w1 {x0 y0 : Int} (h1 : validB x0 y0 = true) (h2 : -5400000 ≤ x0) : decide (y0 ≤ 5400000) = latB x0 y0 := by
 have := validB_iff.1 h1; rw [Bool.eq_iff_iff]; simp [latB]; omega
theorem lat_w2 {x0 y0 : Int} (h2 : x0 < -5400000) : false = latB x0 y0 := by rw [Bool.eq_iff_iff]; simp [latB]; omega
theorem lat_w3 {x0 y0 : Int} (h1 : ¬ validB x0 y0 = true) : false = latB x0 y0 := by
 rw [validB_iff] at h1; rw [Bool.eq_iff_iff]; simp [latB]; omega
def cosL (lo hi : Int) : Int := encL (lo + 5400000) (hi + 5400000)
def cosH (lo hi : Int) : Int := encH (lo + 5400000) (hi + 5400000)
theorem cos_in2 (lo hi : Int) : -1073741824 ≤ cosL lo hi ∧ cosL lo hi ≤ cosH lo hi ∧ cosH lo hi ≤ 1073741824 := enc_in
def ccL (a0 a1 b0 b1 : Int) : Int := mulL (cosL a0 a1) (cosH a0 a1) (cosL b0 b1) (cosH b0 b1)
def ccH (a0 a1 b0 b1 : Int) : Int := mulH (cosL a0 a1) (cosH a0 a1) (cosL b0 b1) (cosH b0 b1)
theorem cc_in (a0 a1 b0 b1 : Int) : -1073741824 ≤ ccL a0 a1 b0 b1 ∧ ccL a0 a1 b0 b1 ≤ ccH a0 a1 b0 b1 ∧ ccH a0 a1 b0 b1 ≤ 1073741824 := by
 obtain ⟨p1, p2, p3⟩ := cos_in2 a0 a1
 obtain ⟨q1, q2, q3⟩ := cos_in2 b0 b1
 exact mul_unit p1 p2 p3 q1 q2 q3
theorem unit_fx {a b : Int} (h : -1073741824 ≤ a ∧ a ≤ b ∧ b ≤ 1073741824) : fxB a b = true := fxB_iff.2 (by omega)
structure InR (l h : Int) (v e : Rat) : Prop where
 lo : (l : Rat) ≤ 1073741824 * v + e
 hi : 1073741824 * v ≤ (h : Rat) + e
theorem InR.mono {l h l' h' : Int} {v e e' : Rat} (x : InR l h v e) (h1 : l' ≤ l) (h2 : h ≤ h') (h3 : e ≤ e') : InR l' h' v e' := by
 obtain ⟨a, b⟩ := x
 have g1 : (l' : Rat) ≤ (l : Rat) := by exact_mod_cast h1
 have g2 : (h : Rat) ≤ (h' : Rat) := by exact_mod_cast h2
 constructor <;> grind
theorem InR.add {a0 a1 b0 b1 : Int} {x y e f : Rat} (hx : InR a0 a1 x e) (hy : InR b0 b1 y f) : InR (a0 + b0) (a1 + b1) (x + y) (e + f) := by
 obtain ⟨a, b⟩ := hx
 obtain ⟨c, d⟩ := hy
 constructor <;> push_cast <;> grind
theorem InR.sub {a0 a1 b0 b1 : Int} {x y e f : Rat} (hx : InR a0 a1 x e) (hy : InR b0 b1 y f) : InR (a0 - b1) (a1 - b0) (x - y) (e + f) := by
 obtain ⟨a, b⟩ := hx
 obtain ⟨c, d⟩ := hy
 constructor <;> push_cast <;> grind
theorem InR.neg {a0 a1 : Int} {x e : Rat} (hx : InR a0 a1 x e) : InR (-a1) (-a0) (-x) e := by
 obtain ⟨a, b⟩ := hx
 constructor <;> push_cast <;> grind
theorem InR.near {l h : Int} {v u e d e' : Rat} (x : InR l h v e) (hn : Nr u v d) (he : e + 1073741824 * d ≤ e') : InR l h u e' := by
 obtain ⟨a, b⟩ := x
 obtain ⟨c, d⟩ := hn
 constructor <;> grind
theorem clampR {a0 a1 X e : Rat} (h : a0 ≤ a1) (h1 : a0 ≤ X + e) (h2 : X ≤ a1 + e) (h0 : 0 ≤ e) : ∃ x, a0 ≤ x ∧ x ≤ a1 ∧ -e ≤ X - x ∧ X - x ≤ e := by
 by_cases c1 : X ≤ a0
 ·exact ⟨a0, by grind, h, by grind, by grind⟩
 ·by_cases c2 : X ≤ a1
  ·exact ⟨X, by grind, c2, by grind, by grind⟩
  ·exact ⟨a1, h, by grind, by grind, by grind⟩
theorem linR {a0 a1 x k : Rat} (h0 : a0 ≤ x) (h1 : x ≤ a1) : (a0 * k ≤ x * k ∨ a1 * k ≤ x * k) ∧ (x * k ≤ a0 * k ∨ x * k ≤ a1 * k) := by
 rcases (Rat.le_total : (0 : Rat) ≤ k ∨ k ≤ 0) with g | g
 ·exact ⟨.inl (Rat.mul_le_mul_of_nonneg_right h0 g), .inr (Rat.mul_le_mul_of_nonneg_right h1 g)⟩
 ·have a := Rat.mul_le_mul_of_nonneg_right h0 (show 0 ≤ -k by grind)
  have b := Rat.mul_le_mul_of_nonneg_right h1 (show 0 ≤ -k by grind)
  exact ⟨.inr (by grind), .inl (by grind)⟩
theorem boxR {a0 a1 b0 b1 x y : Rat} (h0 : a0 ≤ x) (h1 : x ≤ a1) (g0 : b0 ≤ y) (g1 : y ≤ b1) : (a0 * b0 ≤ x * y ∨ a0 * b1 ≤ x * y ∨ a1 * b0 ≤ x * y ∨ a1 * b1 ≤ x * y) ∧ (x * y ≤ a0 * b0 ∨ x * y ≤ a0 * b1 ∨ x * y ≤ a1 * b0 ∨ x * y ≤ a1 * b1) := by
 obtain ⟨p, q⟩ := linR (k := y) h0 h1
 obtain ⟨p0, q0⟩ := linR (k := a0) g0 g1
 obtain ⟨p1, q1⟩ := linR (k := a1) g0 g1
 constructor
 ·rcases p with p | p
  ·rcases p0 with p0 | p0
   ·left; grind
   ·right; left; grind
  ·rcases p1 with p1 | p1
   ·right; right; left; grind
   ·right; right; right; grind
 ·rcases q with q | q
  ·rcases q0 with q0 | q0
   ·left; grind
   ·right; left; grind
  ·rcases q1 with q1 | q1
   ·right; right; left; grind
   ·right; right; right; grind
theorem castle {a b : Int} (h : a ≤ b) : (a : Rat) ≤ (b : Rat) := by exact_mod_cast h
theorem InR.mul {a0 a1 b0 b1 : Int} {x y e f g : Rat} (hx : InR a0 a1 x e) (hy : InR b0 b1 y f) (ha : -1073741824 ≤ a0 ∧ a0 ≤ a1 ∧ a1 ≤ 1073741824) (hb : -1073741824 ≤ b0 ∧ b0 ≤ b1 ∧ b1 ≤ 1073741824)
  (he : 0 ≤ e) (hf : 0 ≤ f) (hf1 : f ≤ 1073741824) (hg : 2 * e + f ≤ g) : InR (mulL a0 a1 b0 b1) (mulH a0 a1 b0 b1) (x * y) g := by
 obtain ⟨x1, x2⟩ := hx
 obtain ⟨y1, y2⟩ := hy
 obtain ⟨X, hX⟩ : ∃ X, 1073741824 * x = X := ⟨_, rfl⟩
 obtain ⟨Y, hY⟩ : ∃ Y, 1073741824 * y = Y := ⟨_, rfl⟩
 rw [hX] at x1 x2
 rw [hY] at y1 y2
 have ca0 : (-1073741824 : Rat) ≤ (a0 : Rat) := castle ha.1
 have ca : (a0 : Rat) ≤ (a1 : Rat) := castle ha.2.1
 have ca1 : (a1 : Rat) ≤ 1073741824 := castle ha.2.2
 have cb0 : (-1073741824 : Rat) ≤ (b0 : Rat) := castle hb.1
 have cb : (b0 : Rat) ≤ (b1 : Rat) := castle hb.2.1
 have cb1 : (b1 : Rat) ≤ 1073741824 := castle hb.2.2
 obtain ⟨u, u1, u2, u3, u4⟩ := clampR ca x1 x2 he
 obtain ⟨v, v1, v2, v3, v4⟩ := clampR cb y1 y2 hf
 obtain ⟨p1, p2⟩ := boxR u1 u2 v1 v2
 obtain ⟨r1, r2⟩ := rabs (x := Y) (y := X - u) (m := 2147483648) (f := e) (by grind) (by grind) u3 u4
 obtain ⟨s1, s2⟩ := rabs (x := u) (y := Y - v) (m := 1073741824) (f := f) (by grind) (by grind) v3 v4
 have hm := mn4_is (a0 * b0) (a0 * b1) (a1 * b0) (a1 * b1)
 have hx4 := mx4_is (a0 * b0) (a0 * b1) (a1 * b0) (a1 * b1)
 have e1 : m4 a0 a1 b0 b1 = mn (mn (mn (a0 * b0) (a0 * b1)) (a1 * b0)) (a1 * b1) := rfl
 have e2 : x4 a0 a1 b0 b1 = mx (mx (mx (a0 * b0) (a0 * b1)) (a1 * b0)) (a1 * b1) := rfl
 have hlo : mulL a0 a1 b0 b1 * 1073741824 ≤ m4 a0 a1 b0 b1 := by unfold mulL; omega
 have hhi : x4 a0 a1 b0 b1 ≤ mulH a0 a1 b0 b1 * 1073741824 := by unfold mulH; omega
 rw [← e1] at hm
 rw [← e2] at hx4
 obtain ⟨⟨m1, m2, m3, m4'⟩, -⟩ := hm
 obtain ⟨⟨n1, n2, n3, n4⟩, -⟩ := hx4
 generalize m4 a0 a1 b0 b1 = M at *
 generalize x4 a0 a1 b0 b1 = N at *
 generalize mulL a0 a1 b0 b1 = L at *
 generalize mulH a0 a1 b0 b1 = H at *
 have c1 := castle m1
 have c2 := castle m2
 have c3 := castle m3
 have c4 := castle m4'
 have d1 := castle n1
 have d2 := castle n2
 have d3 := castle n3
 have d4 := castle n4
 have cl := castle hlo
 have ch := castle hhi
 push_cast at c1 c2 c3 c4 d1 d2 d3 d4 cl ch
 have hM : (M : Rat) ≤ u * v := by rcases p1 with p | p | p | p <;> grind
 have hN : u * v ≤ (N : Rat) := by rcases p2 with p | p | p | p <;> grind
 have hXY : 1073741824 * (1073741824 * (x * y)) = X * Y := by rw [← hX, ← hY]; grind
 have k1 : u * v ≤ X * Y + 2147483648 * e + 1073741824 * f := by grind
 have k2 : X * Y ≤ u * v + 2147483648 * e + 1073741824 * f := by grind
 obtain ⟨Z, hZ⟩ : ∃ Z, 1073741824 * (x * y) = Z := ⟨_, rfl⟩
 rw [hZ] at hXY
 constructor
 ·rw [hZ]; grind
 ·rw [hZ]; grind
theorem sin_InR {lo hi n : Int} (h1 : lo ≤ n) (h2 : n ≤ hi) (h3 : -5400000 ≤ n) (h4 : n ≤ 27000000) : InR (encL lo hi) (encH lo hi) (zS n) t31 := by
 have hp := enc_part h1 (Int.le_refl n) h2
 rw [(enc_point n).1, (enc_point n).2] at hp
 have hc := cell_all h3 h4
 exact InR.mono ⟨hc.lo, hc.hi⟩ hp.1 hp.2 Rat.le_refl
theorem zC_quarter (n : Int) : Nr (zS (n + 5400000)) (zC n) (2 * e60) := by
 obtain ⟨q1, q2, q3, q4⟩ := q_near
 obtain ⟨a1, -⟩ := Z_add n 5400000
 obtain ⟨⟨b1, b2⟩, b3, b4⟩ := Z_in n
 rw [a1]
 clear a1
 generalize zS 5400000 = s at *
 generalize zC 5400000 = c at *
 generalize zS n = x at *
 generalize zC n = y at *
 have he : (0 : Rat) < e60 ∧ e60 ≤ 1 / 1000 := by unfold e60; constructor <;> grind
 generalize e60 = e at *
 obtain ⟨p1, p2⟩ := rabs (x := x) (y := c) (m := 1) (f := e) b1 b2 q1 q2
 obtain ⟨p3, p4⟩ := rabs (x := y) (y := s - 1) (m := 1) (f := e) b3 b4 (by grind) (by grind)
 constructor <;> grind
def t30 : Rat := 1 / 1073741824
theorem t_30 : t31 + 1073741824 * (2 * e60) ≤ t30 := by unfold t31 t30 e60; grind
theorem cos_InR {lo hi n : Int} (h1 : lo ≤ n) (h2 : n ≤ hi) (h3 : -10800000 ≤ n) (h4 : n ≤ 21600000) : InR (cosL lo hi) (cosH lo hi) (zC n) t30 := by
 have h := sin_InR (lo := lo + 5400000) (hi := hi + 5400000) (n := n + 5400000) (by omega) (by omega) (by omega) (by omega)
 exact h.near (zC_quarter n).symm t_30
theorem cos_InRT (n : Int) : InR (cosL n n) (cosH n n) (zC (n % 21600000)) t30 := by
 have h := cos_InR (lo := n % 21600000) (hi := n % 21600000) (n := n % 21600000) (Int.le_refl _) (Int.le_refl _) (by omega) (by omega)
 have e1 : cosL n n = cosL (n % 21600000) (n % 21600000) ∧ cosH n n = cosH (n % 21600000) (n % 21600000) := by
  unfold cosL cosH
  rw [(enc_point _).1, (enc_point _).1, (enc_point _).2, (enc_point _).2]
  have := b_shift (n % 21600000 + 5400000) (n / 21600000)
  rw [show n % 21600000 + 5400000 + 21600000 * (n / 21600000) = n + 5400000 by omega] at this
  exact this
 rw [e1.1, e1.2]
 exact h
def ssL (a0 a1 b0 b1 : Int) : Int := mulL (encL a0 a1) (encH a0 a1) (encL b0 b1) (encH b0 b1)
def ssH (a0 a1 b0 b1 : Int) : Int := mulH (encL a0 a1) (encH a0 a1) (encL b0 b1) (encH b0 b1)
theorem ss_in (a0 a1 b0 b1 : Int) : -1073741824 ≤ ssL a0 a1 b0 b1 ∧ ssL a0 a1 b0 b1 ≤ ssH a0 a1 b0 b1 ∧ ssH a0 a1 b0 b1 ≤ 1073741824 := by
 obtain ⟨p1, p2, p3⟩ := @enc_in a0 a1
 obtain ⟨q1, q2, q3⟩ := @enc_in b0 b1
 exact mul_unit p1 p2 p3 q1 q2 q3
def c3L (a0 a1 b0 b1 c0 c1 : Int) : Int := mulL (ccL a0 a1 b0 b1) (ccH a0 a1 b0 b1) (cosL c0 c1) (cosH c0 c1)
def c3H (a0 a1 b0 b1 c0 c1 : Int) : Int := mulH (ccL a0 a1 b0 b1) (ccH a0 a1 b0 b1) (cosL c0 c1) (cosH c0 c1)
theorem c3_in (a0 a1 b0 b1 c0 c1 : Int) : -1073741824 ≤ c3L a0 a1 b0 b1 c0 c1 ∧ c3L a0 a1 b0 b1 c0 c1 ≤ c3H a0 a1 b0 b1 c0 c1 ∧ c3H a0 a1 b0 b1 c0 c1 ≤ 1073741824 := by
 obtain ⟨p1, p2, p3⟩ := cc_in a0 a1 b0 b1
 obtain ⟨q1, q2, q3⟩ := cos_in2 c0 c1
 exact mul_unit p1 p2 p3 q1 q2 q3
def altS0 (a0 a1 b0 b1 c0 c1 : Int) : Int := ssL a0 a1 b0 b1 + c3L a0 a1 b0 b1 c0 c1
def altS1 (a0 a1 b0 b1 c0 c1 : Int) : Int := ssH a0 a1 b0 b1 + c3H a0 a1 b0 b1 c0 c1
theorem alt_fx (a0 a1 b0 b1 c0 c1 : Int) : fxB (altS0 a0 a1 b0 b1 c0 c1) (altS1 a0 a1 b0 b1 c0 c1) = true := by
 have h1 := ss_in a0 a1 b0 b1
 have h2 := c3_in a0 a1 b0 b1 c0 c1
 unfold altS0 altS1
 rw [fxB_iff]
 omega
theorem alt_InR {lat dec lha : Int} (h0 : -5400000 ≤ lat) (h1 : lat ≤ 5400000) (g0 : -5400000 ≤ dec) (g1 : dec ≤ 5400000) :
  InR (altS0 lat lat dec dec lha lha) (altS1 lat lat dec dec lha lha) (zS lat * zS dec + zC lat * zC dec * zC (lha % 21600000)) (10 * t30) := by
 have a1 := sin_InR (Int.le_refl lat) (Int.le_refl lat) h0 (by omega)
 have a2 := sin_InR (Int.le_refl dec) (Int.le_refl dec) g0 (by omega)
 have b1 := cos_InR (Int.le_refl lat) (Int.le_refl lat) (by omega) (by omega)
 have b2 := cos_InR (Int.le_refl dec) (Int.le_refl dec) (by omega) (by omega)
 have b3 := cos_InRT lha
 have t0 : (0 : Rat) ≤ t30 ∧ t30 ≤ 1 / 1000000 ∧ t31 ≤ t30 ∧ 0 ≤ t31 := by unfold t30 t31; refine ⟨?_, ?_, ?_, ?_⟩ <;> grind
 obtain ⟨t1, t2, t3, t4⟩ := t0
 have m1 := a1.mul a2 (g := 3 * t30) enc_in enc_in (by grind) (by grind) (by grind) (by grind)
 have m2 := b1.mul b2 (g := 3 * t30) (cos_in2 _ _) (cos_in2 _ _) (by grind) (by grind) (by grind) (by grind)
 have m3 := m2.mul b3 (g := 7 * t30) (cc_in _ _ _ _) (cos_in2 _ _) (by grind) (by grind) (by grind) (by grind)
 exact (m1.add m3).mono (Int.le_refl _) (Int.le_refl _) (by grind)
end Go.Proofs.YtcbicpbbjbkiaaaGreatDoor
namespace Go.Proofs.YtcbicpbbjbkiaaaGreatDoor
open Go.RowKit

theorem sq_nn (x : Rat) : 0 ≤ x * x := by
 rcases (Rat.le_total : (0 : Rat) ≤ x ∨ x ≤ 0) with g | g
 ·exact rmul0 g g
 ·have := rmul0 (show 0 ≤ -x by grind) (show 0 ≤ -x by grind); grind
theorem alt_unit (lat dec : Int) {z : Rat} (z0 : -1 ≤ z) (z1 : z ≤ 1) : -1 ≤ zS lat * zS dec + zC lat * zC dec * z ∧ zS lat * zS dec + zC lat * zC dec * z ≤ 1 := by
 have u := Z_unit lat
 have v := Z_unit dec
 generalize zS lat = a at *
 generalize zC lat = b at *
 generalize zS dec = c at *
 generalize zC dec = d at *
 have s1 := sq_nn (a - c)
 have s2 := sq_nn (a + c)
 have s3 := sq_nn (b - d)
 have s4 := sq_nn (b + d)
 obtain ⟨p1, p2⟩ := rabs (x := z) (y := b * d) (m := 1) (f := (b * b + d * d) / 2) z0 z1 (by grind) (by grind)
 constructor <;> grind
theorem castlt {a b : Int} (h : (a : Rat) < (b : Rat)) : a < b := by exact_mod_cast h
theorem alt_some {lat dec lha : Int} (h0 : -5400000 ≤ lat) (h1 : lat ≤ 5400000) (g0 : -5400000 ≤ dec) (g1 : dec ≤ 5400000) :
  asE (altS0 lat lat dec dec lha lha) (altS1 lat lat dec dec lha lha) = 0 ∧ -5400000 ≤ asL (altS0 lat lat dec dec lha lha) (altS1 lat lat dec dec lha lha) ∧ asL (altS0 lat lat dec dec lha lha) (altS1 lat lat dec dec lha lha) ≤ asH (altS0 lat lat dec dec lha lha) (altS1 lat lat dec dec lha lha) ∧ asH (altS0 lat lat dec dec lha lha) (altS1 lat lat dec dec lha lha) ≤ 5400000 := by
 obtain ⟨-, z0, z1⟩ := Z_in (lha % 21600000)
 obtain ⟨X0, X1⟩ := alt_unit lat dec z0 z1
 obtain ⟨a, b⟩ := alt_InR (lha := lha) h0 h1 g0 g1
 have hf := alt_fx lat lat dec dec lha lha
 have hf' := fxB_iff.1 hf
 generalize altS0 lat lat dec dec lha lha = S0 at *
 generalize altS1 lat lat dec dec lha lha = S1 at *
 generalize zS lat * zS dec + zC lat * zC dec * zC (lha % 21600000) = X at *
 have t0 : 10 * t30 < 1 := by unfold t30; grind
 have c0 : (S0 : Rat) < ((1073741825 : Int) : Rat) := by push_cast; grind
 have c1 : ((-1073741825 : Int) : Rat) < (S1 : Rat) := by push_cast; grind
 have d0 : S0 < 1073741825 := castlt c0
 have d1 : -1073741825 < S1 := castlt c1
 have hE : asE S0 S1 = 0 := by rw [asE_at, hf, if_neg (by decide), mn_eq, mx_eq, if_neg (by omega)]
 refine ⟨hE, ?_⟩
 unfold asL asH
 rw [if_pos hE, if_pos hE]
 have i1 := asnI_in (v := mx S0 (-1073741824)) (by rw [mx_eq]; omega)
 have i2 := asnI_in (v := -(mn S1 1073741824)) (by rw [mn_eq]; omega)
 have hs := asn_sum (y := mx S0 (-1073741824)) (by rw [mx_eq]; omega) (by rw [mx_eq]; omega)
 have hm := asnI_mono (v := -(mn S1 1073741824)) (u := -(mx S0 (-1073741824))) (by rw [mn_eq]; omega) (by rw [mx_eq, mn_eq]; omega)
 omega
def eA : Rat := 1 / 25000000000000000000
theorem siA_near {k : Nat} (hk : k ≤ 5400000) : Nr ((siA k : Rat) / (m192 : Rat)) (zs k) eA ∧ Nr ((coA k : Rat) / (m192 : Rat)) (zc k) eA := by
 unfold siA coA
 by_cases h : 2700000 < k
 ·rw [if_pos h, if_pos h]
  obtain ⟨j, hj⟩ : ∃ j, 5400000 - k = j := ⟨_, rfl⟩
  rw [hj]
  have h1 := (cosA_near (r := j) (by omega)).trans (near_zs (r := j) (by omega)).2.symm
  have h2 := (sinA_near (r := j) (by omega)).trans (near_zs (r := j) (by omega)).1.symm
  obtain ⟨z1, z2⟩ := z_sub (a := 5400000) (b := j) (by omega)
  rw [show 5400000 - j = k by omega] at z1 z2
  obtain ⟨q1, q2, q3, q4⟩ := q_natz
  have u := z_unit j
  obtain ⟨b1, b2⟩ := sq_one u
  obtain ⟨b3, b4⟩ := sq_one (x := zc j) (y := zs j) (by grind)
  rw [z1, z2]
  generalize zs 5400000 = s at *
  generalize zc 5400000 = c at *
  generalize zs j = x at *
  generalize zc j = y at *
  obtain ⟨p1, p2⟩ := rabs (x := s - 1) (y := y) (m := e60) (f := 1) (by grind) (by unfold e60 at *; grind) b3 b4
  obtain ⟨p3, p4⟩ := rabs (x := c) (y := x) (m := e60) (f := 1) (by grind) (by grind) b1 b2
  obtain ⟨p5, p6⟩ := rabs (x := s - 1) (y := x) (m := e60) (f := 1) (by grind) (by unfold e60 at *; grind) b1 b2
  obtain ⟨p7, p8⟩ := rabs (x := c) (y := y) (m := e60) (f := 1) (by grind) (by grind) b3 b4
  obtain ⟨n1, n2⟩ := h1
  obtain ⟨n3, n4⟩ := h2
  unfold e60 sml eA at *
  constructor
  ·constructor <;> grind
  ·constructor <;> grind
 ·rw [if_neg h, if_neg h]
  have h1 := (sinA_near (r := k) (by omega)).trans (near_zs (r := k) (by omega)).1.symm
  have h2 := (cosA_near (r := k) (by omega)).trans (near_zs (r := k) (by omega)).2.symm
  exact ⟨h1.le (by unfold sml eA; grind), h2.le (by unfold sml eA; grind)⟩
def rchB (u v : Int) (k : Nat) : Bool := if k = 0 then true else if k = 2700000 then decide (u ≤ v) else decide (siA k * u ≤ coA k * v)
end Go.Proofs.YtcbicpbbjbkiaaaGreatDoor
namespace Go.Proofs.YtcbicpbbjbkiaaaGreatDoor
open Go.RowKit

theorem b_at (m : Nat) (n q x y x' y' : Int) (hm : n = (m : Int)) (hq : q = n + 5400000) (h0 : 0 < m) (h1 : m < 2700000) (h2 : m ≠ 1800000) (h : ((octS m : Nat) : Int) = x ∧ ((octC m : Nat) : Int) = y) (hx : x + 1 = x') (hy : y + 1 = y') : bLo n = x ∧ bHi n = x' ∧ bLo q = y ∧ bHi q = y' := by
 have e1 := b_one (n := n) (by omega) (by omega)
 have e2 := b_two (n := q) (by omega) (by omega)
 have t1 : n.toNat = m := by omega
 have t2 : (10800000 - q).toNat = 5400000 - m := by omega
 rw [t1] at e1
 rw [t2] at e2
 have s1 := sinQ_s (n := m) (by omega) h2 (by omega)
 have s2 := sinQ_c (n := 5400000 - m) (by omega) (by omega)
 rw [show 5400000 - (5400000 - m) = m by omega] at s2
 have o1 := oneQ_at m
 rw [if_neg (by omega)] at o1
 have o2 := oneQ_at (5400000 - m)
 rw [if_neg (by omega)] at o2
 unfold hiQ at e1 e2
 rw [s1, h.1, o1, hx] at e1
 rw [s2, h.2, o2, hy] at e2
 exact ⟨e1.1, e1.2, e2.1, e2.2⟩
theorem oct_is {r x y : Nat} {a b : Int} (h : RotN r x y) (ha : ((x / 73786976294838206464 : Nat) : Int) = a) (hb : ((y / 73786976294838206464 : Nat) : Int) = b) : ((octS r : Nat) : Int) = a ∧ ((octC r : Nat) : Int) = b := by
 have := oct_of h
 rw [this.1, this.2]
 exact ⟨ha, hb⟩
theorem b_1 : bHi 1 = 313 :=
 (b_at 1 1 5400001 312 1073741823 313 1073741824 rfl rfl (by decide) (by decide) (by decide) (oct_is rot_1 (by decide +kernel) (by decide +kernel)) rfl rfl).2.1
theorem zS_min {m : Int} (h0 : 1 ≤ m) (h1 : m ≤ 5400000) : 312 ≤ 1073741824 * zS m := by
 have hd := (cell_all (n := m) (by omega) (by omega)).dn
 have hm := (b_up (a := 1) (b := m) (by decide) h0 h1).2
 rw [b_1] at hm
 have := castle hm
 unfold g24 at hd
 push_cast at this
 grind
end Go.Proofs.YtcbicpbbjbkiaaaGreatDoor
namespace Go.Proofs.YtcbicpbbjbkiaaaGreatDoor
set_option maxRecDepth 100000
open Go.RowKit

theorem i64_and60 (n : Int) : bits .and .i64 n 1152921504606846975 = n % 1152921504606846976 := by
 have h127 : (BitVec.ofInt 64 1152921504606846975).toNat = 2 ^ 60 - 1 := by decide
 have key : (BitVec.ofInt 64 n &&& BitVec.ofInt 64 1152921504606846975).toNat = (n % ((2 ^ 64 : Nat) : Int)).toNat % 2 ^ 60 := by
  rw [BitVec.toNat_and, BitVec.toNat_ofInt, h127, Nat.and_two_pow_sub_one_eq_mod]
 show IntKind.i64.wrap ((BitVec.ofInt 64 n &&& BitVec.ofInt 64 1152921504606846975).toNat : Nat) = n % 1152921504606846976
 rw [key, IntKind.wrap_i64]
 omega
theorem u64_and60 (m : Nat) (h : m < 1152921504606846976) : bits .and .u64 (m : Int) 1152921504606846975 = (m : Int) := by
 have := bits_and_u64_nat m 1152921504606846975 (by omega) (by decide)
 have e : m &&& 1152921504606846975 = m := by
  have := Nat.and_two_pow_sub_one_eq_mod m 60
  rw [show (2 ^ 60 - 1 : Nat) = 1152921504606846975 by decide, show (2 ^ 60 : Nat) = 1152921504606846976 by decide] at this
  omega
 rw [e] at this
 exact this
theorem u64_or0 (m : Nat) (h : m < 18446744073709551616) : bits .or .u64 0 (m : Int) = (m : Int) := by
 have := bits_or_u64_nat 0 m (by decide) h
 rw [Nat.zero_or] at this
 exact this
theorem wd_abs2 (n : Int) (w : World) (h1 : -4611686018427387904 ≤ n) (h2 : n ≤ 4611686018427387904) :
  Calls Tryz.prog 340 #[.int .i64 n] w fun e w' => e = .returned (.int .u64 (n.natAbs : Int)) ∧ w' = w := by
 by_cases hn : n < 0
 ·have k1 : IntKind.u64.wrap n = n + 18446744073709551616 := by rw [IntKind.wrap_u64]; omega
  obtain ⟨X, hX⟩ : ∃ X, n + 18446744073709551616 = X := ⟨_, rfl⟩
  obtain ⟨Y, hY⟩ : ∃ Y : Int, ((n.natAbs : Nat) : Int) = Y := ⟨_, rfl⟩
  have k2 : IntKind.u64.wrap (-X) = Y := by rw [IntKind.wrap_u64]; omega
  have k3 : IntKind.u64.wrap X = X := IntWalk.u64_in _ (by omega)
  rw [hX] at k1
  rw [hY]
  clear hX hY
  go_enter Tryz.func340, Tryz.ntmps340
  go_wp2_with fail
  go_ret
  exact ⟨rfl, rfl⟩
 ·have k1 : IntKind.u64.wrap n = n := IntWalk.u64_in _ (by omega)
  rw [show ((n.natAbs : Nat) : Int) = n by omega]
  go_enter Tryz.func340, Tryz.ntmps340
  go_wp2_with fail
  go_ret
  exact ⟨rfl, rfl⟩
theorem wd_Valid2 (hi lo : Int) (h1 : hi = 0 ∨ hi = -1) (h2 : 0 ≤ lo) (h3 : lo < 1152921504606846976) (w : World) :
  Calls Tryz.prog 349 #[(.agg #[.int .i64 (hi), .int .i64 (lo)])] w fun e w' => e = .returned (.bool true) ∧ ∃ d, w' = bw w d := by
 rcases h1 with rfl | rfl
 all_goals
  refine lay_start ?_
  go_enter Tryz.func349, Tryz.ntmps349
  go_wp2_with fail
  go_ret
  exact ⟨rfl, lay_ex _ _⟩
theorem wd_fit2 (lo : Int) (h1 : -1152921504606846976 < lo) (h2 : lo < 1152921504606846976) (w : World) :
  Calls Tryz.prog 348 #[.int .i64 0, .int .i64 lo] w fun e w' => e = .returned (.tuple #[(.agg #[.int .i64 (lo / 1152921504606846976), .int .i64 (lo % 1152921504606846976)]), .int .i64 0]) ∧ ∃ d, w' = bw w d := by
 have kb := i64_and60 lo
 obtain ⟨q, hq⟩ : ∃ q, lo / 1152921504606846976 = q := ⟨_, rfl⟩
 obtain ⟨r, hr⟩ : ∃ r, lo % 1152921504606846976 = r := ⟨_, rfl⟩
 have HV := Lib.hid (fun W => wd_Valid2 q r (by omega) (by omega) (by omega) W)
 have kq : IntKind.i64.wrap q = q := IntWalk.i64_in _ (by omega)
 rw [hr] at kb
 rw [hq, hr]
 refine lay_start ?_
 go_enter Tryz.func348, Tryz.ntmps348
 go_wp2_with (go_at_call 349; refine (HV.out _).mono ?_; rintro e w' ⟨rfl, d, rfl⟩)
 exact bodyPost_ret (v := .tuple #[(.agg #[.int .i64 (q), .int .i64 (r)]), .int .i64 0]) (by simp [results, Tryz.results348, go_sem]) rfl ⟨rfl, lay_ex _ _⟩
set_option maxHeartbeats 1000000 in
theorem wd_wide2 (m : Nat) (h : m < 1152921504606846976) (ng : Bool) (p : Int) (hp : p = if ng then -(m : Int) else (m : Int)) (w : World) :
  Calls Tryz.prog 341 #[.agg #[.int .u64 0, .int .u64 (m : Int), .bool ng]] w fun e w' => e = .returned (.tuple #[(.agg #[.int .i64 (p / 1152921504606846976), .int .i64 (p % 1152921504606846976)]), .int .i64 0]) ∧ ∃ d, w' = bw w d := by
 have kb := u64_and60 m h
 have kb2 : bits .or .u64 0 0 = 0 := by decide
 have kd : (m : Int) / 1152921504606846976 = 0 := by omega
 have km : IntKind.i64.wrap (m : Int) = (m : Int) := IntWalk.i64_in _ (by omega)
 have kn : IntKind.i64.wrap (-(m : Int)) = -(m : Int) := IntWalk.i64_in _ (by omega)
 cases ng
 ·rw [if_neg (by decide)] at hp
  subst hp
  have HF := Lib.hid (fun W => wd_fit2 (m : Int) (by omega) (by omega) W)
  generalize (m : Int) % 1152921504606846976 = r at *
  rw [kd] at HF ⊢
  refine lay_start ?_
  go_enter Tryz.func341, Tryz.ntmps341
  go_wp2_with fail
  refine region_bw (by kernel_rfl) (by kernel_rfl) ?_
  repeat (go_big_quiet_step ((first | fail)))
  refine wpQuiet_nil ?_
  rintro w' ⟨d, rfl⟩
  rw [lay_bw]
  go_wp2_with (go_at_call 348; refine (HF.out _).mono ?_; rintro e w' ⟨rfl, d, rfl⟩)
  exact bodyPost_ret (v := .tuple #[(.agg #[.int .i64 (0), .int .i64 (r)]), .int .i64 0]) (by simp [results, Tryz.results341, go_sem]) rfl ⟨rfl, lay_ex _ _⟩
 ·rw [if_pos rfl] at hp
  have HF := Lib.hid (fun W => wd_fit2 p (by omega) (by omega) W)
  obtain ⟨q, hq⟩ : ∃ q, p / 1152921504606846976 = q := ⟨_, rfl⟩
  obtain ⟨r, hr⟩ : ∃ r, p % 1152921504606846976 = r := ⟨_, rfl⟩
  rw [hq, hr] at HF ⊢
  rw [← hp] at kn
  clear hq hr
  have hp2 : -(m : Int) = p := hp.symm
  clear hp
  refine lay_start ?_
  go_enter Tryz.func341, Tryz.ntmps341
  go_wp2_with fail
  refine region_bw (by kernel_rfl) (by kernel_rfl) ?_
  repeat (go_big_quiet_step ((first | fail)))
  refine wpQuiet_nil ?_
  rintro w' ⟨d, rfl⟩
  rw [lay_bw]
  go_wp2_with fail
  go_wp2_with (go_at_call 348; refine (HF.out _).mono ?_; rintro e w' ⟨rfl, d, rfl⟩)
  exact bodyPost_ret (v := .tuple #[(.agg #[.int .i64 (q), .int .i64 (r)]), .int .i64 0]) (by simp [results, Tryz.results341, go_sem]) rfl ⟨rfl, lay_ex _ _⟩
set_option maxHeartbeats 2000000
set_option maxRecDepth 100000
open Go.RowKit

theorem prod_abs (a b : Int) : (a * b).natAbs = a.natAbs * b.natAbs := Int.natAbs_mul a b
theorem prod_sgn {a b : Int} : ((decide (a < 0) != decide (b < 0)) && decide (a ≠ 0) && decide (b ≠ 0)) = decide (a * b < 0) := by
 by_cases ha : a < 0
 ·by_cases hb : b < 0
  ·have := Int.mul_pos_of_neg_of_neg ha hb
   simp [ha, hb]; omega
  ·by_cases hb0 : b = 0
   ·subst hb0; simp
   ·have := Int.mul_neg_of_neg_of_pos ha (show 0 < b by omega)
    simp [ha, hb, hb0, this]; omega
 ·by_cases ha0 : a = 0
  ·subst ha0; simp
  ·by_cases hb : b < 0
   ·have := Int.mul_neg_of_pos_of_neg (show 0 < a by omega) hb
    simp [ha, hb, ha0, this]; omega
   ·have := Int.mul_nonneg (show 0 ≤ a by omega) (show 0 ≤ b by omega)
    simp [ha, hb]; omega
theorem wd_Product2 (a b p : Int) (hp : a * b = p) (ha : -4611686018427387904 ≤ a ∧ a ≤ 4611686018427387904) (hb : -4611686018427387904 ≤ b ∧ b ≤ 4611686018427387904) (h1 : -1152921504606846976 < p) (h2 : p < 1152921504606846976) (w : World) :
  Calls Tryz.prog 317 #[.int .i64 a, .int .i64 b] w fun e w' => e = .returned (.tuple #[(.agg #[.int .i64 (p / 1152921504606846976), .int .i64 (p % 1152921504606846976)]), .int .i64 0]) ∧ ∃ d, w' = bw w d := by
 have HA := Lib.hid (fun W => wd_abs2 a W ha.1 ha.2)
 have HB := Lib.hid (fun W => wd_abs2 b W hb.1 hb.2)
 obtain ⟨x, hx⟩ : ∃ x, a.natAbs = x := ⟨_, rfl⟩
 obtain ⟨y, hy⟩ : ∃ y, b.natAbs = y := ⟨_, rfl⟩
 have hm : x * y = p.natAbs := by rw [← hp, prod_abs, hx, hy]
 have hs := prod_sgn (a := a) (b := b)
 rw [hp] at hs
 obtain ⟨m, hm2⟩ : ∃ m, p.natAbs = m := ⟨_, rfl⟩
 rw [hm2] at hm
 have hmb : m < 1152921504606846976 := by omega
 have HM : Hid (∀ W, Calls Tryz.prog 296 #[.int .u64 (x : Int), .int .u64 (y : Int)] W fun e w' => e = .returned (.tuple #[.int .u64 0, .int .u64 (m : Int)]) ∧ w' = W) := Lib.hid fun W => by
  have := Tryz.bits_Mul64 x y (by omega) (by omega) W
  rw [hm] at this
  rw [show m / 18446744073709551616 = 0 by omega, show m % 18446744073709551616 = m by omega] at this
  exact this
 rw [hx] at HA
 rw [hy] at HB
 have HW := Lib.hid (fun W => wd_wide2 m hmb (decide (p < 0)) p (by by_cases hn : p < 0 <;> simp [hn] <;> omega) W)
 generalize p / 1152921504606846976 = q at *
 generalize p % 1152921504606846976 = r at *
 have e1 : (a != 0) = decide (a ≠ 0) := by by_cases h : a = 0 <;> simp [h]
 have e2 : (b != 0) = decide (b ≠ 0) := by by_cases h : b = 0 <;> simp [h]
 rw [← e1, ← e2] at hs
 clear hx hy hm hm2 hmb hp h1 h2 ha hb e1 e2
 obtain ⟨A0, hA0⟩ : ∃ x, decide (a < 0) = x := ⟨_, rfl⟩
 obtain ⟨B0, hB0⟩ : ∃ x, decide (b < 0) = x := ⟨_, rfl⟩
 obtain ⟨A1, hA1⟩ : ∃ x, (a != 0) = x := ⟨_, rfl⟩
 obtain ⟨B1, hB1⟩ : ∃ x, (b != 0) = x := ⟨_, rfl⟩
 rw [hA0, hB0, hA1, hB1] at hs
 obtain ⟨N, hN⟩ : ∃ x, decide (p < 0) = x := ⟨_, rfl⟩
 rw [hN] at hs HW
 clear hN
 cases A0 <;> cases B0 <;> cases A1 <;> cases B1
 all_goals
  first
   | (obtain rfl : N = true := hs.symm.trans rfl)
   | (obtain rfl : N = false := hs.symm.trans rfl)
  clear hs
  refine lay_start ?_
  go_enter Tryz.func317, Tryz.ntmps317
  go_wp2_with (first | (go_at_call 340; first | (with_reducible refine (HA.out _).mono ?_; rintro e w' ⟨rfl, hw⟩; rw [hw]; clear hw) | (with_reducible refine (HB.out _).mono ?_; rintro e w' ⟨rfl, hw⟩; rw [hw]; clear hw)) | (go_at_call 296; refine (HM.out _).mono ?_; rintro e w' ⟨rfl, hw⟩; rw [hw]; clear hw) | (go_at_call 341; refine (HW.out _).mono ?_; rintro e w' ⟨rfl, d, rfl⟩))
  exact bodyPost_ret (v := .tuple #[(.agg #[.int .i64 (q), .int .i64 (r)]), .int .i64 0]) (by simp [results, Tryz.results317, go_sem]) rfl ⟨rfl, lay_ex _ _⟩
theorem wd_sizeOf2 (p : Int) (h1 : -1152921504606846976 < p) (h2 : p < 1152921504606846976) (w : World) :
  Calls Tryz.prog 350 #[(.agg #[.int .i64 (p / 1152921504606846976), .int .i64 (p % 1152921504606846976)])] w fun e w' => e = .returned (.agg #[.int .u64 0, .int .u64 (p.natAbs : Int), .bool (decide (p < 0))]) ∧ ∃ d, w' = bw w d := by
 obtain ⟨m, hm⟩ : ∃ m, p.natAbs = m := ⟨_, rfl⟩
 have kb2 := u64_or0 m (by omega)
 have km : IntKind.u64.wrap (m : Int) = (m : Int) := IntWalk.u64_in _ (by omega)
 rw [hm]
 by_cases hn : p < 0
 ·rw [decide_eq_true hn, show p / 1152921504606846976 = -1 by omega]
  obtain ⟨r, hr⟩ : ∃ r, p % 1152921504606846976 = r := ⟨_, rfl⟩
  rw [hr]
  have kr : IntKind.i64.wrap (-r) = -r := IntWalk.i64_in _ (by omega)
  have kd : -r / 1152921504606846976 = -1 := by omega
  have ka := i64_and60 (-r)
  rw [show -r % 1152921504606846976 = (m : Int) by omega] at ka
  obtain ⟨R, hR⟩ : ∃ R, -r = R := ⟨_, rfl⟩
  rw [hR] at kr kd ka
  clear hr hm hn h1 h2
  refine lay_start ?_
  go_enter Tryz.func350, Tryz.ntmps350
  go_wp2_with fail
  refine region_bw (by kernel_rfl) (by kernel_rfl) ?_
  repeat (go_big_quiet_step ((first | fail)))
  refine wpQuiet_nil ?_
  rintro w' ⟨d, rfl⟩
  rw [lay_bw]
  go_wp2_with fail
  exact bodyPost_ret (v := .agg #[.int .u64 0, .int .u64 (m : Int), .bool true]) (by simp [results, Tryz.results350, go_sem]) rfl ⟨rfl, lay_ex _ _⟩
 ·rw [decide_eq_false hn, show p / 1152921504606846976 = 0 by omega, show p % 1152921504606846976 = (m : Int) by omega]
  clear hm hn h1 h2
  refine lay_start ?_
  go_enter Tryz.func350, Tryz.ntmps350
  go_wp2_with fail
  refine region_bw (by kernel_rfl) (by kernel_rfl) ?_
  repeat (go_big_quiet_step ((first | fail)))
  refine wpQuiet_nil ?_
  rintro w' ⟨d, rfl⟩
  rw [lay_bw]
  go_wp2_with fail
  exact bodyPost_ret (v := .agg #[.int .u64 0, .int .u64 (m : Int), .bool false]) (by simp [results, Tryz.results350, go_sem]) rfl ⟨rfl, lay_ex _ _⟩
def wdQ (p b : Int) (up : Bool) : Int := if up then -((-p) / b) else p / b
theorem wdQ_neg {p b : Int} {m d q r : Nat} (hp : p < 0) (hm : p.natAbs = m) (hd : b.natAbs = d) (hb : 0 < b) (hq : m / d = q) (hr : m % d = r) : wdQ p b true = -(q : Int) ∧ wdQ p b false = if 0 < r then -((q + 1 : Nat) : Int) else -(q : Int) := by
 have e1 : -p = (m : Int) := by omega
 have e2 : b = (d : Int) := by omega
 have h1 := Nat.div_add_mod m d
 have h2 := Nat.mod_lt m (show 0 < d by omega)
 rw [hq, hr] at h1
 rw [hr] at h2
 have e3 : (m : Int) / (d : Int) = (q : Int) := by rw [← hq]; exact (Int.natCast_ediv m d).symm
 unfold wdQ
 rw [if_pos rfl, if_neg (by decide), e1, e2, e3]
 refine ⟨rfl, ?_⟩
 have e4 : p = -((m : Nat) : Int) := by omega
 have h3 : (m : Int) = (d : Int) * (q : Int) + (r : Int) := by exact_mod_cast h1.symm
 split
 ·rw [e4, h3]
  rw [show -((d : Int) * (q : Int) + (r : Int)) = ((d : Int) - (r : Int)) + (d : Int) * (-((q : Int) + 1)) by rw [Int.mul_neg, Int.mul_add]; omega]
  rw [Int.add_mul_ediv_left _ _ (by omega), Int.ediv_eq_zero_of_lt (by omega) (by omega)]
  omega
 ·have : r = 0 := by omega
  subst this
  rw [e4, h3]
  rw [show -((d : Int) * (q : Int) + ((0 : Nat) : Int)) = (d : Int) * (-(q : Int)) by rw [Int.mul_neg]; omega]
  rw [Int.mul_ediv_cancel_left _ (by omega)]
theorem wdQ_pos {p b : Int} {m d q r : Nat} (hp : ¬ p < 0) (hm : p.natAbs = m) (hd : b.natAbs = d) (hb : 0 < b) (hq : m / d = q) (hr : m % d = r) : wdQ p b false = (q : Int) ∧ wdQ p b true = if 0 < r then ((q + 1 : Nat) : Int) else (q : Int) := by
 have e1 : p = (m : Int) := by omega
 have e2 : b = (d : Int) := by omega
 have h1 := Nat.div_add_mod m d
 have h2 := Nat.mod_lt m (show 0 < d by omega)
 rw [hq, hr] at h1
 rw [hr] at h2
 have e3 : (m : Int) / (d : Int) = (q : Int) := by rw [← hq]; exact (Int.natCast_ediv m d).symm
 have h3 : (m : Int) = (d : Int) * (q : Int) + (r : Int) := by exact_mod_cast h1.symm
 unfold wdQ
 rw [if_pos rfl, if_neg (by decide), e1, e2, e3]
 refine ⟨rfl, ?_⟩
 split
 ·rw [h3]
  rw [show -((d : Int) * (q : Int) + (r : Int)) = ((d : Int) - (r : Int)) + (d : Int) * (-((q : Int) + 1)) by rw [Int.mul_neg, Int.mul_add]; omega]
  rw [Int.add_mul_ediv_left _ _ (by omega), Int.ediv_eq_zero_of_lt (by omega) (by omega)]
  omega
 ·have : r = 0 := by omega
  subst this
  rw [h3]
  rw [show -((d : Int) * (q : Int) + ((0 : Nat) : Int)) = (d : Int) * (-(q : Int)) by rw [Int.mul_neg]; omega]
  rw [Int.mul_ediv_cancel_left _ (by omega)]
  omega
theorem neg_wrap {n : Int} (h0 : 0 ≤ n) (h : n ≤ 9223372036854775808) : IntKind.i64.wrap (IntKind.u64.wrap (-n)) = -n := by
 rw [IntKind.wrap_u64, IntKind.wrap_i64]
 omega
theorem wd_quotient2 (p b : Int) (up : Bool) (h1 : -1152921504606846976 < p) (h2 : p < 1152921504606846976) (hb : 0 < b) (hb2 : b ≤ 4611686018427387904) (w : World) :
  Calls Tryz.prog 342 #[(.agg #[.int .i64 (p / 1152921504606846976), .int .i64 (p % 1152921504606846976)]), .int .i64 b, .bool up] w fun e w' => e = .returned (.tuple #[.int .i64 (wdQ p b up), .int .i64 0]) ∧ ∃ d, w' = bw w d := by
 have HV := Lib.hid (fun W => wd_Valid2 (p / 1152921504606846976) (p % 1152921504606846976) (by omega) (by omega) (by omega) W)
 have HS := Lib.hid (fun W => wd_sizeOf2 p h1 h2 W)
 have HA := Lib.hid (fun W => wd_abs2 b W (by omega) (by omega))
 obtain ⟨m, hm⟩ : ∃ m, p.natAbs = m := ⟨_, rfl⟩
 obtain ⟨d, hd⟩ : ∃ d, b.natAbs = d := ⟨_, rfl⟩
 have hd0 : 0 < d := by omega
 have hdb : d ≤ 4611686018427387904 := by omega
 have hmb : m < 1152921504606846976 := by omega
 obtain ⟨q, hq⟩ : ∃ q, m / d = q := ⟨_, rfl⟩
 obtain ⟨r, hr⟩ : ∃ r, m % d = r := ⟨_, rfl⟩
 have hqm : q ≤ m := by rw [← hq]; exact Nat.div_le_self _ _
 have HD : Hid (∀ W, Calls Tryz.prog 307 #[.int .u64 0, .int .u64 (m : Int), .int .u64 (d : Int)] W fun e w' => e = .returned (.tuple #[.int .u64 (q : Int), .int .u64 (r : Int)]) ∧ ∃ d, w' = bw W d) := Lib.hid fun W => by
  have := div64' 0 m d q r (by rw [← hq]; simp) (by rw [← hr]; simp) hd0 (by omega) (by omega) W
  exact this
 rw [hm] at HS
 rw [hd] at HA
 have kb : (b == 0) = false := beq_eq_false_iff_ne.2 (by omega)
 have kb0 : ¬ b < 0 := by omega
 have kb1 : decide (b < 0) = false := decide_eq_false kb0
 have kd : ¬ (0 : Int) ≥ (d : Int) := by omega
 have kd' : ¬ (d : Int) ≤ 0 := by omega
 obtain ⟨Q, hQ0⟩ : ∃ Q : Int, (q : Int) = Q := ⟨_, rfl⟩
 have hQb : 0 ≤ Q ∧ Q < 1152921504606846976 := by omega
 rw [hQ0] at HD
 obtain ⟨q1, hq1⟩ : ∃ q1 : Int, Q + 1 = q1 := ⟨_, rfl⟩
 obtain ⟨nq, hnq⟩ : ∃ nq : Int, -Q = nq := ⟨_, rfl⟩
 obtain ⟨nq1, hnq1⟩ : ∃ nq1 : Int, -q1 = nq1 := ⟨_, rfl⟩
 have kq : IntKind.i64.wrap Q = Q := IntWalk.i64_in _ (by omega)
 have ku : IntKind.u64.wrap q1 = q1 := IntWalk.u64_in _ (by omega)
 have ku2 : IntKind.i64.wrap q1 = q1 := IntWalk.i64_in _ (by omega)
 have ku3 : (q1 == 0) = false := beq_eq_false_iff_ne.2 (by omega)
 have kl1 : Q ≤ 9223372036854775808 := by omega
 have kl2 : q1 ≤ 9223372036854775808 := by omega
 have kl3 : Q < 9223372036854775808 := by omega
 have kl4 : q1 < 9223372036854775808 := by omega
 have kn1 : IntKind.i64.wrap (IntKind.u64.wrap nq) = nq := by rw [← hnq]; exact neg_wrap (by omega) (by omega)
 have kn2 : IntKind.i64.wrap (IntKind.u64.wrap nq1) = nq1 := by rw [← hnq1]; exact neg_wrap (by omega) (by omega)
 by_cases hn : p < 0
 ·have hQ := wdQ_neg hn hm hd hb hq hr
  rw [decide_eq_true hn] at HS
  generalize p / 1152921504606846976 = P at *
  generalize p % 1152921504606846976 = R at *
  cases up
  ·rw [hQ.2]
   by_cases hr0 : 0 < r
   ·rw [if_pos hr0]
    have hr1 : (0 : Int) < (r : Int) := by omega
    rw [show -((q + 1 : Nat) : Int) = nq1 by omega]
    clear hQ hQ0 hQb hq hr hm hd hd0 hdb hmb hqm hr0 hn h1 h2 hb hb2
    refine lay_start ?_
    go_enter Tryz.func342, Tryz.ntmps342
    go_wp2_with (first | (go_at_call 349; refine (HV.out _).mono ?_; rintro e w' ⟨rfl, d, rfl⟩) | (go_at_call 350; refine (HS.out _).mono ?_; rintro e w' ⟨rfl, d, rfl⟩) | (go_at_call 340; refine (HA.out _).mono ?_; rintro e w' ⟨rfl, rfl⟩) | (go_at_call 307; refine (HD.out _).mono ?_; rintro e w' ⟨rfl, d, rfl⟩))
    exact bodyPost_ret (v := .tuple #[.int .i64 (nq1), .int .i64 0]) (by simp [results, Tryz.results342, go_sem]) rfl ⟨rfl, lay_ex _ _⟩
   ·rw [if_neg hr0]
    have hr1 : ¬ (0 : Int) < (r : Int) := by omega
    first | rw [hQ0, hnq] | skip
    clear hQ hQ0 hQb hq hr hm hd hd0 hdb hmb hqm hr0 hn h1 h2 hb hb2
    refine lay_start ?_
    go_enter Tryz.func342, Tryz.ntmps342
    go_wp2_with (first | (go_at_call 349; refine (HV.out _).mono ?_; rintro e w' ⟨rfl, d, rfl⟩) | (go_at_call 350; refine (HS.out _).mono ?_; rintro e w' ⟨rfl, d, rfl⟩) | (go_at_call 340; refine (HA.out _).mono ?_; rintro e w' ⟨rfl, rfl⟩) | (go_at_call 307; refine (HD.out _).mono ?_; rintro e w' ⟨rfl, d, rfl⟩))
    exact bodyPost_ret (v := .tuple #[.int .i64 (nq), .int .i64 0]) (by simp [results, Tryz.results342, go_sem]) rfl ⟨rfl, lay_ex _ _⟩
  ·rw [hQ.1]
   by_cases hr0 : 0 < r
   ·have hr1 : (0 : Int) < (r : Int) := by omega
    first | rw [hQ0, hnq] | skip
    clear hQ hQ0 hQb hq hr hm hd hd0 hdb hmb hqm hr0 hn h1 h2 hb hb2
    refine lay_start ?_
    go_enter Tryz.func342, Tryz.ntmps342
    go_wp2_with (first | (go_at_call 349; refine (HV.out _).mono ?_; rintro e w' ⟨rfl, d, rfl⟩) | (go_at_call 350; refine (HS.out _).mono ?_; rintro e w' ⟨rfl, d, rfl⟩) | (go_at_call 340; refine (HA.out _).mono ?_; rintro e w' ⟨rfl, rfl⟩) | (go_at_call 307; refine (HD.out _).mono ?_; rintro e w' ⟨rfl, d, rfl⟩))
    exact bodyPost_ret (v := .tuple #[.int .i64 (nq), .int .i64 0]) (by simp [results, Tryz.results342, go_sem]) rfl ⟨rfl, lay_ex _ _⟩
   ·have hr1 : ¬ (0 : Int) < (r : Int) := by omega
    first | rw [hQ0, hnq] | skip
    clear hQ hQ0 hQb hq hr hm hd hd0 hdb hmb hqm hr0 hn h1 h2 hb hb2
    refine lay_start ?_
    go_enter Tryz.func342, Tryz.ntmps342
    go_wp2_with (first | (go_at_call 349; refine (HV.out _).mono ?_; rintro e w' ⟨rfl, d, rfl⟩) | (go_at_call 350; refine (HS.out _).mono ?_; rintro e w' ⟨rfl, d, rfl⟩) | (go_at_call 340; refine (HA.out _).mono ?_; rintro e w' ⟨rfl, rfl⟩) | (go_at_call 307; refine (HD.out _).mono ?_; rintro e w' ⟨rfl, d, rfl⟩))
    exact bodyPost_ret (v := .tuple #[.int .i64 (nq), .int .i64 0]) (by simp [results, Tryz.results342, go_sem]) rfl ⟨rfl, lay_ex _ _⟩
 ·have hQ := wdQ_pos hn hm hd hb hq hr
  rw [decide_eq_false hn] at HS
  generalize p / 1152921504606846976 = P at *
  generalize p % 1152921504606846976 = R at *
  cases up
  ·rw [hQ.1]
   by_cases hr0 : 0 < r
   ·have hr1 : (0 : Int) < (r : Int) := by omega
    rw [hQ0]
    clear hQ hQ0 hQb hq hr hm hd hd0 hdb hmb hqm hr0 hn h1 h2 hb hb2
    refine lay_start ?_
    go_enter Tryz.func342, Tryz.ntmps342
    go_wp2_with (first | (go_at_call 349; refine (HV.out _).mono ?_; rintro e w' ⟨rfl, d, rfl⟩) | (go_at_call 350; refine (HS.out _).mono ?_; rintro e w' ⟨rfl, d, rfl⟩) | (go_at_call 340; refine (HA.out _).mono ?_; rintro e w' ⟨rfl, rfl⟩) | (go_at_call 307; refine (HD.out _).mono ?_; rintro e w' ⟨rfl, d, rfl⟩))
    exact bodyPost_ret (v := .tuple #[.int .i64 (Q), .int .i64 0]) (by simp [results, Tryz.results342, go_sem]) rfl ⟨rfl, lay_ex _ _⟩
   ·have hr1 : ¬ (0 : Int) < (r : Int) := by omega
    rw [hQ0]
    clear hQ hQ0 hQb hq hr hm hd hd0 hdb hmb hqm hr0 hn h1 h2 hb hb2
    refine lay_start ?_
    go_enter Tryz.func342, Tryz.ntmps342
    go_wp2_with (first | (go_at_call 349; refine (HV.out _).mono ?_; rintro e w' ⟨rfl, d, rfl⟩) | (go_at_call 350; refine (HS.out _).mono ?_; rintro e w' ⟨rfl, d, rfl⟩) | (go_at_call 340; refine (HA.out _).mono ?_; rintro e w' ⟨rfl, rfl⟩) | (go_at_call 307; refine (HD.out _).mono ?_; rintro e w' ⟨rfl, d, rfl⟩))
    exact bodyPost_ret (v := .tuple #[.int .i64 (Q), .int .i64 0]) (by simp [results, Tryz.results342, go_sem]) rfl ⟨rfl, lay_ex _ _⟩
  ·rw [hQ.2]
   by_cases hr0 : 0 < r
   ·rw [if_pos hr0]
    have hr1 : (0 : Int) < (r : Int) := by omega
    rw [show ((q + 1 : Nat) : Int) = q1 by omega]
    clear hQ hQ0 hQb hq hr hm hd hd0 hdb hmb hqm hr0 hn h1 h2 hb hb2
    refine lay_start ?_
    go_enter Tryz.func342, Tryz.ntmps342
    go_wp2_with (first | (go_at_call 349; refine (HV.out _).mono ?_; rintro e w' ⟨rfl, d, rfl⟩) | (go_at_call 350; refine (HS.out _).mono ?_; rintro e w' ⟨rfl, d, rfl⟩) | (go_at_call 340; refine (HA.out _).mono ?_; rintro e w' ⟨rfl, rfl⟩) | (go_at_call 307; refine (HD.out _).mono ?_; rintro e w' ⟨rfl, d, rfl⟩))
    exact bodyPost_ret (v := .tuple #[.int .i64 (q1), .int .i64 0]) (by simp [results, Tryz.results342, go_sem]) rfl ⟨rfl, lay_ex _ _⟩
   ·rw [if_neg hr0]
    have hr1 : ¬ (0 : Int) < (r : Int) := by omega
    rw [hQ0]
    clear hQ hQ0 hQb hq hr hm hd hd0 hdb hmb hqm hr0 hn h1 h2 hb hb2
    refine lay_start ?_
    go_enter Tryz.func342, Tryz.ntmps342
    go_wp2_with (first | (go_at_call 349; refine (HV.out _).mono ?_; rintro e w' ⟨rfl, d, rfl⟩) | (go_at_call 350; refine (HS.out _).mono ?_; rintro e w' ⟨rfl, d, rfl⟩) | (go_at_call 340; refine (HA.out _).mono ?_; rintro e w' ⟨rfl, rfl⟩) | (go_at_call 307; refine (HD.out _).mono ?_; rintro e w' ⟨rfl, d, rfl⟩))
    exact bodyPost_ret (v := .tuple #[.int .i64 (Q), .int .i64 0]) (by simp [results, Tryz.results342, go_sem]) rfl ⟨rfl, lay_ex _ _⟩
theorem wd_Floor2 (p b : Int) (h1 : -1152921504606846976 < p) (h2 : p < 1152921504606846976) (hb : 0 < b) (hb2 : b ≤ 4611686018427387904) (w : World) :
  Calls Tryz.prog 318 #[(.agg #[.int .i64 (p / 1152921504606846976), .int .i64 (p % 1152921504606846976)]), .int .i64 b] w fun e w' => e = .returned (.tuple #[.int .i64 (p / b), .int .i64 0]) ∧ ∃ d, w' = bw w d := by
 have HQ := Lib.hid (fun W => wd_quotient2 p b false h1 h2 hb hb2 W)
 rw [show wdQ p b false = p / b from if_neg (by decide)] at HQ
 generalize p / 1152921504606846976 = P at *
 generalize p % 1152921504606846976 = R at *
 generalize p / b = Q at *
 refine lay_start ?_
 go_enter Tryz.func318, Tryz.ntmps318
 go_wp2_with (go_at_call 342; refine (HQ.out _).mono ?_; rintro e w' ⟨rfl, d, rfl⟩)
 exact bodyPost_ret (v := .tuple #[.int .i64 Q, .int .i64 0]) (by simp [results, Tryz.results318, go_sem]) rfl ⟨rfl, lay_ex _ _⟩
theorem wd_Ceil2 (p b : Int) (h1 : -1152921504606846976 < p) (h2 : p < 1152921504606846976) (hb : 0 < b) (hb2 : b ≤ 4611686018427387904) (w : World) :
  Calls Tryz.prog 319 #[(.agg #[.int .i64 (p / 1152921504606846976), .int .i64 (p % 1152921504606846976)]), .int .i64 b] w fun e w' => e = .returned (.tuple #[.int .i64 (-((-p) / b)), .int .i64 0]) ∧ ∃ d, w' = bw w d := by
 have HQ := Lib.hid (fun W => wd_quotient2 p b true h1 h2 hb hb2 W)
 rw [show wdQ p b true = -((-p) / b) from if_pos rfl] at HQ
 generalize p / 1152921504606846976 = P at *
 generalize p % 1152921504606846976 = R at *
 generalize -((-p) / b) = Q at *
 refine lay_start ?_
 go_enter Tryz.func319, Tryz.ntmps319
 go_wp2_with (go_at_call 342; refine (HQ.out _).mono ?_; rintro e w' ⟨rfl, d, rfl⟩)
 exact bodyPost_ret (v := .tuple #[.int .i64 Q, .int .i64 0]) (by simp [results, Tryz.results319, go_sem]) rfl ⟨rfl, lay_ex _ _⟩
theorem fx_enclose2 (a b c p : Int) (hp : a * b = p) (ha : -4611686018427387904 ≤ a ∧ a ≤ 4611686018427387904) (hb : -4611686018427387904 ≤ b ∧ b ≤ 4611686018427387904) (h1 : -1152921504606846976 < p) (h2 : p < 1152921504606846976) (hc : 0 < c) (hc2 : c ≤ 4611686018427387904) (w : World) :
  Calls Tryz.prog 288 #[.int .i64 a, .int .i64 b, .int .i64 c] w fun e w' => e = .returned (.tuple #[.int .i64 (p / c), .int .i64 (-((-p) / c)), .int .i64 0]) ∧ ∃ d, w' = bw w d := by
 have HP := Lib.hid (fun W => wd_Product2 a b p hp ha hb h1 h2 W)
 have HF := Lib.hid (fun W => wd_Floor2 p c h1 h2 hc hc2 W)
 have HC := Lib.hid (fun W => wd_Ceil2 p c h1 h2 hc hc2 W)
 clear hp ha hb hc hc2 h1 h2
 generalize p / 1152921504606846976 = P at *
 generalize p % 1152921504606846976 = R at *
 generalize p / c = Q at *
 generalize -((-p) / c) = U at *
 refine lay_start ?_
 go_enter Tryz.func288, Tryz.ntmps288
 go_wp2_with (first | (go_at_call 317; refine (HP.out _).mono ?_; rintro e w' ⟨rfl, d, rfl⟩) | (go_at_call 318; refine (HF.out _).mono ?_; rintro e w' ⟨rfl, d, rfl⟩) | (go_at_call 319; refine (HC.out _).mono ?_; rintro e w' ⟨rfl, d, rfl⟩))
 exact bodyPost_ret (v := .tuple #[.int .i64 Q, .int .i64 U, .int .i64 0]) (by simp [results, Tryz.results288, go_sem]) rfl ⟨rfl, lay_ex _ _⟩
end Go.Proofs.YtcbicpbbjbkiaaaGreatDoor
namespace Go.Proofs.YtcbicpbbjbkiaaaGreatDoor
open Go.RowKit

theorem sin_lo {n : Int} (h0 : 1 ≤ n) (h1 : n ≤ 10799999) : 311 ≤ bLo n := by
 refine snap_lo (by omega) (by omega) ?_
 by_cases h : n ≤ 5400000
 ·have := zS_min h0 h
  push_cast
  grind
 ·have hm := zS_min (m := 10800000 - n) (by omega) (by omega)
  obtain ⟨r1, -⟩ := zS_refl n
  unfold e60 at r1
  push_cast
  grind
theorem enc_lo {a b : Int} (h0 : 1 ≤ a) (h : a ≤ b) (h1 : b ≤ 10799999) : 311 ≤ encL a b := by
 have hm : metB a b 16200000 = false := by
  unfold metB
  rw [decide_eq_false_iff_not, Int.emod_eq_of_lt (by omega) (by omega)]
  omega
 have g1 := sin_lo h0 (by omega : a ≤ 10799999)
 have g2 := sin_lo (by omega : 1 ≤ b) h1
 unfold encL
 rw [if_neg (by rw [hm]; decide), mn_eq]
 omega
def bentQ (u : Int) : Int := 26316000000 / (u + 264000)
theorem bent_bd {u : Int} (h0 : -60000 ≤ u) (h1 : u ≤ 5400000) : 60000 ≤ u + bentQ u ∧ 4646 ≤ bentQ u ∧ bentQ u ≤ 129000 := by
 have t0 : 0 < u + 264000 := by omega
 have hq : bentQ u = 26316000000 / (u + 264000) := rfl
 have a1 : 4646 ≤ bentQ u := by rw [hq]; exact (Int.le_ediv_iff_mul_le t0).2 (by omega)
 have a2 : bentQ u ≤ 129000 := by rw [hq]; exact Int.ediv_le_of_le_mul t0 (by omega)
 refine ⟨?_, a1, a2⟩
 by_cases h : 60000 ≤ u
 ·omega
 ·have : 60000 - u ≤ bentQ u := by
   rw [hq]
   refine (Int.le_ediv_iff_mul_le t0).2 ?_
   have e : 0 ≤ (u + 102000) * (u + 102000) := by
    rcases Int.le_total 0 (u + 102000) with g | g
    ·exact Int.mul_nonneg g g
    ·have := Int.mul_nonneg (show 0 ≤ -(u + 102000) by omega) (show 0 ≤ -(u + 102000) by omega)
     rw [Int.neg_mul_neg] at this
     exact this
   have e1 : (u + 102000) * (u + 102000) = u * u + 204000 * u + 10404000000 := by rw [Int.add_mul, Int.mul_add]; omega
   have e2 : (60000 - u) * (u + 264000) = -(u * u) - 204000 * u + 15840000000 := by
    have e3 : u * (u + 264000) = u * u + u * 264000 := Int.mul_add _ _ _
    rw [Int.sub_mul, e3]; omega
   rw [e2]
   rw [e1] at e
   omega
  omega
theorem quo_bd {p c : Int} (h : -1073741824000 ≤ p ∧ p ≤ 1073741824000) (hc : 311 ≤ c) : (-3500000000 ≤ p / c ∧ p / c ≤ 3500000000) ∧ (-3500000000 ≤ -((-p) / c) ∧ -((-p) / c) ≤ 3500000000) := by
 have aux : ∀ n : Int, -1073741824000 ≤ n → n ≤ 1073741824000 → -3500000000 ≤ n / c ∧ n / c ≤ 3500000000 := fun n g1 g2 => by
  refine ⟨(Int.le_ediv_iff_mul_le (by omega)).2 (by omega), Int.ediv_le_of_le_mul (by omega) (by omega)⟩
 have a1 := aux p h.1 h.2
 have a2 := aux (-p) (by omega) (by omega)
 omega
theorem fx_factorT (n : Int) (w : World) :
  Calls Tryz.prog 287 #[.int .i64 n] w fun e w' => e = .returned (.bool (fitsB n)) ∧ ∃ d, w' = bw w d := by
 refine lay_start ?_
 go_enter Tryz.func287, Tryz.ntmps287
 go_wp2
 all_goals go_ret
 all_goals exact ⟨ret_bool (by rw [Bool.eq_iff_iff, fitsB_iff]; simp; try omega), lay_ex _ _⟩
theorem fx_zeroT (a b : Int) (h : 1 ≤ a) (w : World) :
  Calls Tryz.prog 316 #[(.agg #[.int .i64 (a), .int .i64 (b)])] w fun e w' => e = .returned (.bool false) ∧ ∃ d, w' = bw w d := by
 refine lay_start ?_
 go_enter Tryz.func316, Tryz.ntmps316
 go_wp2
 all_goals go_ret
 all_goals exact ⟨rfl, lay_ex _ _⟩
def Wi (B x : Int) : Prop := -B ≤ x ∧ x ≤ B
theorem enclose_T (a c : Int) (ha : -1073741824 ≤ a ∧ a ≤ 1073741824) (hc : 311 ≤ c ∧ c ≤ 1073741824) :
  ∃ x y : Int, Wi 3500000000 x ∧ Wi 3500000000 y ∧ ∀ w : World, Calls Tryz.prog 288 #[.int .i64 a, .int .i64 1000, .int .i64 c] w fun e w' => e = .returned (.tuple #[.int .i64 x, .int .i64 y, .int .i64 0]) ∧ ∃ d, w' = bw w d := by
 obtain ⟨b1, b2⟩ := quo_bd (p := a * 1000) (c := c) (by omega) hc.1
 exact ⟨_, _, b1, b2, fun w => fx_enclose2 a 1000 c (a * 1000) rfl (by omega) (by decide) (by omega) (by omega) (by omega) (by omega) w⟩
theorem mn_in {x y B : Int} (h : Wi B x) (g : Wi B y) : Wi B (mn x y) := by unfold Wi at *; rw [mn_eq]; omega
theorem mx_in {x y B : Int} (h : Wi B x) (g : Wi B y) : Wi B (mx x y) := by unfold Wi at *; rw [mx_eq]; omega
set_option maxHeartbeats 2000000 in
set_option maxRecDepth 100000 in
theorem fx_QuotT (a b c d : Int) (ha : -1073741824 ≤ a ∧ a ≤ b ∧ b ≤ 1073741824) (hc : 311 ≤ c ∧ c ≤ d ∧ d ≤ 1073741824) :
  ∃ x y : Int, Wi 3500000000 x ∧ Wi 3500000000 y ∧ ∀ w : World, Calls Tryz.prog 286 #[(.agg #[.int .i64 (a), .int .i64 (b)]), (.agg #[.int .i64 (c), .int .i64 (d)]), .int .i64 1000] w fun e w' => e = .returned (.tuple #[.int .i64 x, .int .i64 y, .int .i64 0]) ∧ ∃ d, w' = bw w d := by
 have HB := Lib.hid (fun W => fx_bothG a b c d W)
 rw [show (fxB a b && fxB c d) = true by rw [Bool.and_eq_true]; exact ⟨fxB_iff.2 (by omega), fxB_iff.2 (by omega)⟩] at HB
 have HF := Lib.hid (fun n W => fx_factorT n W)
 have HZ := Lib.hid (fun W => fx_zeroT c d (by omega) W)
 obtain ⟨x0, y0, hx0, hy0, H1⟩ := enclose_T a c (by omega) (by omega)
 obtain ⟨x1, y1, hx1, hy1, H2⟩ := enclose_T a d (by omega) (by omega)
 obtain ⟨x2, y2, hx2, hy2, H3⟩ := enclose_T b c (by omega) (by omega)
 obtain ⟨x3, y3, hx3, hy3, H4⟩ := enclose_T b d (by omega) (by omega)
 have hl := mn_in (mn_in (mn_in (mn_in hx0 hx0) hx1) hx2) hx3
 have hu := mx_in (mx_in (mx_in (mx_in hy0 hy0) hy1) hy2) hy3
 refine ⟨_, _, hl, hu, fun w => ?_⟩
 have fl : fitsB (mn (mn (mn (mn x0 x0) x1) x2) x3) = true := fitsB_iff.2 (by unfold Wi at hl; omega)
 have fu : fitsB (mx (mx (mx (mx y0 y0) y1) y2) y3) = true := fitsB_iff.2 (by unfold Wi at hu; omega)
 have HH1 := Lib.hid H1
 have HH2 := Lib.hid H2
 have HH3 := Lib.hid H3
 have HH4 := Lib.hid H4
 clear ha hc hx0 hx1 hx2 hx3 hy0 hy1 hy2 hy3 hl hu H1 H2 H3 H4
 refine lay_start ?_
 go_enter Tryz.func286, Tryz.ntmps286
 go_wp2_with (first | (go_at_call 188; refine (HB.out _).mono ?_; rintro e w' ⟨rfl, d, rfl⟩) | (go_at_call 316; refine (HZ.out _).mono ?_; rintro e w' ⟨rfl, d, rfl⟩) | (go_at_call 287; refine (HF.out _ _).mono ?_; rintro e w' ⟨rfl, d, rfl⟩))
 refine wp_loop_rounds 5 ?_
 rw [rounds_succ]
 go_wp2_with fail
 refine (HH1.out _).mono ?_
 rintro e w' ⟨rfl, d0, rfl⟩
 rw [lay_bw]
 go_wp2_with fail
 rw [rounds_succ]
 go_wp2_with fail
 refine (HH2.out _).mono ?_
 rintro e w' ⟨rfl, d1, rfl⟩
 rw [lay_bw]
 go_wp2_with fail
 rw [rounds_succ]
 go_wp2_with fail
 refine (HH3.out _).mono ?_
 rintro e w' ⟨rfl, d2, rfl⟩
 rw [lay_bw]
 go_wp2_with fail
 rw [rounds_succ]
 go_wp2_with fail
 refine (HH4.out _).mono ?_
 rintro e w' ⟨rfl, d3, rfl⟩
 rw [lay_bw]
 go_wp2_with fail
 rw [rounds_succ]
 go_wp2_with (go_at_call 287; refine (HF.out _ _).mono ?_; rintro e w' ⟨rfl, d, rfl⟩)
 exact bodyPost_ret (v := .tuple #[.int .i64 (mn (mn (mn (mn x0 x0) x1) x2) x3), .int .i64 (mx (mx (mx (mx y0 y0) y1) y2) y3), .int .i64 0]) (by simp [results, Tryz.results286, go_sem]) rfl ⟨rfl, lay_ex _ _⟩
end Go.Proofs.YtcbicpbbjbkiaaaGreatDoor
namespace Go.Proofs.YtcbicpbbjbkiaaaGreatDoor
set_option maxHeartbeats 1000000
open Go.RowKit

@[go_sem] theorem arc_f0 (x y : Int) (W : World) : (Instr.field 29 (.agg #[.int .i64 x, .int .i64 y]) 0).run Tryz.prog W = .ok (.int .i64 x) W := by kernel_rfl
@[go_sem] theorem arc_f1 (x y : Int) (W : World) : (Instr.field 29 (.agg #[.int .i64 x, .int .i64 y]) 1).run Tryz.prog W = .ok (.int .i64 y) W := by kernel_rfl

theorem ref_bent (u : Int) (h0 : -60000 ≤ u) (h1 : u ≤ 5400000) :
  ∃ x y : Int, 60000 ≤ x ∧ x ≤ y ∧ y ≤ 5600000 ∧ ∀ w : World, Calls Tryz.prog 285 #[.int .i64 u] w fun e w' => e = .returned ((.agg #[.int .i64 (x), .int .i64 (y)])) ∧ ∃ d, w' = bw w d := by
 obtain ⟨b1, b2, b3⟩ := bent_bd h0 h1
 have hq : 26316000000 / (u + 264000) = bentQ u := rfl
 generalize bentQ u = Q at *
 have q1 : wrap64 Q = Q := by unfold wrap64; omega
 have q2 : wrap64 (u + Q) = u + Q := by unfold wrap64; omega
 have q3 : wrap64 (u + Q + 1) = u + Q + 1 := by unfold wrap64; omega
 have q4 : u + Q ≤ 5529000 := by omega
 refine ⟨u + Q, if 26316000000 % (u + 264000) = 0 then u + Q else u + Q + 1, b1, by split <;> omega, by split <;> omega, fun w => ?_⟩
 clear b1 b2 b3 q4
 by_cases hz : 26316000000 % (u + 264000) = 0
 ·rw [if_pos hz]
  refine lay_start ?_
  go_enter Tryz.func285, Tryz.ntmps285
  go_wp2_with fail
  exact bodyPost_ret (v := (.agg #[.int .i64 (u + Q), .int .i64 (u + Q)])) (by simp [results, Tryz.results285, go_sem]) rfl ⟨rfl, lay_ex _ _⟩
 ·rw [if_neg hz]
  have hz2 : (26316000000 % (u + 264000) != 0) = true := bne_iff_ne.2 hz
  refine lay_start ?_
  go_enter Tryz.func285, Tryz.ntmps285
  go_wp2_with fail
  exact bodyPost_ret (v := (.agg #[.int .i64 (u + Q), .int .i64 (u + Q + 1)])) (by simp [results, Tryz.results285, go_sem]) rfl ⟨rfl, lay_ex _ _⟩
def ArcT (B : Int) (f : Nat) (vs : Array Value) : Prop := ∃ x y : Int, Wi B x ∧ Wi B y ∧ ∀ w : World, Calls Tryz.prog f vs w fun e w' => e = .returned ((.agg #[.int .i64 (x), .int .i64 (y)])) ∧ ∃ d, w' = bw w d
theorem ref_one (u : Int) (h0 : -60000 ≤ u) (h1 : u ≤ 5400000) : ArcT 3500000000 236 #[.int .i64 u] := by
 obtain ⟨x, y, hx, hxy, hy, hB⟩ := ref_bent u h0 h1
 have HB := Lib.hid hB
 have hv : validB x y = true := validB_iff.2 (by omega)
 have HS := Lib.hid (fun W => tg_Sin x y hv W)
 have HC := Lib.hid (fun W => tg_Cos x y hv W)
 have e1 := enc_in (lo := x + 5400000) (hi := y + 5400000)
 have e2 := enc_in (lo := x) (hi := y)
 have e3 := enc_lo (a := x) (b := y) (by omega) hxy (by omega)
 obtain ⟨p, q, hp, hq, hQ⟩ := fx_QuotT _ _ _ _ e1 ⟨e3, e2.2⟩
 have HQ := Lib.hid hQ
 refine ⟨p, q, hp, hq, fun w => ?_⟩
 clear e1 e2 e3 hv hx hxy hy hp hq hB hQ
 generalize encL (x + 5400000) (y + 5400000) = c0 at *
 generalize encH (x + 5400000) (y + 5400000) = c1 at *
 generalize encL x y = s0 at *
 generalize encH x y = s1 at *
 refine lay_start ?_
 go_enter Tryz.func236, Tryz.ntmps236
 go_wp2_with (first | (go_at_call 285; refine (HB.out _).mono ?_; rintro e w' ⟨rfl, d, rfl⟩) | (go_at_call 102; refine (HS.out _).mono ?_; rintro e w' ⟨rfl, d, rfl⟩) | (go_at_call 100; refine (HC.out _).mono ?_; rintro e w' ⟨rfl, d, rfl⟩) | (go_at_call 286; refine (HQ.out _).mono ?_; rintro e w' ⟨rfl, d, rfl⟩))
 exact bodyPost_ret (v := (.agg #[.int .i64 (p), .int .i64 (q)])) (by simp [results, Tryz.results236, go_sem]) rfl ⟨rfl, lay_ex _ _⟩
theorem ref_mean (a b : Int) (h0 : -60000 ≤ a ∧ a ≤ 5400000) (h1 : -60000 ≤ b ∧ b ≤ 5400000) : ArcT 3500000000 168 #[(.agg #[.int .i64 (a), .int .i64 (b)])] := by
 obtain ⟨p, q, hp, hq, hA⟩ := ref_one a h0.1 h0.2
 obtain ⟨p2, q2, hp2, hq2, hB⟩ := ref_one b h1.1 h1.2
 have HA := Lib.hid hA
 have HB := Lib.hid hB
 refine ⟨p2, q, hp2, hq, fun w => ?_⟩
 clear h0 h1 hp hq hA hB hp2 hq2
 refine lay_start ?_
 go_enter Tryz.func168, Tryz.ntmps168
 go_wp2_with fail
 refine region_bw_tail 9 (by kernel_rfl) (by kernel_rfl) ?_
 simp only [List.take_succ_cons, List.take_zero, List.drop_succ_cons, List.drop_zero]
 repeat (go_big_quiet_step ((first | (go_at_call 236; first | ((with_reducible refine bq (HA.out _) ?_); exact (fun d => ⟨d, rfl⟩)) | ((with_reducible refine bq (HA.out _) ?_); exact (fun d => lay_join _ _ _ d)) | ((with_reducible refine bq (HB.out _) ?_); exact (fun d => ⟨d, rfl⟩)) | ((with_reducible refine bq (HB.out _) ?_); exact (fun d => lay_join _ _ _ d))))))
 refine wpQuiet_nil ?_
 rintro w' ⟨d, rfl⟩
 rw [lay_bw]
 go_wp2_with fail
 exact bodyPost_ret (v := (.agg #[.int .i64 (p2), .int .i64 (q)])) (by simp [results, Tryz.results168, go_sem]) rfl ⟨rfl, lay_ex _ _⟩
theorem ref_in (n lo hi : Int) (w : World) :
  Calls Tryz.prog 234 #[.int .i64 n, .int .i64 lo, .int .i64 hi] w fun e w' => e = .returned (.bool (decide (lo ≤ n ∧ n ≤ hi))) ∧ w' = w := by
 go_enter Tryz.func234, Tryz.ntmps234
 go_wp2
 all_goals go_ret
 all_goals exact ⟨ret_bool (by rw [Bool.eq_iff_iff]; simp; try omega), rfl⟩
theorem ref_weather (t p : Int) (w : World) :
  Calls Tryz.prog 166 #[.int .i64 t, .int .i64 p] w fun e w' => e = .returned (.bool (decide ((-500 ≤ t ∧ t ≤ 600) ∧ (5000 ≤ p ∧ p ≤ 11000)))) ∧ w' = w := by
 have H1 := Lib.hid (fun W => ref_in t (-500) 600 W)
 have H2 := Lib.hid (fun W => ref_in p 5000 11000 W)
 by_cases h1 : -500 ≤ t ∧ t ≤ 600 <;> by_cases h2 : 5000 ≤ p ∧ p ≤ 11000
 ·rw [decide_eq_true h1] at H1
  rw [decide_eq_true h2] at H2
  rw [decide_eq_true (And.intro h1 h2)]
  clear h1 h2
  go_enter Tryz.func166, Tryz.ntmps166
  go_wp2_with (go_at_call 234; first | ((with_reducible refine (H1.out _).mono ?_); rintro e w' ⟨rfl, rfl⟩) | ((with_reducible refine (H2.out _).mono ?_); rintro e w' ⟨rfl, rfl⟩))
  go_ret
  exact ⟨rfl, rfl⟩
 ·rw [decide_eq_true h1] at H1
  rw [decide_eq_false h2] at H2
  rw [decide_eq_false (fun h => h2 h.2)]
  clear h1 h2
  go_enter Tryz.func166, Tryz.ntmps166
  go_wp2_with (go_at_call 234; first | ((with_reducible refine (H1.out _).mono ?_); rintro e w' ⟨rfl, rfl⟩) | ((with_reducible refine (H2.out _).mono ?_); rintro e w' ⟨rfl, rfl⟩))
  go_ret
  exact ⟨rfl, rfl⟩
 all_goals
  rw [decide_eq_false h1] at H1
  rw [decide_eq_false (fun h => h1 h.1)]
  clear h1 h2
  go_enter Tryz.func166, Tryz.ntmps166
  go_wp2_with (go_at_call 234; (with_reducible refine (H1.out _).mono ?_); rintro e w' ⟨rfl, rfl⟩)
  go_ret
  exact ⟨rfl, rfl⟩
set_option maxHeartbeats 1000000
open Go.RowKit

theorem ref_down (n u v : Int) (b1 b2 : Nat) (hn : -3500000000 ≤ n ∧ n ≤ 3500000000) (hu : 0 ≤ u ∧ u ≤ 5000000) (hv : 1 ≤ v ∧ v ≤ 9000000) (w : World) (c1 : w.cell? ⟨b1, 0, none⟩ = some (.int .i64 u)) (c2 : w.cell? ⟨b2, 0, none⟩ = some (.int .i64 v)) :
  Calls Tryz.prog 235 #[.int .i64 n, .pointer (some ⟨b1, 0, none⟩), .pointer (some ⟨b2, 0, none⟩)] w fun e w' => e = .returned (.int .i64 (n * u / v)) ∧ ∃ d, w' = bw w d := by
 have p := tp_prod (x := n) (k := u) (X := 3500000000) (K := 5000000) (by omega) (by omega)
 obtain ⟨P, hP⟩ : ∃ P, P = n * u := ⟨_, rfl⟩
 rw [← hP] at p ⊢
 have z1 : wrap64 (n * u) = P := by rw [← hP]; unfold wrap64; omega
 have hb1 := World.block_lt_of_cell? _ _ c1
 have hb2 := World.block_lt_of_cell? _ _ c2
 have hbd := ediv_bd (a := P) hv.1 17500000000000000 (by decide) (by omega) (by omega)
 clear hP
 obtain ⟨q, hq⟩ : ∃ q, P / v = q := ⟨_, rfl⟩
 have hfn : P.tmod v < 0 → P.tdiv v - 1 = q := fun h => by rw [← hq]; exact floor_neg hv.1 h
 have hfp : 0 ≤ P.tmod v → P.tdiv v = q := fun h => by rw [← hq]; exact floor_pos hv.1 h
 rw [hq] at hbd ⊢
 have HN := Lib.hid hfn
 have HP := Lib.hid hfp
 clear hq hfn hfp
 refine lay_start ?_
 go_enter Tryz.func235, Tryz.ntmps235
 have hv0 : ¬ v = 0 := by omega
 go_wp2_with fail
 refine region_bw (by kernel_rfl) (by kernel_rfl) ?_
 repeat (go_big_quiet_step ((first | fail)))
 refine wpQuiet_nil ?_
 rintro w' ⟨d, rfl⟩
 rw [lay_bw]
 by_cases hr : P.tmod v < 0
 ·have e0 := HN.out hr
  have e1 : wrap64 (P.tdiv v) = P.tdiv v := by unfold wrap64; omega
  have e2 : wrap64 (P.tdiv v - 1) = q := by rw [e0]; unfold wrap64; omega
  clear e0
  go_wp2_with fail
  exact bodyPost_ret (v := .int .i64 (wrap64 (P.tdiv v - 1))) (by simp [results, Tryz.results235, go_sem]) rfl ⟨by rw [e2], lay_ex _ _⟩
 ·have e0 := HP.out (by omega)
  have e1 : wrap64 (P.tdiv v) = P.tdiv v := by rw [e0]; unfold wrap64; omega
  go_wp2_with fail
  exact bodyPost_ret (v := .int .i64 q) (by simp [results, Tryz.results235, go_sem]) rfl ⟨rfl, lay_ex _ _⟩
theorem ref_check (a b : Int) (w : World) :
  Calls Tryz.prog 165 #[(.agg #[.int .i64 (a), .int .i64 (b)])] w fun e w' => (∃ k : Int, (k = 0 → validB a b = true ∧ -60000 ≤ a ∧ b ≤ 5400000) ∧ (0 ≤ k ∧ k ≤ 100) ∧ e = .returned (.int .i64 k)) ∧ ∃ d, w' = bw w d := by
 have HV := Lib.hid (fun W => angle_Valid a b W)
 cases hv : validB a b
 ·rw [hv] at HV
  refine lay_start ?_
  go_enter Tryz.func165, Tryz.ntmps165
  go_wp2_with (go_at_call 38; refine (HV.out _).mono ?_; rintro e w' ⟨rfl, d, rfl⟩)
  exact bodyPost_ret (v := .int .i64 1) (by simp [results, Tryz.results165, go_sem]) rfl ⟨⟨1, fun h => absurd h (by decide), by decide, rfl⟩, lay_ex _ _⟩
 ·rw [hv] at HV
  by_cases h : -60000 ≤ a ∧ b ≤ 5400000
  ·have HH := Lib.hid h
   obtain ⟨h1, h2⟩ := h
   have g1 : ¬ a < -60000 := by omega
   have g2 : ¬ 5400000 < b := by omega
   refine lay_start ?_
   go_enter Tryz.func165, Tryz.ntmps165
   go_wp2_with (go_at_call 38; refine (HV.out _).mono ?_; rintro e w' ⟨rfl, d, rfl⟩)
   exact bodyPost_ret (v := .int .i64 0) (by simp [results, Tryz.results165, go_sem]) rfl ⟨⟨0, fun _ => ⟨trivial, HH.out⟩, by decide, rfl⟩, lay_ex _ _⟩
  ·have hor : a < -60000 ∨ (-60000 ≤ a ∧ 5400000 < b) := by omega
   clear h
   rcases hor with h | ⟨h1, h2⟩
   all_goals
    refine lay_start ?_
    go_enter Tryz.func165, Tryz.ntmps165
    go_wp2_with (go_at_call 38; refine (HV.out _).mono ?_; rintro e w' ⟨rfl, d, rfl⟩)
    exact bodyPost_ret (v := .int .i64 2) (by simp [results, Tryz.results165, go_sem]) rfl ⟨⟨2, fun h => absurd h (by decide), by decide, rfl⟩, lay_ex _ _⟩
theorem ref_times (a b t p : Int) (ha : -3500000000 ≤ a ∧ a ≤ 3500000000) (hb : -3500000000 ≤ b ∧ b ≤ 3500000000) (ht : -500 ≤ t ∧ t ≤ 600) (hp : 5000 ≤ p ∧ p ≤ 11000) :
  ArcT 5000000000 167 #[(.agg #[.int .i64 (a), .int .i64 (b)]), .int .i64 t, .int .i64 p] := by
 have hq : ∀ n, -3500000000 ≤ n ∧ n ≤ 3500000000 → -5000000000 ≤ n * (283 * p) / (1010 * (2730 + t)) ∧ n * (283 * p) / (1010 * (2730 + t)) ≤ 5000000000 := fun n hn => by
  have g := tp_prod (x := n) (k := 283 * p) (X := 3500000000) (K := 3113000) hn (by omega)
  refine ⟨(Int.le_ediv_iff_mul_le (by omega)).2 (by omega), Int.ediv_le_of_le_mul (by omega) (by omega)⟩
 have q1 := hq a ha
 have q2 := hq (-b) (by omega)
 have HD1 := Lib.hid (fun b1 b2 W c1 c2 => ref_down a (283 * p) (1010 * (2730 + t)) b1 b2 ha (by omega) (by omega) W c1 c2)
 have HD2 := Lib.hid (fun b1 b2 W c1 c2 => ref_down (-b) (283 * p) (1010 * (2730 + t)) b1 b2 (by omega) (by omega) (by omega) W c1 c2)
 obtain ⟨X, hX⟩ : ∃ X, X = a * (283 * p) / (1010 * (2730 + t)) := ⟨_, rfl⟩
 obtain ⟨Y, hY⟩ : ∃ Y, Y = (-b) * (283 * p) / (1010 * (2730 + t)) := ⟨_, rfl⟩
 rw [← hX] at HD1 q1
 rw [← hY] at HD2 q2
 have z1 : wrap64 (-b) = -b := by unfold wrap64; omega
 have z2 : wrap64 (-Y) = -Y := by unfold wrap64; omega
 refine ⟨X, -Y, q1, by unfold Wi; omega, fun w => ?_⟩
 clear hX hY q1 q2 hq
 refine lay_start ?_
 go_enter Tryz.func167, Tryz.ntmps167
 go_wp2_with fail
 refine region_bw_tail 11 (by kernel_rfl) (by kernel_rfl) ?_
 simp only [List.take_succ_cons, List.take_zero, List.drop_succ_cons, List.drop_zero]
 repeat (go_big_quiet_step ((first | (go_at_call 235; first | ((with_reducible refine bq (HD1.out _ _ _ (by simp [go_sem]) (by simp [go_sem])) ?_); exact (fun d => ⟨d, rfl⟩)) | ((with_reducible refine bq (HD1.out _ _ _ (by simp [go_sem]) (by simp [go_sem])) ?_); exact (fun d => lay_join _ _ _ d)) | ((with_reducible refine bq (HD2.out _ _ _ (by simp [go_sem]) (by simp [go_sem])) ?_); exact (fun d => ⟨d, rfl⟩)) | ((with_reducible refine bq (HD2.out _ _ _ (by simp [go_sem]) (by simp [go_sem])) ?_); exact (fun d => lay_join _ _ _ d))))))
 refine wpQuiet_nil ?_
 rintro w' ⟨d, rfl⟩
 rw [lay_bw]
 go_wp2_with fail
 exact bodyPost_ret (v := (.agg #[.int .i64 (X), .int .i64 (-Y)])) (by simp [results, Tryz.results167, go_sem]) rfl ⟨rfl, lay_ex _ _⟩
theorem ref_At (a b t p : Int) (w : World) :
  Calls Tryz.prog 92 #[(.agg #[.int .i64 (a), .int .i64 (b)]), .int .i64 t, .int .i64 p] w (ArcE 5000000000 w) := by
 have HC := Lib.hid (fun W => ref_check a b W)
 have HW := Lib.hid (fun W => ref_weather t p W)
 refine lay_start ?_
 go_enter Tryz.func92, Tryz.ntmps92
 go_wp2_with fail
 refine (HC.out _).mono ?_
 rintro e w' ⟨⟨k, hk, hk2, rfl⟩, d, rfl⟩
 rw [lay_bw]
 by_cases hz : k = 0
 ·subst hz
  obtain ⟨hv, h0, h1⟩ := hk rfl
  have hab := (validB_iff.1 hv).1
  by_cases hw : (-500 ≤ t ∧ t ≤ 600) ∧ (5000 ≤ p ∧ p ≤ 11000)
  ·rw [decide_eq_true hw] at HW
   obtain ⟨p1, q1, hp1, hq1, hM⟩ := ref_mean a b (by omega) (by omega)
   obtain ⟨p2, q2, hp2, hq2, hT⟩ := ref_times p1 q1 t p hp1 hq1 hw.1 hw.2
   have HM := Lib.hid hM
   have HT := Lib.hid hT
   have HP := Lib.hid hp2
   have HQ := Lib.hid hq2
   clear hk hk2 hv h0 h1 hab hw hM hT hp1 hq1 hp2 hq2
   go_wp2_with (first | (go_at_call 166; refine (HW.out _).mono ?_; rintro e w' ⟨rfl, rfl⟩) | (go_at_call 168; refine (HM.out _).mono ?_; rintro e w' ⟨rfl, d, rfl⟩) | (go_at_call 167; refine (HT.out _).mono ?_; rintro e w' ⟨rfl, d, rfl⟩))
   exact bodyPost_ret (v := .tuple #[(.agg #[.int .i64 (p2), .int .i64 (q2)]), .int .i64 0]) (by simp [results, Tryz.results92, go_sem]) rfl ⟨⟨p2, q2, 0, fun _ => ⟨HP.out, HQ.out⟩, by decide, fun h => absurd rfl h, rfl⟩, lay_ex _ _⟩
  ·rw [decide_eq_false hw] at HW
   clear hk hk2 hv h0 h1 hab hw
   go_wp2_with (go_at_call 166; refine (HW.out _).mono ?_; rintro e w' ⟨rfl, rfl⟩)
   exact bodyPost_ret (v := .tuple #[(.agg #[.int .i64 (0), .int .i64 (0)]), .int .i64 2]) (by simp [results, Tryz.results92, go_sem]) rfl ⟨⟨0, 0, 2, by decide, by decide, fun _ => ⟨rfl, rfl⟩, rfl⟩, lay_ex _ _⟩
 ·have hz2 : (k == 0) = false := beq_eq_false_iff_ne.2 hz
  have HZ := Lib.hid hz
  have HK2 := Lib.hid hk2
  clear hk hk2 hz
  go_wp2_with fail
  exact bodyPost_ret (v := .tuple #[(.agg #[.int .i64 (0), .int .i64 (0)]), .int .i64 k]) (by simp [results, Tryz.results92, go_sem]) rfl ⟨⟨0, 0, k, fun h => absurd h HZ.out, HK2.out, fun _ => ⟨rfl, rfl⟩, rfl⟩, lay_ex _ _⟩
end Go.Proofs.YtcbicpbbjbkiaaaGreatDoor
namespace Go.Proofs.YtcbicpbbjbkiaaaGreatDoor
open Go.RowKit

theorem set_same {W : World} {b i : Nat} {v : Value} (h : W.cell? ⟨b, i, none⟩ = some v) : W.setCell ⟨b, i, none⟩ v = W := by
 have hh : W.heap.modify b (fun o => match o with | .cells c elem frozen => .cells (if (none : Option Nat).isSome then c else c.setIfInBounds i v) elem frozen | o => o) = W.heap := by
  refine Array.ext (by simp) fun j h1 h2 => ?_
  rw [Array.getElem_modify]
  split
  ·rename_i e
   subst e
   unfold World.cell? at h
   rw [Array.getElem?_eq_getElem h2] at h
   dsimp only at h
   split at h
   ·rename_i c e f he
    rw [Option.some.injEq] at he
    rw [he]
    simp only [Option.isSome_none, Bool.false_eq_true, if_false] at h ⊢
    obtain ⟨hi, hv⟩ := Array.getElem?_eq_some_iff.1 h
    rw [Array.setIfInBounds_def, dif_pos hi, ← hv, Array.set_getElem_self]
   ·cases h
  ·rfl
 obtain ⟨heap, tape, drawn, os, output⟩ := W
 unfold World.setCell
 dsimp only at hh ⊢
 exact congrArg (fun x => ({ heap := x, tape := tape, drawn := drawn, os := os, output := output } : World)) hh
structure ChW (b : Nat) (W : World) : Prop where
 lt : b < W.heap.size
 cell : W.cell? ⟨b, 0, none⟩ = some (.int .i64 0)
 froz : W.frozen? ⟨b, 0, none⟩ = false
theorem ChW.ext {b : Nat} {W W' : World} (h : ChW b W) (hb : Below W.heap.size W W') : ChW b W' :=
 ⟨Nat.lt_of_lt_of_le h.lt hb.size, (hb.cell (p := ⟨b, 0, none⟩) h.lt).trans h.cell, (hb.frozen (p := ⟨b, 0, none⟩) h.lt).trans h.froz⟩
theorem ChW.bw {b : Nat} {W : World} (h : ChW b W) (d : Ext) : ChW b (bw W d) := h.ext (bw_below W d)
theorem ChW.lay {b : Nat} {W : World} (h : ChW b W) (L : List (Obj ⊕ Ext)) : ChW b (lay W L) := h.ext (lay_extends W L)
theorem ChW.set {b : Nat} {W : World} (h : ChW b W) : W.setCell ⟨b, 0, none⟩ (.int .i64 0) = W := set_same h.cell
theorem ChW.on {b : Nat} {w : World} {L : List (Obj ⊕ Ext)} (h : ChW b (Go.Proofs.YtcbicpbbjbkiaaaGreatDoor.lay w L)) (L' : List (Obj ⊕ Ext)) : ChW b (Go.Proofs.YtcbicpbbjbkiaaaGreatDoor.lay w (L' ++ L)) := by
 rw [lay_append]
 exact h.lay L'
theorem chW_new (w : World) (L : List (Obj ⊕ Ext)) (t : TypeId) (p : List Nat) (hp : shp L = p) : ChW (posn w p) (lay w (.inl (Obj.cells #[.int .i64 0] t) :: L)) := by
 subst hp
 have hg : (lay w (.inl (Obj.cells #[.int .i64 0] t) :: L)).heap[posn w (shp L)]? = some (Obj.cells #[.int .i64 0] t) := lay_get w (.inl (Obj.cells #[.int .i64 0] t) :: L) 0 _ rfl
 refine ⟨(Array.getElem?_eq_some_iff.1 hg).1, ?_, ?_⟩
 ·unfold World.cell?; dsimp only; rw [hg]; rfl
 ·unfold World.frozen?; dsimp only; rw [hg]; rfl
end Go.Proofs.YtcbicpbbjbkiaaaGreatDoor
namespace Go.Proofs.YtcbicpbbjbkiaaaGreatDoor
set_option maxHeartbeats 1000000
open Go.RowKit

theorem flo_cei (P c : Int) (hc : 0 < c) : P / c ≤ -((-P) / c) := by
 have h1 := Int.ediv_mul_le P (show c ≠ 0 by omega)
 have h2 := Int.ediv_mul_le (-P) (show c ≠ 0 by omega)
 have h3 : (P / c + (-P) / c) * c ≤ 0 * c := by rw [Int.add_mul]; omega
 have := Int.le_of_mul_le_mul_right h3 hc
 omega
theorem enc_one (a n : Int) (ha : -1073741824 ≤ a ∧ a ≤ 1073741824) (hn : 0 ≤ n ∧ n ≤ 200000) :
  ∃ x y : Int, Wi 200000 x ∧ Wi 200000 y ∧ x ≤ y ∧ ∀ w : World, Calls Tryz.prog 288 #[.int .i64 a, .int .i64 n, .int .i64 1073741824] w fun e w' => e = .returned (.tuple #[.int .i64 x, .int .i64 y, .int .i64 0]) ∧ ∃ d, w' = bw w d := by
 have p := tp_prod (x := a) (k := n) (X := 1073741824) (K := 200000) (by omega) (by omega)
 have aux : ∀ m : Int, -214748364800000 ≤ m → m ≤ 214748364800000 → -200000 ≤ m / 1073741824 ∧ m / 1073741824 ≤ 200000 := fun m h1 h2 => by omega
 have a1 := aux (a * n) (by omega) (by omega)
 have a2 := aux (-(a * n)) (by omega) (by omega)
 exact ⟨_, _, a1, by unfold Wi; omega, flo_cei _ _ (by decide), fun w => fx_enclose2 a n 1073741824 (a * n) rfl (by omega) (by omega) (by omega) (by omega) (by decide) (by decide) w⟩
def TwoT (B : Int) (f : Nat) (vs : Array Value) : Prop := ∃ x y : Int, Wi B x ∧ Wi B y ∧ x ≤ y ∧ ∀ w : World, Calls Tryz.prog f vs w fun e w' => e = .returned (.tuple #[.int .i64 x, .int .i64 y, .int .i64 0]) ∧ ∃ d, w' = bw w d
theorem fx_ScaleT (a b n : Int) (ha : -1073741824 ≤ a ∧ a ≤ b ∧ b ≤ 1073741824) (hn : 0 ≤ n ∧ n ≤ 200000) : TwoT 200000 237 #[(.agg #[.int .i64 (a), .int .i64 (b)]), .int .i64 n] := by
 obtain ⟨x0, y0, hx0, hy0, h0, H1⟩ := enc_one a n (by omega) hn
 obtain ⟨x1, y1, hx1, hy1, h1, H2⟩ := enc_one b n (by omega) hn
 have HE1 := Lib.hid H1
 have HE2 := Lib.hid H2
 have HV := Lib.hid (fun W => fx_ValidG a b W)
 rw [fxB_iff.2 (by omega : a ≤ b ∧ -2147483648 ≤ a ∧ b ≤ 2147483648)] at HV
 have HF := Lib.hid (fun W => fx_factorT n W)
 rw [fitsB_iff.2 (by omega : -1099511627776 ≤ n ∧ n ≤ 1099511627776)] at HF
 refine ⟨mn x0 x1, mx y0 y1, mn_in hx0 hx1, mx_in hy0 hy1, by rw [mn_eq, mx_eq]; omega, fun w => ?_⟩
 clear ha hn hx0 hy0 h0 H1 hx1 hy1 h1 H2
 refine lay_start ?_
 go_enter Tryz.func237, Tryz.ntmps237
 go_wp2_with (first | (go_at_call 103; refine (HV.out _).mono ?_; rintro e w' ⟨rfl, d, rfl⟩) | (go_at_call 287; refine (HF.out _).mono ?_; rintro e w' ⟨rfl, d, rfl⟩) | (go_at_call 288; first | ((with_reducible refine (HE1.out _).mono ?_); rintro e w' ⟨rfl, d, rfl⟩) | ((with_reducible refine (HE2.out _).mono ?_); rintro e w' ⟨rfl, d, rfl⟩)))
 exact bodyPost_ret (v := .tuple #[.int .i64 (mn x0 x1), .int .i64 (mx y0 y1), .int .i64 0]) (by simp [results, Tryz.results237, go_sem]) rfl ⟨rfl, lay_ex _ _⟩
theorem px_keep (b : Nat) (w : World) (hc : ChW b w) :
  Calls Tryz.prog 175 #[.pointer (some ⟨b, 0, none⟩), .int .i64 0] w fun e w' => e = .returned (.tuple #[]) ∧ ∃ d, w' = bw w d := by
 have hb := hc.lt
 have h1 := hc.cell
 have h2 := hc.froz
 have h3 : ∀ L, (lay w L).setCell ⟨b, 0, none⟩ (.int .i64 0) = lay w L := fun L => (hc.lay L).set
 refine lay_start ?_
 go_enter Tryz.func175, Tryz.ntmps175
 go_wp2_with fail
 exact bodyPost_end (v := .tuple #[]) (results_none rfl _ _ _) rfl ⟨rfl, lay_ex _ _⟩
theorem px_trig (lo hi : Int) (hv : validB lo hi = true) :
  (∀ (b : Nat) (w : World), ChW b w → Calls Tryz.prog 174 #[.pointer (some ⟨b, 0, none⟩), (.agg #[.int .i64 (lo), .int .i64 (hi)])] w fun e w' => e = .returned (.agg #[.int .i64 (encL lo hi), .int .i64 (encH lo hi)]) ∧ ∃ d, w' = bw w d) ∧
  (∀ (b : Nat) (w : World), ChW b w → Calls Tryz.prog 173 #[.pointer (some ⟨b, 0, none⟩), (.agg #[.int .i64 (lo), .int .i64 (hi)])] w fun e w' => e = .returned (.agg #[.int .i64 (encL (lo + 5400000) (hi + 5400000)), .int .i64 (encH (lo + 5400000) (hi + 5400000))]) ∧ ∃ d, w' = bw w d) := by
 have HS := Lib.hid (fun W => tg_Sin lo hi hv W)
 have HC := Lib.hid (fun W => tg_Cos lo hi hv W)
 generalize encL (lo + 5400000) (hi + 5400000) = p at *
 generalize encH (lo + 5400000) (hi + 5400000) = q at *
 generalize encL lo hi = r at *
 generalize encH lo hi = s at *
 clear hv
 constructor
 ·intro b w hc
  have HK := Lib.hid (fun L => px_keep b (lay w L) (hc.lay L))
  clear hc
  refine lay_start ?_
  go_enter Tryz.func174, Tryz.ntmps174
  go_wp2_with (first | (go_at_call 102; refine (HS.out _).mono ?_; rintro e w' ⟨rfl, d1, rfl⟩; rw [lay_bw]) | (go_at_call 175; refine (HK.out _).mono ?_; rintro e w' ⟨rfl, d2, rfl⟩; rw [lay_bw]))
  exact bodyPost_ret (v := (.agg #[.int .i64 (r), .int .i64 (s)])) (by simp [results, Tryz.results174, go_sem]) rfl ⟨rfl, lay_ex _ _⟩
 ·intro b w hc
  have HK := Lib.hid (fun L => px_keep b (lay w L) (hc.lay L))
  clear hc
  refine lay_start ?_
  go_enter Tryz.func173, Tryz.ntmps173
  go_wp2_with (first | (go_at_call 100; refine (HC.out _).mono ?_; rintro e w' ⟨rfl, d1, rfl⟩; rw [lay_bw]) | (go_at_call 175; refine (HK.out _).mono ?_; rintro e w' ⟨rfl, d2, rfl⟩; rw [lay_bw]))
  exact bodyPost_ret (v := (.agg #[.int .i64 (p), .int .i64 (q)])) (by simp [results, Tryz.results173, go_sem]) rfl ⟨rfl, lay_ex _ _⟩
theorem px_times (x y a b : Int) (hx : 0 ≤ x ∧ x ≤ y ∧ y ≤ 120000) (ha : -1073741824 ≤ a ∧ a ≤ b ∧ b ≤ 1073741824) :
  ∃ p q : Int, Wi 200000 p ∧ Wi 200000 q ∧ p ≤ q ∧ ∀ (c : Nat) (w : World), ChW c w → Calls Tryz.prog 172 #[.pointer (some ⟨c, 0, none⟩), (.agg #[.int .i64 (x), .int .i64 (y)]), (.agg #[.int .i64 (a), .int .i64 (b)])] w fun e w' => e = .returned (.agg #[.int .i64 (p), .int .i64 (q)]) ∧ ∃ d, w' = bw w d := by
 obtain ⟨x0, y0, hx0, hy0, h0, H1⟩ := fx_ScaleT a b x ha (by omega)
 obtain ⟨x1, y1, hx1, hy1, h1, H2⟩ := fx_ScaleT a b y ha (by omega)
 have HE1 := Lib.hid H1
 have HE2 := Lib.hid H2
 refine ⟨mn x0 x1, mx y0 y1, mn_in hx0 hx1, mx_in hy0 hy1, by rw [mn_eq, mx_eq]; omega, fun c w hc => ?_⟩
 have HK := Lib.hid (fun L => px_keep c (lay w L) (hc.lay L))
 clear hx ha hx0 hy0 h0 H1 hx1 hy1 h1 H2 hc
 refine lay_start ?_
 go_enter Tryz.func172, Tryz.ntmps172
 go_wp2_with (first | (go_at_call 237; first | ((with_reducible refine (HE1.out _).mono ?_); rintro e w' ⟨rfl, d1, rfl⟩; rw [lay_bw]) | ((with_reducible refine (HE2.out _).mono ?_); rintro e w' ⟨rfl, d1, rfl⟩; rw [lay_bw])) | (go_at_call 175; refine (HK.out _).mono ?_; rintro e w' ⟨rfl, d2, rfl⟩; rw [lay_bw]))
 exact bodyPost_ret (v := (.agg #[.int .i64 (mn x0 x1), .int .i64 (mx y0 y1)])) (by simp [results, Tryz.results172, go_sem]) rfl ⟨rfl, lay_ex _ _⟩
theorem px_add (a b x y : Int) (h1 : validB a b = true) (h2 : validB x y = true) (h3 : validB (a + x) (b + y) = true) (k : Nat) (w : World) (hk : ChW k w) :
  Calls Tryz.prog 177 #[.pointer (some ⟨k, 0, none⟩), (.agg #[.int .i64 (a), .int .i64 (b)]), (.agg #[.int .i64 (x), .int .i64 (y)])] w fun e w' => e = .returned (.agg #[.int .i64 (a + x), .int .i64 (b + y)]) ∧ ∃ d, w' = bw w d := by
 have HA := Lib.hid (fun W => angle_Add a b x y W h1 h2 h3)
 have HK := Lib.hid (fun L => px_keep k (lay w L) (hk.lay L))
 clear hk h1 h2 h3
 generalize a + x = p at *
 generalize b + y = q at *
 refine lay_start ?_
 go_enter Tryz.func177, Tryz.ntmps177
 go_wp2_with (first | (go_at_call 33; refine (HA.out _).mono ?_; rintro e w' ⟨rfl, d1, rfl⟩; rw [lay_bw]) | (go_at_call 175; refine (HK.out _).mono ?_; rintro e w' ⟨rfl, d2, rfl⟩; rw [lay_bw]))
 exact bodyPost_ret (v := (.agg #[.int .i64 (p), .int .i64 (q)])) (by simp [results, Tryz.results177, go_sem]) rfl ⟨rfl, lay_ex _ _⟩
theorem px_result (a b : Int) (k : Nat) (w : World) (hk : ChW k w) :
  Calls Tryz.prog 171 #[.pointer (some ⟨k, 0, none⟩), (.agg #[.int .i64 (a), .int .i64 (b)])] w fun e w' => e = .returned (.tuple #[(.agg #[.int .i64 (a), .int .i64 (b)]), .int .i64 0]) ∧ ∃ d, w' = bw w d := by
 have hb := hk.lt
 have h1 := hk.cell
 refine lay_start ?_
 go_enter Tryz.func171, Tryz.ntmps171
 go_wp2_with fail
 exact bodyPost_ret (v := .tuple #[(.agg #[.int .i64 (a), .int .i64 (b)]), .int .i64 0]) (by simp [results, Tryz.results171, go_sem]) rfl ⟨rfl, lay_ex _ _⟩
end Go.Proofs.YtcbicpbbjbkiaaaGreatDoor
namespace Go.Proofs.YtcbicpbbjbkiaaaGreatDoor
open Go.RowKit

def smlB (a b : Int) : Bool := validB a b && decide (0 ≤ a) && decide (b ≤ 120000)
def altB (a b : Int) : Bool := validB a b && decide (-5400000 ≤ a) && decide (b ≤ 5400000)
theorem smlB_iff {a b : Int} : smlB a b = true ↔ 0 ≤ a ∧ a ≤ b ∧ b ≤ 120000 := by
 unfold smlB
 rw [Bool.and_eq_true, Bool.and_eq_true, validB_iff, decide_eq_true_eq, decide_eq_true_eq]
 omega
theorem altB_iff {a b : Int} : altB a b = true ↔ -5400000 ≤ a ∧ a ≤ b ∧ b ≤ 5400000 := by
 unfold altB
 rw [Bool.and_eq_true, Bool.and_eq_true, validB_iff, decide_eq_true_eq, decide_eq_true_eq]
 omega
theorem px_small (a b : Int) (w : World) :
  Calls Tryz.prog 169 #[(.agg #[.int .i64 (a), .int .i64 (b)])] w fun e w' => e = .returned (.bool (smlB a b)) ∧ ∃ d, w' = bw w d := by
 have HV := Lib.hid (fun W => angle_Valid a b W)
 unfold smlB
 generalize validB a b = q at *
 cases q
 all_goals
  refine lay_start ?_
  go_enter Tryz.func169, Tryz.ntmps169
  go_wp2_with (go_at_call 38; refine (HV.out _).mono ?_; rintro e w' ⟨rfl, d1, rfl⟩; rw [lay_bw])
 all_goals go_ret
 all_goals exact ⟨ret_bool (by rw [Bool.eq_iff_iff]; simp; try omega), lay_ex _ _⟩
theorem px_altitude (a b : Int) (w : World) :
  Calls Tryz.prog 170 #[(.agg #[.int .i64 (a), .int .i64 (b)])] w fun e w' => e = .returned (.bool (altB a b)) ∧ ∃ d, w' = bw w d := by
 have HV := Lib.hid (fun W => angle_Valid a b W)
 unfold altB
 generalize validB a b = q at *
 cases q
 all_goals
  refine lay_start ?_
  go_enter Tryz.func170, Tryz.ntmps170
  go_wp2_with (go_at_call 38; refine (HV.out _).mono ?_; rintro e w' ⟨rfl, d1, rfl⟩; rw [lay_bw])
 all_goals go_ret
 all_goals exact ⟨ret_bool (by rw [Bool.eq_iff_iff]; simp; try omega), lay_ex _ _⟩
set_option maxHeartbeats 2000000 in
theorem px_InAltitude (x y a b : Int) (hs : smlB x y = true) (ha : altB a b = true) (w : World) :
  Calls Tryz.prog 93 #[(.agg #[.int .i64 (x), .int .i64 (y)]), (.agg #[.int .i64 (a), .int .i64 (b)])] w (ArcE 200000 w) := by
 have HS := Lib.hid (fun W => px_small x y W)
 have HA := Lib.hid (fun W => px_altitude a b W)
 rw [hs] at HS
 rw [ha] at HA
 have hx := smlB_iff.1 hs
 have hb := altB_iff.1 ha
 have hv : validB a b = true := validB_iff.2 (by omega)
 have HC := Lib.hid ((px_trig a b hv).2)
 obtain ⟨p, q, hp, hq, -, hT⟩ := px_times x y _ _ hx (enc_in (lo := a + 5400000) (hi := b + 5400000))
 have HT := Lib.hid hT
 have HP := Lib.hid hp
 have HQ := Lib.hid hq
 have HR := Lib.hid (fun k W h => px_result p q k W h)
 clear hs ha hx hb hv hp hq hT
 generalize encL (a + 5400000) (b + 5400000) = c0 at *
 generalize encH (a + 5400000) (b + 5400000) = c1 at *
 refine lay_start ?_
 go_enter Tryz.func93, Tryz.ntmps93
 go_wp2_with (first | (go_at_call 169; refine (HS.out _).mono ?_; rintro e w' ⟨rfl, d1, rfl⟩; rw [lay_bw]) | (go_at_call 170; refine (HA.out _).mono ?_; rintro e w' ⟨rfl, d2, rfl⟩; rw [lay_bw]))
 have hc0 : ChW (posn w [d2.n, d1.n, 1, 1, 1]) (lay w [.inl (Obj.cells #[.int .i64 0] 250), .inr d2, .inr d1, .inl (Obj.cells #[.int .i64 0, .int .i64 0] 29), .inl (Obj.cells #[.int .i64 a, .int .i64 b] 29), .inl (Obj.cells #[.int .i64 x, .int .i64 y] 29)]) := chW_new w _ _ _ rfl
 have hc1 : ∀ d, ChW (posn w [d2.n, d1.n, 1, 1, 1]) (lay w (.inr d :: [.inl (Obj.cells #[.int .i64 0] 250), .inr d2, .inr d1, .inl (Obj.cells #[.int .i64 0, .int .i64 0] 29), .inl (Obj.cells #[.int .i64 a, .int .i64 b] 29), .inl (Obj.cells #[.int .i64 x, .int .i64 y] 29)])) := fun d => hc0.on [.inr d]
 refine region_bw_tail 10 (by kernel_rfl) (by kernel_rfl) ?_
 simp only [List.take_succ_cons, List.take_zero, List.drop_succ_cons, List.drop_zero]
 repeat (go_big_quiet_step ((first | (go_at_call 173; first | ((with_reducible refine bq (HC.out _ _ hc0) ?_); exact (fun d => ⟨d, rfl⟩)) | ((with_reducible refine bq (HC.out _ _ (hc1 _)) ?_); exact (fun d => lay_join _ _ _ d))) | (go_at_call 172; first | ((with_reducible refine bq (HT.out _ _ hc0) ?_); exact (fun d => ⟨d, rfl⟩)) | ((with_reducible refine bq (HT.out _ _ (hc1 _)) ?_); exact (fun d => lay_join _ _ _ d))) | (go_at_call 171; first | ((with_reducible refine bq (HR.out _ _ hc0) ?_); exact (fun d => ⟨d, rfl⟩)) | ((with_reducible refine bq (HR.out _ _ (hc1 _)) ?_); exact (fun d => lay_join _ _ _ d))))))
 refine wpQuiet_nil ?_
 rintro w' ⟨d, rfl⟩
 rw [lay_bw]
 go_wp2_with fail
 exact bodyPost_ret (v := .tuple #[(.agg #[.int .i64 (p), .int .i64 (q)]), .int .i64 0]) (by simp [results, Tryz.results93, go_sem]) rfl ⟨⟨p, q, 0, fun _ => ⟨HP.out, HQ.out⟩, by decide, fun h => absurd rfl h, rfl⟩, lay_ex _ _⟩
end Go.Proofs.YtcbicpbbjbkiaaaGreatDoor
