/- Contracts and plain laws, several texts in one: InP; BkP; NeP; NeQ; SaP -/
import Derived.Test.YtkhhdpndcidmgaaGreatProg
import Derived.WalkKit
import Derived.WalkSpells
import Derived.WalkLawsBesides
import Derived.Lib.Hide
import Derived.BigQuiet
import Derived.Test.YtkhhdpndcidmgaaGreatSAC
import Derived.Test.YtkhhdpndcidmgaaGreatSAD
import Derived.Test.YtkhhdpndcidmgaaGreatSAE
import Derived.Test.YtkhhdpndcidmgaaGreatSAF
import Derived.Test.YtkhhdpndcidmgaaGreatSBC
import Derived.Test.YtkhhdpndcidmgaaGreatSBE
import Derived.Test.YtkhhdpndcidmgaaGreatSBF
/- Values of the exact rotation within intervals of whole numbers, but for small errors. No program in sight. -/
namespace Go.Proofs.YtkhhdpndcidmgaaGreat
open Go.RowKit

structure InR (l h : Int) (v e : Rat) : Prop where
  lo : (l : Rat) ≤ 1073741824 * v + e
  hi : 1073741824 * v ≤ (h : Rat) + e
theorem InR.mono {l h l' h' : Int} {v e e' : Rat} (x : InR l h v e) (h1 : l' ≤ l) (h2 : h ≤ h') (h3 : e ≤ e') : InR l' h' v e' := by
  obtain ⟨a, b⟩ := x
  have g1 : (l' : Rat) ≤ (l : Rat) := by exact_mod_cast h1
  have g2 : (h : Rat) ≤ (h' : Rat) := by exact_mod_cast h2
  constructor <;> grind
theorem InR.add {a0 a1 b0 b1 : Int} {x y e f : Rat} (hx : InR a0 a1 x e) (hy : InR b0 b1 y f) : InR (a0 + b0) (a1 + b1) (x + y) (e + f) := by
  obtain ⟨a, b⟩ := hx
  obtain ⟨c, d⟩ := hy
  constructor <;> push_cast <;> grind
theorem InR.sub {a0 a1 b0 b1 : Int} {x y e f : Rat} (hx : InR a0 a1 x e) (hy : InR b0 b1 y f) : InR (a0 - b1) (a1 - b0) (x - y) (e + f) := by
  obtain ⟨a, b⟩ := hx
  obtain ⟨c, d⟩ := hy
  constructor <;> push_cast <;> grind
theorem InR.neg {a0 a1 : Int} {x e : Rat} (hx : InR a0 a1 x e) : InR (-a1) (-a0) (-x) e := by
  obtain ⟨a, b⟩ := hx
  constructor <;> push_cast <;> grind
theorem InR.near {l h : Int} {v u e d e' : Rat} (x : InR l h v e) (hn : Nr u v d) (he : e + 1073741824 * d ≤ e') : InR l h u e' := by
  obtain ⟨a, b⟩ := x
  obtain ⟨c, d⟩ := hn
  constructor <;> grind
theorem clampR {a0 a1 X e : Rat} (h : a0 ≤ a1) (h1 : a0 ≤ X + e) (h2 : X ≤ a1 + e) (h0 : 0 ≤ e) : ∃ x, a0 ≤ x ∧ x ≤ a1 ∧ -e ≤ X - x ∧ X - x ≤ e := by
  by_cases c1 : X ≤ a0
  · exact ⟨a0, by grind, h, by grind, by grind⟩
  · by_cases c2 : X ≤ a1
    · exact ⟨X, by grind, c2, by grind, by grind⟩
    · exact ⟨a1, h, by grind, by grind, by grind⟩
theorem linR {a0 a1 x k : Rat} (h0 : a0 ≤ x) (h1 : x ≤ a1) : (a0 * k ≤ x * k ∨ a1 * k ≤ x * k) ∧ (x * k ≤ a0 * k ∨ x * k ≤ a1 * k) := by
  rcases (Rat.le_total : (0 : Rat) ≤ k ∨ k ≤ 0) with g | g
  · exact ⟨.inl (Rat.mul_le_mul_of_nonneg_right h0 g), .inr (Rat.mul_le_mul_of_nonneg_right h1 g)⟩
  · have a := Rat.mul_le_mul_of_nonneg_right h0 (show 0 ≤ -k by grind)
    have b := Rat.mul_le_mul_of_nonneg_right h1 (show 0 ≤ -k by grind)
    exact ⟨.inr (by grind), .inl (by grind)⟩
theorem boxR {a0 a1 b0 b1 x y : Rat} (h0 : a0 ≤ x) (h1 : x ≤ a1) (g0 : b0 ≤ y) (g1 : y ≤ b1) : (a0 * b0 ≤ x * y ∨ a0 * b1 ≤ x * y ∨ a1 * b0 ≤ x * y ∨ a1 * b1 ≤ x * y) ∧ (x * y ≤ a0 * b0 ∨ x * y ≤ a0 * b1 ∨ x * y ≤ a1 * b0 ∨ x * y ≤ a1 * b1) := by
  obtain ⟨p, q⟩ := linR (k := y) h0 h1
  obtain ⟨p0, q0⟩ := linR (k := a0) g0 g1
  obtain ⟨p1, q1⟩ := linR (k := a1) g0 g1
  constructor
  · rcases p with p | p
    · rcases p0 with p0 | p0
      · left; grind
      · right; left; grind
    · rcases p1 with p1 | p1
      · right; right; left; grind
      · right; right; right; grind
  · rcases q with q | q
    · rcases q0 with q0 | q0
      · left; grind
      · right; left; grind
    · rcases q1 with q1 | q1
      · right; right; left; grind
      · right; right; right; grind
theorem castle {a b : Int} (h : a ≤ b) : (a : Rat) ≤ (b : Rat) := by exact_mod_cast h
theorem InR.mul {a0 a1 b0 b1 : Int} {x y e f g : Rat} (hx : InR a0 a1 x e) (hy : InR b0 b1 y f) (ha : -1073741824 ≤ a0 ∧ a0 ≤ a1 ∧ a1 ≤ 1073741824) (hb : -1073741824 ≤ b0 ∧ b0 ≤ b1 ∧ b1 ≤ 1073741824)
    (he : 0 ≤ e) (hf : 0 ≤ f) (hf1 : f ≤ 1073741824) (hg : 2 * e + f ≤ g) : InR (mulL a0 a1 b0 b1) (mulH a0 a1 b0 b1) (x * y) g := by
  obtain ⟨x1, x2⟩ := hx
  obtain ⟨y1, y2⟩ := hy
  obtain ⟨X, hX⟩ : ∃ X, 1073741824 * x = X := ⟨_, rfl⟩
  obtain ⟨Y, hY⟩ : ∃ Y, 1073741824 * y = Y := ⟨_, rfl⟩
  rw [hX] at x1 x2
  rw [hY] at y1 y2
  have ca0 : (-1073741824 : Rat) ≤ (a0 : Rat) := castle ha.1
  have ca : (a0 : Rat) ≤ (a1 : Rat) := castle ha.2.1
  have ca1 : (a1 : Rat) ≤ 1073741824 := castle ha.2.2
  have cb0 : (-1073741824 : Rat) ≤ (b0 : Rat) := castle hb.1
  have cb : (b0 : Rat) ≤ (b1 : Rat) := castle hb.2.1
  have cb1 : (b1 : Rat) ≤ 1073741824 := castle hb.2.2
  obtain ⟨u, u1, u2, u3, u4⟩ := clampR ca x1 x2 he
  obtain ⟨v, v1, v2, v3, v4⟩ := clampR cb y1 y2 hf
  obtain ⟨p1, p2⟩ := boxR u1 u2 v1 v2
  obtain ⟨r1, r2⟩ := rabs (x := Y) (y := X - u) (m := 2147483648) (f := e) (by grind) (by grind) u3 u4
  obtain ⟨s1, s2⟩ := rabs (x := u) (y := Y - v) (m := 1073741824) (f := f) (by grind) (by grind) v3 v4
  have hm := mn4_is (a0 * b0) (a0 * b1) (a1 * b0) (a1 * b1)
  have hx4 := mx4_is (a0 * b0) (a0 * b1) (a1 * b0) (a1 * b1)
  have e1 : m4 a0 a1 b0 b1 = mn (mn (mn (a0 * b0) (a0 * b1)) (a1 * b0)) (a1 * b1) := rfl
  have e2 : x4 a0 a1 b0 b1 = mx (mx (mx (a0 * b0) (a0 * b1)) (a1 * b0)) (a1 * b1) := rfl
  have hlo : mulL a0 a1 b0 b1 * 1073741824 ≤ m4 a0 a1 b0 b1 := by unfold mulL; omega
  have hhi : x4 a0 a1 b0 b1 ≤ mulH a0 a1 b0 b1 * 1073741824 := by unfold mulH; omega
  rw [← e1] at hm
  rw [← e2] at hx4
  obtain ⟨⟨m1, m2, m3, m4'⟩, -⟩ := hm
  obtain ⟨⟨n1, n2, n3, n4⟩, -⟩ := hx4
  generalize m4 a0 a1 b0 b1 = M at *
  generalize x4 a0 a1 b0 b1 = N at *
  generalize mulL a0 a1 b0 b1 = L at *
  generalize mulH a0 a1 b0 b1 = H at *
  have c1 := castle m1
  have c2 := castle m2
  have c3 := castle m3
  have c4 := castle m4'
  have d1 := castle n1
  have d2 := castle n2
  have d3 := castle n3
  have d4 := castle n4
  have cl := castle hlo
  have ch := castle hhi
  push_cast at c1 c2 c3 c4 d1 d2 d3 d4 cl ch
  have hM : (M : Rat) ≤ u * v := by rcases p1 with p | p | p | p <;> grind
  have hN : u * v ≤ (N : Rat) := by rcases p2 with p | p | p | p <;> grind
  have hXY : 1073741824 * (1073741824 * (x * y)) = X * Y := by rw [← hX, ← hY]; grind
  have k1 : u * v ≤ X * Y + 2147483648 * e + 1073741824 * f := by grind
  have k2 : X * Y ≤ u * v + 2147483648 * e + 1073741824 * f := by grind
  obtain ⟨Z, hZ⟩ : ∃ Z, 1073741824 * (x * y) = Z := ⟨_, rfl⟩
  rw [hZ] at hXY
  constructor
  · rw [hZ]; grind
  · rw [hZ]; grind
theorem sin_InR {lo hi n : Int} (h1 : lo ≤ n) (h2 : n ≤ hi) (h3 : -5400000 ≤ n) (h4 : n ≤ 27000000) : InR (encL lo hi) (encH lo hi) (zS n) t31 := by
  have hp := enc_part h1 (Int.le_refl n) h2
  rw [(enc_point n).1, (enc_point n).2] at hp
  have hc := cell_all h3 h4
  exact InR.mono ⟨hc.lo, hc.hi⟩ hp.1 hp.2 Rat.le_refl
theorem zC_quarter (n : Int) : Nr (zS (n + 5400000)) (zC n) (2 * e60) := by
  obtain ⟨q1, q2, q3, q4⟩ := q_near
  obtain ⟨a1, -⟩ := Z_add n 5400000
  obtain ⟨⟨b1, b2⟩, b3, b4⟩ := Z_in n
  rw [a1]
  clear a1
  generalize zS 5400000 = s at *
  generalize zC 5400000 = c at *
  generalize zS n = x at *
  generalize zC n = y at *
  have he : (0 : Rat) < e60 ∧ e60 ≤ 1 / 1000 := by unfold e60; constructor <;> grind
  generalize e60 = e at *
  obtain ⟨p1, p2⟩ := rabs (x := x) (y := c) (m := 1) (f := e) b1 b2 q1 q2
  obtain ⟨p3, p4⟩ := rabs (x := y) (y := s - 1) (m := 1) (f := e) b3 b4 (by grind) (by grind)
  constructor <;> grind
def t30 : Rat := 1 / 1073741824
theorem t_30 : t31 + 1073741824 * (2 * e60) ≤ t30 := by unfold t31 t30 e60; grind
theorem cos_InR {lo hi n : Int} (h1 : lo ≤ n) (h2 : n ≤ hi) (h3 : -10800000 ≤ n) (h4 : n ≤ 21600000) : InR (cosL lo hi) (cosH lo hi) (zC n) t30 := by
  have h := sin_InR (lo := lo + 5400000) (hi := hi + 5400000) (n := n + 5400000) (by omega) (by omega) (by omega) (by omega)
  exact h.near (zC_quarter n).symm t_30
theorem cos_InRT (n : Int) : InR (cosL n n) (cosH n n) (zC (n % 21600000)) t30 := by
  have h := cos_InR (lo := n % 21600000) (hi := n % 21600000) (n := n % 21600000) (Int.le_refl _) (Int.le_refl _) (by omega) (by omega)
  have e1 : cosL n n = cosL (n % 21600000) (n % 21600000) ∧ cosH n n = cosH (n % 21600000) (n % 21600000) := by
    unfold cosL cosH
    rw [(enc_point _).1, (enc_point _).1, (enc_point _).2, (enc_point _).2]
    have := b_shift (n % 21600000 + 5400000) (n / 21600000)
    rw [show n % 21600000 + 5400000 + 21600000 * (n / 21600000) = n + 5400000 by omega] at this
    exact this
  rw [e1.1, e1.2]
  exact h
end Go.Proofs.YtkhhdpndcidmgaaGreat
/- The altitude on the meridian contains the true one; arcsines of intervals. No program in sight. -/
namespace Go.Proofs.YtkhhdpndcidmgaaGreat
open Go.RowKit

theorem alt_InR {lat dec lha : Int} (h0 : -5400000 ≤ lat) (h1 : lat ≤ 5400000) (g0 : -5400000 ≤ dec) (g1 : dec ≤ 5400000) :
    InR (altS0 lat lat dec dec lha lha) (altS1 lat lat dec dec lha lha) (zS lat * zS dec + zC lat * zC dec * zC (lha % 21600000)) (10 * t30) := by
  have a1 := sin_InR (Int.le_refl lat) (Int.le_refl lat) h0 (by omega)
  have a2 := sin_InR (Int.le_refl dec) (Int.le_refl dec) g0 (by omega)
  have b1 := cos_InR (Int.le_refl lat) (Int.le_refl lat) (by omega) (by omega)
  have b2 := cos_InR (Int.le_refl dec) (Int.le_refl dec) (by omega) (by omega)
  have b3 := cos_InRT lha
  have t0 : (0 : Rat) ≤ t30 ∧ t30 ≤ 1 / 1000000 ∧ t31 ≤ t30 ∧ 0 ≤ t31 := by unfold t30 t31; refine ⟨?_, ?_, ?_, ?_⟩ <;> grind
  obtain ⟨t1, t2, t3, t4⟩ := t0
  have m1 := a1.mul a2 (g := 3 * t30) enc_in enc_in (by grind) (by grind) (by grind) (by grind)
  have m2 := b1.mul b2 (g := 3 * t30) (cos_in2 _ _) (cos_in2 _ _) (by grind) (by grind) (by grind) (by grind)
  have m3 := m2.mul b3 (g := 7 * t30) (cc_in _ _ _ _) (cos_in2 _ _) (by grind) (by grind) (by grind) (by grind)
  exact (m1.add m3).mono (Int.le_refl _) (Int.le_refl _) (by grind)
end Go.Proofs.YtkhhdpndcidmgaaGreat
/- An ex-meridian altitude has the latitude: the plain law. No program in sight. -/
namespace Go.Proofs.YtkhhdpndcidmgaaGreat
open Go.RowKit

theorem as_encl {S0 S1 : Int} {X e : Rat} (hE : asE S0 S1 = 0) (hX : InR S0 S1 X e) (h0 : -1 ≤ X) (h1 : X ≤ 1) (he : 0 ≤ e) :
    ((bHi (asL S0 S1) : Int) : Rat) ≤ 1073741824 * X + e ∧ 1073741824 * X ≤ ((bLo (asH S0 S1) : Int) : Rat) + e := by
  obtain ⟨a, b⟩ := hX
  unfold asL asH
  rw [if_pos hE, if_pos hE]
  have h1' := asnI_is (v := mx S0 (-1073741824)) (by rw [mx_eq]; omega)
  have h2' := asnI_is (v := -(mn S1 1073741824)) (by rw [mn_eq]; omega)
  have o := b_odd (n := asnI (-(mn S1 1073741824))) h2'.lo h2'.hi
  constructor
  · have := castle h1'.le
    have hm : ((mx S0 (-1073741824) : Int) : Rat) ≤ 1073741824 * X + e := by
      rcases (show mx S0 (-1073741824) = S0 ∨ mx S0 (-1073741824) = -1073741824 by rw [mx_eq]; omega) with g | g
      · rw [g]; exact a
      · rw [g]; push_cast; grind
    grind
  · have h3 : mn S1 1073741824 ≤ bLo (-(asnI (-(mn S1 1073741824)))) := by
      rw [o.1]
      have := h2'.le
      omega
    have := castle h3
    have hm : 1073741824 * X ≤ ((mn S1 1073741824 : Int) : Rat) + e := by
      rcases (show mn S1 1073741824 = S1 ∨ mn S1 1073741824 = 1073741824 by rw [mn_eq]; omega) with g | g
      · rw [g]; exact b
      · rw [g]; push_cast; grind
    grind
end Go.Proofs.YtkhhdpndcidmgaaGreat
/- An ex-meridian altitude has the latitude: the plain law, second part. No program in sight. -/
namespace Go.Proofs.YtkhhdpndcidmgaaGreat
open Go.RowKit

theorem sq_nn (x : Rat) : 0 ≤ x * x := by
  rcases (Rat.le_total : (0 : Rat) ≤ x ∨ x ≤ 0) with g | g
  · exact rmul0 g g
  · have := rmul0 (show 0 ≤ -x by grind) (show 0 ≤ -x by grind); grind
theorem alt_unit (lat dec : Int) {z : Rat} (z0 : -1 ≤ z) (z1 : z ≤ 1) : -1 ≤ zS lat * zS dec + zC lat * zC dec * z ∧ zS lat * zS dec + zC lat * zC dec * z ≤ 1 := by
  have u := Z_unit lat
  have v := Z_unit dec
  generalize zS lat = a at *
  generalize zC lat = b at *
  generalize zS dec = c at *
  generalize zC dec = d at *
  have s1 := sq_nn (a - c)
  have s2 := sq_nn (a + c)
  have s3 := sq_nn (b - d)
  have s4 := sq_nn (b + d)
  obtain ⟨p1, p2⟩ := rabs (x := z) (y := b * d) (m := 1) (f := (b * b + d * d) / 2) z0 z1 (by grind) (by grind)
  constructor <;> grind
theorem castlt {a b : Int} (h : (a : Rat) < (b : Rat)) : a < b := by exact_mod_cast h
theorem alt_some {lat dec lha : Int} (h0 : -5400000 ≤ lat) (h1 : lat ≤ 5400000) (g0 : -5400000 ≤ dec) (g1 : dec ≤ 5400000) :
    asE (altS0 lat lat dec dec lha lha) (altS1 lat lat dec dec lha lha) = 0 ∧ -5400000 ≤ asL (altS0 lat lat dec dec lha lha) (altS1 lat lat dec dec lha lha) ∧ asL (altS0 lat lat dec dec lha lha) (altS1 lat lat dec dec lha lha) ≤ asH (altS0 lat lat dec dec lha lha) (altS1 lat lat dec dec lha lha) ∧ asH (altS0 lat lat dec dec lha lha) (altS1 lat lat dec dec lha lha) ≤ 5400000 := by
  obtain ⟨-, z0, z1⟩ := Z_in (lha % 21600000)
  obtain ⟨X0, X1⟩ := alt_unit lat dec z0 z1
  obtain ⟨a, b⟩ := alt_InR (lha := lha) h0 h1 g0 g1
  have hf := alt_fx lat lat dec dec lha lha
  have hf' := fxB_iff.1 hf
  generalize altS0 lat lat dec dec lha lha = S0 at *
  generalize altS1 lat lat dec dec lha lha = S1 at *
  generalize zS lat * zS dec + zC lat * zC dec * zC (lha % 21600000) = X at *
  have t0 : 10 * t30 < 1 := by unfold t30; grind
  have c0 : (S0 : Rat) < ((1073741825 : Int) : Rat) := by push_cast; grind
  have c1 : ((-1073741825 : Int) : Rat) < (S1 : Rat) := by push_cast; grind
  have d0 : S0 < 1073741825 := castlt c0
  have d1 : -1073741825 < S1 := castlt c1
  have hE : asE S0 S1 = 0 := by rw [asE_at, hf, if_neg (by decide), mn_eq, mx_eq, if_neg (by omega)]
  refine ⟨hE, ?_⟩
  unfold asL asH
  rw [if_pos hE, if_pos hE]
  have i1 := asnI_in (v := mx S0 (-1073741824)) (by rw [mx_eq]; omega)
  have i2 := asnI_in (v := -(mn S1 1073741824)) (by rw [mn_eq]; omega)
  have hs := asn_sum (y := mx S0 (-1073741824)) (by rw [mx_eq]; omega) (by rw [mx_eq]; omega)
  have hm := asnI_mono (v := -(mn S1 1073741824)) (u := -(mx S0 (-1073741824))) (by rw [mn_eq]; omega) (by rw [mx_eq, mn_eq]; omega)
  omega
end Go.Proofs.YtkhhdpndcidmgaaGreat
/- Directions of points: what the program's decisions mean for the exact rotation. No program in sight. -/
namespace Go.Proofs.YtkhhdpndcidmgaaGreat
open Go.RowKit

def eA : Rat := 1 / 25000000000000000000
theorem siA_near {k : Nat} (hk : k ≤ 5400000) : Nr ((siA k : Rat) / (m192 : Rat)) (zs k) eA ∧ Nr ((coA k : Rat) / (m192 : Rat)) (zc k) eA := by
  unfold siA coA
  by_cases h : 2700000 < k
  · rw [if_pos h, if_pos h]
    obtain ⟨j, hj⟩ : ∃ j, 5400000 - k = j := ⟨_, rfl⟩
    rw [hj]
    have h1 := (cosA_near (r := j) (by omega)).trans (near_zs (r := j) (by omega)).2.symm
    have h2 := (sinA_near (r := j) (by omega)).trans (near_zs (r := j) (by omega)).1.symm
    obtain ⟨z1, z2⟩ := z_sub (a := 5400000) (b := j) (by omega)
    rw [show 5400000 - j = k by omega] at z1 z2
    obtain ⟨q1, q2, q3, q4⟩ := q_natz
    have u := z_unit j
    obtain ⟨b1, b2⟩ := sq_one u
    obtain ⟨b3, b4⟩ := sq_one (x := zc j) (y := zs j) (by grind)
    rw [z1, z2]
    generalize zs 5400000 = s at *
    generalize zc 5400000 = c at *
    generalize zs j = x at *
    generalize zc j = y at *
    obtain ⟨p1, p2⟩ := rabs (x := s - 1) (y := y) (m := e60) (f := 1) (by grind) (by unfold e60 at *; grind) b3 b4
    obtain ⟨p3, p4⟩ := rabs (x := c) (y := x) (m := e60) (f := 1) (by grind) (by grind) b1 b2
    obtain ⟨p5, p6⟩ := rabs (x := s - 1) (y := x) (m := e60) (f := 1) (by grind) (by unfold e60 at *; grind) b1 b2
    obtain ⟨p7, p8⟩ := rabs (x := c) (y := y) (m := e60) (f := 1) (by grind) (by grind) b3 b4
    obtain ⟨n1, n2⟩ := h1
    obtain ⟨n3, n4⟩ := h2
    unfold e60 sml eA at *
    constructor
    · constructor <;> grind
    · constructor <;> grind
  · rw [if_neg h, if_neg h]
    have h1 := (sinA_near (r := k) (by omega)).trans (near_zs (r := k) (by omega)).1.symm
    have h2 := (cosA_near (r := k) (by omega)).trans (near_zs (r := k) (by omega)).2.symm
    exact ⟨h1.le (by unfold sml eA; grind), h2.le (by unfold sml eA; grind)⟩
def rchB (u v : Int) (k : Nat) : Bool := if k = 0 then true else if k = 2700000 then decide (u ≤ v) else decide (siA k * u ≤ coA k * v)
theorem bd31 {u : Int} (h0 : -2147483648 ≤ u) (h1 : u ≤ 2147483648) : (-2147483648 : Rat) ≤ (u : Rat) ∧ (u : Rat) ≤ 2147483648 := ⟨castle h0, castle h1⟩
theorem div_mono {a b : Int} (h : a ≤ b) : (a : Rat) / (m192 : Rat) ≤ (b : Rat) / (m192 : Rat) := by
  rw [Rat.div_def, Rat.div_def]
  exact Rat.mul_le_mul_of_nonneg_right (castle h) (Rat.le_of_lt (Rat.inv_pos.2 m192_rat))
end Go.Proofs.YtkhhdpndcidmgaaGreat
