/- Contracts and plain laws, several texts in one: Pol2; PolW; MixB -/
import Derived.Test.YtakcfcekdngndaaProg
import Derived.WalkKit
import Derived.WalkSpells
import Derived.WalkLawsBesides
import Derived.Lib.Hide
import Derived.BigQuiet
import Derived.Test.YtakcfcekdngndaaBAA
import Derived.Test.YtakcfcekdngndaaBAG
import Derived.Test.YtakcfcekdngndaaBAH
import Derived.Test.YtakcfcekdngndaaBAR
import Derived.Test.YtakcfcekdngndaaBAV
/- The pole star: the plain law, joined. No program in sight. -/
namespace Go.Proofs.Ytakcfcekdngndaa
open Go.RowKit

/-- The bounds of the bearing, as Polaris takes them. -/
def sgM (m0 m : Int) : Int := if 10800000 ≤ m0 then m - 21600000 else m
def pqL (h0 h1 m0 m1 : Int) : Int := mulL (encL h0 h1) (encH h0 h1) (encL (m0 + 5400000) (m1 + 5400000)) (encH (m0 + 5400000) (m1 + 5400000))
def pqH (h0 h1 m0 m1 : Int) : Int := mulH (encL h0 h1) (encH h0 h1) (encL (m0 + 5400000) (m1 + 5400000)) (encH (m0 + 5400000) (m1 + 5400000))
theorem pq_in (h0 h1 m0 m1 : Int) : -1073741824 ≤ pqL h0 h1 m0 m1 ∧ pqL h0 h1 m0 m1 ≤ pqH h0 h1 m0 m1 ∧ pqH h0 h1 m0 m1 ≤ 1073741824 :=
  mul_unit enc_in.1 enc_in.2.1 enc_in.2.2 enc_in.1 enc_in.2.1 enc_in.2.2
theorem div_fx {a0 a1 b0 b1 : Int} (h0 : -1073741824 ≤ a0) (h : a0 ≤ a1) (h1 : a1 ≤ 1073741824) (g0 : 1000000000 ≤ b0) (g : b0 ≤ b1) : fxB (divL a0 b0 b1) (divH a1 b0 b1) = true := by
  have key : ∀ a b : Int, -1073741824 ≤ a → a ≤ 1073741824 → 1000000000 ≤ b → -2147483648 ≤ a * 1073741824 / b ∧ -((-(a * 1073741824)) / b) ≤ 2147483648 := by
    intro a b u0 u1 u2
    constructor
    · rw [Int.le_ediv_iff_mul_le (by omega)]; omega
    · have : -2147483648 ≤ (-(a * 1073741824)) / b := by rw [Int.le_ediv_iff_mul_le (by omega)]; omega
      omega
  have l := div_le (b1 := b1) h (show 0 < b0 by omega)
  have k0 := (key a0 b0 h0 (by omega) g0).1
  have k1 := (key a0 b1 h0 (by omega) (by omega)).1
  have k2 := (key a1 b0 (by omega) h1 g0).2
  have k3 := (key a1 b1 (by omega) h1 (by omega)).2
  rw [fxB_iff]
  refine ⟨l, ?_, ?_⟩
  · unfold divL; rw [mn_eq]; omega
  · unfold divH; rw [mx_eq]; omega
theorem t30_nn : (0 : Rat) ≤ t30 ∧ t30 ≤ 1 / 1000000 ∧ t31 ≤ t30 / 2 ∧ 0 ≤ t31 ∧ 1073741824 * (4 * e60) ≤ t30 / 16 := by unfold t30 t31 e60; refine ⟨?_, ?_, ?_, ?_, ?_⟩ <;> grind
/-- The sine of the altitude that was found. -/
theorem star_sin {l p r h0 h1 : Int} (l0 : -5400000 ≤ l) (l1 : l ≤ 5400000) (p0 : 0 ≤ p) (p1 : p ≤ 180000) (e0 : h0 = asL (altS0 l l (5400000 - p) (5400000 - p) r r) (altS1 l l (5400000 - p) (5400000 - p) r r)) (e1 : h1 = asH (altS0 l l (5400000 - p) (5400000 - p) r r) (altS1 l l (5400000 - p) (5400000 - p) r r)) (h : h0 ≤ h1)
    (hE : asE (altS0 l l (5400000 - p) (5400000 - p) r r) (altS1 l l (5400000 - p) (5400000 - p) r r) = 0) : InR (encL h0 h1) (encH h0 h1) (pX l p r) (21 / 2 * t30) := by
  obtain ⟨t1, t2, t3, t4, t5⟩ := t30_nn
  obtain ⟨-, z0, z1⟩ := Z_in (r % 21600000)
  obtain ⟨X0, X1⟩ := alt_unit l (5400000 - p) z0 z1
  obtain ⟨a, b⟩ := as_encl hE (alt_InR (lha := r) l0 l1 (show -5400000 ≤ 5400000 - p by omega) (by omega)) X0 X1 (by grind)
  rw [← e0] at a
  rw [← e1] at b
  obtain ⟨n1, n2⟩ := pol_near l p r
  have q0 := (enc_part (lo := h0) (hi := h1) (x := h0) (y := h0) (Int.le_refl _) (Int.le_refl _) h).1
  have q1 := (enc_part (lo := h0) (hi := h1) (x := h1) (y := h1) h (Int.le_refl _) (Int.le_refl _)).2
  rw [(enc_point _).1] at q0
  rw [(enc_point _).2] at q1
  have b0 := (bb_le h0).1
  have b1 := (bb_le h1).1
  have c0 := castle (show encL h0 h1 ≤ bHi h0 by omega)
  have c1 := castle (show bLo h1 ≤ encH h0 h1 by omega)
  constructor <;> grind
theorem star_pq {l p r h0 h1 m0 m1 k : Int} (hs : InR (encL h0 h1) (encH h0 h1) (pX l p r) (21 / 2 * t30)) (g0 : m0 ≤ k) (g1 : k ≤ m1) (k0 : -10800000 ≤ k) (k1 : k ≤ 21600000) : InR (pqL h0 h1 m0 m1) (pqH h0 h1 m0 m1) (pX l p r * zC k) (22 * t30) := by
  obtain ⟨t1, t2, -⟩ := t30_nn
  exact hs.mul (cos_InR g0 g1 k0 k1) enc_in enc_in (by grind) t1 (by grind) (by grind)
/-- The true direction lies between the bounds. -/
theorem star_box {p r y0 y1 a b c d n N L M : Int} (p0 : 0 ≤ p) (p1 : p ≤ 180000) (ey0 : y0 = mulL (encL p p) (encH p p) (cosL r r) (cosH r r)) (ey1 : y1 = mulH (encL p p) (encH p p) (cosL r r) (cosH r r))
    (hB : BoxI (cosL p p) (cosH p p) y0 y1 4 a b c d) (D1 : DirP a b n N) (D2 : DirP c d L M) :
    -185001 ≤ n ∧ n ≤ 185001 ∧ -185001 ≤ M ∧ M ≤ 185001 ∧
    1073741824 * (zS p * zC (r % 21600000) * zC M) ≤ 1073741824 * (zC p * zS M) + (1 / 100000000 + 3 * t30) ∧
    1073741824 * (zC p * zS n) ≤ 1073741824 * (zS p * zC (r % 21600000) * zC n) + (1 / 100000000 + 3 * t30) := by
  obtain ⟨t1, t2, t3, t4, -⟩ := t30_nn
  obtain ⟨u1, u2, u3, u4, u5, u6⟩ := pol_bd p0 p1
  have ec : cosL p p = bLo (p + 5400000) ∧ cosH p p = bHi (p + 5400000) := by unfold cosL cosH; exact enc_point _
  have es := enc_point p
  have hy := mul_small (A := 56195306) (a0 := encL p p) (a1 := encH p p) (b0 := cosL r r) (b1 := cosH r r) (by decide) (by omega) (by omega) (cos_in2 _ _) (by omega)
  rw [← ey0, ← ey1] at hy
  obtain ⟨ja, -, ha, hb⟩ := hB.f
  obtain ⟨jc, -, hc, hd⟩ := hB.l
  have a0 : 1072270298 ≤ a ∧ a ≤ 1073741824 := by rw [ha]; unfold crX; split <;> omega
  have c0 : 1072270298 ≤ c ∧ c ≤ 1073741824 := by rw [hc]; unfold crX; split <;> omega
  have b0 : -56195306 ≤ b ∧ b ≤ 56195306 := by rw [hb]; unfold crY; split <;> omega
  have d0 : -56195306 ≤ d ∧ d ≤ 56195306 := by rw [hd]; unfold crY; split <;> omega
  have N1 := dir_near D1 (by omega) (by omega) b0.1 b0.2 a0.1
  have N2 := dir_near D2 (by omega) (by omega) d0.1 d0.2 c0.1
  refine ⟨by omega, by omega, by omega, by omega, ?_⟩
  obtain ⟨cx0, cx1⟩ := cos_InR (Int.le_refl p) (Int.le_refl p) (by omega) (by omega)
  obtain ⟨cy0, cy1⟩ := (sin_InR (Int.le_refl p) (Int.le_refl p) (by omega) (by omega)).mul (g := 2 * t30) (cos_InRT r) enc_in (cos_in2 _ _) t4 t1 (by grind) (by grind)
  rw [← ey0] at cy0
  rw [← ey1] at cy1
  obtain ⟨x, x1, x2, x3, x4⟩ := clampR (castle (show cosL p p ≤ cosH p p by omega)) cx0 cx1 t1
  obtain ⟨y, y1', y2', y3, y4⟩ := clampR (castle (show y0 ≤ y1 by omega)) cy0 cy1 (by grind)
  have P := bear_pts hB D1 D2 (by omega) (by omega) (by omega) (zC_pos (n := n) (by omega) (by omega)) (zC_pos (n := M) (by omega) (by omega)) x1 x2 y1' y2'
  obtain ⟨P1, P2⟩ := P
  obtain ⟨⟨s1, s2⟩, s3, s4⟩ := Z_in n
  obtain ⟨⟨s5, s6⟩, s7, s8⟩ := Z_in M
  generalize hA : 1073741824 * zC p = A at *
  generalize hC : 1073741824 * (zS p * zC (r % 21600000)) = B at *
  have r1 := rabs (x := zC M) (y := B - y) (m := 1) (f := 2 * t30) s7 s8 y3 y4
  have r2 := rabs (x := zS M) (y := A - x) (m := 1) (f := t30) s5 s6 x3 x4
  have r3 := rabs (x := zC n) (y := B - y) (m := 1) (f := 2 * t30) s3 s4 y3 y4
  have r4 := rabs (x := zS n) (y := A - x) (m := 1) (f := t30) s1 s2 x3 x4
  have e1 : 1073741824 * (zS p * zC (r % 21600000) * zC M) = B * zC M := by rw [← hC]; grind
  have e2 : 1073741824 * (zC p * zS M) = A * zS M := by rw [← hA]; grind
  have e3 : 1073741824 * (zS p * zC (r % 21600000) * zC n) = B * zC n := by rw [← hC]; grind
  have e4 : 1073741824 * (zC p * zS n) = A * zS n := by rw [← hA]; grind
  rw [e1, e2, e3, e4]
  clear e1 e2 e3 e4 hA hC
  constructor <;> grind
theorem star_up {sl cl sp cp z cm sm τ : Rat} (h0 : 0 ≤ cl) (h1 : cl ≤ 1) (ht : 0 ≤ τ) (h : 1073741824 * (sp * z * cm) ≤ 1073741824 * (cp * sm) + τ) : 1073741824 * ((sl * cp + cl * sp * z) * cm) ≤ 1073741824 * cp * (sl * cm + cl * sm) + τ := by
  have a := Rat.mul_le_mul_of_nonneg_left h h0
  have b := Rat.mul_le_mul_of_nonneg_right h1 ht
  grind
theorem star_dn {sl cl sp cp z cm sm τ : Rat} (h0 : 0 ≤ cl) (h1 : cl ≤ 1) (ht : 0 ≤ τ) (h : 1073741824 * (cp * sm) ≤ 1073741824 * (sp * z * cm) + τ) : 1073741824 * cp * (sl * cm + cl * sm) ≤ 1073741824 * ((sl * cp + cl * sp * z) * cm) + τ := by
  have a := Rat.mul_le_mul_of_nonneg_left h h0
  have b := Rat.mul_le_mul_of_nonneg_right h1 ht
  grind
theorem zC_mid {l : Int} (h0 : -5160000 ≤ l) (h1 : l ≤ 5160000) : 0 ≤ zC l := by
  have key : ∀ m : Int, 0 ≤ m → m ≤ 5160000 → 0 ≤ zC m := by
    intro m g0 g1
    have e := b_two (n := m + 5400000) (by omega) (by omega)
    obtain ⟨a, b⟩ := cos_InR (Int.le_refl m) (Int.le_refl m) (by omega) (by omega)
    unfold cosL at a
    rw [(enc_point _).1] at a
    have v := b_down (a := m + 5400000) (b := 10560000) (by omega) (by omega) (by omega)
    have w := b_two (n := 10560000) (by decide) (by decide)
    rw [show (10800000 - 10560000 : Int).toNat = 240000 from rfl] at w
    have s := zS_min (m := 240000) (by decide) (by decide)
    have hs := (sin_InR (Int.le_refl (240000 : Int)) (Int.le_refl 240000) (by decide) (by decide)).hi
    rw [(enc_point _).2] at hs
    have u := (b_one (n := 240000) (by decide) (by decide)).2
    rw [show (240000 : Int).toNat = 240000 from rfl] at u
    have o := oneQ_in 240000
    have hq : hiQ 240000 = (sinQ 240000 : Int) + oneQ 240000 := by unfold hiQ; exact Eq.refl _
    have t : t31 ≤ 1 := by unfold t31; grind
    have t' : t30 ≤ 1 := by unfold t30; grind
    have c1 : 310 < bHi 240000 := by
      clear u o hq w e v
      generalize bHi 240000 = X at *
      generalize zS 240000 = Z at *
      refine castlt ?_
      push_cast
      grind
    have c2 := castle (show (300 : Int) ≤ bLo (m + 5400000) by omega)
    push_cast at c2
    grind
  by_cases g : 0 ≤ l
  · exact key l g h1
  · rw [← zC_neg]; exact key (-l) (by omega) (by omega)
/-- What Polaris answers has the latitude. -/
theorem star_law {l p r h0 h1 y0 y1 m0 m1 : Int} (l0 : -5160000 ≤ l) (l1 : l ≤ 5160000) (p0 : 0 ≤ p) (p1 : p ≤ 180000) (e0 : h0 = asL (altS0 l l (5400000 - p) (5400000 - p) r r) (altS1 l l (5400000 - p) (5400000 - p) r r)) (e1 : h1 = asH (altS0 l l (5400000 - p) (5400000 - p) r r) (altS1 l l (5400000 - p) (5400000 - p) r r)) (h : h0 ≤ h1)
    (hE : asE (altS0 l l (5400000 - p) (5400000 - p) r r) (altS1 l l (5400000 - p) (5400000 - p) r r) = 0)
    (ey0 : y0 = mulL (encL p p) (encH p p) (cosL r r) (cosH r r)) (ey1 : y1 = mulH (encL p p) (encH p p) (cosL r r) (cosH r r)) (hb : BearR (cosL p p) (cosH p p) y0 y1 m0 m1) :
    asE (divL (pqL h0 h1 (sgM m0 m0) (sgM m0 m1)) (cosL p p) (cosH p p)) (divH (pqH h0 h1 (sgM m0 m0) (sgM m0 m1)) (cosL p p) (cosH p p)) = 0 ∧
    asL (divL (pqL h0 h1 (sgM m0 m0) (sgM m0 m1)) (cosL p p) (cosH p p)) (divH (pqH h0 h1 (sgM m0 m0) (sgM m0 m1)) (cosL p p) (cosH p p)) - sgM m0 m1 ≤ l ∧
    l ≤ asH (divL (pqL h0 h1 (sgM m0 m0) (sgM m0 m1)) (cosL p p) (cosH p p)) (divH (pqH h0 h1 (sgM m0 m0) (sgM m0 m1)) (cosL p p) (cosH p p)) - sgM m0 m0 := by
  obtain ⟨t1, t2, t3, t4, -⟩ := t30_nn
  obtain ⟨u1, u2, u3, u4, u5, u6⟩ := pol_bd p0 p1
  have ec : cosL p p = bLo (p + 5400000) ∧ cosH p p = bHi (p + 5400000) := by unfold cosL cosH; exact enc_point _
  have es := enc_point p
  have hy := mul_small (A := 56195306) (a0 := encL p p) (a1 := encH p p) (b0 := cosL r r) (b1 := cosH r r) (by decide) (by omega) (by omega) (cos_in2 _ _) (by omega)
  rw [← ey0, ← ey1] at hy
  have bd := bear_bd hb
  obtain ⟨a, b, c, d, n, N, L, M, hB, D1, D2, hm⟩ := bear_dir hb (by omega) (by omega) (by omega) (by omega) (by omega) (by omega)
  obtain ⟨n0, n1, M0, M1, A, B⟩ := star_box p0 p1 ey0 ey1 hB D1 D2
  have hg : sgM m0 m0 = n ∧ (sgM m0 m1 = M ∨ sgM m0 m1 = M + 21600000) ∧ n ≤ sgM m0 m1 := by unfold sgM; split <;> omega
  obtain ⟨g0, g1, g2⟩ := hg
  rw [g0]
  generalize sgM m0 m1 = K at *
  have hs := star_sin (l := l) (p := p) (r := r) (by omega) (by omega) p0 p1 e0 e1 h hE
  have hp := pq_in h0 h1 n K
  have cl0 := zC_mid l0 l1
  have cl1 := (Z_in l).2.2
  have hf := div_fx hp.1 hp.2.1 hp.2.2 (show 1000000000 ≤ cosL p p by omega) (show cosL p p ≤ cosH p p by omega)
  obtain ⟨cx0, cx1⟩ := cos_InR (Int.le_refl p) (Int.le_refl p) (by omega) (by omega)
  obtain ⟨x, x1, x2, x3, x4⟩ := clampR (castle (show cosL p p ≤ cosH p p by omega)) cx0 cx1 t1
  have ht : 26 * t30 + 1 / 100000000 ≤ 1 / 20000000 := by unfold t30; grind
  -- the upper end
  have up : bHi (l + n) ≤ divH (pqH h0 h1 n K) (cosL p p) (cosH p p) := by
    have q := (star_pq hs (Int.le_refl n) g2 (by omega) (by omega)).hi
    have s := star_dn (sl := zS l) (τ := 1 / 100000000 + 3 * t30) cl0 cl1 (by grind) B
    have f := (Z_in (l + n)).1
    rw [← (Z_add l n).1] at s
    have v := rabs (x := zS (l + n)) (y := 1073741824 * zC p - x) (m := 1) (f := t30) f.1 f.2 x3 x4
    refine snap_hi (by omega) (by omega) (div_hi (b := x) (s := zS (l + n)) (t := 26 * t30 + 1 / 100000000) (by omega) (by omega) x1 x2 ?_ ht)
    unfold pX at q
    clear hs B A
    grind
  have hup : -1073741824 ≤ divH (pqH h0 h1 n K) (cosL p p) (cosH p p) := by have := bb_le (l + n); omega
  -- the lower end
  have lo : divL (pqL h0 h1 n K) (cosL p p) (cosH p p) ≤ 1073741824 ∧ (K = M → divL (pqL h0 h1 n K) (cosL p p) (cosH p p) ≤ bLo (l + M)) := by
    rcases g1 with rfl | rfl
    · have q := (star_pq hs g2 (Int.le_refl K) (by omega) (by omega)).lo
      have s := star_up (sl := zS l) (τ := 1 / 100000000 + 3 * t30) cl0 cl1 (by grind) A
      have f := (Z_in (l + K)).1
      rw [← (Z_add l K).1] at s
      have v := rabs (x := zS (l + K)) (y := 1073741824 * zC p - x) (m := 1) (f := t30) f.1 f.2 x3 x4
      have : divL (pqL h0 h1 n K) (cosL p p) (cosH p p) ≤ bLo (l + K) := by
        refine snap_lo (by omega) (by omega) (div_lo (b := x) (s := zS (l + K)) (t := 26 * t30 + 1 / 100000000) (by omega) (by omega) x1 x2 ?_ ht)
        unfold pX at q
        clear hs B A
        grind
      have hb := bb_le (l + K)
      exact ⟨by omega, fun _ => this⟩
    · refine ⟨?_, fun e => by omega⟩
      have q := (star_pq (m0 := n) (m1 := M + 21600000) (k := 5400000) hs (by omega) (by omega) (by omega) (by omega)).lo
      obtain ⟨q1, q2, -⟩ := q_near
      have X := hs.lo
      have en := @enc_in h0 h1
      have c0 := castle (show -1073741824 ≤ encL h0 h1 by omega)
      have hX : -2 ≤ pX l p r ∧ pX l p r ≤ 2 := by
        have c1 := castle (show encL h0 h1 ≤ 1073741824 by omega)
        have c2 := castle (show encH h0 h1 ≤ 1073741824 by omega)
        have Y := hs.hi
        have := castle (show encL h0 h1 ≤ encH h0 h1 by omega)
        push_cast at c0 c1 c2
        constructor <;> grind
      have v := rabs (x := pX l p r) (y := zC 5400000) (m := 2) (f := e60) hX.1 hX.2 q1 q2
      have he : 1073741824 * (2 * e60) + 22 * t30 < 1 := by unfold e60 t30; grind
      have : pqL h0 h1 n (M + 21600000) < 1 := by
        generalize zC 5400000 = Z at *
        refine castlt ?_
        push_cast
        grind
      have hd : divL (pqL h0 h1 n (M + 21600000)) (cosL p p) (cosH p p) ≤ pqL h0 h1 n (M + 21600000) * 1073741824 / cosL p p := by unfold divL; rw [mn_eq]; omega
      have : pqL h0 h1 n (M + 21600000) * 1073741824 / cosL p p ≤ 0 / cosL p p := Int.ediv_le_ediv (by omega) (by omega)
      rw [Int.zero_ediv] at this
      omega
  have hE2 := asE_ok hf lo.1 hup
  have ab := as_bd (divL (pqL h0 h1 n K) (cosL p p) (cosH p p)) (divH (pqH h0 h1 n K) (cosL p p) (cosH p p))
  have hh := as_hi hE2 (k := l + n) (by omega) (by omega) up
  refine ⟨hE2, ?_, by omega⟩
  rcases g1 with rfl | rfl
  · have := as_lo hE2 (k := l + K) (by omega) (by omega) (lo.2 rfl)
    omega
  · omega
end Go.Proofs.Ytakcfcekdngndaa
/- meridian.Polaris (the walk; under way). -/
namespace Go.Proofs.Ytakcfcekdngndaa
open Go.RowKit

set_option maxHeartbeats 1000000 in
set_option maxRecDepth 100000 in
theorem mer_Polaris0 (h0 h1 r p cp0 cp1 sp0 sp1 cr0 cr1 y0 y1 : Int) (w : World) (lh : latB h0 h1 = true) (vr : validB r r = true) (vp : validB p p = true) (p0 : 0 ≤ p) (p1 : p ≤ 180000) (fy : fxB y0 y1 = true) (fx : fxB cp0 cp1 = true) (cpp : 0 < cp0) (hdv : ∀ m0 m1, fxB (divL (pqL h0 h1 m0 m1) cp0 cp1) (divH (pqH h0 h1 m0 m1) cp0 cp1) = true)
    (hAb : ∀ x y, -5400001 ≤ asL x y ∧ asL x y ≤ 5400001 ∧ -5400001 ≤ asH x y ∧ asH x y ≤ 5400001)
    (hE : ∀ m0 m1, BearR cp0 cp1 y0 y1 m0 m1 → asE (divL (pqL h0 h1 (sgM m0 m0) (sgM m0 m1)) cp0 cp1) (divH (pqH h0 h1 (sgM m0 m0) (sgM m0 m1)) cp0 cp1) = 0)
    (HCp : Hid (∀ b W, ChW b W → Calls Try.prog 34 #[.pointer (some ⟨b, 0, none⟩), (.agg #[.int .i64 (p), .int .i64 (p)])] W fun e w' => e = .returned (.agg #[.int .i64 (cp0), .int .i64 (cp1)]) ∧ ∃ d, w' = bw W d))
    (HSp : Hid (∀ b W, ChW b W → Calls Try.prog 44 #[.pointer (some ⟨b, 0, none⟩), (.agg #[.int .i64 (p), .int .i64 (p)])] W fun e w' => e = .returned (.agg #[.int .i64 (sp0), .int .i64 (sp1)]) ∧ ∃ d, w' = bw W d))
    (HCr : Hid (∀ b W, ChW b W → Calls Try.prog 34 #[.pointer (some ⟨b, 0, none⟩), (.agg #[.int .i64 (r), .int .i64 (r)])] W fun e w' => e = .returned (.agg #[.int .i64 (cr0), .int .i64 (cr1)]) ∧ ∃ d, w' = bw W d))
    (HMy : Hid (∀ b W, ChW b W → Calls Try.prog 33 #[.pointer (some ⟨b, 0, none⟩), (.agg #[.int .i64 (sp0), .int .i64 (sp1)]), (.agg #[.int .i64 (cr0), .int .i64 (cr1)])] W fun e w' => e = .returned (.agg #[.int .i64 (y0), .int .i64 (y1)]) ∧ ∃ d, w' = bw W d)) :
    Calls Try.prog 21 #[(.agg #[.int .i64 (h0), .int .i64 (h1)]), (.agg #[.int .i64 (r), .int .i64 (r)]), (.agg #[.int .i64 (p), .int .i64 (p)])] w fun e w' => ∃ m0 m1 d, BearR cp0 cp1 y0 y1 m0 m1 ∧ w' = bw w d ∧ e = .returned (.tuple #[(.agg #[.int .i64 (lsLo (asL (divL (pqL h0 h1 (sgM m0 m0) (sgM m0 m1)) cp0 cp1) (divH (pqH h0 h1 (sgM m0 m0) (sgM m0 m1)) cp0 cp1) - sgM m0 m1) (asH (divL (pqL h0 h1 (sgM m0 m0) (sgM m0 m1)) cp0 cp1) (divH (pqH h0 h1 (sgM m0 m0) (sgM m0 m1)) cp0 cp1) - sgM m0 m0)), .int .i64 (lsHi (asL (divL (pqL h0 h1 (sgM m0 m0) (sgM m0 m1)) cp0 cp1) (divH (pqH h0 h1 (sgM m0 m0) (sgM m0 m1)) cp0 cp1) - sgM m0 m1) (asH (divL (pqL h0 h1 (sgM m0 m0) (sgM m0 m1)) cp0 cp1) (divH (pqH h0 h1 (sgM m0 m0) (sgM m0 m1)) cp0 cp1) - sgM m0 m0))]), .int .i64 (lsE (asL (divL (pqL h0 h1 (sgM m0 m0) (sgM m0 m1)) cp0 cp1) (divH (pqH h0 h1 (sgM m0 m0) (sgM m0 m1)) cp0 cp1) - sgM m0 m1) (asH (divL (pqL h0 h1 (sgM m0 m0) (sgM m0 m1)) cp0 cp1) (divH (pqH h0 h1 (sgM m0 m0) (sgM m0 m1)) cp0 cp1) - sgM m0 m0))]) := by
  have a1 : ¬ p < 0 := by omega
  have a2 : ¬ 180000 < p := by omega
  have HBe := Lib.hid (fun W => ar_Bearing y0 y1 cp0 cp1 fy fx cpp W)
  have HL := Lib.hid (fun W => mer_latitude h0 h1 W)
  have HV1 := Lib.hid (fun W => angle_Valid r r W)
  have HV2 := Lib.hid (fun W => angle_Valid p p W)
  rw [lh] at HL
  rw [vr] at HV1
  rw [vp] at HV2
  refine lay_start ?_
  go_enter Try.func21, Try.ntmps21
  go_wp2_with (first | (go_at_call 24; refine (HL.out _).mono ?_; rintro e w' ⟨rfl, d1, rfl⟩; rw [lay_bw]) | (go_at_call 29; first | ((with_reducible refine (HV1.out _).mono ?_); rintro e w' ⟨rfl, d2, rfl⟩; rw [lay_bw]) | ((with_reducible refine (HV2.out _).mono ?_); rintro e w' ⟨rfl, d3, rfl⟩; rw [lay_bw])))
  have hch : ChW (posn w [d3.n, d2.n, d1.n, 1, 1, 1, 1]) (lay w [.inl (.cells #[.int .i64 0] 47 (0, 0)), .inr d3, .inr d2, .inr d1, .inl (.cells #[.int .i64 0, .int .i64 0] 24 (0, 0)), .inl (.cells #[.int .i64 p, .int .i64 p] 24 (0, 0)), .inl (.cells #[.int .i64 r, .int .i64 r] 24 (0, 0)), .inl (.cells #[.int .i64 h0, .int .i64 h1] 24 (0, 0))]) := chW_new w _ _ _ rfl
  refine (HCp.out _ _ hch).mono ?_
  rintro e w' ⟨rfl, d4, rfl⟩
  rw [lay_bw]
  have hc2 : ChW (posn w [d3.n, d2.n, d1.n, 1, 1, 1, 1]) (lay w [.inl (.cells #[.int .i64 cp0, .int .i64 cp1] 48 (0, 0)), .inr d4, .inl (.cells #[.int .i64 0] 47 (0, 0)), .inr d3, .inr d2, .inr d1, .inl (.cells #[.int .i64 0, .int .i64 0] 24 (0, 0)), .inl (.cells #[.int .i64 p, .int .i64 p] 24 (0, 0)), .inl (.cells #[.int .i64 r, .int .i64 r] 24 (0, 0)), .inl (.cells #[.int .i64 h0, .int .i64 h1] 24 (0, 0))]) := hch.on [.inl (.cells #[.int .i64 cp0, .int .i64 cp1] 48 (0, 0)), .inr d4]
  have HC := Lib.hid (fun e => hc2.bw e)
  simp only [lay_bw] at HC
  have HCH := Lib.hid hch
  clear hch HCp
  go_wp2_with fail
  refine region_mixW [0, 0, 0, 0, 0, 0, 0, 0, 1, 1] (by kernel_rfl) (by kernel_rfl) (by kernel_rfl) ?_
  repeat (first | (refine wpM_quiet (fun K hK => ?_); go_simp; first | (refine hK _ ?_; clear hK K) | (apply Exists.intro; refine ⟨fun _ => ?_, hK _ ?_⟩; (first | (go_at_call 44; ((with_reducible refine bq (HSp.out _ _ (HC.out _)) ?_); exact (fun d => ⟨d, rfl⟩))) | (go_at_call 34; ((with_reducible refine bq (HCr.out _ _ (HC.out _)) ?_); exact (fun d => ⟨d, rfl⟩))) | (go_at_call 33; ((with_reducible refine bq (HMy.out _ _ (HC.out _)) ?_); exact (fun d => ⟨d, rfl⟩)))); clear hK K)) | (refine wpM_special (fun K hK d => ?_); go_simp; refine hK _ _ (by first | exact lay_in w [_] _ | exact lay_in w [_, _] _ | exact lay_in w [_, _, _] _ | exact lay_in w [_, _, _, _] _ | exact lay_in w [_, _, _, _, _] _ | exact lay_in w [_, _, _, _, _, _] _) ?_; clear hK K))
  refine wpM_nil ?_
  intro d
  rw [lay_bw]
  clear hc2 HC
  rename_i e5 e6
  go_wp2_with fail
  refine (HBe.out _).mono ?_
  rintro e w' ⟨m0, m1, rfl, hbr, d6, rfl⟩
  rw [lay_bw]
  have HBR := Lib.hid hbr
  obtain ⟨b1, b2, b3, b4, b5⟩ := bear_bd hbr
  clear hbr
  have k1 : IntKind.i64.wrap (m0 - 21600000) = m0 - 21600000 := IntWalk.i64_in _ (by omega)
  have k2 : IntKind.i64.wrap (m1 - 21600000) = m1 - 21600000 := IntWalk.i64_in _ (by omega)
  have va : validB (m0 - 21600000) (m1 - 21600000) = true := validB_iff.2 (by omega)
  have vb : validB m0 m1 = true := validB_iff.2 (by omega)
  clear b1 b2 b3 b4 b5
  by_cases hm : 10800000 ≤ m0
  · have vm := va
    have hc3 : ChW (posn w [d3.n, d2.n, d1.n, 1, 1, 1, 1]) (lay w [.inl (.cells #[.int .i64 (m0 - 21600000), .int .i64 (m1 - 21600000)] 24 (0, 0)), .inr d6, .inr d, .inr e6, .inl (.cells #[.int .i64 y0, .int .i64 y1] 48 (0, 0)), .inr e5, .inl (.cells #[.int .i64 cp0, .int .i64 cp1] 48 (0, 0)), .inr d4, .inl (.cells #[.int .i64 0] 47 (0, 0)), .inr d3, .inr d2, .inr d1, .inl (.cells #[.int .i64 0, .int .i64 0] 24 (0, 0)), .inl (.cells #[.int .i64 p, .int .i64 p] 24 (0, 0)), .inl (.cells #[.int .i64 r, .int .i64 r] 24 (0, 0)), .inl (.cells #[.int .i64 h0, .int .i64 h1] 24 (0, 0))]) := HCH.out.on [.inl (.cells #[.int .i64 (m0 - 21600000), .int .i64 (m1 - 21600000)] 24 (0, 0)), .inr d6, .inr d, .inr e6, .inl (.cells #[.int .i64 y0, .int .i64 y1] 48 (0, 0)), .inr e5, .inl (.cells #[.int .i64 cp0, .int .i64 cp1] 48 (0, 0)), .inr d4]
    have HC := Lib.hid (fun e => hc3.bw e)
    simp only [lay_bw] at HC
    clear hc3
    have HSh := Lib.hid (fun b W hc => mc_sin b h0 h1 W hc (lat_valid lh))
    have HCm := Lib.hid (fun b W hc => mc_cos b (m0 - 21600000) (m1 - 21600000) W hc vm)
    have HM2 := Lib.hid (fun b W hc => mc_mul b (encL h0 h1) (encH h0 h1) (encL (m0 - 21600000 + 5400000) (m1 - 21600000 + 5400000)) (encH (m0 - 21600000 + 5400000) (m1 - 21600000 + 5400000)) W hc (unit_fx enc_in) (unit_fx enc_in) (unit_fx (mul_unit enc_in.1 enc_in.2.1 enc_in.2.2 enc_in.1 enc_in.2.1 enc_in.2.2)))
    have HD := Lib.hid (fun W => fx_DivP (pqL h0 h1 (m0 - 21600000) (m1 - 21600000)) (pqH h0 h1 (m0 - 21600000) (m1 - 21600000)) cp0 cp1 W (unit_fx (mul_unit enc_in.1 enc_in.2.1 enc_in.2.2 enc_in.1 enc_in.2.1 enc_in.2.2)) fx (by omega))
    rw [hdv (m0 - 21600000) (m1 - 21600000), if_pos rfl, if_pos rfl, if_pos rfl] at HD
    have HK := Lib.hid (fun b W hc => mc_keep b (divL (pqL h0 h1 (m0 - 21600000) (m1 - 21600000)) cp0 cp1) (divH (pqH h0 h1 (m0 - 21600000) (m1 - 21600000)) cp0 cp1) W hc)
    unfold pqL pqH at *
    go_wp2_with fail
    refine region_mixW [0, 0, 0, 0, 0, 0, 0, 0, 0, 0, 0, 0, 0, 0, 1, 1] (by kernel_rfl) (by kernel_rfl) (by kernel_rfl) ?_
    repeat (first | (refine wpM_quiet (fun K hK => ?_); go_simp; first | (refine hK _ ?_; clear hK K) | (apply Exists.intro; refine ⟨fun _ => ?_, hK _ ?_⟩; (first | (go_at_call 44; ((with_reducible refine bq (HSh.out _ _ (HC.out _)) ?_); exact (fun d => ⟨d, rfl⟩))) | (go_at_call 34; ((with_reducible refine bq (HCm.out _ _ (HC.out _)) ?_); exact (fun d => ⟨d, rfl⟩))) | (go_at_call 33; ((with_reducible refine bq (HM2.out _ _ (HC.out _)) ?_); exact (fun d => ⟨d, rfl⟩))) | (go_at_call 42; exact bq (HD.out _) (fun d => ⟨d, rfl⟩)) | (go_at_call 30; ((with_reducible refine bq (HK.out _ _ (HC.out _)) ?_); exact (fun d => ⟨d, rfl⟩)))); clear hK K)) | (refine wpM_special (fun K hK d => ?_); go_simp; refine hK _ _ (by first | exact lay_in w [_] _ | exact lay_in w [_, _] _ | exact lay_in w [_, _, _] _ | exact lay_in w [_, _, _, _] _ | exact lay_in w [_, _, _, _, _] _ | exact lay_in w [_, _, _, _, _, _] _) ?_; clear hK K))
    refine wpM_nil ?_
    intro d
    rw [lay_bw]
    have HA := Lib.hid (fun W => ar_Asin (divL (pqL h0 h1 (m0 - 21600000) (m1 - 21600000)) cp0 cp1) (divH (pqH h0 h1 (m0 - 21600000) (m1 - 21600000)) cp0 cp1) W)
    unfold pqL pqH at HA
    have hq := hAb (divL (pqL h0 h1 (m0 - 21600000) (m1 - 21600000)) cp0 cp1) (divH (pqH h0 h1 (m0 - 21600000) (m1 - 21600000)) cp0 cp1)
    unfold pqL pqH at hq
    obtain ⟨q1, q2, q3, q4⟩ := hq
    have hE2 := hE _ _ HBR.out
    have s0 : sgM m0 m0 = m0 - 21600000 := by unfold sgM; first | exact if_pos hm | exact if_neg (by omega)
    have s1 : sgM m0 m1 = m1 - 21600000 := by unfold sgM; first | exact if_pos hm | exact if_neg (by omega)
    rw [s0, s1] at hE2
    rw [hE2] at HA
    obtain ⟨A0, hA0⟩ : ∃ A0, asL (divL (mulL (encL h0 h1) (encH h0 h1) (encL (m0 - 21600000 + 5400000) (m1 - 21600000 + 5400000)) (encH (m0 - 21600000 + 5400000) (m1 - 21600000 + 5400000))) cp0 cp1) (divH (mulH (encL h0 h1) (encH h0 h1) (encL (m0 - 21600000 + 5400000) (m1 - 21600000 + 5400000)) (encH (m0 - 21600000 + 5400000) (m1 - 21600000 + 5400000))) cp0 cp1) = A0 := ⟨_, rfl⟩
    obtain ⟨A1, hA1⟩ : ∃ A1, asH (divL (mulL (encL h0 h1) (encH h0 h1) (encL (m0 - 21600000 + 5400000) (m1 - 21600000 + 5400000)) (encH (m0 - 21600000 + 5400000) (m1 - 21600000 + 5400000))) cp0 cp1) (divH (mulH (encL h0 h1) (encH h0 h1) (encL (m0 - 21600000 + 5400000) (m1 - 21600000 + 5400000)) (encH (m0 - 21600000 + 5400000) (m1 - 21600000 + 5400000))) cp0 cp1) = A1 := ⟨_, rfl⟩
    rw [hA0, hA1] at HA
    rw [hA0] at q1 q2
    rw [hA1] at q3 q4
    have hv := validB_iff.1 vm
    obtain ⟨B0, hB0⟩ : ∃ B0, A0 - (m1 - 21600000) = B0 := ⟨_, rfl⟩
    obtain ⟨B1, hB1⟩ : ∃ B1, A1 - (m0 - 21600000) = B1 := ⟨_, rfl⟩
    have HMi := Lib.hid (fun W => mer_minus A0 A1 (m0 - 21600000) (m1 - 21600000) W (by omega) (by omega) (by omega) (by omega))
    rw [hB0, hB1] at HMi
    have HLs := Lib.hid (fun W => mer_latitudes B0 B1 W)
    clear q1 q2 q3 q4 hv hE2
    go_wp2_with (first | (go_at_call 43; refine (HA.out _).mono ?_; rintro e w' ⟨rfl, d7, rfl⟩; rw [lay_bw]) | (go_at_call 28; refine (HMi.out _).mono ?_; rintro e w' ⟨rfl, d8, rfl⟩; rw [lay_bw]) | (go_at_call 25; refine (HLs.out _).mono ?_; rintro e w' ⟨rfl, d9, rfl⟩; rw [lay_bw]))
    refine bodyPost_ret (v := .tuple #[(.agg #[.int .i64 (lsLo B0 B1), .int .i64 (lsHi B0 B1)]), .int .i64 (lsE B0 B1)]) (by simp [results, Try.results21, go_sem]) rfl ⟨m0, m1, _, HBR.out, (lay_ex _ _).choose_spec, ?_⟩
    rw [s0, s1]
    unfold pqL pqH
    rw [hA0, hA1, hB0, hB1]
  · have vm := vb
    have hc3 : ChW (posn w [d3.n, d2.n, d1.n, 1, 1, 1, 1]) (lay w [.inl (.cells #[.int .i64 (m0), .int .i64 (m1)] 24 (0, 0)), .inr d6, .inr d, .inr e6, .inl (.cells #[.int .i64 y0, .int .i64 y1] 48 (0, 0)), .inr e5, .inl (.cells #[.int .i64 cp0, .int .i64 cp1] 48 (0, 0)), .inr d4, .inl (.cells #[.int .i64 0] 47 (0, 0)), .inr d3, .inr d2, .inr d1, .inl (.cells #[.int .i64 0, .int .i64 0] 24 (0, 0)), .inl (.cells #[.int .i64 p, .int .i64 p] 24 (0, 0)), .inl (.cells #[.int .i64 r, .int .i64 r] 24 (0, 0)), .inl (.cells #[.int .i64 h0, .int .i64 h1] 24 (0, 0))]) := HCH.out.on [.inl (.cells #[.int .i64 (m0), .int .i64 (m1)] 24 (0, 0)), .inr d6, .inr d, .inr e6, .inl (.cells #[.int .i64 y0, .int .i64 y1] 48 (0, 0)), .inr e5, .inl (.cells #[.int .i64 cp0, .int .i64 cp1] 48 (0, 0)), .inr d4]
    have HC := Lib.hid (fun e => hc3.bw e)
    simp only [lay_bw] at HC
    clear hc3
    have HSh := Lib.hid (fun b W hc => mc_sin b h0 h1 W hc (lat_valid lh))
    have HCm := Lib.hid (fun b W hc => mc_cos b (m0) (m1) W hc vm)
    have HM2 := Lib.hid (fun b W hc => mc_mul b (encL h0 h1) (encH h0 h1) (encL (m0 + 5400000) (m1 + 5400000)) (encH (m0 + 5400000) (m1 + 5400000)) W hc (unit_fx enc_in) (unit_fx enc_in) (unit_fx (mul_unit enc_in.1 enc_in.2.1 enc_in.2.2 enc_in.1 enc_in.2.1 enc_in.2.2)))
    have HD := Lib.hid (fun W => fx_DivP (pqL h0 h1 (m0) (m1)) (pqH h0 h1 (m0) (m1)) cp0 cp1 W (unit_fx (mul_unit enc_in.1 enc_in.2.1 enc_in.2.2 enc_in.1 enc_in.2.1 enc_in.2.2)) fx (by omega))
    rw [hdv (m0) (m1), if_pos rfl, if_pos rfl, if_pos rfl] at HD
    have HK := Lib.hid (fun b W hc => mc_keep b (divL (pqL h0 h1 (m0) (m1)) cp0 cp1) (divH (pqH h0 h1 (m0) (m1)) cp0 cp1) W hc)
    unfold pqL pqH at *
    go_wp2_with fail
    refine region_mixW [0, 0, 0, 0, 0, 0, 0, 0, 0, 0, 0, 0, 0, 0, 1, 1] (by kernel_rfl) (by kernel_rfl) (by kernel_rfl) ?_
    repeat (first | (refine wpM_quiet (fun K hK => ?_); go_simp; first | (refine hK _ ?_; clear hK K) | (apply Exists.intro; refine ⟨fun _ => ?_, hK _ ?_⟩; (first | (go_at_call 44; ((with_reducible refine bq (HSh.out _ _ (HC.out _)) ?_); exact (fun d => ⟨d, rfl⟩))) | (go_at_call 34; ((with_reducible refine bq (HCm.out _ _ (HC.out _)) ?_); exact (fun d => ⟨d, rfl⟩))) | (go_at_call 33; ((with_reducible refine bq (HM2.out _ _ (HC.out _)) ?_); exact (fun d => ⟨d, rfl⟩))) | (go_at_call 42; exact bq (HD.out _) (fun d => ⟨d, rfl⟩)) | (go_at_call 30; ((with_reducible refine bq (HK.out _ _ (HC.out _)) ?_); exact (fun d => ⟨d, rfl⟩)))); clear hK K)) | (refine wpM_special (fun K hK d => ?_); go_simp; refine hK _ _ (by first | exact lay_in w [_] _ | exact lay_in w [_, _] _ | exact lay_in w [_, _, _] _ | exact lay_in w [_, _, _, _] _ | exact lay_in w [_, _, _, _, _] _ | exact lay_in w [_, _, _, _, _, _] _) ?_; clear hK K))
    refine wpM_nil ?_
    intro d
    rw [lay_bw]
    have HA := Lib.hid (fun W => ar_Asin (divL (pqL h0 h1 (m0) (m1)) cp0 cp1) (divH (pqH h0 h1 (m0) (m1)) cp0 cp1) W)
    unfold pqL pqH at HA
    have hq := hAb (divL (pqL h0 h1 (m0) (m1)) cp0 cp1) (divH (pqH h0 h1 (m0) (m1)) cp0 cp1)
    unfold pqL pqH at hq
    obtain ⟨q1, q2, q3, q4⟩ := hq
    have hE2 := hE _ _ HBR.out
    have s0 : sgM m0 m0 = m0 := by unfold sgM; first | exact if_pos hm | exact if_neg (by omega)
    have s1 : sgM m0 m1 = m1 := by unfold sgM; first | exact if_pos hm | exact if_neg (by omega)
    rw [s0, s1] at hE2
    rw [hE2] at HA
    obtain ⟨A0, hA0⟩ : ∃ A0, asL (divL (mulL (encL h0 h1) (encH h0 h1) (encL (m0 + 5400000) (m1 + 5400000)) (encH (m0 + 5400000) (m1 + 5400000))) cp0 cp1) (divH (mulH (encL h0 h1) (encH h0 h1) (encL (m0 + 5400000) (m1 + 5400000)) (encH (m0 + 5400000) (m1 + 5400000))) cp0 cp1) = A0 := ⟨_, rfl⟩
    obtain ⟨A1, hA1⟩ : ∃ A1, asH (divL (mulL (encL h0 h1) (encH h0 h1) (encL (m0 + 5400000) (m1 + 5400000)) (encH (m0 + 5400000) (m1 + 5400000))) cp0 cp1) (divH (mulH (encL h0 h1) (encH h0 h1) (encL (m0 + 5400000) (m1 + 5400000)) (encH (m0 + 5400000) (m1 + 5400000))) cp0 cp1) = A1 := ⟨_, rfl⟩
    rw [hA0, hA1] at HA
    rw [hA0] at q1 q2
    rw [hA1] at q3 q4
    have hv := validB_iff.1 vm
    obtain ⟨B0, hB0⟩ : ∃ B0, A0 - (m1) = B0 := ⟨_, rfl⟩
    obtain ⟨B1, hB1⟩ : ∃ B1, A1 - (m0) = B1 := ⟨_, rfl⟩
    have HMi := Lib.hid (fun W => mer_minus A0 A1 (m0) (m1) W (by omega) (by omega) (by omega) (by omega))
    rw [hB0, hB1] at HMi
    have HLs := Lib.hid (fun W => mer_latitudes B0 B1 W)
    clear q1 q2 q3 q4 hv hE2
    go_wp2_with (first | (go_at_call 43; refine (HA.out _).mono ?_; rintro e w' ⟨rfl, d7, rfl⟩; rw [lay_bw]) | (go_at_call 28; refine (HMi.out _).mono ?_; rintro e w' ⟨rfl, d8, rfl⟩; rw [lay_bw]) | (go_at_call 25; refine (HLs.out _).mono ?_; rintro e w' ⟨rfl, d9, rfl⟩; rw [lay_bw]))
    refine bodyPost_ret (v := .tuple #[(.agg #[.int .i64 (lsLo B0 B1), .int .i64 (lsHi B0 B1)]), .int .i64 (lsE B0 B1)]) (by simp [results, Try.results21, go_sem]) rfl ⟨m0, m1, _, HBR.out, (lay_ex _ _).choose_spec, ?_⟩
    rw [s0, s1]
    unfold pqL pqH
    rw [hA0, hA1, hB0, hB1]
end Go.Proofs.Ytakcfcekdngndaa
/- Regions that draw their order, by a schedule that may branch in two: where two operations that make memory are ready, each may come first. No program in sight. -/
namespace Go.Proofs.Ytakcfcekdngndaa
open Go.RowKit

inductive Sch where
  | done : Sch
  | q : Nat → Sch → Sch
  | one : Nat → Sch → Sch
  | two : Nat → Sch → Nat → Sch → Sch
section
variable {P : Program} {md : Region.Mode} {κ : Type} {Cl : κ → World} {l : List Oper} {ops : Array Oper}

def spB (P : Program) (l : List Oper) (ops : Array Oper) (Cl : κ → World) (i : Nat) (X : Act → World → Prop) (a : Act) (w : World) : Prop :=
  ∃ o, l[i]? = some o ∧ ∀ d, (if Region.wanted o (yielded ops a.tmps) then sOp P o a (fun a' w' => (∃ k, w' = Cl k) ∧ X a' w') (bw w d) else (∃ k, bw w d = Cl k) ∧ X (a.put o.dst undef) (bw w d))
def wpMB (P : Program) (l : List Oper) (ops : Array Oper) (Cl : κ → World) (Q : Act → World → Prop) : Sch → Act → World → Prop
  | .done, a, w => ∀ d, Q a (bw w d)
  | .q i s, a, w => ∃ o, l[i]? = some o ∧ (if Region.wanted o (yielded ops a.tmps) then mOp P Cl o a (fun a' => wpMB P l ops Cl Q s a' w) else wpMB P l ops Cl Q s (a.put o.dst undef) w)
  | .one i s, a, w => spB P l ops Cl i (wpMB P l ops Cl Q s) a w
  | .two i s j t, a, w => spB P l ops Cl i (wpMB P l ops Cl Q s) a w ∧ spB P l ops Cl j (wpMB P l ops Cl Q t) a w
def lexMB (md : Region.Mode) (ops : Array Oper) (n g : Nat) : Nat → Sch → Array Bool → Bool
  | 0, .done, listed => Region.seqB md ops g n listed
  | f + 1, .q i s, listed => decide (i < n) && (Region.ready md ops listed).contains i && Region.free md ops listed i && lexMB md ops n g f s (listed.setIfInBounds i true)
  | f + 1, .one i s, listed => decide (i < n) && decide (Region.ready md ops listed = [i]) && lexMB md ops n g f s (listed.setIfInBounds i true)
  | f + 1, .two i s j t, listed => decide (i < n) && decide (j < n) && decide (Region.ready md ops listed = [i, j]) && lexMB md ops n g f s (listed.setIfInBounds i true) && lexMB md ops n g f t (listed.setIfInBounds j true)
  | _, _, _ => false

theorem mixT_of_wpMB {n g : Nat} {Lq : Act → World → Prop} (hCl : ∀ k d, ∃ k', bw (Cl k) d = Cl k') (hl : ∀ j : Nat, l[j]? = ops[j]?) (hsel : Region.noSelect ops = true) (hs : Region.sinkB md ops n = true) (hc : Region.chainB md ops n = true) (hn : n < ops.size) :
    ∀ (f : Nat) (s : Sch) (listed : Array Bool) (a : Act) (w : World), HeadInv md ops n listed → (∃ k, w = Cl k) → lexMB md ops n g f s listed = true →
    wpMB P l ops Cl Lq s a w → mixT P md ops Cl n (fun listed' a' w' => Region.seqB md ops g n listed' = true ∧ Lq a' w') f listed a w
  | 0, .done, listed, a, w, inv, hw, hB, h => fun d => ⟨hB, h d⟩
  | f + 1, .q k s, listed, a, w, inv, hw, hB, h => by
    simp only [lexMB, Bool.and_eq_true, decide_eq_true_eq] at hB
    obtain ⟨⟨⟨hkn, hr⟩, hf⟩, hB'⟩ := hB
    obtain ⟨o, ho, h⟩ := h
    have h0 : ops[k]? = some o := (hl k).symm.trans ho
    have hr' : k ∈ Region.ready md ops listed := by simpa using hr
    have hy : ∃ v, YieldsM P ops Cl o v a ∧ wpMB P l ops Cl Lq s (a.put o.dst v) w := by
      by_cases hw1 : Region.wanted o (yielded ops a.tmps) = true
      · rw [if_pos hw1] at h
        obtain ⟨v, h1, h2⟩ := h
        exact ⟨v, .inl ⟨hw1, h1⟩, h2⟩
      · rw [if_neg hw1] at h
        exact ⟨undef, .inr ⟨by simpa using hw1, rfl⟩, h⟩
    obtain ⟨v, hy, hK⟩ := hy
    exact mixT_first hCl h0 (Region.noSelect_spec hsel) hs hc hn hkn (fun _ _ _ hL => seqB_ready hL.1) f listed a w hw inv (Region.free_spec h0 hf) hr' hy
      (mixT_of_wpMB hCl hl hsel hs hc hn f s _ _ w (inv.set hr' hkn) hw hB' hK)
  | f + 1, .one k s, listed, a, w, inv, hw, hB, h => by
    simp only [lexMB, Bool.and_eq_true, decide_eq_true_eq] at hB
    obtain ⟨⟨hkn, hr⟩, hB'⟩ := hB
    obtain ⟨o, ho, h⟩ := h
    have h0 : ops[k]? = some o := (hl k).symm.trans ho
    have inv' := inv.set (i := k) (by rw [hr]; simp) hkn
    refine ⟨by rw [hr]; simp, fun i hi => ?_⟩
    rw [hr] at hi
    obtain rfl : i = k := by simpa using hi
    refine ⟨hkn, fun d => ?_⟩
    have hd := h d
    rw [oneOp_some h0]
    split
    · rename_i hw1; rw [if_pos hw1] at hd
      exact sOp_mono (fun a' w' hk' => ⟨hk'.1, mixT_of_wpMB hCl hl hsel hs hc hn f s _ _ w' inv' hk'.1 hB' hk'.2⟩) hd
    · rename_i hw1; rw [if_neg hw1] at hd
      exact ⟨hd.1, mixT_of_wpMB hCl hl hsel hs hc hn f s _ _ _ inv' hd.1 hB' hd.2⟩
  | f + 1, .two k s j t, listed, a, w, inv, hw, hB, h => by
    simp only [lexMB, Bool.and_eq_true, decide_eq_true_eq] at hB
    obtain ⟨⟨⟨⟨hkn, hjn⟩, hr⟩, hB1⟩, hB2⟩ := hB
    obtain ⟨⟨o1, ho1, h1⟩, o2, ho2, h2⟩ := h
    have e1 : ops[k]? = some o1 := (hl k).symm.trans ho1
    have e2 : ops[j]? = some o2 := (hl j).symm.trans ho2
    have inv1 := inv.set (i := k) (by rw [hr]; simp) hkn
    have inv2 := inv.set (i := j) (by rw [hr]; simp) hjn
    refine ⟨by rw [hr]; simp, fun i hi => ?_⟩
    rw [hr] at hi
    have hi' : i = k ∨ i = j := by simpa using hi
    rcases hi' with rfl | rfl
    · refine ⟨hkn, fun d => ?_⟩
      have hd := h1 d
      rw [oneOp_some e1]
      split
      · rename_i hw1; rw [if_pos hw1] at hd
        exact sOp_mono (fun a' w' hk' => ⟨hk'.1, mixT_of_wpMB hCl hl hsel hs hc hn f s _ _ w' inv1 hk'.1 hB1 hk'.2⟩) hd
      · rename_i hw1; rw [if_neg hw1] at hd
        exact ⟨hd.1, mixT_of_wpMB hCl hl hsel hs hc hn f s _ _ _ inv1 hd.1 hB1 hd.2⟩
    · refine ⟨hjn, fun d => ?_⟩
      have hd := h2 d
      rw [oneOp_some e2]
      split
      · rename_i hw1; rw [if_pos hw1] at hd
        exact sOp_mono (fun a' w' hk' => ⟨hk'.1, mixT_of_wpMB hCl hl hsel hs hc hn f t _ _ w' inv2 hk'.1 hB2 hk'.2⟩) hd
      · rename_i hw1; rw [if_neg hw1] at hd
        exact ⟨hd.1, mixT_of_wpMB hCl hl hsel hs hc hn f t _ _ _ inv2 hd.1 hB2 hd.2⟩
  | 0, .q _ _, _, _, _, _, _, hB, _ => by simp [lexMB] at hB
  | 0, .one _ _, _, _, _, _, _, hB, _ => by simp [lexMB] at hB
  | 0, .two _ _ _ _, _, _, _, _, _, hB, _ => by simp [lexMB] at hB
  | _ + 1, .done, _, _, _, _, _, hB, _ => by simp [lexMB] at hB

theorem region_mixB {id : Nat} {Q : Exit → Act → World → Prop} {a : Act} {w : World} {l : List Oper} (n : Nat) (s : Sch) (hm : P.follows .mixedOrders = true) (hsel : Region.noSelect l.toArray = true)
    (hs : Region.sinkB .any l.toArray n = true) (hc : Region.chainB .any l.toArray n = true) (hn : n < l.toArray.size)
    (hB : lexMB .any l.toArray n (l.toArray.size - n) n s (Array.replicate l.toArray.size false) = true)
    (h : wpMB P l l.toArray (fun d => bw w d) (fun a w => wpList P l.toArray Q (l.drop n) a w) s a w) : (Code.region id l.toArray true).wp P Q a w := by
  have hdl : (l.drop n).length = l.toArray.size - n := by simp
  have inv0 : HeadInv .any l.toArray n (Array.replicate l.toArray.size false) :=
    ⟨by simp, fun j oj _ hl => (by rw [getD_replicate_false] at hl; cases hl), fun t _ ht => getD_in (by simpa using ht) (getD_replicate_false _ _)⟩
  have H := mixT_of_wpMB (md := .any) (g := l.toArray.size - n) (fun k d => ⟨_, bw_bw w k d⟩) (fun j => by simp) hsel hs hc hn n s _ a w inv0 ⟨noExt w, (bw_noExt w).symm⟩ hB h
  refine wp_region_any hm ?_
  have := mixT_ext (⟨#[], w.drawn + 1⟩ : Ext) H
  rw [← bw_drewExt] at this
  have := mixT_sound (Q' := Q) (g := l.toArray.size - n) (fun listed a' w' hL => by
    have := wpAny_of_seq (md := .any) (Q' := Q) (l.drop n) n listed a' w' (fun j => by simp [List.getElem?_drop]) (by rw [hdl]; exact hL.1) hL.2
    rwa [hdl] at this) _ _ _ _ this
  rw [show n + (l.toArray.size - n) = l.toArray.size by omega] at this
  exact this
theorem wpMB_quiet {Q : Act → World → Prop} {a : Act} {w : World} {i : Nat} {o : Oper} {s : Sch} (ho : l[i]? = some o)
    (h : ∀ K : Act → Prop, (∀ a, wpMB P l ops Cl Q s a w → K a) → if Region.wanted o (yielded ops a.tmps) then mOp P Cl o a K else K (a.put o.dst undef)) : wpMB P l ops Cl Q (.q i s) a w :=
  ⟨o, ho, h _ (fun _ h => h)⟩
theorem spB_of {X : Act → World → Prop} {a : Act} {w : World} {i : Nat} {o : Oper} (ho : l[i]? = some o)
    (h : ∀ (K : Act → World → Prop), (∀ a' w', (∃ k, w' = Cl k) → X a' w' → K a' w') → ∀ d, if Region.wanted o (yielded ops a.tmps) then sOp P o a K (bw w d) else K (a.put o.dst undef) (bw w d)) : spB P l ops Cl i X a w :=
  ⟨o, ho, fun d => by
    have := h (fun a' w' => (∃ k, w' = Cl k) ∧ X a' w') (fun _ _ h1 h2 => ⟨h1, h2⟩) d
    split
    · rename_i hw; rw [if_pos hw] at this; exact this
    · rename_i hw; rw [if_neg hw] at this; exact this⟩
theorem wpMB_one {Q : Act → World → Prop} {a : Act} {w : World} {i : Nat} {s : Sch} (h : spB P l ops Cl i (wpMB P l ops Cl Q s) a w) : wpMB P l ops Cl Q (.one i s) a w := h
theorem wpMB_two {Q : Act → World → Prop} {a : Act} {w : World} {i j : Nat} {s t : Sch} (h1 : spB P l ops Cl i (wpMB P l ops Cl Q s) a w) (h2 : spB P l ops Cl j (wpMB P l ops Cl Q t) a w) : wpMB P l ops Cl Q (.two i s j t) a w := ⟨h1, h2⟩
theorem wpMB_done {Q : Act → World → Prop} {a : Act} {w : World} (h : ∀ d, Q a (bw w d)) : wpMB P l ops Cl Q .done a w := h
end
end Go.Proofs.Ytakcfcekdngndaa
