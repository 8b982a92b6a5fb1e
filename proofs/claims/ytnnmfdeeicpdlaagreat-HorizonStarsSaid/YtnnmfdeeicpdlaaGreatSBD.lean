/- Contracts and plain laws, several texts in one: Hs4; Hs5; Hz6; Hz1; Hz7 -/
import Derived.Test.YtnnmfdeeicpdlaaGreatProg
import Derived.WalkKit
import Derived.WalkSpells
import Derived.WalkLawsBesides
import Derived.Lib.Hide
import Derived.BigQuiet
import Derived.Test.YtnnmfdeeicpdlaaGreatSAA
import Derived.Test.YtnnmfdeeicpdlaaGreatSAH
import Derived.Test.YtnnmfdeeicpdlaaGreatSAR
import Derived.Test.YtnnmfdeeicpdlaaGreatSAV
import Derived.Test.YtnnmfdeeicpdlaaGreatSAW
import Derived.Test.YtnnmfdeeicpdlaaGreatSBA
import Derived.Test.YtnnmfdeeicpdlaaGreatSBB
import Derived.Test.YtnnmfdeeicpdlaaGreatSBC
/- A star over the equator: its sides by the phase. No program in sight. -/
namespace Go.Proofs.YtnnmfdeeicpdlaaGreat
open Go.RowKit

theorem zS_by {n : Int} {k : Int} (h0 : 0 ≤ k) (h1 : k ≤ 100) : 1073741824 * (zS (n + k) - zS n) ≤ 12500000 ∧ -12500000 ≤ 1073741824 * (zS (n + k) - zS n) := by
  have z3 := (Z_add n k).1
  obtain ⟨⟨a1, a2⟩, b1, b2⟩ := Z_in n
  have c1 := zc_low (n := k) h0 (by omega)
  have c2 := (Z_in k).2.2
  have s1 := (cell_all (n := k) (by omega) (by omega)).hi
  have s2 := (b_up (a := k) (b := 35000) (by omega) (by omega) (by decide)).2
  rw [b_35] at s2
  have s3 := castle s2
  have s4 := (cell_all (n := k) (by omega) (by omega)).lo
  have s5 := castle (bLo_pos (n := k) h0 (by omega))
  have ht : t31 ≤ 1 / 1000000000 := by unfold t31; grind
  push_cast at s3 s5
  rw [z3]
  generalize zS n = a at *
  generalize zC n = b at *
  generalize zS k = s at *
  generalize zC k = c at *
  have hs0 : -(1 / 100) ≤ 1073741824 * s := by grind
  have hs1 : 1073741824 * s ≤ 10931672 := by grind
  obtain ⟨p1, p2⟩ := rabs (x := a) (y := 1 - c) (m := 1) (f := 1554394 / 1073741824) a1 a2 (by grind) (by grind)
  obtain ⟨p3, p4⟩ := rabs (x := b) (y := s) (m := 1) (f := 10931672 / 1073741824) b1 b2 (by grind) (by grind)
  constructor <;> grind
theorem b_by {m n : Int} (h0 : 0 ≤ m) (h1 : m ≤ 10800000) (g0 : 0 ≤ n) (g1 : n ≤ 10800000) (h : m - n ≤ 100) (h' : n - m ≤ 100) : bHi m ≤ bLo n + 13000000 := by
  have c1 := (cell_all (n := m) (by omega) (by omega)).dn
  have c2 := (cell_all (n := n) (by omega) (by omega)).up
  have hg : (0 : Rat) ≤ g24 := by unfold g24; grind
  have hd : 1073741824 * (zS m - zS n) ≤ 12500000 := by
    by_cases c : n ≤ m
    · have := (zS_by (n := n) (k := m - n) (by omega) (by omega)).1
      rw [show n + (m - n) = m by omega] at this
      exact this
    · have := (zS_by (n := m) (k := n - m) (by omega) (by omega)).2
      rw [show m + (n - m) = n by omega] at this
      grind
  have hk : ((bHi m : Int) : Rat) ≤ ((bLo n + 13000000 : Int) : Rat) := by push_cast; grind
  exact castle_inv hk
theorem dec_cos {c d : Int} (h0 : -3600050 ≤ c) (h : c ≤ d) (h1 : d ≤ 3600050) (hw : d ≤ c + 100) : 530000000 ≤ cosL c d ∧ cosL c d ≤ cosH c d ∧ cosH c d ≤ cosL c d + 30000000 := by
  unfold cosL cosH
  have e := @enc_in (c + 5400000) (d + 5400000)
  have m1 : metB (c + 5400000) (d + 5400000) 16200000 = false := by unfold metB; rw [decide_eq_false_iff_not]; omega
  refine ⟨?_, e.2.1, ?_⟩
  · have p := (enc_part (lo := 1795000) (hi := 9005000) (x := c + 5400000) (y := d + 5400000) (by omega) (by omega) (by omega)).1
    have m2 : metB 1795000 9005000 16200000 = false := by unfold metB; rw [decide_eq_false_iff_not]; omega
    have r := (b_refl (x := 1795000) (by decide) (by decide)).1
    rw [show (10800000 - 1795000 : Int) = 9005000 from rfl] at r
    rw [encL_at 1795000, m2, if_neg Bool.false_ne_true, r, b_1795, mn_eq] at p
    omega
  · have q1 := b_by (m := c + 5400000) (n := c + 5400000) (by omega) (by omega) (by omega) (by omega) (by omega) (by omega)
    have q2 := b_by (m := c + 5400000) (n := d + 5400000) (by omega) (by omega) (by omega) (by omega) (by omega) (by omega)
    have q3 := b_by (m := d + 5400000) (n := c + 5400000) (by omega) (by omega) (by omega) (by omega) (by omega) (by omega)
    have q4 := b_by (m := d + 5400000) (n := d + 5400000) (by omega) (by omega) (by omega) (by omega) (by omega) (by omega)
    rw [encL_at, encH_at, m1, if_neg Bool.false_ne_true, mn_eq]
    by_cases m2 : metB (c + 5400000) (d + 5400000) 5400000 = true
    · rw [if_pos m2]
      unfold metB at m2
      rw [decide_eq_true_eq] at m2
      have q5 := b_by (m := 5400000) (n := c + 5400000) (by omega) (by omega) (by omega) (by omega) (by omega) (by omega)
      have q6 := b_by (m := 5400000) (n := d + 5400000) (by omega) (by omega) (by omega) (by omega) (by omega) (by omega)
      rw [b_topp] at q5 q6
      omega
    · rw [if_neg m2, mx_eq]
      omega
theorem mul_low {c0 c1 l0 l1 x : Int} (hc : 0 ≤ c0) (hcc : c0 ≤ c1) (hl : l0 ≤ l1) (hx : 0 ≤ x) : -x ≤ mulL c0 c1 l0 l1 ↔ -(x * 1073741824) ≤ c1 * l0 := by
  have e1 := Int.mul_le_mul_of_nonneg_left hl hc
  have e2 := Int.mul_le_mul_of_nonneg_left hl (show 0 ≤ c1 by omega)
  unfold mulL m4
  by_cases h : 0 ≤ l0
  · have f1 := Int.mul_nonneg hc h
    have f2 := Int.mul_nonneg (show 0 ≤ c1 by omega) h
    rw [mn_eq, mn_eq, mn_eq]
    omega
  · have f1 := Int.mul_le_mul_of_nonpos_right hcc (show l0 ≤ 0 by omega)
    rw [mn_eq, mn_eq, mn_eq]
    omega
theorem mul_upp {c0 c1 l0 l1 y : Int} (hc : 0 ≤ c0) (hcc : c0 ≤ c1) (hl : l0 ≤ l1) (hy : 0 < y) : mulH c0 c1 l0 l1 ≤ -y ↔ c0 * l1 ≤ -(y * 1073741824) := by
  have e1 := Int.mul_le_mul_of_nonneg_left hl hc
  have e2 := Int.mul_le_mul_of_nonneg_left hl (show 0 ≤ c1 by omega)
  unfold mulH x4
  by_cases h : 0 ≤ l1
  · have f1 := Int.mul_nonneg hc h
    have f2 := Int.mul_nonneg (show 0 ≤ c1 by omega) h
    rw [mx_eq, mx_eq, mx_eq]
    omega
  · have f1 := Int.mul_le_mul_of_nonpos_right hcc (show l1 ≤ 0 by omega)
    rw [mx_eq, mx_eq, mx_eq]
    omega
theorem mul_zero' (a b : Int) : mulL 0 0 a b = 0 ∧ mulH 0 0 a b = 0 := by
  unfold mulL mulH m4 x4
  rw [Int.zero_mul, Int.zero_mul, mn_eq, mn_eq, mn_eq, mx_eq, mx_eq, mx_eq]
  omega
theorem mul_one' {a b : Int} (h : a ≤ b) : mulL 1073741824 1073741824 a b = a ∧ mulH 1073741824 1073741824 a b = b := by
  unfold mulL mulH m4 x4
  rw [mn_eq, mn_eq, mn_eq, mx_eq, mx_eq, mx_eq]
  omega
theorem enc_00 : encL 0 0 = 0 ∧ encH 0 0 = 0 := by
  have e := b_one (n := 0) (by decide) (by decide)
  have o := oneQ_at 0
  rw [if_pos (.inl rfl)] at o
  unfold hiQ at e
  rw [show (0 : Int).toNat = 0 from rfl, sinQ_0, o] at e
  rw [(enc_point 0).1, (enc_point 0).2]
  exact e
theorem cos_00 : cosL 0 0 = 1073741824 ∧ cosH 0 0 = 1073741824 := by
  unfold cosL cosH
  rw [show (0 + 5400000 : Int) = 5400000 from rfl, (enc_point 5400000).1, (enc_point 5400000).2]
  have e := (b_one (n := 5400000) (by decide) (by decide)).1
  rw [show (5400000 : Int).toNat = 5400000 from rfl, sinQ_q] at e
  exact ⟨e, b_topp⟩
theorem alt_eq {c d l h : Int} : altS0 0 0 c d l h = mulL (cosL c d) (cosH c d) (cosL l h) (cosH l h) ∧ altS1 0 0 c d l h = mulH (cosL c d) (cosH c d) (cosL l h) (cosH l h) := by
  have e := @enc_in (c + 5400000) (d + 5400000)
  have m := mul_one' (a := cosL c d) (b := cosH c d) e.2.1
  unfold altS0 altS1 ssL ssH c3L c3H ccL ccH
  rw [enc_00.1, enc_00.2, (mul_zero' _ _).1, (mul_zero' _ _).2, cos_00.1, cos_00.2, m.1, m.2, Int.zero_add, Int.zero_add]
  exact ⟨rfl, rfl⟩
theorem hs_xy : 0 ≤ bLo 33999 ∧ 0 < bHi 34001 ∧ bLo 33999 < bHi 34001 ∧ bHi (-33999) = -(bLo 33999) := by
  have h1 := (b_up (a := 30000) (b := 33999) (by decide) (by decide) (by decide)).1
  rw [b_30] at h1
  have h2 := (b_up (a := 33999) (b := 34001) (by decide) (by decide) (by decide)).2
  have h3 := b_one (n := 33999) (by decide) (by decide)
  have h4 := (b_four (n := -33999) (by decide) (by decide)).2
  have o := oneQ_at 33999
  rw [if_neg (by decide)] at o
  unfold hiQ at h3
  rw [show (33999 : Int).toNat = 33999 from rfl] at h3
  rw [show (-(-33999 : Int)).toNat = 33999 from rfl] at h4
  rw [o] at h3
  omega
theorem sd_cos {c d l h : Int} (h0 : -3600050 ≤ c) (hcd : c ≤ d) (h1 : d ≤ 3600050) (hw : d ≤ c + 100) (hE : asE (altS0 0 0 c d l h) (altS1 0 0 c d l h) = 0) :
    (sdI (asL (altS0 0 0 c d l h) (altS1 0 0 c d l h)) (asH (altS0 0 0 c d l h) (altS1 0 0 c d l h)) (-34000) = 1 ↔ -hsX ≤ cosH c d * cosL l h) ∧
    (sdI (asL (altS0 0 0 c d l h) (altS1 0 0 c d l h)) (asH (altS0 0 0 c d l h) (altS1 0 0 c d l h)) (-34000) = -1 ↔ cosL c d * cosH l h ≤ -hsY) := by
  obtain ⟨k0, k1, k2⟩ := dec_cos h0 hcd h1 hw
  obtain ⟨x0, y0, xy, xn⟩ := hs_xy
  have el := @enc_in (l + 5400000) (h + 5400000)
  have cl : cosL l h ≤ cosH l h := el.2.1
  have un := mul_unit (a0 := cosL c d) (a1 := cosH c d) (b0 := cosL l h) (b1 := cosH l h) (by omega) k1 (cos_in2 c d).2.2 (cos_in2 l h).1 cl (cos_in2 l h).2.2
  have ml := mul_low (c0 := cosL c d) (c1 := cosH c d) (x := bLo 33999) (by omega) k1 cl x0
  have mu := mul_upp (c0 := cosL c d) (c1 := cosH c d) (y := bHi 34001) (by omega) k1 cl y0
  have ex : -hsX = -(bLo 33999 * 1073741824) := rfl
  have ey : -hsY = -(bHi 34001 * 1073741824) := rfl
  rw [ex, ey, ← ml, ← mu]
  obtain ⟨ea, eb⟩ := alt_eq (c := c) (d := d) (l := l) (h := h)
  rw [ea, eb] at hE ⊢
  generalize mulL (cosL c d) (cosH c d) (cosL l h) (cosH l h) = s0 at *
  generalize mulH (cosL c d) (cosH c d) (cosL l h) (cosH l h) = s1 at *
  have hL : asL s0 s1 = asnI s0 := by unfold asL; rw [if_pos hE, mx_eq]; congr 1; omega
  have hH : asH s0 s1 = -(asnI (-s1)) := by
    unfold asH
    rw [if_pos hE, mn_eq]
    congr 3
    omega
  rw [hL, hH]
  have u1 : -33999 ≤ asnI s0 ↔ -(bLo 33999) ≤ s0 := by
    constructor
    · intro hh
      by_cases c : s0 < bHi (-33999)
      · have := asnI_lt (v := s0) (n := -33999) (by omega) (by decide) c
        omega
      · omega
    · intro hh
      exact asnI_ge (by decide) (by decide) (by omega)
  have u2 : 34001 ≤ asnI (-s1) ↔ s1 ≤ -(bHi 34001) := by
    constructor
    · intro hh
      by_cases c : -s1 < bHi 34001
      · have := asnI_lt (v := -s1) (n := 34001) (by omega) (by decide) c
        omega
      · omega
    · intro hh
      exact asnI_ge (by decide) (by decide) (by omega)
  unfold sdI
  constructor
  · rw [← u1]
    by_cases c : (-34000 : Int) < asnI s0
    · rw [if_pos c]; omega
    · rw [if_neg c]
      constructor
      · intro hh; split at hh <;> omega
      · intro hh; omega
  · rw [← u2]
    by_cases c : (-34000 : Int) < asnI s0
    · rw [if_pos c]
      constructor
      · intro hh; omega
      · intro hh
        have := u1.1 (by omega)
        have := u2.1 hh
        omega
    · rw [if_neg c]
      by_cases c2 : -(asnI (-s1)) < -34000
      · rw [if_pos c2]; omega
      · rw [if_neg c2]; omega
end Go.Proofs.YtnnmfdeeicpdlaaGreat
/- A star over the equator: what RiseSet answers. No program in sight. -/
namespace Go.Proofs.YtnnmfdeeicpdlaaGreat
open Go.RowKit

noncomputable def ssF (k0 k1 c0 c1 t : Int) : Int := if -hsX ≤ c1 * encL (ariF t + k0) (ariU t + k1) then 1 else if c0 * encH (ariF t + k0) (ariU t + k1) ≤ -hsY then -1 else 0
theorem ari_step (t d : Int) : ariV (t + d) = ariV t + 21659138841977 * d := by unfold ariV; rw [Int.add_mul]; omega
theorem ari_w (t : Int) : ariF t ≤ ariU t ∧ ariU t ≤ ariF t + 1 := by unfold ariU; split <;> omega
theorem ss_model {k0 k1 c0 c1 : Int} (hk : k0 ≤ k1) (hk1 : k1 ≤ k0 + 100) (h0 : 530000000 ≤ c0) (h1 : c0 ≤ c1) (h2 : c1 ≤ c0 + 30000000) :
    HsM (ssF k0 k1 c0 c1) (fun t => ariF t + k0) (fun t => ariU t + k1) c0 c1 where
  k0 := h0
  k1 := h1
  k2 := h2
  up t := by
    unfold ssF
    by_cases c : -hsX ≤ c1 * encL (ariF t + k0) (ariU t + k1)
    · rw [if_pos c]; exact ⟨fun _ => c, fun _ => rfl⟩
    · rw [if_neg c]
      constructor
      · intro hh; split at hh <;> omega
      · intro hh; exact absurd hh c
  dn t := by
    unfold ssF
    by_cases c : -hsX ≤ c1 * encL (ariF t + k0) (ariU t + k1)
    · rw [if_pos c]
      constructor
      · intro hh; omega
      · intro hh
        have en := (@enc_in (ariF t + k0) (ariU t + k1)).2.1
        generalize encL (ariF t + k0) (ariU t + k1) = l at *
        generalize encH (ariF t + k0) (ariU t + k1) = u at *
        have xy := hs_xy.2.2.1
        have ex : hsX = bLo 33999 * 1073741824 := rfl
        have ey : hsY = bHi 34001 * 1073741824 := rfl
        have hn := hs_num
        have hu : u ≤ 0 := by
          by_cases p : 0 ≤ u
          · have := Int.mul_nonneg (show 0 ≤ c0 by omega) p
            omega
          · omega
        have m1 := Int.mul_le_mul_of_nonpos_right h1 (show l ≤ 0 by omega)
        have m2 := Int.mul_le_mul_of_nonneg_left en (show 0 ≤ c0 by omega)
        omega
    · rw [if_neg c]
      by_cases c2 : c0 * encH (ariF t + k0) (ariU t + k1) ≤ -hsY
      · rw [if_pos c2]; exact ⟨fun _ => c2, fun _ => rfl⟩
      · rw [if_neg c2]
        constructor
        · intro hh; omega
        · intro hh; exact absurd hh c2
  tri t := by unfold ssF; split; simp; split <;> simp
  w0 t := by have := ari_w t; omega
  w1 t := by have := ari_w t; omega
  p0 t := by
    have := ari_step t 1
    unfold ariF
    omega
  q0 t := by
    have := ariU_mono (show t ≤ t + 1 by omega)
    omega
  rate t d hd := by
    have := ari_step t d
    unfold ariF
    omega
def Sam (a b a' b' : Int) : Prop := ∃ k, a' = a + 21600000 * k ∧ b' = b + 21600000 * k
theorem Sam.turn {a b a' b' : Int} (h : Sam a b a' b') (hw : b - a < 21600000) : Sam a b (turnLo a' b') (turnHi a' b') := by
  obtain ⟨k, rfl, rfl⟩ := h
  unfold turnLo turnHi
  rw [if_neg (by omega), if_neg (by omega)]
  exact ⟨-(a / 21600000), by omega, by omega⟩
theorem Sam.add {a b a' b' x y x' y' : Int} (h : Sam a b a' b') (g : Sam x y x' y') : Sam (a + x) (b + y) (a' + x') (b' + y') := by
  obtain ⟨k, rfl, rfl⟩ := h
  obtain ⟨l, rfl, rfl⟩ := g
  exact ⟨k + l, by omega, by omega⟩
theorem Sam.refl (a b : Int) : Sam a b a b := ⟨0, by omega, by omega⟩
theorem Sam.enc {a b a' b' : Int} (h : Sam a b a' b') : encL a' b' = encL a b ∧ encH a' b' = encH a b := by
  obtain ⟨k, rfl, rfl⟩ := h
  exact enc_turn a b k
structure StarAt (z : StarV) (k0 k1 c d : Int) : Prop where
  w0 : k0 ≤ k1
  w1 : k1 ≤ k0 + 100
  c0 : -3600050 ≤ c
  cd : c ≤ d
  d1 : d ≤ 3600050
  dw : d ≤ c + 100
  e : ∀ t, timB t t = true → (whR [] [z] z.s t t).2 = 0
  c : ∀ t, timB t t = true → (whR [] [z] z.s t t).1.c = c ∧ (whR [] [z] z.s t t).1.d = d
  n : ∀ t, timB t t = true → rsN (whR [] [z] z.s t t).1 = -34000
  g : ∀ t, timB t t = true → Sam (ariF t + k0) (ariU t + k1) (whR [] [z] z.s t t).1.a (whR [] [z] z.s t t).1.b
theorem star_at {z : StarV} (h0 : -36000 ≤ z.dec) (h1 : z.dec ≤ 36000) : ∃ k0 k1 c d, StarAt z k0 k1 c d := by
  have hk : knownB [] [z] z.s = true := by
    unfold knownB
    rw [fndS_iff.2 ⟨z, List.mem_singleton.2 rfl, rfl⟩]
    simp
  cases hA : isA z.s
  · have key : ∀ t, timB t t = true → whR [] [z] z.s t t = (⟨sgL t t z.sha, sgH t t z.sha, dcL z.dec, dcH z.dec, 0, 0, 0, 0⟩, 0) := by
      intro t ht
      cases whW [] [z] z.s t t with
      | bad k => rw [k] at ht; cases ht
      | name _ k => rw [hk] at k; cases k
      | wide _ k d => omega
      | aries _ d k => rw [hA] at k; cases k
      | star i x _ d k f g e =>
        have : x = z := by
          cases i with
          | zero => simpa using g.symm
          | succ i => simp at g
        subst this
        exact whR_star ht d k f e
      | body _ d k f g c => simp [nmB] at g
    refine ⟨100 * z.sha - 50, 100 * z.sha + 50, 100 * z.dec - 50, 100 * z.dec + 50, by omega, by omega, by omega, by omega, by omega, by omega, fun t ht => by rw [key t ht], fun t ht => ?_, fun t ht => by rw [key t ht]; rfl, fun t ht => ?_⟩
    · rw [key t ht]
      dsimp only
      unfold dcL dcH
      rw [mx_eq, mn_eq]
      omega
    · rw [key t ht]
      dsimp only
      unfold sgL sgH agL agH
      have w := ari_w t
      have s1 := (Sam.refl (ariF t) (ariU t)).turn (by omega)
      have s2 := (s1.add (Sam.refl (100 * z.sha - 50) (100 * z.sha + 50))).turn (by omega)
      exact s2
  · have key : ∀ t, timB t t = true → whR [] [z] z.s t t = (⟨agL t t, agH t t, 0, 0, 0, 0, 0, 0⟩, 0) := fun t ht => whR_aries ht (by omega) hA
    refine ⟨0, 0, 0, 0, by omega, by omega, by omega, by omega, by omega, by omega, fun t ht => by rw [key t ht], fun t ht => by rw [key t ht]; exact ⟨rfl, rfl⟩, fun t ht => by rw [key t ht]; rfl, fun t ht => ?_⟩
    rw [key t ht]
    dsimp only
    unfold agL agH
    have w := ari_w t
    have s1 := (Sam.refl (ariF t) (ariU t)).turn (by omega)
    rw [Int.add_zero, Int.add_zero]
    exact s1
theorem lst_congr {S S' : Int → Int} {s f e : Int} (h : ∀ m, f ≤ m → m ≤ e → S m = S' m) : ∀ (n : Nat) (lo hi : Int), (hi - lo).toNat ≤ n → f ≤ lo → hi ≤ e → lstR S s lo hi = lstR S' s lo hi
  | 0, lo, hi, hn, _, _ => by rw [lst_end (by omega), lst_end (by omega)]
  | n + 1, lo, hi, hn, hf, he => by
    by_cases c : 1 < hi - lo
    · have hm := h ((lo + hi) / 2) (by omega) (by omega)
      by_cases k : S ((lo + hi) / 2) = s
      · rw [lst_yes c k, lst_yes c (by rw [← hm]; exact k)]
        exact lst_congr h n _ _ (by omega) (by omega) he
      · rw [lst_no c k, lst_no c (by rw [← hm]; exact k)]
        exact lst_congr h n _ _ (by omega) hf (by omega)
    · rw [lst_end c, lst_end c]
theorem fst_congr {S S' : Int → Int} {s f e : Int} (h : ∀ m, f ≤ m → m ≤ e → S m = S' m) : ∀ (n : Nat) (lo hi : Int), (hi - lo).toNat ≤ n → f ≤ lo → hi ≤ e → fstR S s lo hi = fstR S' s lo hi
  | 0, lo, hi, hn, _, _ => by rw [fst_end (by omega), fst_end (by omega)]
  | n + 1, lo, hi, hn, hf, he => by
    by_cases c : 1 < hi - lo
    · have hm := h ((lo + hi) / 2) (by omega) (by omega)
      by_cases k : S ((lo + hi) / 2) = s
      · rw [fst_yes c k, fst_yes c (by rw [← hm]; exact k)]
        exact fst_congr h n _ _ (by omega) hf (by omega)
      · rw [fst_no c k, fst_no c (by rw [← hm]; exact k)]
        exact fst_congr h n _ _ (by omega) (by omega) he
    · rw [fst_end c, fst_end c]
theorem cr_congr {S S' : Int → Int} {f e : Int} (h : ∀ m, f ≤ m → m ≤ e → S m = S' m) : ∀ (l : List Int) (a k : Int), (∀ t ∈ l, f ≤ t ∧ t ≤ e) → (k ≠ 0 → f ≤ a ∧ a ≤ e) → crF S l a k = crF S' l a k
  | [], a, k, _, _ => rfl
  | t :: l, a, k, hl, hk => by
    have ht := hl t List.mem_cons_self
    have hS := h t ht.1 ht.2
    have ih := fun a k hk => cr_congr h l a k (fun x hx => hl x (List.mem_cons_of_mem _ hx)) hk
    by_cases z : S t = 0
    · rw [cr_zero z, cr_zero (by rw [← hS]; exact z)]
      exact ih a k hk
    · by_cases g : k = 0 ∨ S t = k
      · rw [cr_same z g, cr_same (by rw [← hS]; exact z) (by rw [← hS]; exact g), ← hS]
        exact ih t (S t) (fun _ => ht)
      · have k0 : k ≠ 0 := fun x => g (.inl x)
        have k1 : S t ≠ k := fun x => g (.inr x)
        have ha := hk k0
        rw [cr_cross z k0 k1, cr_cross (by rw [← hS]; exact z) k0 (by rw [← hS]; exact k1), ← hS, ih t (S t) (fun _ => ht), lst_congr h _ a t (Nat.le_refl _) ha.1 ht.2, fst_congr h _ a t (Nat.le_refl _) ha.1 ht.2]
theorem smp_in : ∀ (n : Nat) (f e : Int), (e - f).toNat ≤ n → f ≤ e → (e - f) % 1200000 = 0 → ∀ t ∈ smp f e, f ≤ t ∧ t ≤ e
  | n, f, e, hn, hf, hm, t, ht => by
    by_cases hlt : f < e
    · rw [smp_lt hlt] at ht
      obtain ⟨n', rfl⟩ : ∃ n', n = n' + 1 := ⟨n - 1, by omega⟩
      rcases List.mem_cons.1 ht with rfl | ht
      · omega
      · have := smp_in n' (f + 1200000) e (by omega) (by omega) (by omega) t ht
        omega
    · rw [smp_end hlt] at ht
      rw [List.mem_singleton.1 ht]
      omega
  termination_by n => n
theorem er_zero {E : Int → Int} : ∀ {l : List Int}, (∀ t ∈ l, E t = 0) → erF E l = 0
  | [], _ => rfl
  | t :: l, h => by
    unfold erF
    rw [if_pos (h t List.mem_cons_self)]
    exact er_zero (fun x hx => h x (List.mem_cons_of_mem _ hx))
structure HsR (S : Int → Int) (f : Int) (R : RsV) : Prop where
  e : R.e = 0
  l0 : S R.a = -1
  l1 : S (R.a + 1) ≠ -1
  s0 : S R.c = 1
  s1 : S (R.c + 1) ≠ 1
  a0 : f ≤ R.a
  a1 : R.a ≤ f + 86400000
  b1 : R.b ≤ f + 86400000
  c0 : f ≤ R.c
  c1 : R.c ≤ f + 86400000
  w1 : R.b - R.a ≤ 120000
  w2 : R.d - R.c ≤ 120000
  ab : R.a ≤ R.b
  dd : R.c ≤ R.d ∧ R.d ≤ f + 86400000
section
variable {z : StarV} {k0 k1 c d : Int}
theorem StarAt.side (A : StarAt z k0 k1 c d) (k : NewOk [] [z]) {x t : Int} (hx : validB x x = true) (ht : timB t t = true) :
    siE [] [z] z.s x t = 0 ∧ siS [] [z] z.s 0 x (-34000) t = ssF (k0 + x + 5400000) (k1 + x + 5400000) (cosL c d) (cosH c d) t := by
  have hE : lhaE [] [z] z.s t t x x = 0 := lhaE_z.2 ⟨ht, hx, A.e t ht⟩
  refine ⟨hE, ?_⟩
  obtain ⟨cc, cd⟩ := A.c t ht
  have ok := hz_ok (u := 0) (v := 0) k (by decide) hE
  obtain ⟨e1, e2⟩ := lha_is hE
  have w := ari_w t
  have hs := ((A.g t ht).add ((Sam.refl x x).turn (by omega))).turn (by have := A.w0; have := A.w1; omega)
  rw [← e1, ← e2] at hs
  have hen := (hs.add (Sam.refl 5400000 5400000)).enc
  rw [show ariF t + k0 + x + 5400000 = ariF t + (k0 + x + 5400000) by omega, show ariU t + k1 + x + 5400000 = ariU t + (k1 + x + 5400000) by omega] at hen
  have ha := ok.asn
  unfold hzS0 hzS1 at ha
  rw [cc, cd] at ha
  have sc := sd_cos A.c0 A.cd A.d1 A.dw ha
  have eS : siS [] [z] z.s 0 x (-34000) t = sdI (asL (altS0 0 0 c d (lhaL [] [z] z.s t t x x) (lhaH [] [z] z.s t t x x)) (altS1 0 0 c d (lhaL [] [z] z.s t t x x) (lhaH [] [z] z.s t t x x))) (asH (altS0 0 0 c d (lhaL [] [z] z.s t t x x) (lhaH [] [z] z.s t t x x)) (altS1 0 0 c d (lhaL [] [z] z.s t t x x) (lhaH [] [z] z.s t t x x))) (-34000) := by
    unfold siS hzL hzH hzS0 hzS1
    rw [if_pos hE, if_pos hE, cc, cd]
  rw [← eS] at sc
  have tri := sdI_in (hzL [] [z] z.s t t 0 0 x x) (hzH [] [z] z.s t t 0 0 x x) (-34000)
  change siS [] [z] z.s 0 x (-34000) t = -1 ∨ siS [] [z] z.s 0 x (-34000) t = 0 ∨ siS [] [z] z.s 0 x (-34000) t = 1 at tri
  obtain ⟨q0, q1, q2⟩ := dec_cos A.c0 A.cd A.d1 A.dw
  have M := ss_model (k0 := k0 + x + 5400000) (k1 := k1 + x + 5400000) (by have := A.w0; omega) (by have := A.w1; omega) q0 q1 q2
  have m1 := M.up t
  have m2 := M.dn t
  have m3 := M.tri t
  rw [← hen.1] at m1
  rw [← hen.2] at m2
  have s1 := sc.1.trans m1.symm
  have s2 := sc.2.trans m2.symm
  omega
theorem StarAt.answer (A : StarAt z k0 k1 c d) (k : NewOk [] [z]) {x f : Int} (hx : validB x x = true) (hf : -70368744177664 ≤ f) (hf1 : f + 86400000 ≤ 70368744177664) :
    (rsF (whR [] [z] z.s f f).1 (whR [] [z] z.s f f).2 (siS [] [z] z.s 0 x) (siE [] [z] z.s x) f).e = 12 ∨
      HsR (ssF (k0 + x + 5400000) (k1 + x + 5400000) (cosL c d) (cosH c d)) f (rsF (whR [] [z] z.s f f).1 (whR [] [z] z.s f f).2 (siS [] [z] z.s 0 x) (siE [] [z] z.s x) f) := by
  have hff : timB f f = true := timB_iff.2 (by omega)
  have hd : dyE f = 0 := by
    unfold dyE
    have i1 : insB f = true := decide_eq_true (by omega)
    have i2 : insB (f + 86400000) = true := decide_eq_true (by omega)
    rw [if_pos ⟨i1, i2⟩]
  have hn := A.n f hff
  have hin := smp_in _ f (f + 86400000) (Nat.le_refl _) (by omega) (by omega)
  have her : erF (siE [] [z] z.s x) (smp f (f + 86400000)) = 0 := er_zero (fun t ht => (A.side k hx (timB_iff.2 (by have := hin t ht; omega))).1)
  obtain ⟨q0, q1, q2⟩ := dec_cos A.c0 A.cd A.d1 A.dw
  have M := ss_model (k0 := k0 + x + 5400000) (k1 := k1 + x + 5400000) (by have := A.w0; omega) (by have := A.w1; omega) q0 q1 q2
  have hcr := cr_congr (S := siS [] [z] z.s 0 x (-34000)) (S' := ssF (k0 + x + 5400000) (k1 + x + 5400000) (cosL c d) (cosH c d)) (f := f) (e := f + 86400000) (fun m h1 h2 => (A.side k hx (timB_iff.2 (by omega))).2) (smp f (f + 86400000)) 0 0 hin (fun h => absurd rfl h)
  generalize ssF (k0 + x + 5400000) (k1 + x + 5400000) (cosL c d) (cosH c d) = S at *
  have halt : ¬ (rsN (whR [] [z] z.s f f).1 < -5400000 ∨ 5400000 < rsN (whR [] [z] z.s f f).1) := by rw [hn]; omega
  rw [← hn] at hcr
  by_cases hb : wyB (crF S (smp f (f + 86400000)) 0 0) true = false ∨ wyB (crF S (smp f (f + 86400000)) 0 0) false = false
  · left
    rw [rsF_non hd (A.e f hff) halt her hcr hb]
  · right
    rw [rsF_two hd (A.e f hff) halt her hcr hb]
    cases h1 : wyF (crF S (smp f (f + 86400000)) 0 0) true with
    | none => exact absurd (.inl (wy_none h1).2.2) hb
    | some c1 =>
      cases h2 : wyF (crF S (smp f (f + 86400000)) 0 0) false with
      | none => exact absurd (.inr (wy_none h2).2.2) hb
      | some c2 =>
        obtain ⟨E1, W1⟩ := M.way h1
        obtain ⟨E2, W2⟩ := M.way h2
        obtain ⟨a1, a2, -⟩ := wy_some h1
        obtain ⟨b1, b2, -⟩ := wy_some h2
        rw [a1, a2, b1, b2]
        rw [if_pos rfl] at E1
        rw [if_neg Bool.false_ne_true] at E2
        have x1 := E1.e
        have x2 := E1.lt
        have x3 := E2.e
        have x4 := E2.lt
        exact ⟨rfl, E1.l0, E1.l1, E2.l0, E2.l1, E1.f, by dsimp only; omega, x1, E2.f, by dsimp only; omega, W1, W2, by dsimp only; omega, by dsimp only; omega⟩
end
end Go.Proofs.YtnnmfdeeicpdlaaGreat
/- The example of chapter 50: plain facts. -/
namespace Go.Proofs.YtnnmfdeeicpdlaaGreat
open Go.RowKit Go.Shelf

def vegH : StarV := ⟨vegaS, 0, 0, 1⟩
theorem vegH_cat : catB [vegH] = true := by
  refine catB_iff.2 ⟨by decide, fun i x hx => ?_⟩
  cases i with
  | zero =>
    simp only [List.getElem?_cons_zero, Option.some.injEq] at hx
    subst hx
    refine ⟨vega_name, by decide, ?_⟩
    show (if (vegaS.toList == vegaS.toList) then ((0 : Nat) : Int) else _) = _
    rw [if_pos (beq_self_eq_true _)]
  | succ i => simp at hx
theorem vegH_find : fndS [vegH] vegaS = ((0 : Nat) : Int) := by
  show (if (vegaS.toList == vegaS.toList) then ((0 : Nat) : Int) else _) = _
  rw [if_pos (beq_self_eq_true _)]
theorem vegH_first : [vegH].find? (fun x => nmB x.s vegaS) = some vegH := by
  have e : nmB vegH.s vegaS = true := by
    show (vegaS.toList == vegaS.toList) = true
    exact beq_self_eq_true _
  rw [List.find?_cons, e]
theorem vega_noA : isA vegaS = false := by unfold isA; rw [vega_list]; rfl
theorem vegH_new : newE [] [vegH] = 0 := by
  unfold newE
  have h1 : badP [] = false := rfl
  have h2 : twB [] [vegH] = false := by
    unfold twB
    rw [tkL_nil]
    show (false || ((isA vegaS || false) || false)) = false
    rw [vega_noA]
    rfl
  rw [if_neg (by simp), if_neg (by rw [h1, vegH_cat]; simp), if_neg (by intro h; exact h (fun i p q hi => by simp at hi)), if_neg (by rw [h2]; simp)]
theorem vegH_ok : NewOk [] [vegH] := newE_0 vegH_new
theorem vegH_sg : sgL 0 0 0 = 5998017 ∧ sgH 0 0 0 = 5998118 ∧ dcL 0 = -50 ∧ dcH 0 = 50 := by decide +kernel
theorem vegH_where : whR [] [vegH] vegaS 0 0 = (⟨5998017, 5998118, -50, 50, 0, 0, 0, 0⟩, 0) := by
  rw [whR_star (i := 0) (x := vegH) (by decide) (by decide) vega_noA vegH_find vegH_first]
  obtain ⟨e1, e2, e3, e4⟩ := vegH_sg
  show ((⟨sgL 0 0 0, sgH 0 0 0, dcL 0, dcH 0, 0, 0, 0, 0⟩ : GeoV), (0 : Int)) = _
  rw [e1, e2, e3, e4]
theorem vegH_lha {n l h : Int} (hv : validB n n = true) (e1 : turnLo (5998017 + turnLo n n) (5998118 + turnHi n n) = l) (e2 : turnHi (5998017 + turnLo n n) (5998118 + turnHi n n) = h) : lhaE [] [vegH] vegaS 0 0 n n = 0 ∧ lhaL [] [vegH] vegaS 0 0 n n = l ∧ lhaH [] [vegH] vegaS 0 0 n n = h := by
  have e : lhaE [] [vegH] vegaS 0 0 n n = 0 := lhaE_z.2 ⟨by decide, hv, by rw [vegH_where]⟩
  obtain ⟨f1, f2⟩ := lha_is e
  rw [vegH_where] at f1 f2
  exact ⟨e, f1.trans e1, f2.trans e2⟩
theorem vegH_up : abE [] [vegH] vegaS 0 0 0 0 (-5998017) (-5998017) = 0 ∧ abN [] [vegH] vegaS 0 0 0 0 (-5998017) (-5998017) = 1 := by
  obtain ⟨e, f, g⟩ := vegH_lha (n := -5998017) (l := 0) (h := 101) (by decide) (by decide) (by decide)
  have o := hz_ok (s := vegaS) (a := 0) (b := 0) (u := 0) (v := 0) vegH_ok (by decide) e
  have hE := o.asn
  have hA : abE [] [vegH] vegaS 0 0 0 0 (-5998017) (-5998017) = 0 := by unfold abE; rw [if_pos ⟨by decide, by decide⟩, e]
  refine ⟨hA, ?_⟩
  have hL : 1 ≤ hzL [] [vegH] vegaS 0 0 0 0 (-5998017) (-5998017) := by
    unfold hzL
    rw [if_pos e]
    unfold asL
    rw [if_pos hE]
    unfold hzS0
    rw [vegH_where, f, g]
    have k : bHi 1 ≤ altS0 0 0 (-50) 50 0 101 := by decide +kernel
    show 1 ≤ asnI (mx (altS0 0 0 (-50) 50 0 101) (-1073741824))
    exact asnI_ge (by decide) (by decide) (by rw [mx_eq]; omega)
  unfold abN sdI
  rw [if_pos hA, if_pos (by omega)]
theorem vegH_dn : abE [] [vegH] vegaS 0 0 0 0 4801983 4801983 = 0 ∧ abN [] [vegH] vegaS 0 0 0 0 4801983 4801983 = -1 := by
  obtain ⟨e, f, g⟩ := vegH_lha (n := 4801983) (l := 10800000) (h := 10800101) (by decide) (by decide) (by decide)
  have o := hz_ok (s := vegaS) (a := 0) (b := 0) (u := 0) (v := 0) vegH_ok (by decide) e
  have hE := o.asn
  have hA : abE [] [vegH] vegaS 0 0 0 0 4801983 4801983 = 0 := by unfold abE; rw [if_pos ⟨by decide, by decide⟩, e]
  refine ⟨hA, ?_⟩
  have hH : hzH [] [vegH] vegaS 0 0 0 0 4801983 4801983 ≤ -1 := by
    unfold hzH
    rw [if_pos e]
    unfold asH
    rw [if_pos hE]
    unfold hzS1
    rw [vegH_where, f, g]
    have k : altS1 0 0 (-50) 50 10800000 10800101 ≤ -(bHi 1) := by decide +kernel
    have k2 : 0 ≤ bHi 1 := by decide +kernel
    have := asnI_ge (v := -(mn (altS1 0 0 (-50) 50 10800000 10800101) 1073741824)) (n := 1) (by decide) (by decide) (by rw [mn_eq]; omega)
    show -(asnI (-(mn (altS1 0 0 (-50) 50 10800000 10800101) 1073741824))) ≤ -1
    omega
  have := o.le
  unfold abN sdI
  rw [if_pos hA, if_neg (by omega), if_pos (by omega)]
theorem pgsD_nil (P : Nat → Prop) (w : World) : PgsD P w (.slice none 0 0) [] := ⟨[], SlG.nil pgR w, (fun b o n c e _ => by cases e), rfl, fun i x p h => by simp at h⟩
theorem vegH_lit (w : World) (L : List (Obj ⊕ Ext)) : SlG stR (lay w (.inl (.cells #[.string vegaS, .int .i64 0, .int .i64 0, .int .i64 1] 32 (0, 0)) :: L)) (.slice (some ⟨posn w (shp L), 0, none⟩) 1 1) [vegH] :=
  (owG_lit stOk [vegH] rfl (by decide) (by intro x hx; rw [List.mem_singleton.1 hx]; exact ⟨by decide, by decide, by decide, by decide⟩)).sl stOk
end Go.Proofs.YtnnmfdeeicpdlaaGreat
/- The large and the made of the law of chapter 50. -/
namespace Go.Proofs.YtnnmfdeeicpdlaaGreat
open Go.RowKit Go.Shelf

theorem bw_far {w1 w2 : World} (hs : w2.heap.size = w1.heap.size) (d : Ext) {b : Nat} (h : w1.heap.size ≤ b) : (bw w2 d).heap[b]? = (bw w1 d).heap[b]? := by
  simp only [bw]
  rw [Array.getElem?_append_right h, Array.getElem?_append_right (by omega), hs]
theorem bka_swap {w1 w2 : World} {bk : Nat} {lp : List PgV} {ls : List StarV} {d : Ext} (hs : w2.heap.size = w1.heap.size) (h : BkA w1 bk lp ls (bw w1 d)) : BkA w2 bk lp ls (bw w2 d) := by
  obtain ⟨h0, vd, vp, vs, h1, h2, h3, h4, h5, h6⟩ := h
  have hz : (bw w1 d).heap.size ≤ (bw w2 d).heap.size := by simp [bw, hs]
  have hk : ∀ b, (w1.heap.size ≤ b ∧ b ≠ bk) → b < (bw w1 d).heap.size → (bw w2 d).heap[b]? = (bw w1 d).heap[b]? := fun b hb _ => bw_far hs d hb.1
  have hb := bw_far hs d h0
  refine ⟨by omega, vd, vp, vs, ⟨Nat.lt_of_lt_of_le h1.lt hz, (cell_keep hb).trans h1.c0, (cell_keep hb).trans h1.c1, (cell_keep hb).trans h1.c2⟩, ?_, ?_, ?_, ?_, ?_⟩
  · exact (LsP.keep (P := fun b => w1.heap.size ≤ b ∧ b ≠ bk) ⟨h2, h3⟩ hz hk).1
  · rw [hs]; exact h3
  · rw [hs]; exact h4.keep hz hk
  · exact slG_keep h5 h6 hz hk
  · rw [hs]; exact h6
end Go.Proofs.YtnnmfdeeicpdlaaGreat
/- The example of chapter 50 (awake). -/
namespace Go.Proofs.YtnnmfdeeicpdlaaGreat
set_option maxHeartbeats 2000000
set_option maxRecDepth 100000
open Go.RowKit Go.Shelf

def StarPost (w : World) (e : Ending) (w' : World) : Prop :=
  ∃ bk A c w1 d, e = .returned (.tuple #[.pointer (some ⟨bk, 0, none⟩), .agg #[.slice none 0 0, .slice A 1 c]]) ∧ w' = bw w d ∧ BkA w1 bk [] [vegH] (bw w d) ∧ SlG stR (bw w d) (.slice A 1 c) [vegH]
theorem law50_star (w : World) : Calls Tryz.prog 59 #[] w (StarPost w) := by
  refine lay_start ?_
  go_enter Tryz.func59, Tryz.ntmps59
  go_wp2_with fail
  have hS := vegH_lit w [.inl (.cells #[.slice none 0 0, .slice none 0 0] 96 (0, 0))]
  have HS := Lib.hid hS
  refine (alm_New_yes (P := fun _ => False) (.slice none 0 0) (.slice (some ⟨posn w [1], 0, none⟩) 1 1) [] [vegH] (lay w [.inl (.cells #[.string vegaS, .int .i64 0, .int .i64 0, .int .i64 1] 32 (0, 0)), .inl (.cells #[.slice none 0 0, .slice none 0 0] 96 (0, 0))]) (pgsD_nil _ _) (fun _ h => h.elim) hS vegH_new).mono ?_
  clear hS
  rintro e w' ⟨bk, d1, rfl, rfl, hB⟩
  rw [lay_bw] at hB ⊢
  have HB := Lib.hid hB
  clear hB
  go_wp2_with fail
  obtain ⟨z, hz⟩ := lay_ex w [.inr d1, .inl (.cells #[.string vegaS, .int .i64 0, .int .i64 0, .int .i64 1] 32 (0, 0)), .inl (.cells #[.slice none 0 0, .slice (some ⟨posn w [1], 0, none⟩) 1 1] 96 (0, 0))]
  refine bodyPost_ret (v := .tuple #[.pointer (some ⟨bk, 0, none⟩), .agg #[.slice none 0 0, .slice (some ⟨posn w [1], 0, none⟩) 1 1]]) (by simp [results, Tryz.results59, go_sem]) rfl ⟨bk, _, _, lay w [.inl (.cells #[.string vegaS, .int .i64 0, .int .i64 0, .int .i64 1] 32 (0, 0)), .inl (.cells #[.slice none 0 0, .slice (some ⟨posn w [1], 0, none⟩) 1 1] 96 (0, 0))], z, rfl, hz, ?_, ?_⟩
  · rw [← hz]
    refine bka_swap (w1 := lay w [.inl (.cells #[.string vegaS, .int .i64 0, .int .i64 0, .int .i64 1] 32 (0, 0)), .inl (.cells #[.slice none 0 0, .slice none 0 0] 96 (0, 0))]) (d := d1) ?_ HB.out
    rw [lay_size, lay_size]
    rfl
  · rw [← hz]
    exact slG_on (A := [.inr d1]) (vegH_lit w [.inl (.cells #[.slice none 0 0, .slice (some ⟨posn w [1], 0, none⟩) 1 1] 96 (0, 0))])
theorem law50_one (n : Int) (w : World) : Calls Tryz.prog 61 #[.int .i64 n] w fun e w' => e = .returned (.agg #[.int .i64 (n), .int .i64 (n)]) ∧ ∃ d, w' = bw w d := by
  refine lay_start ?_
  go_enter Tryz.func61, Tryz.ntmps61
  go_wp2
  exact bodyPost_ret (v := (.agg #[.int .i64 (n), .int .i64 (n)])) (by simp [results, Tryz.results61, go_sem]) rfl ⟨rfl, lay_ex _ _⟩
theorem law50_awake (w : World) : Calls Tryz.prog 11 #[] w fun e w' => e = .returned (.bool true) ∧ ∃ d, w' = bw w d := by
  refine lay_start ?_
  go_enter Tryz.func11, Tryz.ntmps11
  go_wp2_with fail
  refine (law50_star _).mono ?_
  rintro e w' ⟨bk, A, c, w1, d1, rfl, rfl, hB, hS⟩
  rw [lay_bw] at hB hS ⊢
  have HA1 := Lib.hid (fun L => made_Above hB vegH_ok vegaS 0 0 0 0 (-5998017) (-5998017) L)
  rw [vegH_up.1, vegH_up.2] at HA1
  have HA2 := Lib.hid (fun L => made_Above hB vegH_ok vegaS 0 0 0 0 4801983 4801983 L)
  rw [vegH_dn.1, vegH_dn.2] at HA2
  have HW := Lib.hid (fun L => ref17_Where (.slice none 0 0) (.slice A 1 c) [] [vegH] vegaS 0 0 (lay _ L) ((rfL_of (pgsD_nil (fun _ => False) _) hS vegH_ok).lay L))
  rw [vegH_where] at HW
  change Hid (∀ L, Calls Tryz.prog _ _ _ fun e w' => e = .returned (.tuple #[(.agg #[.int .i64 (5998017), .int .i64 (5998118), .int .i64 (-50), .int .i64 (50), .int .i64 (0), .int .i64 (0), .int .i64 (0), .int .i64 (0)]), .int .i64 0]) ∧ ∃ d, w' = bw _ d) at HW
  simp only [← lay_appG] at HA1 HA2 HW
  clear hB hS
  go_wp2_with fail
  refine (HW.out [_]).mono ?_
  rintro e w' ⟨rfl, d2, rfl⟩
  rw [lay_bw]
  go_wp2_with fail
  clear HW
  go_loopw [5] (fun v5 wr => v5 = .int .i64 (-5998017) ∧ wr = lay w [.inl (.cells #[.int .i64 5998017, .int .i64 5998118, .int .i64 (-50), .int .i64 50, .int .i64 0, .int .i64 0, .int .i64 0, .int .i64 0] 69 (0, 0)), .inr d2, .inl (.cells #[.slice none 0 0, .slice A 1 c] 96 (0, 0)), .inr d1]) (fun _ _ => 0)
  case atStart => exact ⟨rfl, rfl⟩
  case round =>
    obtain ⟨rfl, rfl⟩ := hrel
    go_wp2_with (go_at_call 61; refine (law50_one _ _).mono ?_; rintro e w' ⟨rfl, d3, rfl⟩; rw [lay_bw])
    refine (HA1.out [_, _, _, _]).mono ?_
    rintro e w' ⟨rfl, d4, rfl⟩
    rw [lay_bw]
    go_wp2_with (go_at_call 61; refine (law50_one _ _).mono ?_; rintro e w' ⟨rfl, d5, rfl⟩; rw [lay_bw])
    refine (HA2.out [_, _, _, _, _, _]).mono ?_
    rintro e w' ⟨rfl, d6, rfl⟩
    rw [lay_bw]
    go_wp2_with fail
    go_ret
    exact ⟨rfl, lay_ex _ _⟩
end Go.Proofs.YtnnmfdeeicpdlaaGreat
