/- Contracts and plain laws, several texts in one: AmP; Mer1; ExP; Chn; FxS; TgH -/
import Derived.Test.YtakcfcekdngndaaGreatProg
import Derived.WalkKit
import Derived.WalkSpells
import Derived.WalkLawsBesides
import Derived.Lib.Hide
import Derived.BigQuiet
import Derived.Test.YtakcfcekdngndaaGreatBAA
import Derived.Test.YtakcfcekdngndaaGreatBAB
import Derived.Test.YtakcfcekdngndaaGreatBAC
import Derived.Test.YtakcfcekdngndaaGreatBAG
import Derived.Test.YtakcfcekdngndaaGreatBAH
import Derived.Test.YtakcfcekdngndaaGreatBAI
/- Amplitudes: what compass.Amplitude computes, and its laws. No walk. -/
namespace Go.Proofs.YtakcfcekdngndaaGreat

/-- Quotients of an interval by a positive one. -/
def divL (a0 b0 b1 : Int) : Int := mn (a0 * 1073741824 / b0) (a0 * 1073741824 / b1)
def divH (a1 b0 b1 : Int) : Int := mx (-((-(a1 * 1073741824)) / b0)) (-((-(a1 * 1073741824)) / b1))
theorem ediv_anti {a x y : Int} (h0 : 0 ≤ a) (h1 : 0 < x) (h : x ≤ y) : a / y ≤ a / x := by
  rw [Int.le_ediv_iff_mul_le h1]
  have h2 := Int.mul_ediv_self_le (x := a) (k := y) (by omega)
  have h3 : a / y * x ≤ a / y * y := Int.mul_le_mul_of_nonneg_left h (Int.ediv_nonneg h0 (by omega))
  rw [Int.mul_comm] at h2
  omega
theorem cdiv_le_of {a b c : Int} (hb : 0 < b) (h : a ≤ c * b) : -((-a) / b) ≤ c := by
  have h2 : -c ≤ (-a) / b := by
    rw [Int.le_ediv_iff_mul_le hb, Int.neg_mul]; omega
  omega
theorem fl_le_ce {a b : Int} (hb : 0 < b) : a / b ≤ -((-a) / b) := by
  have h1 := Int.mul_ediv_self_le (x := a) (k := b) (by omega)
  have h2 := Int.mul_ediv_self_le (x := -a) (k := b) (by omega)
  have h3 : b * (a / b + (-a) / b) ≤ b * 0 := by rw [Int.mul_add]; omega
  have := Int.le_of_mul_le_mul_left h3 hb
  omega
theorem div_le {a0 a1 b0 b1 : Int} (h : a0 ≤ a1) (hb : 0 < b0) : divL a0 b0 b1 ≤ divH a1 b0 b1 := by
  have h1 := fl_le_ce (a := a0 * 1073741824) hb
  have h2 : (-(a1 * 1073741824)) / b0 ≤ (-(a0 * 1073741824)) / b0 := Int.ediv_le_ediv hb (by omega)
  unfold divL divH
  rw [mn_eq, mx_eq]; omega
theorem div_neg (a0 a1 b0 b1 : Int) : divL (-a1) b0 b1 = -(divH a1 b0 b1) ∧ divH (-a0) b0 b1 = -(divL a0 b0 b1) := by
  unfold divL divH
  rw [Int.neg_mul, Int.neg_mul, Int.neg_neg, mn_eq, mx_eq, mn_eq, mx_eq]
  constructor <;> omega
theorem enc_point (n : Int) : encL n n = bLo n ∧ encH n n = bHi n := by
  have hd : ∀ k : Int, metB n n k = true → ∃ j : Int, n = k + 21600000 * j := fun k h => by
    unfold metB at h
    have h1 : (k - n) % 21600000 ≤ n - n := by simpa using h
    have h2 := Int.emod_nonneg (k - n) (show (21600000 : Int) ≠ 0 by decide)
    exact ⟨-((k - n) / 21600000), by omega⟩
  rw [encL_at, encH_at]
  constructor
  · cases h : metB n n 16200000
    · rw [if_neg (by decide), mn_eq]; omega
    · obtain ⟨j, rfl⟩ := hd _ h
      rw [if_pos rfl, (b_shift _ _).1]
      have := (b_three (n := 16200000) (by decide) (by decide)).1
      rw [this, show ((16200000 : Int) - 10800000).toNat = 5400000 from rfl]
      unfold hiQ oneQ
      rw [sinQ_q]; rfl
  · cases h : metB n n 5400000
    · rw [if_neg (by decide), mx_eq]; omega
    · obtain ⟨j, rfl⟩ := hd _ h
      rw [if_pos rfl, (b_shift _ _).2, b_topp]
theorem b_odd {n : Int} (h0 : -5400000 ≤ n) (h1 : n ≤ 5400000) : bLo (-n) = -(bHi n) ∧ bHi (-n) = -(bLo n) := by
  by_cases h : 0 ≤ n
  · have e1 := b_one h h1
    have e2 := b_four (n := -n) (by omega) (by omega)
    rw [Int.neg_neg] at e2
    rw [e1.1, e1.2, e2.1, e2.2]
    exact ⟨rfl, rfl⟩
  · have e1 := b_one (n := -n) (by omega) (by omega)
    have e2 := b_four (n := n) (by omega) (by omega)
    rw [e1.1, e1.2, e2.1, e2.2]
    omega
theorem b_even {x : Int} (h0 : -5400000 ≤ x) (h1 : x ≤ 5400000) : bLo (-x + 5400000) = bLo (x + 5400000) ∧ bHi (-x + 5400000) = bHi (x + 5400000) := by
  have key : ∀ y : Int, 0 ≤ y → y ≤ 5400000 → bLo (-y + 5400000) = bLo (y + 5400000) ∧ bHi (-y + 5400000) = bHi (y + 5400000) := fun y g0 g1 => by
    have e1 := b_one (n := -y + 5400000) (by omega) (by omega)
    have e2 := b_two (n := y + 5400000) (by omega) (by omega)
    rw [e1.1, e1.2, e2.1, e2.2, show (10800000 - (y + 5400000)).toNat = (-y + 5400000).toNat by omega]
    exact ⟨rfl, rfl⟩
  by_cases h : 0 ≤ x
  · exact key x h h1
  · have := key (-x) (by omega) (by omega)
    rw [Int.neg_neg] at this
    exact ⟨this.1.symm, this.2.symm⟩
/-- A sine is less than the next one, rounded up. -/
theorem b_strict {n : Int} (h0 : -5400000 ≤ n) (h1 : n < 5400000) : bLo n < bHi (n + 1) := by
  have hm := b_up (a := n) (b := n + 1) h0 (by omega) (by omega)
  have hx : ∀ k : Int, -5400000 ≤ k → k ≤ 5400000 → bHi k = bLo k + 1 ∨ (k = 0 ∨ k = 1800000 ∨ k = 5400000 ∨ k = -1800000 ∨ k = -5400000) := fun k g0 g1 => by
    by_cases hk : 0 ≤ k
    · have e := b_one hk g1
      have e2 := oneQ_at k.toNat
      unfold hiQ at e
      rw [e.1, e.2]
      by_cases c : k.toNat = 0 ∨ k.toNat = 1800000 ∨ k.toNat = 5400000
      · right; omega
      · left; rw [e2, if_neg c]
    · have e := b_four (n := k) g0 (by omega)
      have e2 := oneQ_at (-k).toNat
      unfold hiQ at e
      rw [e.1, e.2]
      by_cases c : (-k).toNat = 0 ∨ (-k).toNat = 1800000 ∨ (-k).toNat = 5400000
      · right; omega
      · left; rw [e2, if_neg c]; omega
  rcases hx (n + 1) (by omega) (by omega) with h | h
  · omega
  · rcases hx n h0 (by omega) with g | g
    · omega
    · omega
theorem asn_self {n : Int} (h0 : -5400000 ≤ n) (h1 : n ≤ 5400000) : asnI (bLo n) ≤ n := by
  have hv := (bb_le n).2.1
  by_cases h : n = 5400000
  · have := (asnI_in hv).2
    omega
  · have := asnI_lt hv (n := n + 1) (by omega) (b_strict h0 (by omega))
    omega
theorem asn_sum {y : Int} (h0 : -1073741824 ≤ y) (h1 : y ≤ 1073741824) : asnI y + asnI (-y) ≤ 0 := by
  obtain ⟨a1, a2, a3, a4⟩ := asnI_is h0
  have hv : -1073741824 ≤ -y := by omega
  have hb := b_odd (n := asnI y) a1 a2
  have hi := asnI_in hv
  by_cases h : asnI y = -5400000
  · omega
  · have hs := b_strict (n := -(asnI y)) (by omega) (by omega)
    have := asnI_lt hv (n := -(asnI y) + 1) (by omega) (by omega)
    omega
/-- The amplitude: its error, its ends. -/
def ampE (c0 c1 d0 d1 : Int) : Int := if encL (c0 + 5400000) (c1 + 5400000) ≤ 0 then 21
  else if fxB (divL (encL d0 d1) (encL (c0 + 5400000) (c1 + 5400000)) (encH (c0 + 5400000) (c1 + 5400000))) (divH (encH d0 d1) (encL (c0 + 5400000) (c1 + 5400000)) (encH (c0 + 5400000) (c1 + 5400000))) = false then 24
  else if asE (divL (encL d0 d1) (encL (c0 + 5400000) (c1 + 5400000)) (encH (c0 + 5400000) (c1 + 5400000))) (divH (encH d0 d1) (encL (c0 + 5400000) (c1 + 5400000)) (encH (c0 + 5400000) (c1 + 5400000))) ≠ 0 then 12 else 0
noncomputable def ampL (c0 c1 d0 d1 : Int) : Int := if ampE c0 c1 d0 d1 = 0 then asL (divL (encL d0 d1) (encL (c0 + 5400000) (c1 + 5400000)) (encH (c0 + 5400000) (c1 + 5400000))) (divH (encH d0 d1) (encL (c0 + 5400000) (c1 + 5400000)) (encH (c0 + 5400000) (c1 + 5400000))) else 0
noncomputable def ampH (c0 c1 d0 d1 : Int) : Int := if ampE c0 c1 d0 d1 = 0 then asH (divL (encL d0 d1) (encL (c0 + 5400000) (c1 + 5400000)) (encH (c0 + 5400000) (c1 + 5400000))) (divH (encH d0 d1) (encL (c0 + 5400000) (c1 + 5400000)) (encH (c0 + 5400000) (c1 + 5400000))) else 0
/-- At points. -/
theorem ampE_pt (c d : Int) : ampE c c d d = if bLo (c + 5400000) ≤ 0 then 21 else if fxB (divL (bLo d) (bLo (c + 5400000)) (bHi (c + 5400000))) (divH (bHi d) (bLo (c + 5400000)) (bHi (c + 5400000))) = false then 24
    else if asE (divL (bLo d) (bLo (c + 5400000)) (bHi (c + 5400000))) (divH (bHi d) (bLo (c + 5400000)) (bHi (c + 5400000))) ≠ 0 then 12 else 0 := by
  unfold ampE
  rw [(enc_point _).1, (enc_point _).1, (enc_point _).2, (enc_point _).2]
theorem amp_ok {c d : Int} (h : ampE c c d d = 0) : 0 < bLo (c + 5400000) ∧ asE (divL (bLo d) (bLo (c + 5400000)) (bHi (c + 5400000))) (divH (bHi d) (bLo (c + 5400000)) (bHi (c + 5400000))) = 0 ∧
    ampL c c d d = asnI (mx (divL (bLo d) (bLo (c + 5400000)) (bHi (c + 5400000))) (-1073741824)) ∧ ampH c c d d = -(asnI (-(mn (divH (bHi d) (bLo (c + 5400000)) (bHi (c + 5400000))) 1073741824))) := by
  have h1 := h
  rw [ampE_pt] at h1
  by_cases c1 : bLo (c + 5400000) ≤ 0
  · rw [if_pos c1] at h1; cases h1
  rw [if_neg c1] at h1
  by_cases c2 : fxB (divL (bLo d) (bLo (c + 5400000)) (bHi (c + 5400000))) (divH (bHi d) (bLo (c + 5400000)) (bHi (c + 5400000))) = false
  · rw [if_pos c2] at h1; cases h1
  rw [if_neg c2] at h1
  by_cases c3 : asE (divL (bLo d) (bLo (c + 5400000)) (bHi (c + 5400000))) (divH (bHi d) (bLo (c + 5400000)) (bHi (c + 5400000))) ≠ 0
  · rw [if_pos c3] at h1; cases h1
  have c4 := Decidable.not_not.1 c3
  refine ⟨by omega, c4, ?_, ?_⟩
  · unfold ampL asL
    rw [if_pos h, (enc_point _).1, (enc_point _).1, (enc_point _).2, (enc_point _).2, if_pos c4]
  · unfold ampH asH
    rw [if_pos h, (enc_point _).1, (enc_point _).1, (enc_point _).2, (enc_point _).2, if_pos c4]
theorem amp_zero {d : Int} (h0 : -5400000 ≤ d) (h1 : d ≤ 5400000) : ampE 0 0 d d = 0 ∧ ampL 0 0 d d ≤ d ∧ d ≤ ampH 0 0 d d := by
  have hb := bb_le d
  have hT : bLo (0 + 5400000) = 1073741824 ∧ bHi (0 + 5400000) = 1073741824 := by
    have := (b_one (n := 5400000) (by decide) (by decide)).1
    rw [show (5400000 : Int).toNat = 5400000 from rfl, sinQ_q] at this
    exact ⟨this, b_topp⟩
  have e1 : divL (bLo d) 1073741824 1073741824 = bLo d := by unfold divL; rw [Int.mul_ediv_cancel _ (by decide), mn_eq]; omega
  have e2 : divH (bHi d) 1073741824 1073741824 = bHi d := by unfold divH; rw [show -(bHi d * 1073741824) = (-(bHi d)) * 1073741824 by omega, Int.mul_ediv_cancel _ (by decide), mx_eq]; omega
  have hE : ampE 0 0 d d = 0 := by
    have hA : asE (bLo d) (bHi d) = 0 := by
      unfold asE
      rw [decide_eq_true (by omega), if_neg (fun h => by cases h), if_neg (by rw [mn_eq, mx_eq]; omega)]
    rw [ampE_pt, hT.1, hT.2, if_neg (by decide), e1, e2, if_neg (by rw [fxB_iff.2 (by omega)]; decide), hA, if_neg (fun h => h rfl)]
  obtain ⟨-, -, hL, hH⟩ := amp_ok hE
  rw [hT.1, hT.2, e1] at hL
  rw [hT.1, hT.2, e2] at hH
  rw [hL, hH, show mx (bLo d) (-1073741824) = bLo d by rw [mx_eq]; omega, show mn (bHi d) 1073741824 = bHi d by rw [mn_eq]; omega]
  have s1 := asn_self h0 h1
  have s2 := asn_self (n := -d) (by omega) (by omega)
  rw [(b_odd h0 h1).1] at s2
  exact ⟨hE, s1, by omega⟩
theorem asE_neg (x y : Int) : asE (-y) (-x) = asE x y := by
  unfold asE
  rw [show (decide (-y ≤ -x ∧ -2147483648 ≤ -y ∧ -x ≤ 2147483648)) = decide (x ≤ y ∧ -2147483648 ≤ x ∧ y ≤ 2147483648) by rw [decide_eq_decide]; omega]
  by_cases h : mn y 1073741824 < mx x (-1073741824)
  · rw [if_pos h, if_pos (show mn (-x) 1073741824 < mx (-y) (-1073741824) by rw [mn_eq, mx_eq] at *; omega)]
  · rw [if_neg h, if_neg (show ¬ mn (-x) 1073741824 < mx (-y) (-1073741824) by rw [mn_eq, mx_eq] at *; omega)]
theorem amp_odd {c d : Int} (c0 : -5400000 ≤ c) (c1 : c ≤ 5400000) (h0 : -5400000 ≤ d) (h1 : d ≤ 5400000) :
    ampE (-c) (-c) (-d) (-d) = ampE c c d d ∧ (ampE c c d d = 0 → ampL (-c) (-c) (-d) (-d) = -(ampH c c d d) ∧ ampH (-c) (-c) (-d) (-d) = -(ampL c c d d)) := by
  have hc := b_even c0 c1
  have hd := b_odd h0 h1
  have hv := div_neg (bLo d) (bHi d) (bLo (c + 5400000)) (bHi (c + 5400000))
  have hE : ampE (-c) (-c) (-d) (-d) = ampE c c d d := by
    rw [ampE_pt, ampE_pt, hc.1, hc.2, hd.1, hd.2, hv.1, hv.2, asE_neg]
    rw [show fxB (-(divH (bHi d) (bLo (c + 5400000)) (bHi (c + 5400000)))) (-(divL (bLo d) (bLo (c + 5400000)) (bHi (c + 5400000)))) = fxB (divL (bLo d) (bLo (c + 5400000)) (bHi (c + 5400000))) (divH (bHi d) (bLo (c + 5400000)) (bHi (c + 5400000))) by unfold fxB; rw [decide_eq_decide]; omega]
  refine ⟨hE, fun h => ?_⟩
  obtain ⟨-, -, hL, hH⟩ := amp_ok h
  obtain ⟨-, -, gL, gH⟩ := amp_ok (hE.trans h)
  rw [hc.1, hc.2, hd.1, hv.1] at gL
  rw [hc.1, hc.2, hd.2, hv.2] at gH
  rw [hL, hH, gL, gH]
  constructor
  · rw [Int.neg_neg]
    congr 1
    rw [mx_eq, mn_eq]; omega
  · congr 2
    rw [mn_eq, mx_eq]; omega
theorem divL_bLo {s x y : Int} (h0 : 0 ≤ s) (hx : 0 < x) (hxy : x ≤ y) : divL s x y ≤ s * 1073741824 / x := by
  have := ediv_anti (a := s * 1073741824) (by omega) hx hxy
  unfold divL
  rw [mn_eq]; omega
theorem amp_more {c m d : Int} (c0 : 0 ≤ c) (m0 : 0 ≤ m) (m1 : c + m ≤ 5400000) (h0 : 0 ≤ d) (h1 : d ≤ 5400000) (e1 : ampE c c d d = 0) (e2 : ampE (c + m) (c + m) d d = 0) : ampL c c d d ≤ ampH (c + m) (c + m) d d := by
  obtain ⟨p1, q1, hL, -⟩ := amp_ok e1
  obtain ⟨p2, -, -, hH⟩ := amp_ok e2
  rw [hL, hH]
  have hs : 0 ≤ bLo d := bLo_pos h0 (by omega)
  have hsb := (bb_le d).1
  have hc := (b_down (a := c + 5400000) (b := c + m + 5400000) (by omega) (by omega) (by omega)).1
  have hcb := (bb_le (c + 5400000)).1
  have k1 := divL_bLo (s := bLo d) hs p1 hcb
  have k2 : bLo d * 1073741824 / bLo (c + 5400000) ≤ bLo d * 1073741824 / bLo (c + m + 5400000) := ediv_anti (by omega) p2 hc
  have k3 := fl_le_ce (a := bLo d * 1073741824) p2
  have k4 : (-(bHi d * 1073741824)) / bLo (c + m + 5400000) ≤ (-(bLo d * 1073741824)) / bLo (c + m + 5400000) := Int.ediv_le_ediv p2 (by omega)
  have k5 : -((-(bHi d * 1073741824)) / bLo (c + m + 5400000)) ≤ divH (bHi d) (bLo (c + m + 5400000)) (bHi (c + m + 5400000)) := by unfold divH; rw [mx_eq]; omega
  have k6 : 0 ≤ bLo d * 1073741824 / bLo (c + 5400000) := Int.ediv_nonneg (by omega) (by omega)
  have hq : mx (divL (bLo d) (bLo (c + 5400000)) (bHi (c + 5400000))) (-1073741824) ≤ 1073741824 := by
    unfold asE at q1
    by_cases z1 : (decide (divL (bLo d) (bLo (c + 5400000)) (bHi (c + 5400000)) ≤ divH (bHi d) (bLo (c + 5400000)) (bHi (c + 5400000)) ∧ -2147483648 ≤ divL (bLo d) (bLo (c + 5400000)) (bHi (c + 5400000)) ∧ divH (bHi d) (bLo (c + 5400000)) (bHi (c + 5400000)) ≤ 2147483648)) = false
    · rw [if_pos z1] at q1; cases q1
    · rw [if_neg z1] at q1
      by_cases z2 : mn (divH (bHi d) (bLo (c + 5400000)) (bHi (c + 5400000))) 1073741824 < mx (divL (bLo d) (bLo (c + 5400000)) (bHi (c + 5400000))) (-1073741824)
      · rw [if_pos z2] at q1; cases q1
      · rw [mn_eq] at z2; omega
  obtain ⟨X, hX⟩ : ∃ X, mx (divL (bLo d) (bLo (c + 5400000)) (bHi (c + 5400000))) (-1073741824) = X := ⟨_, rfl⟩
  obtain ⟨Y, hY⟩ : ∃ Y, mn (divH (bHi d) (bLo (c + m + 5400000)) (bHi (c + m + 5400000))) 1073741824 = Y := ⟨_, rfl⟩
  rw [hX] at hq ⊢
  rw [hY]
  have hX2 : X = max (divL (bLo d) (bLo (c + 5400000)) (bHi (c + 5400000))) (-1073741824) := by rw [← hX, mx_eq]
  have hY2 : Y = min (divH (bHi d) (bLo (c + m + 5400000)) (bHi (c + m + 5400000))) 1073741824 := by rw [← hY, mn_eq]
  have m2 := asnI_mono (v := X) (u := Y) (by omega) (by omega)
  have m3 := asn_sum (y := Y) (by omega) (by omega)
  omega
end Go.Proofs.YtakcfcekdngndaaGreat
/- Contracts of package meridian and its reference: latitudes at the meridian. -/
namespace Go.Proofs.YtakcfcekdngndaaGreat
open Go.RowKit

def latB (x0 y0 : Int) : Bool := decide (x0 ≤ y0 ∧ -5400000 ≤ x0 ∧ y0 ≤ 5400000)
theorem latB_iff {x0 y0 : Int} : latB x0 y0 = true ↔ x0 ≤ y0 ∧ -5400000 ≤ x0 ∧ y0 ≤ 5400000 := by simp [latB]
theorem lat_valid {x0 y0 : Int} (h : latB x0 y0 = true) : validB x0 y0 = true := by
  have := latB_iff.1 h; rw [validB_iff]; omega
set_option maxHeartbeats 400000 in
theorem ref25_Latitude (x0 y0 : Int) (w : World) :
    Calls Tryz.prog 12 #[(.agg #[.int .i64 (x0), .int .i64 (y0)])] w fun e w' => e = .returned (.bool (latB x0 y0)) ∧ ∃ d, w' = bw w d := by
  refine lay_start ?_
  go_enter Tryz.func12, Tryz.ntmps12
  go_wp2
  all_goals go_ret
  all_goals exact ⟨ret_bool (by rw [Bool.eq_iff_iff]; simp [latB]; omega), lay_ex _ _⟩
theorem lat_w1 {x0 y0 : Int} (h1 : validB x0 y0 = true) (h2 : -5400000 ≤ x0) : decide (y0 ≤ 5400000) = latB x0 y0 := by
  have := validB_iff.1 h1; rw [Bool.eq_iff_iff]; simp [latB]; omega
theorem lat_w2 {x0 y0 : Int} (h2 : x0 < -5400000) : false = latB x0 y0 := by rw [Bool.eq_iff_iff]; simp [latB]; omega
theorem lat_w3 {x0 y0 : Int} (h1 : ¬ validB x0 y0 = true) : false = latB x0 y0 := by
  rw [validB_iff] at h1; rw [Bool.eq_iff_iff]; simp [latB]; omega
set_option maxHeartbeats 400000 in
theorem mer_latitude (x0 y0 : Int) (w : World) :
    Calls Tryz.prog 22 #[(.agg #[.int .i64 (x0), .int .i64 (y0)])] w fun e w' => e = .returned (.bool (latB x0 y0)) ∧ ∃ d, w' = bw w d := by
  refine lay_start ?_
  go_enter Tryz.func22, Tryz.ntmps22
  go_wp2_with (go_at_call 23; refine (angle_Valid _ _ _).mono ?_; rintro e w' ⟨rfl, d, rfl⟩)
  all_goals go_ret
  all_goals exact ⟨ret_bool (by first | exact lat_w1 ‹_› ‹_› | exact lat_w2 ‹_› | exact lat_w3 ‹_›), lay_ex _ _⟩
/-- The part of an arc that is one of latitudes. -/
def lsLo (x0 y0 : Int) : Int := if max x0 (-5400000) ≤ min y0 5400000 then max x0 (-5400000) else 0
def lsHi (x0 y0 : Int) : Int := if max x0 (-5400000) ≤ min y0 5400000 then min y0 5400000 else 0
def lsE (x0 y0 : Int) : Int := if max x0 (-5400000) ≤ min y0 5400000 then 0 else 2
theorem ls_good {x0 y0 : Int} (h : mx x0 (-5400000) ≤ mn y0 5400000) : mx x0 (-5400000) = lsLo x0 y0 ∧ mn y0 5400000 = lsHi x0 y0 ∧ 0 = lsE x0 y0 := by
  rw [mx_eq, mn_eq] at *; unfold lsLo lsHi lsE; omega
theorem ls_bad {x0 y0 : Int} (h : mn y0 5400000 < mx x0 (-5400000)) : 0 = lsLo x0 y0 ∧ 0 = lsHi x0 y0 ∧ 2 = lsE x0 y0 := by
  rw [mx_eq, mn_eq] at *; unfold lsLo lsHi lsE; omega
set_option maxHeartbeats 400000 in
theorem mer_latitudes (x0 y0 : Int) (w : World) :
    Calls Tryz.prog 60 #[(.agg #[.int .i64 (x0), .int .i64 (y0)])] w fun e w' => e = .returned (.tuple #[(.agg #[.int .i64 (lsLo x0 y0), .int .i64 (lsHi x0 y0)]), .int .i64 (lsE x0 y0)]) ∧ ∃ d, w' = bw w d := by
  refine lay_start ?_
  go_enter Tryz.func60, Tryz.ntmps60
  go_wp2
  · obtain ⟨g1, g2, g3⟩ := ls_bad (x0 := x0) (y0 := y0) ‹_›
    exact bodyPost_ret (v := .tuple #[(.agg #[.int .i64 (lsLo x0 y0), .int .i64 (lsHi x0 y0)]), .int .i64 (lsE x0 y0)]) (by simp [results, Tryz.results60, go_sem, ← g1, ← g2, ← g3]) rfl ⟨rfl, lay_ex _ _⟩
  · obtain ⟨g1, g2, g3⟩ := ls_good (x0 := x0) (y0 := y0) ‹_›
    exact bodyPost_ret (v := .tuple #[(.agg #[.int .i64 (lsLo x0 y0), .int .i64 (lsHi x0 y0)]), .int .i64 (lsE x0 y0)]) (by simp [results, Tryz.results60, go_sem, ← g1, ← g2, ← g3]) rfl ⟨rfl, lay_ex _ _⟩
theorem ls_meets {x0 y0 : Int} (h : meetsB x0 y0 (-5400000) 5400000 = true) (hxy : x0 ≤ y0) : mx x0 (-5400000) = lsLo x0 y0 ∧ mn y0 5400000 = lsHi x0 y0 ∧ 0 = lsE x0 y0 := by
  simp [meetsB] at h
  rw [mx_eq, mn_eq] at *; unfold lsLo lsHi lsE; omega
theorem ls_misses {x0 y0 : Int} (h : meetsB x0 y0 (-5400000) 5400000 = false) (_hxy : x0 ≤ y0) : 0 = lsLo x0 y0 ∧ 0 = lsHi x0 y0 ∧ 2 = lsE x0 y0 := by
  simp [meetsB] at h
  unfold lsLo lsHi lsE; omega
set_option maxHeartbeats 400000 in
theorem ref33_latitudes (x0 y0 : Int) (w : World) (hxy : x0 ≤ y0) :
    Calls Tryz.prog 62 #[(.agg #[.int .i64 (x0), .int .i64 (y0)])] w fun e w' => e = .returned (.tuple #[(.agg #[.int .i64 (lsLo x0 y0), .int .i64 (lsHi x0 y0)]), .int .i64 (lsE x0 y0)]) ∧ ∃ d, w' = bw w d := by
  cases h : meetsB x0 y0 (-5400000) 5400000
  · have HG := Lib.hid (ls_misses h hxy)
    refine lay_start ?_
    go_enter Tryz.func62, Tryz.ntmps62
    go_wp2_with (go_at_call 43; refine (ref05_Meets _ _ _ _ _).mono ?_; rintro e w' ⟨rfl, d, rfl⟩)
    obtain ⟨g1, g2, g3⟩ := HG.out
    exact bodyPost_ret (v := .tuple #[(.agg #[.int .i64 (lsLo x0 y0), .int .i64 (lsHi x0 y0)]), .int .i64 (lsE x0 y0)]) (by simp [results, Tryz.results62, go_sem, ← g1, ← g2, ← g3]) rfl ⟨rfl, lay_ex _ _⟩
  · have HG := Lib.hid (ls_meets h hxy)
    refine lay_start ?_
    go_enter Tryz.func62, Tryz.ntmps62
    go_wp2_with (first | (go_at_call 43; refine (ref05_Meets _ _ _ _ _).mono ?_; rintro e w' ⟨rfl, d, rfl⟩) | (go_at_call 44; refine (ref05_Meet _ _ _ _ _).mono ?_; rintro e w' ⟨rfl, d, rfl⟩))
    obtain ⟨g1, g2, g3⟩ := HG.out
    exact bodyPost_ret (v := .tuple #[(.agg #[.int .i64 (lsLo x0 y0), .int .i64 (lsHi x0 y0)]), .int .i64 (lsE x0 y0)]) (by simp [results, Tryz.results62, go_sem, g1, g2, g3]) rfl ⟨rfl, lay_ex _ _⟩
set_option maxHeartbeats 400000 in
theorem mer_plus (x0 y0 x1 y1 : Int) (w : World) (h1 : -9223372036854775807 ≤ x0 + x1) (h2 : x0 + x1 ≤ 9223372036854775807) (h3 : -9223372036854775807 ≤ y0 + y1) (h4 : y0 + y1 ≤ 9223372036854775807) :
    Calls Tryz.prog 31 #[(.agg #[.int .i64 (x0), .int .i64 (y0)]), (.agg #[.int .i64 (x1), .int .i64 (y1)])] w fun e w' => e = .returned (.agg #[.int .i64 (x0 + x1), .int .i64 (y0 + y1)]) ∧ ∃ d, w' = bw w d := by
  refine lay_start ?_
  go_enter Tryz.func31, Tryz.ntmps31
  go_wp2
  exact bodyPost_ret (v := (.agg #[.int .i64 (x0 + x1), .int .i64 (y0 + y1)])) (by simp [results, Tryz.results31, go_sem]) rfl ⟨rfl, lay_ex _ _⟩
set_option maxHeartbeats 400000 in
theorem mer_minus (x0 y0 x1 y1 : Int) (w : World) (h1 : -9223372036854775807 ≤ x0 - y1) (h2 : x0 - y1 ≤ 9223372036854775807) (h3 : -9223372036854775807 ≤ y0 - x1) (h4 : y0 - x1 ≤ 9223372036854775807) :
    Calls Tryz.prog 32 #[(.agg #[.int .i64 (x0), .int .i64 (y0)]), (.agg #[.int .i64 (x1), .int .i64 (y1)])] w fun e w' => e = .returned (.agg #[.int .i64 (x0 - y1), .int .i64 (y0 - x1)]) ∧ ∃ d, w' = bw w d := by
  refine lay_start ?_
  go_enter Tryz.func32, Tryz.ntmps32
  go_wp2
  exact bodyPost_ret (v := (.agg #[.int .i64 (x0 - y1), .int .i64 (y0 - x1)])) (by simp [results, Tryz.results32, go_sem]) rfl ⟨rfl, lay_ex _ _⟩
set_option maxHeartbeats 400000 in
theorem mer_rest (x0 y0 : Int) (w : World) (h1 : -9223372036849375807 ≤ x0) (h2 : x0 ≤ 9223372036849375807) (h3 : -9223372036849375807 ≤ y0) (h4 : y0 ≤ 9223372036849375807) :
    Calls Tryz.prog 27 #[(.agg #[.int .i64 (x0), .int .i64 (y0)])] w fun e w' => e = .returned (.agg #[.int .i64 (5400000 - y0), .int .i64 (5400000 - x0)]) ∧ ∃ d, w' = bw w d := by
  refine lay_start ?_
  go_enter Tryz.func27, Tryz.ntmps27
  go_wp2
  exact bodyPost_ret (v := (.agg #[.int .i64 (5400000 - y0), .int .i64 (5400000 - x0)])) (by simp [results, Tryz.results27, go_sem]) rfl ⟨rfl, lay_ex _ _⟩
set_option maxHeartbeats 400000 in
theorem ref33_one (n : Int) (w : World) :
    Calls Tryz.prog 36 #[.int .i64 n] w fun e w' => e = .returned (.agg #[.int .i64 (n), .int .i64 (n)]) ∧ ∃ d, w' = bw w d := by
  refine lay_start ?_
  go_enter Tryz.func36, Tryz.ntmps36
  go_wp2
  exact bodyPost_ret (v := (.agg #[.int .i64 (n), .int .i64 (n)])) (by simp [results, Tryz.results36, go_sem]) rfl ⟨rfl, lay_ex _ _⟩
set_option maxHeartbeats 400000 in
theorem law33_one (n : Int) (w : World) :
    Calls Tryz.prog 20 #[.int .i64 n] w fun e w' => e = .returned (.agg #[.int .i64 (n), .int .i64 (n)]) ∧ ∃ d, w' = bw w d := by
  refine lay_start ?_
  go_enter Tryz.func20, Tryz.ntmps20
  go_wp2
  exact bodyPost_ret (v := (.agg #[.int .i64 (n), .int .i64 (n)])) (by simp [results, Tryz.results20, go_sem]) rfl ⟨rfl, lay_ex _ _⟩
end Go.Proofs.YtakcfcekdngndaaGreat
/- The latitude by an ex-meridian altitude: what is reckoned. No program in sight. -/
namespace Go.Proofs.YtakcfcekdngndaaGreat
open Go.RowKit

def cosL (lo hi : Int) : Int := encL (lo + 5400000) (hi + 5400000)
def cosH (lo hi : Int) : Int := encH (lo + 5400000) (hi + 5400000)
theorem cos_in2 (lo hi : Int) : -1073741824 ≤ cosL lo hi ∧ cosL lo hi ≤ cosH lo hi ∧ cosH lo hi ≤ 1073741824 := enc_in
/-- The product of two cosines. -/
def ccL (a0 a1 b0 b1 : Int) : Int := mulL (cosL a0 a1) (cosH a0 a1) (cosL b0 b1) (cosH b0 b1)
def ccH (a0 a1 b0 b1 : Int) : Int := mulH (cosL a0 a1) (cosH a0 a1) (cosL b0 b1) (cosH b0 b1)
theorem cc_in (a0 a1 b0 b1 : Int) : -1073741824 ≤ ccL a0 a1 b0 b1 ∧ ccL a0 a1 b0 b1 ≤ ccH a0 a1 b0 b1 ∧ ccH a0 a1 b0 b1 ≤ 1073741824 := by
  obtain ⟨p1, p2, p3⟩ := cos_in2 a0 a1
  obtain ⟨q1, q2, q3⟩ := cos_in2 b0 b1
  exact mul_unit p1 p2 p3 q1 q2 q3
/-- And with a haversine. -/
def chL (a0 a1 b0 b1 c0 c1 : Int) : Int := mulL (ccL a0 a1 b0 b1) (ccH a0 a1 b0 b1) (havL c0 c1) (havH c0 c1)
def chH (a0 a1 b0 b1 c0 c1 : Int) : Int := mulH (ccL a0 a1 b0 b1) (ccH a0 a1 b0 b1) (havL c0 c1) (havH c0 c1)
theorem ch_in (a0 a1 b0 b1 c0 c1 : Int) : -1073741824 ≤ chL a0 a1 b0 b1 c0 c1 ∧ chL a0 a1 b0 b1 c0 c1 ≤ chH a0 a1 b0 b1 c0 c1 ∧ chH a0 a1 b0 b1 c0 c1 ≤ 1073741824 := by
  obtain ⟨p1, p2, p3⟩ := cc_in a0 a1 b0 b1
  obtain ⟨q1, q2, q3⟩ := hav_in c0 c1
  exact mul_unit p1 p2 p3 (by omega) q2 q3
theorem unit_fx {a b : Int} (h : -1073741824 ≤ a ∧ a ≤ b ∧ b ≤ 1073741824) : fxB a b = true := fxB_iff.2 (by omega)
/-- The haversine of the zenith distance on the meridian. -/
def exN0 (h0 h1 a0 a1 b0 b1 c0 c1 : Int) : Int := havL (5400000 - h1) (5400000 - h0) - chH a0 a1 b0 b1 c0 c1
def exN1 (h0 h1 a0 a1 b0 b1 c0 c1 : Int) : Int := havH (5400000 - h1) (5400000 - h0) - chL a0 a1 b0 b1 c0 c1
theorem exN_fx (h0 h1 a0 a1 b0 b1 c0 c1 : Int) : fxB (exN0 h0 h1 a0 a1 b0 b1 c0 c1) (exN1 h0 h1 a0 a1 b0 b1 c0 c1) = true := by
  have q := hav_in (5400000 - h1) (5400000 - h0)
  have p := ch_in a0 a1 b0 b1 c0 c1
  unfold exN0 exN1
  rw [fxB_iff]
  omega
theorem ahE_two {lo hi : Int} (h : fxB lo hi = true) : ahE lo hi = 0 ∨ ahE lo hi = 2 := by
  unfold ahE
  rw [h, if_neg (by decide)]
  split
  · exact .inr rfl
  · exact .inl rfl
theorem ah_in {lo hi : Int} (h : ahE lo hi = 0) : 0 ≤ ahL lo hi ∧ ahL lo hi ≤ 10800000 ∧ 0 ≤ ahH lo hi ∧ ahH lo hi ≤ 10800000 := by
  have e := ah_as h
  unfold ahL ahH
  rw [if_pos h, if_pos h]
  generalize 1073741824 - 2 * mn hi 1073741824 = x at *
  generalize 1073741824 - 2 * mx lo 0 = y at *
  unfold asL asH
  rw [if_pos e, if_pos e]
  have h1 := asnI_in (v := mx x (-1073741824)) (by rw [mx_eq]; omega)
  have h2 := asnI_in (v := -(mn y 1073741824)) (by rw [mn_eq]; omega)
  omega
/-- The zenith distance is an arc. -/
theorem ah_le {lo hi : Int} (h : ahE lo hi = 0) : ahL lo hi ≤ ahH lo hi := by
  have e := ah_as h
  unfold ahL ahH
  rw [if_pos h, if_pos h]
  generalize 1073741824 - 2 * mn hi 1073741824 = x at *
  generalize 1073741824 - 2 * mx lo 0 = y at *
  rw [asE_at] at e
  unfold asL asH
  by_cases c1 : fxB x y = false
  · rw [if_pos c1] at e; cases e
  rw [if_neg c1] at e
  by_cases c2 : mn y 1073741824 < mx x (-1073741824)
  · rw [if_pos c2] at e; cases e
  have e2 : asE x y = 0 := by rw [asE_at, if_neg c1, if_neg c2]
  rw [if_pos e2, if_pos e2]
  have hs := asn_sum (y := mx x (-1073741824)) (by rw [mx_eq]; omega) (by rw [mx_eq, mn_eq] at *; omega)
  have hm := asnI_mono (v := -(mn y 1073741824)) (u := -(mx x (-1073741824))) (by rw [mn_eq]; omega) (by omega)
  omega
/-- Where the latitude lies: beside the declination, on the side where the arc is, or on both. -/
def outL (a0 a1 b0 b1 z0 z1 : Int) : Int := if b1 ≤ a0 then b0 + z0 else if a1 ≤ b0 then b0 - z1 else mn (b0 + z0) (b0 - z1)
def outH (a0 a1 b0 b1 z0 z1 : Int) : Int := if b1 ≤ a0 then b1 + z1 else if a1 ≤ b0 then b1 - z0 else mx (b1 + z1) (b1 - z0)
theorem out_in {a0 a1 b0 b1 z0 z1 : Int} (hb : -5400000 ≤ b0 ∧ b0 ≤ b1 ∧ b1 ≤ 5400000) (hz : 0 ≤ z0 ∧ z0 ≤ z1 ∧ z1 ≤ 10800000) : -16200000 ≤ outL a0 a1 b0 b1 z0 z1 ∧ outL a0 a1 b0 b1 z0 z1 ≤ outH a0 a1 b0 b1 z0 z1 ∧ outH a0 a1 b0 b1 z0 z1 ≤ 16200000 := by
  unfold outL outH
  rw [mn_eq, mx_eq]
  split
  · omega
  · split <;> omega
/-- The latitude: its error, its ends. -/
noncomputable def exE (a0 a1 b0 b1 n0 n1 : Int) : Int := if ahE n0 n1 = 0 then meetE a0 a1 (outL a0 a1 b0 b1 (ahL n0 n1) (ahH n0 n1)) (outH a0 a1 b0 b1 (ahL n0 n1) (ahH n0 n1)) else 12
noncomputable def exL (a0 a1 b0 b1 n0 n1 : Int) : Int := if ahE n0 n1 = 0 then meetLo a0 a1 (outL a0 a1 b0 b1 (ahL n0 n1) (ahH n0 n1)) (outH a0 a1 b0 b1 (ahL n0 n1) (ahH n0 n1)) else 0
noncomputable def exH (a0 a1 b0 b1 n0 n1 : Int) : Int := if ahE n0 n1 = 0 then meetHi a0 a1 (outL a0 a1 b0 b1 (ahL n0 n1) (ahH n0 n1)) (outH a0 a1 b0 b1 (ahL n0 n1) (ahH n0 n1)) else 0
end Go.Proofs.YtakcfcekdngndaaGreat
/- A cell that keeps its value: storing what is there changes nothing. No program in sight. -/
namespace Go.Proofs.YtakcfcekdngndaaGreat
open Go.RowKit

theorem set_same {W : World} {b i : Nat} {v : Value} (h : W.cell? ⟨b, i, none⟩ = some v) : W.setCell ⟨b, i, none⟩ v = W := by
  have hh : W.heap.modify b (fun o => match o with | .cells c elem frozen => .cells (if (none : Option Nat).isSome then c else c.setIfInBounds i v) elem frozen | o => o) = W.heap := by
    refine Array.ext (by simp) fun j h1 h2 => ?_
    rw [Array.getElem_modify]
    split
    · rename_i e
      subst e
      unfold World.cell? at h
      rw [Array.getElem?_eq_getElem h2] at h
      dsimp only at h
      split at h
      · rename_i c e f he
        rw [Option.some.injEq] at he
        rw [he]
        simp only [Option.isSome_none, Bool.false_eq_true, if_false] at h ⊢
        obtain ⟨hi, hv⟩ := Array.getElem?_eq_some_iff.1 h
        rw [Array.setIfInBounds_def, dif_pos hi, ← hv, Array.set_getElem_self]
      · cases h
    · rfl
  obtain ⟨heap, tape, drawn, os, output⟩ := W
  unfold World.setCell
  dsimp only at hh ⊢
  exact congrArg (fun x => ({ heap := x, tape := tape, drawn := drawn, os := os, output := output } : World)) hh
/-- A chain without an error, behind a pointer. -/
structure ChW (b : Nat) (W : World) : Prop where
  lt : b < W.heap.size
  cell : W.cell? ⟨b, 0, none⟩ = some (.int .i64 0)
  froz : W.frozen? ⟨b, 0, none⟩ = false
theorem ChW.ext {b : Nat} {W W' : World} (h : ChW b W) (hb : Below W.heap.size W W') : ChW b W' :=
  ⟨Nat.lt_of_lt_of_le h.lt hb.size, (hb.cell (p := ⟨b, 0, none⟩) h.lt).trans h.cell, (hb.frozen (p := ⟨b, 0, none⟩) h.lt).trans h.froz⟩
theorem ChW.bw {b : Nat} {W : World} (h : ChW b W) (d : Ext) : ChW b (bw W d) := h.ext (bw_below W d)
theorem ChW.lay {b : Nat} {W : World} (h : ChW b W) (L : List (Obj ⊕ Ext)) : ChW b (lay W L) := h.ext (lay_extends W L)
theorem ChW.set {b : Nat} {W : World} (h : ChW b W) : W.setCell ⟨b, 0, none⟩ (.int .i64 0) = W := set_same h.cell
/-- The cell that has just been made. -/
theorem chW_new (w : World) (L : List (Obj ⊕ Ext)) (t : TypeId) (p : List Nat) (hp : shp L = p) : ChW (posn w p) (lay w (.inl (Obj.cells #[.int .i64 0] t) :: L)) := by
  subst hp
  have hg : (lay w (.inl (Obj.cells #[.int .i64 0] t) :: L)).heap[posn w (shp L)]? = some (Obj.cells #[.int .i64 0] t) := lay_get w (.inl (Obj.cells #[.int .i64 0] t) :: L) 0 _ rfl
  refine ⟨(Array.getElem?_eq_some_iff.1 hg).1, ?_, ?_⟩
  · unfold World.cell?; dsimp only; rw [hg]; rfl
  · unfold World.frozen?; dsimp only; rw [hg]; rfl
end Go.Proofs.YtakcfcekdngndaaGreat
/- fixed: Sub, Add, fit at any ends. -/
namespace Go.Proofs.YtakcfcekdngndaaGreat
open Go.RowKit

set_option maxRecDepth 100000 in
theorem fx_SubG (a0 a1 b0 b1 : Int) (w : World) (ha : fxB a0 a1 = true) (hb : fxB b0 b1 = true) (hm : fxB (a0 - b1) (a1 - b0) = true) :
    Calls Tryz.prog 25 #[(.agg #[.int .i64 (a0), .int .i64 (a1)]), (.agg #[.int .i64 (b0), .int .i64 (b1)])] w fun e w' => e = .returned (.tuple #[(.agg #[.int .i64 (a0 - b1), .int .i64 (a1 - b0)]), .int .i64 0]) ∧ ∃ d, w' = bw w d := by
  have HB := Lib.hid (fun W => fx_bothG a0 a1 b0 b1 W)
  rw [ha, hb, Bool.and_self] at HB
  have HT := Lib.hid (fun W => fx_fitG _ _ W hm)
  have hf := fxB_iff.1 hm
  have hfa := fxB_iff.1 ha
  have hfb := fxB_iff.1 hb
  have k1 : IntKind.i64.wrap (a0 - b1) = a0 - b1 := IntWalk.i64_in _ (by omega)
  have k2 : IntKind.i64.wrap (a1 - b0) = a1 - b0 := IntWalk.i64_in _ (by omega)
  clear hf hfa hfb ha hb hm
  refine lay_start ?_
  go_enter Tryz.func25, Tryz.ntmps25
  go_wp2_with (first | (go_at_call 64; refine (HB.out _).mono ?_; rintro e w' ⟨rfl, d, rfl⟩) | (go_at_call 65; refine (HT.out _).mono ?_; rintro e w' ⟨rfl, d1, rfl⟩))
  exact bodyPost_ret (v := .tuple #[(.agg #[.int .i64 (a0 - b1), .int .i64 (a1 - b0)]), .int .i64 0]) (by simp [results, Tryz.results25, go_sem]) rfl ⟨rfl, lay_ex _ _⟩
set_option maxRecDepth 100000 in
theorem fx_fitX (lo hi : Int) (w : World) :
    Calls Tryz.prog 65 #[.int .i64 lo, .int .i64 hi] w fun e w' => e = .returned (.tuple #[(.agg #[.int .i64 (if fxB lo hi then lo else 0), .int .i64 (if fxB lo hi then hi else 0)]), .int .i64 (if fxB lo hi then 0 else 5)]) ∧ ∃ d, w' = bw w d := by
  cases h : fxB lo hi
  · have HV := Lib.hid (fun W => fx_ValidG lo hi W)
    rw [h] at HV
    refine lay_start ?_
    go_enter Tryz.func65, Tryz.ntmps65
    go_wp2_with (go_at_call 68; refine (HV.out _).mono ?_; rintro e w' ⟨rfl, d, rfl⟩)
    exact bodyPost_ret (v := .tuple #[(.agg #[.int .i64 (0), .int .i64 (0)]), .int .i64 5]) (by simp [results, Tryz.results65, go_sem]) rfl ⟨rfl, lay_ex _ _⟩
  · exact fx_fitG lo hi w h
end Go.Proofs.YtakcfcekdngndaaGreat
/- Haversines over arcs: the program's. -/
namespace Go.Proofs.YtakcfcekdngndaaGreat
open Go.RowKit

set_option maxRecDepth 100000 in
theorem tg_Haversine (lo hi : Int) (hv : validB lo hi = true) (w : World) :
    Calls Tryz.prog 66 #[(.agg #[.int .i64 (lo), .int .i64 (hi)])] w fun e w' => e = .returned (.tuple #[(.agg #[.int .i64 (havL lo hi), .int .i64 (havH lo hi)]), .int .i64 0]) ∧ ∃ d, w' = bw w d := by
  refine lay_start ?_
  have h := validB_iff.1 hv
  have HV := Lib.hid (fun W => tg_valid lo hi W)
  rw [hv] at HV
  have HF := Lib.hid (fun W => tg_further lo hi (by omega) h.1 (by omega) W)
  have HE := Lib.hid (fun W => tg_enclosure (lo + 5400000) (hi + 5400000) (by omega) (by omega) (by omega) W)
  have hb := enc_in (lo := lo + 5400000) (hi := hi + 5400000)
  clear h hv
  unfold havL havH
  generalize encL (lo + 5400000) (hi + 5400000) = p at *
  generalize encH (lo + 5400000) (hi + 5400000) = q at *
  obtain ⟨X, hX⟩ : ∃ X, 1073741824 - q = X := ⟨_, rfl⟩
  obtain ⟨Y, hY⟩ : ∃ Y, 1073741824 - p = Y := ⟨_, rfl⟩
  obtain ⟨Z, hZ⟩ : ∃ Z, Y + 1 = Z := ⟨_, rfl⟩
  have k1 : IntKind.i64.wrap (1073741824 - q) = X := by rw [hX]; exact IntWalk.i64_in _ (by omega)
  have k2 : IntKind.i64.wrap (1073741824 - p) = Y := by rw [hY]; exact IntWalk.i64_in _ (by omega)
  have k3 : IntKind.i64.wrap (Y + 1) = Z := by rw [hZ]; exact IntWalk.i64_in _ (by omega)
  rw [hX, hY, hZ]
  clear hX hY hZ hb
  go_enter Tryz.func66, Tryz.ntmps66
  go_wp2_with (first | (go_at_call 80; refine (HV.out _).mono ?_; rintro e w' ⟨rfl, d, rfl⟩) | (go_at_call 82; refine (HF.out _).mono ?_; rintro e w' ⟨rfl, d, rfl⟩) | (go_at_call 81; refine (HE.out _).mono ?_; rintro e w' ⟨rfl, d, rfl⟩))
  exact bodyPost_ret (v := .tuple #[(.agg #[.int .i64 (X / 2), .int .i64 (Z / 2)]), .int .i64 0]) (by simp [results, Tryz.results66, go_sem]) rfl ⟨rfl, lay_ex _ _⟩
end Go.Proofs.YtakcfcekdngndaaGreat
