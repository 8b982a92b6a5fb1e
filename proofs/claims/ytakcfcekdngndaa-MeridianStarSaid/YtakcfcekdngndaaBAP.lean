/- Contracts and plain laws, several texts in one: NeP; NeQ; TgH; ChM; ExW -/
import Derived.Test.YtakcfcekdngndaaProg
import Derived.WalkKit
import Derived.WalkSpells
import Derived.WalkLawsBesides
import Derived.Lib.Hide
import Derived.BigQuiet
import Derived.Test.YtakcfcekdngndaaBAA
import Derived.Test.YtakcfcekdngndaaBAG
import Derived.Test.YtakcfcekdngndaaBAH
import Derived.Test.YtakcfcekdngndaaBAM
/- An ex-meridian altitude has the latitude: the plain law. No program in sight. -/
namespace Go.Proofs.Ytakcfcekdngndaa
open Go.RowKit

theorem b_refl {x : Int} (h0 : -5400000 ≤ x) (h1 : x ≤ 5400000) : bLo (10800000 - x) = bLo x ∧ bHi (10800000 - x) = bHi x := by
  by_cases g : 0 ≤ x
  · have := b_even (x := 5400000 - x) (by omega) (by omega)
    rw [show -(5400000 - x) + 5400000 = x by omega, show 5400000 - x + 5400000 = 10800000 - x by omega] at this
    exact ⟨this.1.symm, this.2.symm⟩
  · have e1 := b_three (n := 10800000 - x) (by omega) (by omega)
    have e2 := b_four (n := x) h0 (by omega)
    rw [e1.1, e1.2, e2.1, e2.2, show (10800000 - x - 10800000) = -x by omega]
    exact ⟨rfl, rfl⟩
/-- The arc of arcsines of an interval that has a value: the sines of its ends enclose the value. -/
theorem as_encl {S0 S1 : Int} {X e : Rat} (hE : asE S0 S1 = 0) (hX : InR S0 S1 X e) (h0 : -1 ≤ X) (h1 : X ≤ 1) (he : 0 ≤ e) :
    ((bHi (asL S0 S1) : Int) : Rat) ≤ 1073741824 * X + e ∧ 1073741824 * X ≤ ((bLo (asH S0 S1) : Int) : Rat) + e := by
  obtain ⟨a, b⟩ := hX
  unfold asL asH
  rw [if_pos hE, if_pos hE]
  have h1' := asnI_is (v := mx S0 (-1073741824)) (by rw [mx_eq]; omega)
  have h2' := asnI_is (v := -(mn S1 1073741824)) (by rw [mn_eq]; omega)
  have o := b_odd (n := asnI (-(mn S1 1073741824))) h2'.lo h2'.hi
  constructor
  · have := castle h1'.le
    have hm : ((mx S0 (-1073741824) : Int) : Rat) ≤ 1073741824 * X + e := by
      rcases (show mx S0 (-1073741824) = S0 ∨ mx S0 (-1073741824) = -1073741824 by rw [mx_eq]; omega) with g | g
      · rw [g]; exact a
      · rw [g]; push_cast; grind
    grind
  · have h3 : mn S1 1073741824 ≤ bLo (-(asnI (-(mn S1 1073741824)))) := by
      rw [o.1]
      have := h2'.le
      omega
    have := castle h3
    have hm : 1073741824 * X ≤ ((mn S1 1073741824 : Int) : Rat) + e := by
      rcases (show mn S1 1073741824 = S1 ∨ mn S1 1073741824 = 1073741824 by rw [mn_eq]; omega) with g | g
      · rw [g]; exact b
      · rw [g]; push_cast; grind
    grind
theorem half_fl {x : Int} : 2 * (x / 2) ≤ x ∧ x ≤ 2 * ((x + 1) / 2) := by omega
/-- The haversine of the rest of an arc of altitudes. -/
theorem hav_rest {x0 x1 : Int} {X e : Rat} (h0 : -5400000 ≤ x0) (h : x0 ≤ x1) (h1 : x1 ≤ 5400000) (hl : ((bHi x0 : Int) : Rat) ≤ 1073741824 * X + e) (hh : 1073741824 * X ≤ ((bLo x1 : Int) : Rat) + e) (he : 0 ≤ e) :
    InR (havL (5400000 - x1) (5400000 - x0)) (havH (5400000 - x1) (5400000 - x0)) ((1 - X) / 2) e := by
  have e1 : 5400000 - x1 + 5400000 = 10800000 - x1 := by omega
  have e2 : 5400000 - x0 + 5400000 = 10800000 - x0 := by omega
  have p1 := (enc_part (lo := 10800000 - x1) (hi := 10800000 - x0) (x := 10800000 - x1) (y := 10800000 - x1) (Int.le_refl _) (Int.le_refl _) (by omega)).2
  have p0 := (enc_part (lo := 10800000 - x1) (hi := 10800000 - x0) (x := 10800000 - x0) (y := 10800000 - x0) (by omega) (Int.le_refl _) (Int.le_refl _)).1
  rw [(enc_point _).2, (b_refl (by omega) h1).2] at p1
  rw [(enc_point _).1, (b_refl h0 (by omega)).1] at p0
  have q1 := (bb_le x1).1
  have q0 := (bb_le x0).1
  unfold havL havH
  rw [e1, e2]
  have f1 := (half_fl (x := 1073741824 - encH (10800000 - x1) (10800000 - x0))).1
  have f2 := (half_fl (x := 1073741824 - encL (10800000 - x1) (10800000 - x0))).2
  generalize encH (10800000 - x1) (10800000 - x0) = H at *
  generalize encL (10800000 - x1) (10800000 - x0) = L at *
  have c1 := castle (show bLo x1 ≤ H by omega)
  have c0 := castle (show L ≤ bHi x0 by omega)
  have d1 := castle f1
  have d2 := castle f2
  push_cast at d1 d2
  constructor <;> grind
end Go.Proofs.Ytakcfcekdngndaa
/- An ex-meridian altitude has the latitude: the plain law, second part. No program in sight. -/
namespace Go.Proofs.Ytakcfcekdngndaa
open Go.RowKit

theorem sq_nn (x : Rat) : 0 ≤ x * x := by
  rcases (Rat.le_total : (0 : Rat) ≤ x ∨ x ≤ 0) with g | g
  · exact rmul0 g g
  · have := rmul0 (show 0 ≤ -x by grind) (show 0 ≤ -x by grind); grind
/-- The sine of an altitude is from -1 to 1. -/
theorem alt_unit (lat dec : Int) {z : Rat} (z0 : -1 ≤ z) (z1 : z ≤ 1) : -1 ≤ zS lat * zS dec + zC lat * zC dec * z ∧ zS lat * zS dec + zC lat * zC dec * z ≤ 1 := by
  have u := Z_unit lat
  have v := Z_unit dec
  generalize zS lat = a at *
  generalize zC lat = b at *
  generalize zS dec = c at *
  generalize zC dec = d at *
  have s1 := sq_nn (a - c)
  have s2 := sq_nn (a + c)
  have s3 := sq_nn (b - d)
  have s4 := sq_nn (b + d)
  obtain ⟨p1, p2⟩ := rabs (x := z) (y := b * d) (m := 1) (f := (b * b + d * d) / 2) z0 z1 (by grind) (by grind)
  constructor <;> grind
theorem castlt {a b : Int} (h : (a : Rat) < (b : Rat)) : a < b := by exact_mod_cast h
/-- An altitude is found for every triangle of points. -/
theorem alt_some {lat dec lha : Int} (h0 : -5400000 ≤ lat) (h1 : lat ≤ 5400000) (g0 : -5400000 ≤ dec) (g1 : dec ≤ 5400000) :
    asE (altS0 lat lat dec dec lha lha) (altS1 lat lat dec dec lha lha) = 0 ∧ -5400000 ≤ asL (altS0 lat lat dec dec lha lha) (altS1 lat lat dec dec lha lha) ∧ asL (altS0 lat lat dec dec lha lha) (altS1 lat lat dec dec lha lha) ≤ asH (altS0 lat lat dec dec lha lha) (altS1 lat lat dec dec lha lha) ∧ asH (altS0 lat lat dec dec lha lha) (altS1 lat lat dec dec lha lha) ≤ 5400000 := by
  obtain ⟨-, z0, z1⟩ := Z_in (lha % 21600000)
  obtain ⟨X0, X1⟩ := alt_unit lat dec z0 z1
  obtain ⟨a, b⟩ := alt_InR (lha := lha) h0 h1 g0 g1
  have hf := alt_fx lat lat dec dec lha lha
  have hf' := fxB_iff.1 hf
  generalize altS0 lat lat dec dec lha lha = S0 at *
  generalize altS1 lat lat dec dec lha lha = S1 at *
  generalize zS lat * zS dec + zC lat * zC dec * zC (lha % 21600000) = X at *
  have t0 : 10 * t30 < 1 := by unfold t30; grind
  have c0 : (S0 : Rat) < ((1073741825 : Int) : Rat) := by push_cast; grind
  have c1 : ((-1073741825 : Int) : Rat) < (S1 : Rat) := by push_cast; grind
  have d0 : S0 < 1073741825 := castlt c0
  have d1 : -1073741825 < S1 := castlt c1
  have hE : asE S0 S1 = 0 := by rw [asE_at, hf, if_neg (by decide), mn_eq, mx_eq, if_neg (by omega)]
  refine ⟨hE, ?_⟩
  unfold asL asH
  rw [if_pos hE, if_pos hE]
  have i1 := asnI_in (v := mx S0 (-1073741824)) (by rw [mx_eq]; omega)
  have i2 := asnI_in (v := -(mn S1 1073741824)) (by rw [mn_eq]; omega)
  have hs := asn_sum (y := mx S0 (-1073741824)) (by rw [mx_eq]; omega) (by rw [mx_eq]; omega)
  have hm := asnI_mono (v := -(mn S1 1073741824)) (u := -(mx S0 (-1073741824))) (by rw [mn_eq]; omega) (by rw [mx_eq, mn_eq]; omega)
  omega
/-- The haversine of an angle. -/
theorem hav_one (n : Int) : InR (havL n n) (havH n n) ((1 - zC (n % 21600000)) / 2) t30 := by
  obtain ⟨a, b⟩ := cos_InRT n
  unfold cosL at a
  unfold cosH at b
  unfold havL havH
  have f1 := (half_fl (x := 1073741824 - encH (n + 5400000) (n + 5400000))).1
  have f2 := (half_fl (x := 1073741824 - encL (n + 5400000) (n + 5400000))).2
  generalize encH (n + 5400000) (n + 5400000) = H at *
  generalize encL (n + 5400000) (n + 5400000) = L at *
  have d1 := castle f1
  have d2 := castle f2
  push_cast at d1 d2
  have t0 : (0 : Rat) ≤ t30 := by unfold t30; grind
  constructor <;> grind
/-- The angle with a haversine lies in the arc. -/
theorem ah_has {n0 n1 m : Int} (h0 : 0 ≤ m) (h1 : m ≤ 10800000) (hf : fxB n0 n1 = true) (h : InR n0 n1 ((1 - zC m) / 2) (18 * t30)) :
    ahE n0 n1 = 0 ∧ ahL n0 n1 ≤ m ∧ m ≤ ahH n0 n1 := by
  obtain ⟨a, b⟩ := h
  have hq := zC_quarter (-m)
  rw [zC_neg, show -m + 5400000 = 5400000 - m by omega] at hq
  obtain ⟨q1, q2⟩ := hq
  have ht : 36 * t30 + 1073741824 * (2 * e60) ≤ 1 / 17000000 := by unfold t30 e60; grind
  have hb := bb_le (5400000 - m)
  have hL : 1073741824 - 2 * mn n1 1073741824 ≤ bLo (5400000 - m) := by
    rcases (show mn n1 1073741824 = n1 ∨ mn n1 1073741824 = 1073741824 by rw [mn_eq]; omega) with g | g
    · rw [g]
      refine snap_lo (by omega) (by omega) ?_
      push_cast
      grind
    · rw [g]; omega
  have hH : bHi (5400000 - m) ≤ 1073741824 - 2 * mx n0 0 := by
    rcases (show mx n0 0 = n0 ∨ mx n0 0 = 0 by rw [mx_eq]; omega) with g | g
    · rw [g]
      refine snap_hi (by omega) (by omega) ?_
      push_cast
      grind
    · rw [g]; omega
  have hf' := fxB_iff.1 hf
  have hE : ahE n0 n1 = 0 := by unfold ahE; rw [hf, if_neg (by decide), if_neg (by omega)]
  have hs := as_has (k := 5400000 - m) (by omega) (by omega) hL hH (fxB_iff.2 (by rw [mn_eq, mx_eq] at *; omega))
  refine ⟨hE, ?_⟩
  unfold ahL ahH
  rw [if_pos hE, if_pos hE]
  omega
/-- The ex-meridian altitude has the latitude. -/
theorem ex_has {lat dec lha a0 a1 : Int} (h0 : -5400000 ≤ a0) (h1 : a0 ≤ lat) (h2 : lat ≤ a1) (h3 : a1 ≤ 5400000) (g0 : -5400000 ≤ dec) (g1 : dec ≤ 5400000)
    {x0 x1 : Int} (hx0 : x0 = asL (altS0 lat lat dec dec lha lha) (altS1 lat lat dec dec lha lha)) (hx1 : x1 = asH (altS0 lat lat dec dec lha lha) (altS1 lat lat dec dec lha lha))
    (hE : asE (altS0 lat lat dec dec lha lha) (altS1 lat lat dec dec lha lha) = 0) (hx : -5400000 ≤ x0 ∧ x0 ≤ x1 ∧ x1 ≤ 5400000) :
    ahE (exN0 x0 x1 a0 a1 dec dec lha lha) (exN1 x0 x1 a0 a1 dec dec lha lha) = 0 ∧ ahL (exN0 x0 x1 a0 a1 dec dec lha lha) (exN1 x0 x1 a0 a1 dec dec lha lha) ≤ ((lat - dec).natAbs : Int) ∧ ((lat - dec).natAbs : Int) ≤ ahH (exN0 x0 x1 a0 a1 dec dec lha lha) (exN1 x0 x1 a0 a1 dec dec lha lha) := by
  have t0 : (0 : Rat) ≤ t30 ∧ t30 ≤ 1 / 1000000 := by unfold t30; constructor <;> grind
  obtain ⟨t1, t2⟩ := t0
  obtain ⟨-, z0, z1⟩ := Z_in (lha % 21600000)
  obtain ⟨X0, X1⟩ := alt_unit lat dec z0 z1
  have hX := alt_InR (lha := lha) (show -5400000 ≤ lat by omega) (by omega) g0 g1
  obtain ⟨e1, e2⟩ := as_encl hE hX X0 X1 (by grind)
  rw [← hx0] at e1
  rw [← hx1] at e2
  have A := hav_rest hx.1 hx.2.1 hx.2.2 e1 e2 (by grind)
  have b1 := cos_InR h1 h2 (show -10800000 ≤ lat by omega) (by omega)
  have b2 := cos_InR (Int.le_refl dec) (Int.le_refl dec) (by omega) (by omega)
  have m2 := b1.mul b2 (g := 3 * t30) (cos_in2 _ _) (cos_in2 _ _) (by grind) (by grind) (by grind) (by grind)
  have m3 := m2.mul (hav_one lha) (g := 7 * t30) (cc_in _ _ _ _) (by have := hav_in lha lha; omega) (by grind) (by grind) (by grind) (by grind)
  have N := A.sub m3
  refine ah_has (by omega) (by omega) (exN_fx _ _ _ _ _ _ _ _) ?_
  have ev : (1 - (zS lat * zS dec + zC lat * zC dec * zC (lha % 21600000))) / 2 - zC lat * zC dec * ((1 - zC (lha % 21600000)) / 2) = (1 - zC ((lat - dec).natAbs : Int)) / 2 := by
    have hz := zC_abs (lat - dec)
    rw [zC_neg] at hz
    rw [← hz, (Z_sub lat dec).2]
    grind
  rw [ev] at N
  exact N.mono (Int.le_refl _) (Int.le_refl _) (by grind)
theorem out_has {lat dec a0 a1 z0 z1 : Int} (h1 : a0 ≤ lat) (h2 : lat ≤ a1) (h3 : z0 ≤ ((lat - dec).natAbs : Int)) (h4 : ((lat - dec).natAbs : Int) ≤ z1) : outL a0 a1 dec dec z0 z1 ≤ lat ∧ lat ≤ outH a0 a1 dec dec z0 z1 := by
  unfold outL outH
  rw [mn_eq, mx_eq]
  by_cases c1 : dec ≤ a0
  · rw [if_pos c1, if_pos c1]; omega
  · rw [if_neg c1, if_neg c1]
    by_cases c2 : a1 ≤ dec
    · rw [if_pos c2, if_pos c2]; omega
    · rw [if_neg c2, if_neg c2]; omega
theorem ex_in {lat dec a0 a1 n0 n1 : Int} (h1 : a0 ≤ lat) (h2 : lat ≤ a1) (hE : ahE n0 n1 = 0) (h3 : ahL n0 n1 ≤ ((lat - dec).natAbs : Int)) (h4 : ((lat - dec).natAbs : Int) ≤ ahH n0 n1) :
    exE a0 a1 dec dec n0 n1 = 0 ∧ exL a0 a1 dec dec n0 n1 ≤ lat ∧ lat ≤ exH a0 a1 dec dec n0 n1 ∧ exL a0 a1 dec dec n0 n1 = max a0 (outL a0 a1 dec dec (ahL n0 n1) (ahH n0 n1)) ∧ exH a0 a1 dec dec n0 n1 = min a1 (outH a0 a1 dec dec (ahL n0 n1) (ahH n0 n1)) := by
  obtain ⟨o1, o2⟩ := out_has (dec := dec) h1 h2 h3 h4
  unfold exE exL exH meetE meetLo meetHi
  rw [if_pos hE, if_pos hE, if_pos hE]
  omega
/-- On the meridian the arc of the zenith distances has the rest of the altitudes. -/
theorem ah_side {y0 y1 n0 n1 : Int} (h0 : -5400000 ≤ y0) (h : y0 ≤ y1) (h1 : y1 ≤ 5400000) (hn0 : n0 = havL (5400000 - y1) (5400000 - y0)) (hn1 : n1 = havH (5400000 - y1) (5400000 - y0)) (hE : ahE n0 n1 = 0) :
    ahL n0 n1 ≤ 5400000 - y1 ∧ 5400000 - y0 ≤ ahH n0 n1 := by
  have hi := hav_in (5400000 - y1) (5400000 - y0)
  have e := ah_as hE
  have e1 : 5400000 - y1 + 5400000 = 10800000 - y1 := by omega
  have e2 : 5400000 - y0 + 5400000 = 10800000 - y0 := by omega
  have p1 := (enc_part (lo := 10800000 - y1) (hi := 10800000 - y0) (x := 10800000 - y1) (y := 10800000 - y1) (Int.le_refl _) (Int.le_refl _) (by omega)).2
  have p0 := (enc_part (lo := 10800000 - y1) (hi := 10800000 - y0) (x := 10800000 - y0) (y := 10800000 - y0) (by omega) (Int.le_refl _) (Int.le_refl _)).1
  rw [(enc_point _).2, (b_refl (by omega) h1).2] at p1
  rw [(enc_point _).1, (b_refl h0 (by omega)).1] at p0
  have hd := @enc_in (10800000 - y1) (10800000 - y0)
  unfold havL at hn0
  unfold havH at hn1
  rw [e1, e2] at hn0 hn1
  unfold havL havH at hi
  rw [e1, e2] at hi
  generalize encH (10800000 - y1) (10800000 - y0) = H at *
  generalize encL (10800000 - y1) (10800000 - y0) = L at *
  unfold ahL ahH
  rw [if_pos hE, if_pos hE]
  have x0 : mx n0 0 = n0 := by rw [mx_eq]; omega
  have x1 : mn n1 1073741824 = n1 := by rw [mn_eq]; omega
  rw [x0, x1] at e ⊢
  unfold asL asH
  rw [if_pos e, if_pos e]
  have s0 := asn_self h0 (show y0 ≤ 5400000 by omega)
  have s1 := asn_self (n := -y1) (by omega) (by omega)
  rw [(b_odd (n := y1) (by omega) h1).1] at s1
  have m0 := asnI_mono (v := mx (1073741824 - 2 * n1) (-1073741824)) (u := bLo y0) (by rw [mx_eq]; omega) (by have := bb_le y0; rw [mx_eq]; omega)
  have m1 := asnI_mono (v := -(mn (1073741824 - 2 * n0) 1073741824)) (u := -(bHi y1)) (by rw [mn_eq]; omega) (by have := bb_le y1; rw [mn_eq]; omega)
  omega
theorem mulL_0 (a b : Int) : mulL a b 0 0 = 0 ∧ mulH a b 0 0 = 0 := by
  unfold mulL mulH m4 x4
  rw [Int.mul_zero, Int.mul_zero]
  decide
theorem hav_00 : havL 0 0 = 0 ∧ havH 0 0 = 0 := by
  have h := b_topp
  have hb : bLo 5400000 = 1073741824 := by
    have := (b_one (n := 5400000) (by decide) (by decide)).1
    rw [this, show ((5400000 : Int)).toNat = 5400000 from rfl, sinQ_q]
    rfl
  unfold havL havH
  rw [show (0 : Int) + 5400000 = 5400000 from rfl, (enc_point _).1, (enc_point _).2, h, hb]
  decide
theorem ex_side {y0 y1 a0 a1 dec : Int} : exN0 y0 y1 a0 a1 dec dec 0 0 = havL (5400000 - y1) (5400000 - y0) ∧ exN1 y0 y1 a0 a1 dec dec 0 0 = havH (5400000 - y1) (5400000 - y0) := by
  unfold exN0 exN1 chL chH
  rw [hav_00.1, hav_00.2, (mulL_0 _ _).1, (mulL_0 _ _).2]
  omega
end Go.Proofs.Ytakcfcekdngndaa
/- Haversines over arcs: the program's. -/
namespace Go.Proofs.Ytakcfcekdngndaa
open Go.RowKit

set_option maxRecDepth 100000 in
theorem tg_Haversine (lo hi : Int) (hv : validB lo hi = true) (w : World) :
    Calls Try.prog 53 #[(.agg #[.int .i64 (lo), .int .i64 (hi)])] w fun e w' => e = .returned (.tuple #[(.agg #[.int .i64 (havL lo hi), .int .i64 (havH lo hi)]), .int .i64 0]) ∧ ∃ d, w' = bw w d := by
  refine lay_start ?_
  have h := validB_iff.1 hv
  have HV := Lib.hid (fun W => tg_valid lo hi W)
  rw [hv] at HV
  have HF := Lib.hid (fun W => tg_further lo hi (by omega) h.1 (by omega) W)
  have HE := Lib.hid (fun W => tg_enclosure (lo + 5400000) (hi + 5400000) (by omega) (by omega) (by omega) W)
  have hb := enc_in (lo := lo + 5400000) (hi := hi + 5400000)
  clear h hv
  unfold havL havH
  generalize encL (lo + 5400000) (hi + 5400000) = p at *
  generalize encH (lo + 5400000) (hi + 5400000) = q at *
  obtain ⟨X, hX⟩ : ∃ X, 1073741824 - q = X := ⟨_, rfl⟩
  obtain ⟨Y, hY⟩ : ∃ Y, 1073741824 - p = Y := ⟨_, rfl⟩
  obtain ⟨Z, hZ⟩ : ∃ Z, Y + 1 = Z := ⟨_, rfl⟩
  have k1 : IntKind.i64.wrap (1073741824 - q) = X := by rw [hX]; exact IntWalk.i64_in _ (by omega)
  have k2 : IntKind.i64.wrap (1073741824 - p) = Y := by rw [hY]; exact IntWalk.i64_in _ (by omega)
  have k3 : IntKind.i64.wrap (Y + 1) = Z := by rw [hZ]; exact IntWalk.i64_in _ (by omega)
  rw [hX, hY, hZ]
  clear hX hY hZ hb
  go_enter Try.func53, Try.ntmps53
  go_wp2_with (first | (go_at_call 62; refine (HV.out _).mono ?_; rintro e w' ⟨rfl, d, rfl⟩) | (go_at_call 64; refine (HF.out _).mono ?_; rintro e w' ⟨rfl, d, rfl⟩) | (go_at_call 63; refine (HE.out _).mono ?_; rintro e w' ⟨rfl, d, rfl⟩))
  exact bodyPost_ret (v := .tuple #[(.agg #[.int .i64 (X / 2), .int .i64 (Z / 2)]), .int .i64 0]) (by simp [results, Try.results53, go_sem]) rfl ⟨rfl, lay_ex _ _⟩
end Go.Proofs.Ytakcfcekdngndaa
/- meridian's chain of operations: each gives its enclosure, and no error is kept. -/
namespace Go.Proofs.Ytakcfcekdngndaa
open Go.RowKit

set_option maxRecDepth 100000 in
theorem mc_keep (b : Nat) (lo hi : Int) (w : World) (hc : ChW b w) :
    Calls Try.prog 30 #[.pointer (some ⟨b, 0, none⟩), (.agg #[.int .i64 (lo), .int .i64 (hi)]), .int .i64 0] w fun e w' => e = .returned (.agg #[.int .i64 (lo), .int .i64 (hi)]) ∧ ∃ d, w' = bw w d := by
  have hb := hc.lt
  have h1 := hc.cell
  have h2 := hc.froz
  have h3 : ∀ L, (lay w L).setCell ⟨b, 0, none⟩ (.int .i64 0) = lay w L := fun L => (hc.lay L).set
  refine lay_start ?_
  go_enter Try.func30, Try.ntmps30
  go_wp2_with fail
  exact bodyPost_ret (v := (.agg #[.int .i64 (lo), .int .i64 (hi)])) (by simp [results, Try.results30, go_sem]) rfl ⟨rfl, lay_ex _ _⟩
set_option maxRecDepth 100000 in
theorem mc_cos (b : Nat) (lo hi : Int) (w : World) (hc : ChW b w) (hv : validB lo hi = true) :
    Calls Try.prog 34 #[.pointer (some ⟨b, 0, none⟩), (.agg #[.int .i64 (lo), .int .i64 (hi)])] w fun e w' => e = .returned (.agg #[.int .i64 (encL (lo + 5400000) (hi + 5400000)), .int .i64 (encH (lo + 5400000) (hi + 5400000))]) ∧ ∃ d, w' = bw w d := by
  have HK := Lib.hid (fun L => mc_keep b (encL (lo + 5400000) (hi + 5400000)) (encH (lo + 5400000) (hi + 5400000)) (lay w L) (hc.lay L))
  have HT := Lib.hid (fun W => tg_Cos lo hi hv W)
  generalize encL (lo + 5400000) (hi + 5400000) = p at *
  generalize encH (lo + 5400000) (hi + 5400000) = q at *
  clear hc hv
  refine lay_start ?_
  go_enter Try.func34, Try.ntmps34
  go_wp2_with (first | (go_at_call 41; refine (HT.out _).mono ?_; rintro e w' ⟨rfl, d, rfl⟩; rw [lay_bw]) | (go_at_call 30; refine (HK.out _).mono ?_; rintro e w' ⟨rfl, d2, rfl⟩))
  exact bodyPost_ret (v := (.agg #[.int .i64 (p), .int .i64 (q)])) (by simp [results, Try.results34, go_sem]) rfl ⟨rfl, lay_ex _ _⟩
set_option maxRecDepth 100000 in
theorem mc_hav (b : Nat) (lo hi : Int) (w : World) (hc : ChW b w) (hv : validB lo hi = true) :
    Calls Try.prog 32 #[.pointer (some ⟨b, 0, none⟩), (.agg #[.int .i64 (lo), .int .i64 (hi)])] w fun e w' => e = .returned (.agg #[.int .i64 (havL lo hi), .int .i64 (havH lo hi)]) ∧ ∃ d, w' = bw w d := by
  have HK := Lib.hid (fun L => mc_keep b (havL lo hi) (havH lo hi) (lay w L) (hc.lay L))
  have HT := Lib.hid (fun W => tg_Haversine lo hi hv W)
  generalize havL lo hi = p at *
  generalize havH lo hi = q at *
  clear hc hv
  refine lay_start ?_
  go_enter Try.func32, Try.ntmps32
  go_wp2_with (first | (go_at_call 53; refine (HT.out _).mono ?_; rintro e w' ⟨rfl, d, rfl⟩; rw [lay_bw]) | (go_at_call 30; refine (HK.out _).mono ?_; rintro e w' ⟨rfl, d2, rfl⟩))
  exact bodyPost_ret (v := (.agg #[.int .i64 (p), .int .i64 (q)])) (by simp [results, Try.results32, go_sem]) rfl ⟨rfl, lay_ex _ _⟩
set_option maxRecDepth 100000 in
theorem mc_mul (b : Nat) (a0 a1 b0 b1 : Int) (w : World) (hc : ChW b w) (ha : fxB a0 a1 = true) (hb : fxB b0 b1 = true) (hm : fxB (mulL a0 a1 b0 b1) (mulH a0 a1 b0 b1) = true) :
    Calls Try.prog 33 #[.pointer (some ⟨b, 0, none⟩), (.agg #[.int .i64 (a0), .int .i64 (a1)]), (.agg #[.int .i64 (b0), .int .i64 (b1)])] w fun e w' => e = .returned (.agg #[.int .i64 (mulL a0 a1 b0 b1), .int .i64 (mulH a0 a1 b0 b1)]) ∧ ∃ d, w' = bw w d := by
  have HK := Lib.hid (fun L => mc_keep b (mulL a0 a1 b0 b1) (mulH a0 a1 b0 b1) (lay w L) (hc.lay L))
  have HT := Lib.hid (fun W => fx_MulG a0 a1 b0 b1 W ha hb hm)
  generalize mulL a0 a1 b0 b1 = p at *
  generalize mulH a0 a1 b0 b1 = q at *
  clear hc ha hb hm
  refine lay_start ?_
  go_enter Try.func33, Try.ntmps33
  go_wp2_with (first | (go_at_call 54; refine (HT.out _).mono ?_; rintro e w' ⟨rfl, d, rfl⟩; rw [lay_bw]) | (go_at_call 30; refine (HK.out _).mono ?_; rintro e w' ⟨rfl, d2, rfl⟩))
  exact bodyPost_ret (v := (.agg #[.int .i64 (p), .int .i64 (q)])) (by simp [results, Try.results33, go_sem]) rfl ⟨rfl, lay_ex _ _⟩
end Go.Proofs.Ytakcfcekdngndaa
/- meridian.Ex. -/
namespace Go.Proofs.Ytakcfcekdngndaa
open Go.RowKit

set_option maxHeartbeats 4000000 in
set_option maxRecDepth 100000 in
theorem mer_ExG (h0 h1 a0 a1 b0 b1 c0 c1 : Int) (w : World) (lh : latB h0 h1 = true) (la : latB a0 a1 = true) (lb : latB b0 b1 = true) (vc : validB c0 c1 = true) :
    Calls Try.prog 14 #[(.agg #[.int .i64 (h0), .int .i64 (h1)]), (.agg #[.int .i64 (a0), .int .i64 (a1)]), (.agg #[.int .i64 (b0), .int .i64 (b1)]), (.agg #[.int .i64 (c0), .int .i64 (c1)])] w fun e' w' => e' = .returned (.tuple #[(.agg #[.int .i64 (exL a0 a1 b0 b1 (exN0 h0 h1 a0 a1 b0 b1 c0 c1) (exN1 h0 h1 a0 a1 b0 b1 c0 c1)), .int .i64 (exH a0 a1 b0 b1 (exN0 h0 h1 a0 a1 b0 b1 c0 c1) (exN1 h0 h1 a0 a1 b0 b1 c0 c1))]), .int .i64 (exE a0 a1 b0 b1 (exN0 h0 h1 a0 a1 b0 b1 c0 c1) (exN1 h0 h1 a0 a1 b0 b1 c0 c1))]) ∧ ∃ d, w' = bw w d := by
  have HLh := Lib.hid (fun W => mer_latitude h0 h1 W)
  have HLa := Lib.hid (fun W => mer_latitude a0 a1 W)
  have HLb := Lib.hid (fun W => mer_latitude b0 b1 W)
  have HV := Lib.hid (fun W => angle_Valid c0 c1 W)
  rw [lh] at HLh
  rw [la] at HLa
  rw [lb] at HLb
  rw [vc] at HV
  have ih := latB_iff.1 lh
  have ia := latB_iff.1 la
  have ib := latB_iff.1 lb
  have va := lat_valid la
  have vb := lat_valid lb
  have HRe := Lib.hid (fun W => mer_rest h0 h1 W (by omega) (by omega) (by omega) (by omega))
  have vr : validB (5400000 - h1) (5400000 - h0) = true := validB_iff.2 (by omega)
  have HHr := Lib.hid (fun b W hc => mc_hav b _ _ W hc vr)
  have HHc := Lib.hid (fun b W hc => mc_hav b _ _ W hc vc)
  have HCa : Hid (∀ b W, ChW b W → Calls _ _ #[_, (.agg #[.int .i64 (a0), .int .i64 (a1)])] W fun e w' => e = .returned (.agg #[.int .i64 (cosL a0 a1), .int .i64 (cosH a0 a1)]) ∧ _) := Lib.hid (fun b W hc => mc_cos b _ _ W hc va)
  have HCb : Hid (∀ b W, ChW b W → Calls _ _ #[_, (.agg #[.int .i64 (b0), .int .i64 (b1)])] W fun e w' => e = .returned (.agg #[.int .i64 (cosL b0 b1), .int .i64 (cosH b0 b1)]) ∧ _) := Lib.hid (fun b W hc => mc_cos b _ _ W hc vb)
  have HM1 : Hid (∀ b W, ChW b W → Calls _ _ #[_, _, _] W fun e w' => e = .returned (.agg #[.int .i64 (ccL a0 a1 b0 b1), .int .i64 (ccH a0 a1 b0 b1)]) ∧ _) := Lib.hid (fun b W hc => mc_mul b (cosL a0 a1) (cosH a0 a1) (cosL b0 b1) (cosH b0 b1) W hc (unit_fx (cos_in2 _ _)) (unit_fx (cos_in2 _ _)) (unit_fx (cc_in _ _ _ _)))
  have HM2 : Hid (∀ b W, ChW b W → Calls _ _ #[_, _, _] W fun e w' => e = .returned (.agg #[.int .i64 (chL a0 a1 b0 b1 c0 c1), .int .i64 (chH a0 a1 b0 b1 c0 c1)]) ∧ _) := Lib.hid (fun b W hc => mc_mul b (ccL a0 a1 b0 b1) (ccH a0 a1 b0 b1) (havL c0 c1) (havH c0 c1) W hc (unit_fx (cc_in _ _ _ _)) (unit_fx (by have := hav_in c0 c1; omega)) (unit_fx (ch_in _ _ _ _ _ _)))
  have hN := exN_fx h0 h1 a0 a1 b0 b1 c0 c1
  have HS : Hid (∀ W, Calls _ _ #[_, _] W fun e w' => e = .returned (.tuple #[(.agg #[.int .i64 (exN0 h0 h1 a0 a1 b0 b1 c0 c1), .int .i64 (exN1 h0 h1 a0 a1 b0 b1 c0 c1)]), .int .i64 0]) ∧ _) := Lib.hid (fun W => fx_SubG (havL (5400000 - h1) (5400000 - h0)) (havH (5400000 - h1) (5400000 - h0)) (chL a0 a1 b0 b1 c0 c1) (chH a0 a1 b0 b1 c0 c1) W (unit_fx (by have := hav_in (5400000 - h1) (5400000 - h0); omega)) (unit_fx (ch_in _ _ _ _ _ _)) hN)
  have HK := Lib.hid (fun b W hc => mc_keep b (exN0 h0 h1 a0 a1 b0 b1 c0 c1) (exN1 h0 h1 a0 a1 b0 b1 c0 c1) W hc)
  generalize exN0 h0 h1 a0 a1 b0 b1 c0 c1 = n0 at *
  generalize exN1 h0 h1 a0 a1 b0 b1 c0 c1 = n1 at *
  generalize chL a0 a1 b0 b1 c0 c1 = u0 at *
  generalize chH a0 a1 b0 b1 c0 c1 = u1 at *
  generalize ccL a0 a1 b0 b1 = m0 at *
  generalize ccH a0 a1 b0 b1 = m1 at *
  generalize cosL a0 a1 = p0 at *
  generalize cosH a0 a1 = p1 at *
  generalize cosL b0 b1 = q0 at *
  generalize cosH b0 b1 = q1 at *
  generalize havL c0 c1 = t0 at *
  generalize havH c0 c1 = t1 at *
  generalize havL (5400000 - h1) (5400000 - h0) = g0 at *
  generalize havH (5400000 - h1) (5400000 - h0) = g1 at *
  generalize 5400000 - h1 = r0 at *
  generalize 5400000 - h0 = r1 at *
  have HA := Lib.hid (fun W => ar_Ahav n0 n1 W)
  clear vr vb lh la lb vc ih
  unfold exE exL exH
  rcases ahE_two hN with hE | hE
  · have hz := ah_in hE
    have hz2 := ah_le hE
    rw [hE] at HA
    rw [hE, if_pos rfl, if_pos rfl, if_pos rfl]
    clear hE hN
    generalize ahL n0 n1 = z0 at *
    generalize ahH n0 n1 = z1 at *
    have HP := Lib.hid (fun W => mer_plus b0 b1 z0 z1 W (by omega) (by omega) (by omega) (by omega))
    have HMi := Lib.hid (fun W => mer_minus b0 b1 z0 z1 W (by omega) (by omega) (by omega) (by omega))
    have hout := out_in (a0 := a0) (a1 := a1) (b0 := b0) (b1 := b1) (z0 := z0) (z1 := z1) (by omega) (by omega)
    have HMt := Lib.hid (fun W => angle_Meet a0 a1 (outL a0 a1 b0 b1 z0 z1) (outH a0 a1 b0 b1 z0 z1) W va (validB_iff.2 (by omega)))
    have ho : (b1 ≤ a0 ∧ outL a0 a1 b0 b1 z0 z1 = b0 + z0 ∧ outH a0 a1 b0 b1 z0 z1 = b1 + z1) ∨ (¬ b1 ≤ a0 ∧ a1 ≤ b0 ∧ outL a0 a1 b0 b1 z0 z1 = b0 - z1 ∧ outH a0 a1 b0 b1 z0 z1 = b1 - z0) ∨ (¬ b1 ≤ a0 ∧ ¬ a1 ≤ b0 ∧ outL a0 a1 b0 b1 z0 z1 = mn (b0 + z0) (b0 - z1) ∧ outH a0 a1 b0 b1 z0 z1 = mx (b1 + z1) (b1 - z0)) := by
      unfold outL outH
      by_cases g1 : b1 ≤ a0
      · left; rw [if_pos g1, if_pos g1]; exact ⟨g1, rfl, rfl⟩
      · by_cases g2 : a1 ≤ b0
        · right; left; rw [if_neg g1, if_neg g1, if_pos g2, if_pos g2]; exact ⟨g1, g2, rfl, rfl⟩
        · right; right; rw [if_neg g1, if_neg g1, if_neg g2, if_neg g2]; exact ⟨g1, g2, rfl, rfl⟩
    clear hz hz2 hout va ia ib
    generalize outL a0 a1 b0 b1 z0 z1 = o0 at *
    generalize outH a0 a1 b0 b1 z0 z1 = o1 at *
    generalize b0 + z0 = s0 at *
    generalize b1 + z1 = s1 at *
    generalize b0 - z1 = y0 at *
    generalize b1 - z0 = y1 at *
    generalize meetLo a0 a1 o0 o1 = x0 at *
    generalize meetHi a0 a1 o0 o1 = x1 at *
    generalize meetE a0 a1 o0 o1 = xe at *
    rcases ho with ⟨g1, rfl, rfl⟩ | ⟨g1, g2, rfl, rfl⟩ | ⟨g1, g2, rfl, rfl⟩
    all_goals
      refine lay_start ?_
      go_enter Try.func14, Try.ntmps14
      go_wp2_with (first | (go_at_call 24; first | (with_reducible refine (HLh.out _).mono ?_; rintro e w' ⟨rfl, d1, rfl⟩; rw [lay_bw]) | (with_reducible refine (HLa.out _).mono ?_; rintro e w' ⟨rfl, d2, rfl⟩; rw [lay_bw]) | (with_reducible refine (HLb.out _).mono ?_; rintro e w' ⟨rfl, d3, rfl⟩; rw [lay_bw])) | (go_at_call 29; refine (HV.out _).mono ?_; rintro e w' ⟨rfl, d4, rfl⟩; rw [lay_bw]))
      have hch : ChW (posn w [d4.n, d3.n, d2.n, d1.n, 1, 1, 1, 1, 1]) (lay w [.inl (Obj.cells #[.int .i64 0] 47), .inr d4, .inr d3, .inr d2, .inr d1, .inl (Obj.cells #[.int .i64 0, .int .i64 0] 24), .inl (Obj.cells #[.int .i64 c0, .int .i64 c1] 24), .inl (Obj.cells #[.int .i64 b0, .int .i64 b1] 24), .inl (Obj.cells #[.int .i64 a0, .int .i64 a1] 24), .inl (Obj.cells #[.int .i64 h0, .int .i64 h1] 24)]) := chW_new w _ _ _ rfl
      have HC := Lib.hid (fun e => hch.bw e)
      simp only [lay_bw] at HC
      clear hch
      refine region_mixW [0, 0, 0, 0, 0, 0, 0, 0, 0, 0, 0, 0, 0, 0, 0, 0, 0, 0, 0, 0, 0, 0, 1, 1] (by kernel_rfl) (by kernel_rfl) (by kernel_rfl) ?_
      repeat (first | (refine wpM_quiet (fun K hK => ?_); go_simp; first | (refine hK _ ?_; clear hK K) | (apply Exists.intro; refine ⟨fun _ => ?_, hK _ ?_⟩; (first | (go_at_call 27; exact bq (HRe.out _) (fun d => ⟨d, rfl⟩)) | (go_at_call 32; first | ((with_reducible refine bq (HHr.out _ _ (HC.out _)) ?_); exact (fun d => ⟨d, rfl⟩)) | ((with_reducible refine bq (HHc.out _ _ (HC.out _)) ?_); exact (fun d => ⟨d, rfl⟩))) | (go_at_call 34; first | ((with_reducible refine bq (HCa.out _ _ (HC.out _)) ?_); exact (fun d => ⟨d, rfl⟩)) | ((with_reducible refine bq (HCb.out _ _ (HC.out _)) ?_); exact (fun d => ⟨d, rfl⟩))) | (go_at_call 33; first | ((with_reducible refine bq (HM1.out _ _ (HC.out _)) ?_); exact (fun d => ⟨d, rfl⟩)) | ((with_reducible refine bq (HM2.out _ _ (HC.out _)) ?_); exact (fun d => ⟨d, rfl⟩))) | (go_at_call 31; exact bq (HS.out _) (fun d => ⟨d, rfl⟩)) | (go_at_call 30; exact bq (HK.out _ _ (HC.out _)) (fun d => ⟨d, rfl⟩))); clear hK K)) | (refine wpM_special (fun K hK d => ?_); go_simp; refine hK _ _ (by first | exact lay_in w [_] _ | exact lay_in w [_, _] _ | exact lay_in w [_, _, _] _ | exact lay_in w [_, _, _, _] _ | exact lay_in w [_, _, _, _, _] _ | exact lay_in w [_, _, _, _, _, _] _) ?_; clear hK K))
      refine wpM_nil ?_
      intro d
      rw [lay_bw]
      go_wp2_with (go_at_call 35; refine (HA.out _).mono ?_; rintro e w' ⟨rfl, d5, rfl⟩; rw [lay_bw])
      refine region_mixW [0, 0, 0, 0, 0, 0, 2, 1, 1] (by kernel_rfl) (by kernel_rfl) (by kernel_rfl) ?_
      repeat (refine wpM_quiet (fun K hK => ?_); go_simp; first | (refine hK _ ?_; clear hK K) | (apply Exists.intro; refine ⟨fun _ => ?_, hK _ ?_⟩; (first | (go_at_call 26; exact bq (HP.out _) (fun d => ⟨d, rfl⟩)) | (go_at_call 28; exact bq (HMi.out _) (fun d => ⟨d, rfl⟩))); clear hK K))
      refine wpM_two (fun J hJ d => ?_) (fun J hJ d => ?_)
      all_goals (go_simp; refine hJ _ _ (by first | exact lay_in w [_] _ | exact lay_in w [_, _] _ | exact lay_in w [_, _, _] _ | exact lay_in w [_, _, _, _] _ | exact lay_in w [_, _, _, _, _] _ | exact lay_in w [_, _, _, _, _, _] _) (fun K hK d => ?_); go_simp; refine hK _ _ (by first | exact lay_in w [_] _ | exact lay_in w [_, _] _ | exact lay_in w [_, _, _] _ | exact lay_in w [_, _, _, _] _ | exact lay_in w [_, _, _, _, _] _ | exact lay_in w [_, _, _, _, _, _] _) ?_; clear hK K hJ J)
      all_goals (repeat (first | (refine wpM_quiet (fun K hK => ?_); go_simp; first | (refine hK _ ?_; clear hK K) | (apply Exists.intro; refine ⟨fun _ => ?_, hK _ ?_⟩; (first | (go_at_call 26; exact bq (HP.out _) (fun d => ⟨d, rfl⟩)) | (go_at_call 28; exact bq (HMi.out _) (fun d => ⟨d, rfl⟩))); clear hK K)) | (refine wpM_special (fun K hK d => ?_); go_simp; refine hK _ _ (by first | exact lay_in w [_] _ | exact lay_in w [_, _] _ | exact lay_in w [_, _, _] _ | exact lay_in w [_, _, _, _] _ | exact lay_in w [_, _, _, _, _] _ | exact lay_in w [_, _, _, _, _, _] _) ?_; clear hK K)))
      all_goals (refine wpM_nil ?_; intro d; rw [lay_bw])
      all_goals
        go_wp2_with (go_at_call 36; refine (HMt.out _).mono ?_; rintro e w' ⟨rfl, d6, rfl⟩)
        exact bodyPost_ret (v := .tuple #[(.agg #[.int .i64 (x0), .int .i64 (x1)]), .int .i64 xe]) (by simp [results, Try.results14, go_sem]) rfl ⟨rfl, lay_ex _ _⟩
  · rw [hE] at HA
    rw [hE, if_neg (by decide), if_neg (by decide), if_neg (by decide)]
    have hzz : ahL n0 n1 = 0 ∧ ahH n0 n1 = 0 := by unfold ahL ahH; rw [hE, if_neg (by decide), if_neg (by decide)]; exact ⟨rfl, rfl⟩
    rw [hzz.1, hzz.2] at HA
    clear hzz hE hN va ia ib
    refine lay_start ?_
    go_enter Try.func14, Try.ntmps14
    go_wp2_with (first | (go_at_call 24; first | (with_reducible refine (HLh.out _).mono ?_; rintro e w' ⟨rfl, d1, rfl⟩; rw [lay_bw]) | (with_reducible refine (HLa.out _).mono ?_; rintro e w' ⟨rfl, d2, rfl⟩; rw [lay_bw]) | (with_reducible refine (HLb.out _).mono ?_; rintro e w' ⟨rfl, d3, rfl⟩; rw [lay_bw])) | (go_at_call 29; refine (HV.out _).mono ?_; rintro e w' ⟨rfl, d4, rfl⟩; rw [lay_bw]))
    have hch : ChW (posn w [d4.n, d3.n, d2.n, d1.n, 1, 1, 1, 1, 1]) (lay w [.inl (Obj.cells #[.int .i64 0] 47), .inr d4, .inr d3, .inr d2, .inr d1, .inl (Obj.cells #[.int .i64 0, .int .i64 0] 24), .inl (Obj.cells #[.int .i64 c0, .int .i64 c1] 24), .inl (Obj.cells #[.int .i64 b0, .int .i64 b1] 24), .inl (Obj.cells #[.int .i64 a0, .int .i64 a1] 24), .inl (Obj.cells #[.int .i64 h0, .int .i64 h1] 24)]) := chW_new w _ _ _ rfl
    have HC := Lib.hid (fun e => hch.bw e)
    simp only [lay_bw] at HC
    clear hch
    refine region_mixW [0, 0, 0, 0, 0, 0, 0, 0, 0, 0, 0, 0, 0, 0, 0, 0, 0, 0, 0, 0, 0, 0, 1, 1] (by kernel_rfl) (by kernel_rfl) (by kernel_rfl) ?_
    repeat (first | (refine wpM_quiet (fun K hK => ?_); go_simp; first | (refine hK _ ?_; clear hK K) | (apply Exists.intro; refine ⟨fun _ => ?_, hK _ ?_⟩; (first | (go_at_call 27; exact bq (HRe.out _) (fun d => ⟨d, rfl⟩)) | (go_at_call 32; first | ((with_reducible refine bq (HHr.out _ _ (HC.out _)) ?_); exact (fun d => ⟨d, rfl⟩)) | ((with_reducible refine bq (HHc.out _ _ (HC.out _)) ?_); exact (fun d => ⟨d, rfl⟩))) | (go_at_call 34; first | ((with_reducible refine bq (HCa.out _ _ (HC.out _)) ?_); exact (fun d => ⟨d, rfl⟩)) | ((with_reducible refine bq (HCb.out _ _ (HC.out _)) ?_); exact (fun d => ⟨d, rfl⟩))) | (go_at_call 33; first | ((with_reducible refine bq (HM1.out _ _ (HC.out _)) ?_); exact (fun d => ⟨d, rfl⟩)) | ((with_reducible refine bq (HM2.out _ _ (HC.out _)) ?_); exact (fun d => ⟨d, rfl⟩))) | (go_at_call 31; exact bq (HS.out _) (fun d => ⟨d, rfl⟩)) | (go_at_call 30; exact bq (HK.out _ _ (HC.out _)) (fun d => ⟨d, rfl⟩))); clear hK K)) | (refine wpM_special (fun K hK d => ?_); go_simp; refine hK _ _ (by first | exact lay_in w [_] _ | exact lay_in w [_, _] _ | exact lay_in w [_, _, _] _ | exact lay_in w [_, _, _, _] _ | exact lay_in w [_, _, _, _, _] _ | exact lay_in w [_, _, _, _, _, _] _) ?_; clear hK K))
    refine wpM_nil ?_
    intro d
    rw [lay_bw]
    go_wp2_with (go_at_call 35; refine (HA.out _).mono ?_; rintro e w' ⟨rfl, d5, rfl⟩; rw [lay_bw])
    exact bodyPost_ret (v := .tuple #[(.agg #[.int .i64 (0), .int .i64 (0)]), .int .i64 12]) (by simp [results, Try.results14, go_sem]) rfl ⟨rfl, lay_ex _ _⟩
end Go.Proofs.Ytakcfcekdngndaa
