/- The reference's hour angle of Aries at an instant: the same number. -/
import Derived.Test.YtlkphcjlgbimkaaGreatProg
import Derived.Test.YtlkphcjlgbimkaaGreatLay
import Derived.Test.YtlkphcjlgbimkaaGreatRegion
import Derived.Test.YtlkphcjlgbimkaaGreatMix
import Derived.WalkKit
import Derived.WalkSpells
import Derived.WalkLawsBesides
import Derived.Lib.Hide
import Derived.BigQuiet
import Derived.Test.YtlkphcjlgbimkaaGreatPlain
import Derived.Test.YtlkphcjlgbimkaaGreatAngle
import Derived.Test.YtlkphcjlgbimkaaGreatSid1
namespace Go.Proofs.YtlkphcjlgbimkaaGreat
open Go.RowKit

theorem ref_id {t d m X q e Z zq zr m4 m3 : Int} (ht : t = d * 86400000 + m) (hX : X = 59138841977 * d) (he : X = q * 1000000 + e) (hZ : Z = 59138841977 * m) (hz : Z = zq * 86400000000000 + zr) (hm : m = m4 * 4 + m3) :
    ariV t = (58838400000000 + m3 * 21600000000000 + e * 86400000 + zr) + (21600000 * d + m4 + q + zq) * 86400000000000 := by
  unfold ariV; omega
theorem ref_e {X q : Int} (eq : q = X / 1000000) (h0 : -200000000000000000 ≤ X) (h1 : X ≤ 200000000000000000) :
    wrap64 (X - wrap64 (q * 1000000)) = X - q * 1000000 ∧ 0 ≤ X - q * 1000000 ∧ X - q * 1000000 < 1000000 ∧ -200000000001 ≤ q ∧ q ≤ 200000000001 := by
  have e1 : wrap64 (q * 1000000) = q * 1000000 := w64 (by omega)
  rw [e1]
  exact ⟨w64 (by omega), by omega, by omega, by omega, by omega⟩
theorem ref_P {m3 e zr : Int} (a0 : 0 ≤ m3) (a1 : m3 < 4) (b0 : 0 ≤ e) (b1 : e < 1000000) (c0 : 0 ≤ zr) (c1 : zr < 86400000000000) :
    wrap64 (wrap64 (58838400000000 + m3 * 21600000000000 + wrap64 (e * 86400000)) + zr) = 58838400000000 + m3 * 21600000000000 + e * 86400000 + zr ∧
    0 ≤ 58838400000000 + m3 * 21600000000000 + e * 86400000 + zr ∧ 58838400000000 + m3 * 21600000000000 + e * 86400000 + zr < 400000000000000 := by
  have e1 : wrap64 (e * 86400000) = e * 86400000 := w64 (by omega)
  rw [e1]
  have e2 : wrap64 (58838400000000 + m3 * 21600000000000 + e * 86400000) = 58838400000000 + m3 * 21600000000000 + e * 86400000 := w64 (by omega)
  rw [e2]
  exact ⟨w64 (by omega), by omega, by omega⟩
theorem ref_W {d m4 q zq pq : Int} (a0 : -2000000 ≤ d) (a1 : d ≤ 2000000) (b0 : 0 ≤ m4) (b1 : m4 < 86400000) (c0 : -200000000001 ≤ q) (c1 : q ≤ 200000000001) (d0 : 0 ≤ zq) (d1 : zq < 59138841977) (e0 : 0 ≤ pq) (e1 : pq < 10) :
    wrap64 (wrap64 (wrap64 (wrap64 (wrap64 (wrap64 (21600000 * d) + 5998067) + m4) + q) + zq) + wrap64 pq) = 5998067 + (pq + (21600000 * d + m4 + q + zq)) := by
  have f1 : wrap64 (21600000 * d) = 21600000 * d := w64 (by omega)
  rw [f1]
  have f2 : wrap64 (21600000 * d + 5998067) = 21600000 * d + 5998067 := w64 (by omega)
  rw [f2]
  have f3 : wrap64 (21600000 * d + 5998067 + m4) = 21600000 * d + 5998067 + m4 := w64 (by omega)
  rw [f3]
  have f4 : wrap64 (21600000 * d + 5998067 + m4 + q) = 21600000 * d + 5998067 + m4 + q := w64 (by omega)
  rw [f4]
  have f5 : wrap64 (21600000 * d + 5998067 + m4 + q + zq) = 21600000 * d + 5998067 + m4 + q + zq := w64 (by omega)
  rw [f5]
  have f6 : wrap64 pq = pq := w64 (by omega)
  rw [f6, w64 (by omega)]
  omega
theorem ref_all {t d m X q : Int} (ht : t = d * 86400000 + m) (eX : X = 59138841977 * d) (eq : q = X / 1000000) (hm0 : 0 ≤ m) (hm1 : m < 86400000) (hd0 : -2000000 ≤ d) (hd1 : d ≤ 2000000) (h0 : -200000000000000000 ≤ X) (h1 : X ≤ 200000000000000000) :
    wrap64 (wrap64 (wrap64 (wrap64 (wrap64 (wrap64 (21600000 * d) + 5998067) + m / 4) + q) + 59138841977 * m / 86400000000000) + wrap64 ((wrap64 (wrap64 (58838400000000 + m % 4 * 21600000000000 + wrap64 (wrap64 (X - wrap64 (q * 1000000)) * 86400000)) + 59138841977 * m % 86400000000000)).tdiv 86400000000000)) = ariF t ∧
    (wrap64 (wrap64 (58838400000000 + m % 4 * 21600000000000 + wrap64 (wrap64 (X - wrap64 (q * 1000000)) * 86400000)) + 59138841977 * m % 86400000000000)).tmod 86400000000000 = ariR t := by
  obtain ⟨e1, e2, e3, q0, q1⟩ := ref_e eq h0 h1
  rw [e1]
  have hid := ref_id (e := X - q * 1000000) (q := q) (Z := 59138841977 * m) (zq := 59138841977 * m / 86400000000000) (zr := 59138841977 * m % 86400000000000) (m4 := m / 4) (m3 := m % 4) ht eX (by omega) rfl (by clear ht eX eq e1 e2 e3; omega) (by clear ht eX eq e1 e2 e3; omega)
  have z0 : 0 ≤ 59138841977 * m % 86400000000000 := Int.emod_nonneg _ (by decide)
  have z1 : 59138841977 * m % 86400000000000 < 86400000000000 := Int.emod_lt_of_pos _ (by decide)
  have z2 : 0 ≤ 59138841977 * m / 86400000000000 := Int.ediv_nonneg (by omega) (by decide)
  have z3 : 59138841977 * m / 86400000000000 < 59138841977 := Int.ediv_lt_of_lt_mul (by decide) (by clear ht eX eq e1 e2 e3 hid; omega)
  obtain ⟨p1, p2, p3⟩ := ref_P (m3 := m % 4) (by omega) (by omega) e2 e3 z0 z1
  rw [p1]
  clear p1 e1
  have m0 : 0 ≤ m / 4 := by omega
  have m1 : m / 4 < 86400000 := by omega
  generalize X - q * 1000000 = e at *
  generalize 59138841977 * m / 86400000000000 = zq at *
  generalize 59138841977 * m % 86400000000000 = zr at *
  generalize hP : 58838400000000 + m % 4 * 21600000000000 + e * 86400000 + zr = P at *
  rw [Int.tdiv_eq_ediv_of_nonneg p2, Int.tmod_eq_emod_of_nonneg p2]
  constructor
  · rw [ref_W hd0 hd1 m0 m1 q0 q1 z2 z3 (Int.ediv_nonneg p2 (by decide)) (Int.ediv_lt_of_lt_mul (by decide) (by clear hid hP; omega))]
    unfold ariF
    rw [hid, Int.add_mul_ediv_right _ _ (by decide)]
  · unfold ariR
    rw [hid, Int.add_mul_emod_self_right]
set_option maxHeartbeats 4000000 in
theorem ref12_Aries (t : Int) (w : World) (h0 : -100000000000000 ≤ t) (h1 : t ≤ 100000000000000) :
    Calls Tryz.prog 123 #[.int .i64 t] w fun e w' => e = .returned (.tuple #[.int .i64 (ariF t), .int .i64 (ariR t)]) ∧ w' = w := by
  have c1 := ref05_Floor t 86400000 w (by omega) (by omega) (by omega)
  obtain ⟨d, ed⟩ : ∃ d, d = t / 86400000 := ⟨_, rfl⟩
  rw [← ed] at c1
  obtain ⟨m, em⟩ : ∃ m, m = t - d * 86400000 := ⟨_, rfl⟩
  have hm0 : 0 ≤ m := by omega
  have hm1 : m < 86400000 := by omega
  have hd0 : -2000000 ≤ d := by omega
  have hd1 : d ≤ 2000000 := by omega
  have ht : t = d * 86400000 + m := by omega
  clear ed
  obtain ⟨D, eD⟩ : ∃ D, D = d * 86400000 := ⟨_, rfl⟩
  have F0 : wrap64 (d * 86400000) = D := by rw [eD]; exact w64 (by omega)
  have F1 : wrap64 (t - D) = m := by rw [eD, ← em]; exact w64 (by omega)
  obtain ⟨X, eX⟩ : ∃ X, X = 59138841977 * d := ⟨_, rfl⟩
  have hX0 : -200000000000000000 ≤ X := by omega
  have hX1 : X ≤ 200000000000000000 := by omega
  have F2 : wrap64 (59138841977 * d) = X := by rw [eX]; exact w64 (by omega)
  have c2 := ref05_Floor X 1000000 w (by omega) (by clear ht em eD; omega) (by clear ht em eD; omega)
  obtain ⟨q, eq⟩ : ∃ q, q = X / 1000000 := ⟨_, rfl⟩
  rw [← eq] at c2
  have HN := Lib.hid (And.intro ht (And.intro em (And.intro eD (And.intro eX (And.intro eq (And.intro hd0 (And.intro hd1 (And.intro hX0 hX1))))))))
  clear ht em eD eX eq hX0 hX1 h0 h1 hd0 hd1
  go_enter Tryz.func123, Tryz.ntmps123
  go_wp2_with (first | (go_at_call 126; first | (with_reducible refine c1.mono ?_; rintro e w' ⟨rfl, hw⟩; rw [hw]) | (with_reducible refine c2.mono ?_; rintro e w' ⟨rfl, hw⟩; rw [hw])))
  go_ret2
  obtain ⟨ht, em, eD, eX, eq, hd0, hd1, hX0, hX1⟩ := HN.out
  obtain ⟨r1, r2⟩ := ref_all ht eX eq hm0 hm1 hd0 hd1 hX0 hX1
  refine ⟨?_, rfl⟩
  rw [r1, r2]
  rfl
end Go.Proofs.YtlkphcjlgbimkaaGreat
