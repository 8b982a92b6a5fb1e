/- Contracts and plain laws, several texts in one: Sid2; Sid3; Sid4; Sid5; Alm1; Alm2 -/
import Derived.Test.YtnnmfdeeicpdlaaGreatProg
import Derived.WalkKit
import Derived.WalkSpells
import Derived.WalkLawsBesides
import Derived.Lib.Hide
import Derived.BigQuiet
import Derived.Test.YtnnmfdeeicpdlaaGreatSAA
import Derived.Test.YtnnmfdeeicpdlaaGreatSAD
import Derived.Test.YtnnmfdeeicpdlaaGreatSAF
import Derived.Test.YtnnmfdeeicpdlaaGreatSAL
/- The reference's hour angle of Aries at an instant: the same number. -/
namespace Go.Proofs.YtnnmfdeeicpdlaaGreat
open Go.RowKit

theorem ref_id {t d m X q e Z zq zr m4 m3 : Int} (ht : t = d * 86400000 + m) (hX : X = 59138841977 * d) (he : X = q * 1000000 + e) (hZ : Z = 59138841977 * m) (hz : Z = zq * 86400000000000 + zr) (hm : m = m4 * 4 + m3) :
    ariV t = (58838400000000 + m3 * 21600000000000 + e * 86400000 + zr) + (21600000 * d + m4 + q + zq) * 86400000000000 := by
  unfold ariV; omega
theorem ref_e {X q : Int} (eq : q = X / 1000000) (h0 : -200000000000000000 ≤ X) (h1 : X ≤ 200000000000000000) :
    wrap64 (X - wrap64 (q * 1000000)) = X - q * 1000000 ∧ 0 ≤ X - q * 1000000 ∧ X - q * 1000000 < 1000000 ∧ -200000000001 ≤ q ∧ q ≤ 200000000001 := by
  have e1 : wrap64 (q * 1000000) = q * 1000000 := w64 (by omega)
  rw [e1]
  exact ⟨w64 (by omega), by omega, by omega, by omega, by omega⟩
theorem ref_P {m3 e zr : Int} (a0 : 0 ≤ m3) (a1 : m3 < 4) (b0 : 0 ≤ e) (b1 : e < 1000000) (c0 : 0 ≤ zr) (c1 : zr < 86400000000000) :
    wrap64 (wrap64 (58838400000000 + m3 * 21600000000000 + wrap64 (e * 86400000)) + zr) = 58838400000000 + m3 * 21600000000000 + e * 86400000 + zr ∧
    0 ≤ 58838400000000 + m3 * 21600000000000 + e * 86400000 + zr ∧ 58838400000000 + m3 * 21600000000000 + e * 86400000 + zr < 400000000000000 := by
  have e1 : wrap64 (e * 86400000) = e * 86400000 := w64 (by omega)
  rw [e1]
  have e2 : wrap64 (58838400000000 + m3 * 21600000000000 + e * 86400000) = 58838400000000 + m3 * 21600000000000 + e * 86400000 := w64 (by omega)
  rw [e2]
  exact ⟨w64 (by omega), by omega, by omega⟩
theorem ref_W {d m4 q zq pq : Int} (a0 : -2000000 ≤ d) (a1 : d ≤ 2000000) (b0 : 0 ≤ m4) (b1 : m4 < 86400000) (c0 : -200000000001 ≤ q) (c1 : q ≤ 200000000001) (d0 : 0 ≤ zq) (d1 : zq < 59138841977) (e0 : 0 ≤ pq) (e1 : pq < 10) :
    wrap64 (wrap64 (wrap64 (wrap64 (wrap64 (wrap64 (21600000 * d) + 5998067) + m4) + q) + zq) + wrap64 pq) = 5998067 + (pq + (21600000 * d + m4 + q + zq)) := by
  have f1 : wrap64 (21600000 * d) = 21600000 * d := w64 (by omega)
  rw [f1]
  have f2 : wrap64 (21600000 * d + 5998067) = 21600000 * d + 5998067 := w64 (by omega)
  rw [f2]
  have f3 : wrap64 (21600000 * d + 5998067 + m4) = 21600000 * d + 5998067 + m4 := w64 (by omega)
  rw [f3]
  have f4 : wrap64 (21600000 * d + 5998067 + m4 + q) = 21600000 * d + 5998067 + m4 + q := w64 (by omega)
  rw [f4]
  have f5 : wrap64 (21600000 * d + 5998067 + m4 + q + zq) = 21600000 * d + 5998067 + m4 + q + zq := w64 (by omega)
  rw [f5]
  have f6 : wrap64 pq = pq := w64 (by omega)
  rw [f6, w64 (by omega)]
  omega
theorem ref_all {t d m X q : Int} (ht : t = d * 86400000 + m) (eX : X = 59138841977 * d) (eq : q = X / 1000000) (hm0 : 0 ≤ m) (hm1 : m < 86400000) (hd0 : -2000000 ≤ d) (hd1 : d ≤ 2000000) (h0 : -200000000000000000 ≤ X) (h1 : X ≤ 200000000000000000) :
    wrap64 (wrap64 (wrap64 (wrap64 (wrap64 (wrap64 (21600000 * d) + 5998067) + m / 4) + q) + 59138841977 * m / 86400000000000) + wrap64 ((wrap64 (wrap64 (58838400000000 + m % 4 * 21600000000000 + wrap64 (wrap64 (X - wrap64 (q * 1000000)) * 86400000)) + 59138841977 * m % 86400000000000)).tdiv 86400000000000)) = ariF t ∧
    (wrap64 (wrap64 (58838400000000 + m % 4 * 21600000000000 + wrap64 (wrap64 (X - wrap64 (q * 1000000)) * 86400000)) + 59138841977 * m % 86400000000000)).tmod 86400000000000 = ariR t := by
  obtain ⟨e1, e2, e3, q0, q1⟩ := ref_e eq h0 h1
  rw [e1]
  have hid := ref_id (e := X - q * 1000000) (q := q) (Z := 59138841977 * m) (zq := 59138841977 * m / 86400000000000) (zr := 59138841977 * m % 86400000000000) (m4 := m / 4) (m3 := m % 4) ht eX (by omega) rfl (by clear ht eX eq e1 e2 e3; omega) (by clear ht eX eq e1 e2 e3; omega)
  have z0 : 0 ≤ 59138841977 * m % 86400000000000 := Int.emod_nonneg _ (by decide)
  have z1 : 59138841977 * m % 86400000000000 < 86400000000000 := Int.emod_lt_of_pos _ (by decide)
  have z2 : 0 ≤ 59138841977 * m / 86400000000000 := Int.ediv_nonneg (by omega) (by decide)
  have z3 : 59138841977 * m / 86400000000000 < 59138841977 := Int.ediv_lt_of_lt_mul (by decide) (by clear ht eX eq e1 e2 e3 hid; omega)
  obtain ⟨p1, p2, p3⟩ := ref_P (m3 := m % 4) (by omega) (by omega) e2 e3 z0 z1
  rw [p1]
  clear p1 e1
  have m0 : 0 ≤ m / 4 := by omega
  have m1 : m / 4 < 86400000 := by omega
  generalize X - q * 1000000 = e at *
  generalize 59138841977 * m / 86400000000000 = zq at *
  generalize 59138841977 * m % 86400000000000 = zr at *
  generalize hP : 58838400000000 + m % 4 * 21600000000000 + e * 86400000 + zr = P at *
  rw [Int.tdiv_eq_ediv_of_nonneg p2, Int.tmod_eq_emod_of_nonneg p2]
  constructor
  · rw [ref_W hd0 hd1 m0 m1 q0 q1 z2 z3 (Int.ediv_nonneg p2 (by decide)) (Int.ediv_lt_of_lt_mul (by decide) (by clear hid hP; omega))]
    unfold ariF
    rw [hid, Int.add_mul_ediv_right _ _ (by decide)]
  · unfold ariR
    rw [hid, Int.add_mul_emod_self_right]
set_option maxHeartbeats 4000000 in
theorem ref12_Aries (t : Int) (w : World) (h0 : -100000000000000 ≤ t) (h1 : t ≤ 100000000000000) :
    Calls Tryz.prog 204 #[.int .i64 t] w fun e w' => e = .returned (.tuple #[.int .i64 (ariF t), .int .i64 (ariR t)]) ∧ w' = w := by
  have c1 := ref05_Floor t 86400000 w (by omega) (by omega) (by omega)
  obtain ⟨d, ed⟩ : ∃ d, d = t / 86400000 := ⟨_, rfl⟩
  rw [← ed] at c1
  obtain ⟨m, em⟩ : ∃ m, m = t - d * 86400000 := ⟨_, rfl⟩
  have hm0 : 0 ≤ m := by omega
  have hm1 : m < 86400000 := by omega
  have hd0 : -2000000 ≤ d := by omega
  have hd1 : d ≤ 2000000 := by omega
  have ht : t = d * 86400000 + m := by omega
  clear ed
  obtain ⟨D, eD⟩ : ∃ D, D = d * 86400000 := ⟨_, rfl⟩
  have F0 : wrap64 (d * 86400000) = D := by rw [eD]; exact w64 (by omega)
  have F1 : wrap64 (t - D) = m := by rw [eD, ← em]; exact w64 (by omega)
  obtain ⟨X, eX⟩ : ∃ X, X = 59138841977 * d := ⟨_, rfl⟩
  have hX0 : -200000000000000000 ≤ X := by omega
  have hX1 : X ≤ 200000000000000000 := by omega
  have F2 : wrap64 (59138841977 * d) = X := by rw [eX]; exact w64 (by omega)
  have c2 := ref05_Floor X 1000000 w (by omega) (by clear ht em eD; omega) (by clear ht em eD; omega)
  obtain ⟨q, eq⟩ : ∃ q, q = X / 1000000 := ⟨_, rfl⟩
  rw [← eq] at c2
  have HN := Lib.hid (And.intro ht (And.intro em (And.intro eD (And.intro eX (And.intro eq (And.intro hd0 (And.intro hd1 (And.intro hX0 hX1))))))))
  clear ht em eD eX eq hX0 hX1 h0 h1 hd0 hd1
  go_enter Tryz.func204, Tryz.ntmps204
  go_wp2_with (first | (go_at_call 206; first | (with_reducible refine c1.mono ?_; rintro e w' ⟨rfl, hw⟩; rw [hw]) | (with_reducible refine c2.mono ?_; rintro e w' ⟨rfl, hw⟩; rw [hw])))
  go_ret2
  obtain ⟨ht, em, eD, eX, eq, hd0, hd1, hX0, hX1⟩ := HN.out
  obtain ⟨r1, r2⟩ := ref_all ht eX eq hm0 hm1 hd0 hd1 hX0 hX1
  refine ⟨?_, rfl⟩
  rw [r1, r2]
  rfl
end Go.Proofs.YtnnmfdeeicpdlaaGreat
/- The hour angles of Aries over a time (packages sidereal and almucantarref12). -/
namespace Go.Proofs.YtnnmfdeeicpdlaaGreat
set_option maxHeartbeats 1000000
open Go.RowKit

def ariU (t : Int) : Int := if 0 < ariR t then ariF t + 1 else ariF t
theorem ariF_b {t : Int} (h0 : -100000000000000 ≤ t) (h1 : t ≤ 100000000000000) : -30000000000000 ≤ ariF t ∧ ariF t ≤ 30000000000000 := by
  have hV : -100000000000000 * 21659138841977 ≤ ariV t ∧ ariV t ≤ 100000000000001 * 21659138841977 + 58838400000000 := by unfold ariV; omega
  unfold ariF
  generalize ariV t = V at *
  clear h0 h1
  omega
theorem ariU_b {t : Int} (h0 : -100000000000000 ≤ t) (h1 : t ≤ 100000000000000) : -30000000000000 ≤ ariU t ∧ ariU t ≤ 30000000000001 := by
  have := ariF_b h0 h1
  unfold ariU
  split <;> omega
theorem sid_up (t : Int) (w : World) (h0 : -100000000000000 ≤ t) (h1 : t ≤ 100000000000000) :
    Calls Tryz.prog 238 #[.int .i64 t] w fun e w' => e = .returned (.int .i64 (ariU t)) ∧ ∃ d, w' = bw w d := by
  refine lay_start ?_
  have c1 := sid_aries t (lay w []) (by omega) (by omega)
  have hb := ariF_b h0 h1
  unfold ariU
  generalize ariF t = F at *
  generalize ariR t = R at *
  clear h0 h1
  go_enter Tryz.func238, Tryz.ntmps238
  have f1 : wrap64 (F + 1) = F + 1 := w64 (by omega)
  go_wp2_with (go_at_call 237; refine c1.mono ?_; rintro e w' ⟨rfl, d, rfl⟩)
  all_goals go_ret
  all_goals exact ⟨ret_int (by first | omega | (split <;> omega)), lay_ex w _⟩
theorem sid_between (a b : Int) (w : World) (h0 : -100000000000000 ≤ a) (h1 : a ≤ b) (h2 : b ≤ 100000000000000) :
    Calls Tryz.prog 188 #[.int .i64 a, .int .i64 b] w fun e w' =>
      e = .returned (.agg #[.int .i64 (turnLo (ariF a) (ariU b)), .int .i64 (turnHi (ariF a) (ariU b))]) ∧ ∃ d, w' = bw w d := by
  refine lay_start ?_
  have c1 := fun w => sid_aries a w (by omega) (by omega)
  have c2 := fun w => sid_up b w (by omega) (by omega)
  have hb := ariF_b h0 (by omega)
  have hc := ariU_b (t := b) (by omega) h2
  generalize ariF a = F at *
  generalize ariU b = G at *
  generalize ariR a = R at *
  clear h0 h1 h2
  go_enter Tryz.func188, Tryz.ntmps188
  go_wp2_with (first | (go_at_call 237; refine (c1 _).mono ?_; rintro e w' ⟨rfl, d, rfl⟩) | (go_at_call 238; refine (c2 _).mono ?_; rintro e w' ⟨rfl, d, rfl⟩) | (go_at_call 91; refine (angle_Wrap _ _).mono ?_; rintro e w' ⟨rfl, rfl⟩))
  all_goals exact bodyPost_ret (v := (.agg #[.int .i64 (turnLo F G), .int .i64 (turnHi F G)])) (by simp [results, Tryz.results188, go_sem, turnLo, turnHi]; omega) rfl ⟨rfl, lay_ex _ _⟩
theorem ref12_Interval (a b : Int) (w : World) (h0 : -100000000000000 ≤ a) (h1 : a ≤ b) (h2 : b ≤ 100000000000000) (hm : ariF a ≤ ariU b) :
    Calls Tryz.prog 141 #[(.agg #[.int .i64 (a), .int .i64 (b)])] w fun e w' =>
      e = .returned (.agg #[.int .i64 (turnLo (ariF a) (ariU b)), .int .i64 (turnHi (ariF a) (ariU b))]) ∧ ∃ d, w' = bw w d := by
  refine lay_start ?_
  have c1 := fun w => ref12_Aries a w (by omega) (by omega)
  have c2 := fun w => ref12_Aries b w (by omega) (by omega)
  have hb := ariF_b h0 (by omega)
  have hc := ariF_b (t := b) (by omega) h2
  have c3 := fun w => ref05_Turn (ariF a) (ariU b) w (by omega) hm (by have := ariU_b (t := b) (by omega) h2; omega)
  unfold ariU at *
  generalize ariF a = F at *
  generalize ariF b = G at *
  generalize ariR b = S at *
  generalize ariR a = R at *
  clear h0 h1 h2 hm
  have f1 : wrap64 (G + 1) = G + 1 := w64 (by omega)
  go_enter Tryz.func141, Tryz.ntmps141
  by_cases hS : 0 < S
  · rw [if_pos hS] at *
    go_wp2_with (first | (go_at_call 204; first | (with_reducible refine (c1 _).mono ?_; rintro e w' ⟨rfl, rfl⟩) | (with_reducible refine (c2 _).mono ?_; rintro e w' ⟨rfl, rfl⟩)) | (go_at_call 90; refine (c3 _).mono ?_; rintro e w' ⟨rfl, d, rfl⟩))
    all_goals exact bodyPost_ret (v := (.agg #[.int .i64 (turnLo F _), .int .i64 (turnHi F _)])) (by simp [results, Tryz.results141, go_sem]) rfl ⟨rfl, lay_ex _ _⟩
  · rw [if_neg hS] at *
    go_wp2_with (first | (go_at_call 204; first | (with_reducible refine (c1 _).mono ?_; rintro e w' ⟨rfl, rfl⟩) | (with_reducible refine (c2 _).mono ?_; rintro e w' ⟨rfl, rfl⟩)) | (go_at_call 90; refine (c3 _).mono ?_; rintro e w' ⟨rfl, d, rfl⟩))
    all_goals exact bodyPost_ret (v := (.agg #[.int .i64 (turnLo F _), .int .i64 (turnHi F _)])) (by simp [results, Tryz.results141, go_sem]) rfl ⟨rfl, lay_ex _ _⟩
end Go.Proofs.YtnnmfdeeicpdlaaGreat
/- The length of a sidereal day, the interval of a time (package sidereal). -/
namespace Go.Proofs.YtnnmfdeeicpdlaaGreat
open Go.RowKit

theorem ariF_le {a b : Int} (h : a ≤ b) : ariF a ≤ ariU b := by
  have h1 : ariV a ≤ ariV b := by unfold ariV; omega
  have h2 : ariF a ≤ ariF b := by
    have := Int.ediv_le_ediv (c := 86400000000000) (by decide) h1
    unfold ariF; omega
  unfold ariU
  split <;> omega
set_option maxHeartbeats 1000000 in
theorem sid_Length (w : World) :
    Calls Tryz.prog 14 #[] w fun e w' => e = .returned (.agg #[.int .i64 (86164090), .int .i64 (86164091)]) ∧ ∃ d, w' = bw w d := by
  refine lay_start ?_
  have c1 : ∀ w, Calls Tryz.prog 79 #[.int .u64 21600000, .int .u64 86400000000000] w fun e w' => e = .returned (.tuple #[.int .u64 101, .int .u64 3118848555335286784]) ∧ w' = w := fun w =>
    Tryz.bits_Mul64 21600000 86400000000000 (by decide) (by decide) w
  have c2 : ∀ w, Calls Tryz.prog 80 #[.int .u64 101, .int .u64 3118848555335286784, .int .u64 21659138841977] w fun e w' => e = .returned (.tuple #[.int .u64 86164090, .int .u64 11497397994070]) ∧ ∃ d, w' = bw w d := fun w =>
    div64' 101 3118848555335286784 21659138841977 86164090 11497397994070 (by decide) (by decide) (by decide) (by decide) (by decide) w
  go_enter Tryz.func14, Tryz.ntmps14
  go_wp2_with (first | (go_at_call 79; refine (c1 _).mono ?_; rintro e w' ⟨rfl, rfl⟩) | (go_at_call 80; refine (c2 _).mono ?_; rintro e w' ⟨rfl, d, rfl⟩))
  all_goals exact bodyPost_ret (v := (.agg #[.int .i64 (86164090), .int .i64 (86164091)])) (by simp [results, Tryz.results14, go_sem]) rfl ⟨rfl, lay_ex _ _⟩
end Go.Proofs.YtnnmfdeeicpdlaaGreat
/- Times that are valid (package clock), the interval of a time (package sidereal). -/
namespace Go.Proofs.YtnnmfdeeicpdlaaGreat
set_option maxHeartbeats 400000
open Go.RowKit

def insB (t : Int) : Bool := decide (-70368744177664 ≤ t ∧ t ≤ 70368744177664)
def timB (a b : Int) : Bool := decide (a ≤ b) && insB a && insB b
theorem timB_iff {a b : Int} : timB a b = true ↔ a ≤ b ∧ -70368744177664 ≤ a ∧ b ≤ 70368744177664 := by
  unfold timB insB
  simp only [Bool.and_eq_true, decide_eq_true_eq]
  omega
theorem clock_instant (t : Int) (w : World) :
    Calls Tryz.prog 187 #[.int .i64 t] w fun e w' => e = .returned (.bool (insB t)) ∧ w' = w := by
  go_enter Tryz.func187, Tryz.ntmps187
  go_wp2_with fail
  all_goals go_ret
  all_goals exact ⟨ret_bool (by unfold insB; rw [Bool.eq_iff_iff]; simp; try omega), rfl⟩
theorem clock_Valid (a b : Int) (w : World) :
    Calls Tryz.prog 106 #[(.agg #[.int .i64 (a), .int .i64 (b)])] w fun e w' => e = .returned (.bool (timB a b)) ∧ ∃ d, w' = bw w d := by
  refine lay_start ?_
  have c1 := fun w => clock_instant a w
  have c2 := fun w => clock_instant b w
  unfold timB
  generalize insB a = A at *
  generalize insB b = B at *
  go_enter Tryz.func106, Tryz.ntmps106
  by_cases h : a ≤ b
  · cases A
    · go_wp2_with (go_at_call 187; first | (with_reducible refine (c1 _).mono ?_; rintro e w' ⟨rfl, rfl⟩) | (with_reducible refine (c2 _).mono ?_; rintro e w' ⟨rfl, rfl⟩))
      all_goals go_ret
      all_goals exact ⟨ret_bool (by simp [h]), lay_ex _ _⟩
    · go_wp2_with (go_at_call 187; first | (with_reducible refine (c1 _).mono ?_; rintro e w' ⟨rfl, rfl⟩) | (with_reducible refine (c2 _).mono ?_; rintro e w' ⟨rfl, rfl⟩))
      all_goals go_ret
      all_goals exact ⟨ret_bool (by simp [h]), lay_ex _ _⟩
  · go_wp2_with (go_at_call 187; first | (with_reducible refine (c1 _).mono ?_; rintro e w' ⟨rfl, rfl⟩) | (with_reducible refine (c2 _).mono ?_; rintro e w' ⟨rfl, rfl⟩))
    all_goals go_ret
    all_goals exact ⟨ret_bool (by simp; intros; omega), lay_ex _ _⟩
theorem sid_Interval (a b : Int) (w : World) (hv : timB a b = true) :
    Calls Tryz.prog 109 #[(.agg #[.int .i64 (a), .int .i64 (b)])] w fun e w' =>
      e = .returned (.tuple #[(.agg #[.int .i64 (turnLo (ariF a) (ariU b)), .int .i64 (turnHi (ariF a) (ariU b))]), .int .i64 0]) ∧ ∃ d, w' = bw w d := by
  obtain ⟨g1, g2, g3⟩ := timB_iff.1 hv
  refine lay_start ?_
  have c1 := fun w => clock_Valid a b w
  rw [hv] at c1
  have c2 := fun w => sid_between a b w (by omega) g1 (by omega)
  generalize turnLo (ariF a) (ariU b) = x at *
  generalize turnHi (ariF a) (ariU b) = y at *
  clear g1 g2 g3 hv
  go_enter Tryz.func109, Tryz.ntmps109
  go_wp2_with (first | (go_at_call 106; refine (c1 _).mono ?_; rintro e w' ⟨rfl, d, rfl⟩) | (go_at_call 188; refine (c2 _).mono ?_; rintro e w' ⟨rfl, d, rfl⟩))
  all_goals exact bodyPost_ret (v := .tuple #[(.agg #[.int .i64 (x), .int .i64 (y)]), .int .i64 0]) (by simp [results, Tryz.results109, go_sem]) rfl ⟨rfl, lay_ex _ _⟩
theorem ref10_Instant (t : Int) (w : World) :
    Calls Tryz.prog 184 #[.int .i64 t] w fun e w' => e = .returned (.bool (insB t)) ∧ w' = w := by
  go_enter Tryz.func184, Tryz.ntmps184
  go_wp2_with fail
  all_goals go_ret
  all_goals exact ⟨ret_bool (by unfold insB; rw [Bool.eq_iff_iff]; simp; try omega), rfl⟩
theorem ref10_Valid (a b : Int) (w : World) :
    Calls Tryz.prog 104 #[(.agg #[.int .i64 (a), .int .i64 (b)])] w fun e w' => e = .returned (.bool (timB a b)) ∧ ∃ d, w' = bw w d := by
  refine lay_start ?_
  have c1 := fun w => ref10_Instant a w
  have c2 := fun w => ref10_Instant b w
  unfold timB
  generalize insB a = A at *
  generalize insB b = B at *
  go_enter Tryz.func104, Tryz.ntmps104
  by_cases h : a ≤ b
  · cases A
    · go_wp2_with (go_at_call 184; first | (with_reducible refine (c1 _).mono ?_; rintro e w' ⟨rfl, rfl⟩) | (with_reducible refine (c2 _).mono ?_; rintro e w' ⟨rfl, rfl⟩))
      all_goals go_ret
      all_goals exact ⟨ret_bool (by simp [h]), lay_ex _ _⟩
    · go_wp2_with (go_at_call 184; first | (with_reducible refine (c1 _).mono ?_; rintro e w' ⟨rfl, rfl⟩) | (with_reducible refine (c2 _).mono ?_; rintro e w' ⟨rfl, rfl⟩))
      all_goals go_ret
      all_goals exact ⟨ret_bool (by simp [h]), lay_ex _ _⟩
  · go_wp2_with (go_at_call 184; first | (with_reducible refine (c1 _).mono ?_; rintro e w' ⟨rfl, rfl⟩) | (with_reducible refine (c2 _).mono ?_; rintro e w' ⟨rfl, rfl⟩))
    all_goals go_ret
    all_goals exact ⟨ret_bool (by simp; intros; omega), lay_ex _ _⟩
end Go.Proofs.YtnnmfdeeicpdlaaGreat
/- Contracts of package almanac: the arc for tenths. -/
namespace Go.Proofs.YtnnmfdeeicpdlaaGreat
set_option maxHeartbeats 400000
open Go.RowKit

theorem alm_around (n : Int) (w : World) (h0 : -1000000000 ≤ n) (h1 : n ≤ 1000000000) :
    Calls Tryz.prog 189 #[.int .i64 n] w fun e w' => e = .returned (.agg #[.int .i64 (100 * n - 50), .int .i64 (100 * n + 50)]) ∧ ∃ d, w' = bw w d := by
  refine lay_start ?_
  go_enter Tryz.func189, Tryz.ntmps189
  go_wp2_with fail
  all_goals exact bodyPost_ret (v := (.agg #[.int .i64 (100 * n - 50), .int .i64 (100 * n + 50)])) (by simp [results, Tryz.results189, go_sem]) rfl ⟨rfl, lay_ex _ _⟩
theorem ref13_Around (n : Int) (w : World) (h0 : -1000000000 ≤ n) (h1 : n ≤ 1000000000) :
    Calls Tryz.prog 143 #[.int .i64 n] w fun e w' => e = .returned (.agg #[.int .i64 (100 * n - 50), .int .i64 (100 * n + 50)]) ∧ ∃ d, w' = bw w d := by
  refine lay_start ?_
  go_enter Tryz.func143, Tryz.ntmps143
  go_wp2_with fail
  all_goals exact bodyPost_ret (v := (.agg #[.int .i64 (100 * n - 50), .int .i64 (100 * n + 50)])) (by simp [results, Tryz.results143, go_sem]) rfl ⟨rfl, lay_ex _ _⟩
end Go.Proofs.YtnnmfdeeicpdlaaGreat
/- Sums of arcs (package angle). -/
namespace Go.Proofs.YtnnmfdeeicpdlaaGreat
set_option maxHeartbeats 400000
open Go.RowKit

theorem angle_result (lo hi : Int) (w : World) (hv : validB lo hi = true) :
    Calls Tryz.prog 194 #[.int .i64 lo, .int .i64 hi] w fun e w' => e = .returned (.tuple #[(.agg #[.int .i64 (lo), .int .i64 (hi)]), .int .i64 0]) ∧ ∃ d, w' = bw w d := by
  refine lay_start ?_
  obtain ⟨g1, g2, g3⟩ := validB_iff.1 hv
  have q1 : fitsB lo = true := by simp [fitsB]; omega
  have q2 : fitsB hi = true := by simp [fitsB]; omega
  have c1 := fun w => angle_fits lo w
  have c2 := fun w => angle_fits hi w
  rw [q1] at c1
  rw [q2] at c2
  go_enter Tryz.func194, Tryz.ntmps194
  go_wp2_with (go_at_call 115; first | (with_reducible refine (c1 _).mono ?_; rintro e w' ⟨rfl, rfl⟩) | (with_reducible refine (c2 _).mono ?_; rintro e w' ⟨rfl, rfl⟩))
  all_goals exact bodyPost_ret (v := .tuple #[(.agg #[.int .i64 (lo), .int .i64 (hi)]), .int .i64 0]) (by simp [results, Tryz.results194, go_sem]) rfl ⟨rfl, lay_ex _ _⟩
theorem angle_Add (a b x y : Int) (w : World) (h1 : validB a b = true) (h2 : validB x y = true) (h3 : validB (a + x) (b + y) = true) :
    Calls Tryz.prog 112 #[(.agg #[.int .i64 (a), .int .i64 (b)]), (.agg #[.int .i64 (x), .int .i64 (y)])] w fun e w' => e = .returned (.tuple #[(.agg #[.int .i64 (a + x), .int .i64 (b + y)]), .int .i64 0]) ∧ ∃ d, w' = bw w d := by
  refine lay_start ?_
  obtain ⟨g1, g2, g3⟩ := validB_iff.1 h1
  obtain ⟨k1, k2, k3⟩ := validB_iff.1 h2
  have c1 := fun w => angle_Valid a b w
  rw [h1] at c1
  have c2 := fun w => angle_Valid x y w
  rw [h2] at c2
  have c3 := fun w => angle_result (a + x) (b + y) w h3
  have f1 : wrap64 (a + x) = a + x := by unfold wrap64; omega
  have f2 : wrap64 (b + y) = b + y := by unfold wrap64; omega
  go_enter Tryz.func112, Tryz.ntmps112
  go_wp2_with (first | (go_at_call 39; first | (with_reducible refine (c1 _).mono ?_; rintro e w' ⟨rfl, d, rfl⟩) | (with_reducible refine (c2 _).mono ?_; rintro e w' ⟨rfl, d, rfl⟩)) | (go_at_call 194; refine (c3 _).mono ?_; rintro e w' ⟨rfl, d, rfl⟩))
  all_goals exact bodyPost_ret (v := .tuple #[(.agg #[.int .i64 (a + x), .int .i64 (b + y)]), .int .i64 0]) (by simp [results, Tryz.results112, go_sem]) rfl ⟨rfl, lay_ex _ _⟩
end Go.Proofs.YtnnmfdeeicpdlaaGreat
