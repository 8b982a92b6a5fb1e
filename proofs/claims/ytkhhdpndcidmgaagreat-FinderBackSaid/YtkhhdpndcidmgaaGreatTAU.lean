/- Contracts and plain laws, several texts in one: Sid1; Sid2; Sid3; Sid4; Sid5; Alm1 -/
import Derived.Test.YtkhhdpndcidmgaaGreatProg
import Derived.WalkKit
import Derived.WalkSpells
import Derived.WalkLawsBesides
import Derived.Lib.Hide
import Derived.BigQuiet
import Derived.Test.YtkhhdpndcidmgaaGreatTAE
import Derived.Test.YtkhhdpndcidmgaaGreatTAF
import Derived.Test.YtkhhdpndcidmgaaGreatTAI
import Derived.Test.YtkhhdpndcidmgaaGreatTAJ
import Derived.Test.YtkhhdpndcidmgaaGreatTAK
/- The hour angle of Aries at an instant (package sidereal). -/
namespace Go.Proofs.YtkhhdpndcidmgaaGreat
open Go.RowKit

def ariV (t : Int) : Int := t * 21659138841977 + 58838400000000
def ariF (t : Int) : Int := 5998067 + ariV t / 86400000000000
def ariR (t : Int) : Int := ariV t % 86400000000000
theorem ari_q {n p q r : Nat} (hn : n ≤ 1000000000000000) (ep : p = n * 21659138841977) (eq : q = p / 86400000000000) (er : r = p % 86400000000000) :
    q ≤ 1000000000000000 ∧ r < 86400000000000 ∧ q * 86400000000000 + r = n * 21659138841977 := by
  refine ⟨?_, by omega, by omega⟩
  have h : p ≤ 1000000000000000 * 86400000000000 := by rw [ep]; exact Nat.mul_le_mul hn (by decide)
  have h2 : p / 86400000000000 ≤ 1000000000000000 * 86400000000000 / 86400000000000 := Nat.div_le_div_right h
  rw [Nat.mul_div_cancel _ (by decide)] at h2
  rw [eq]; exact h2
theorem ari_pos {t : Int} {n q r : Nat} (en : (n : Int) = max t (-t)) (h : q * 86400000000000 + r = n * 21659138841977) (hq : q ≤ 1000000000000000) (hr : r < 86400000000000) (ht : ¬ t < 0) :
    (q : Int) * 86400000000000 + ((r : Int) + 58838400000000) = ariV t ∧ (-86400000000000 < (r : Int) + 58838400000000 ∧ (r : Int) + 58838400000000 < 172800000000000 ∧ -2000000000000000 ≤ (q : Int) ∧ (q : Int) ≤ 2000000000000000) := by
  have e : t = (n : Int) := by omega
  clear en
  refine ⟨?_, by clear h; omega⟩
  unfold ariV
  rw [e]
  clear hq hr ht e
  omega
theorem ari_neg {t : Int} {n q r : Nat} (en : (n : Int) = max t (-t)) (h : q * 86400000000000 + r = n * 21659138841977) (hq : q ≤ 1000000000000000) (hr : r < 86400000000000) (ht : t < 0) :
    -(q : Int) * 86400000000000 + (-(r : Int) + 58838400000000) = ariV t ∧ (-86400000000000 < -(r : Int) + 58838400000000 ∧ -(r : Int) + 58838400000000 < 172800000000000 ∧ -2000000000000000 ≤ -(q : Int) ∧ -(q : Int) ≤ 2000000000000000) := by
  have e : t = -(n : Int) := by omega
  clear en
  refine ⟨?_, by clear h; omega⟩
  unfold ariV
  rw [e]
  clear hq hr ht e
  omega
def ariI (t a b : Int) : Prop := a * 86400000000000 + b = ariV t ∧ (-86400000000000 < b ∧ b < 172800000000000 ∧ -2000000000000000 ≤ a ∧ a ≤ 2000000000000000)
theorem ariV_lo {t : Int} (h0 : -1000000000000000 ≤ t) : -2000000000000000 * 21659138841977 ≤ ariV t := by unfold ariV; omega
theorem ariI_wr {t a b : Int} (h : ariI t a b) : wrap64 (a - 1) = a - 1 ∧ wrap64 (b + 86400000000000) = b + 86400000000000 ∧ wrap64 (5998067 + a) = 5998067 + a := by
  obtain ⟨-, h1, h2, h3, h4⟩ := h
  refine ⟨?_, ?_, ?_⟩ <;> (unfold wrap64; omega)
theorem ariI_step {t a b : Int} (h0 : -1000000000000000 ≤ t) (h : ariI t a b) (hb : b < 0) : ariI t (a - 1) (b + 86400000000000) := by
  obtain ⟨h, h1, h2, h3, h4⟩ := h
  have hV := ariV_lo h0
  refine ⟨?_, by clear h; omega, by clear h; omega, ?_, by clear h; omega⟩
  · generalize ariV t = V at *
    clear h1 h2 h3 h4 hV
    omega
  · generalize ariV t = V at *
    clear h2 h4 h0
    omega
theorem ariI_end {t a b : Int} (h : ariI t a b) (hb : ¬ b < 0) : 5998067 + a + b / 86400000000000 = ariF t ∧ b % 86400000000000 = ariR t ∧ wrap64 (b / 86400000000000) = b / 86400000000000 ∧ wrap64 (5998067 + a + b / 86400000000000) = 5998067 + a + b / 86400000000000 := by
  obtain ⟨h, h1, h2, h3, h4⟩ := h
  refine ⟨?_, ?_, ?_, ?_⟩
  · unfold ariF
    rw [← h, Int.add_comm (a * 86400000000000), Int.add_mul_ediv_right _ _ (by decide)]
    clear h
    omega
  · unfold ariR
    rw [← h, Int.add_comm (a * 86400000000000), Int.add_mul_emod_self_right]
  · clear h; unfold wrap64; omega
  · clear h; unfold wrap64; omega
theorem w64 {n : Int} (h : -9223372036854775808 ≤ n ∧ n ≤ 9223372036854775807) : wrap64 n = n := by unfold wrap64; omega
theorem ari_facts {q r : Nat} (hq : q ≤ 1000000000000000) (hr : r < 86400000000000) :
    wrap64 (q : Int) = (q : Int) ∧ wrap64 (r : Int) = (r : Int) ∧ wrap64 (-(q : Int)) = -(q : Int) ∧ wrap64 (-(r : Int)) = -(r : Int) ∧
    wrap64 ((r : Int) + 58838400000000) = (r : Int) + 58838400000000 ∧ wrap64 (-(r : Int) + 58838400000000) = -(r : Int) + 58838400000000 :=
  ⟨w64 (by omega), w64 (by omega), w64 (by omega), w64 (by omega), w64 (by omega), w64 (by omega)⟩
set_option maxHeartbeats 4000000 in
theorem sid_aries (t : Int) (w : World) (h0 : -1000000000000000 ≤ t) (h1 : t ≤ 1000000000000000) :
    Calls Tryz.prog 129 #[.int .i64 t] w fun e w' => e = .returned (.tuple #[.int .i64 (ariF t), .int .i64 (ariR t)]) ∧ ∃ d, w' = bw w d := by
  refine lay_start ?_
  obtain ⟨n, en⟩ : ∃ n : Nat, (n : Int) = max t (-t) := ⟨t.natAbs, by omega⟩
  have hn : n ≤ 1000000000000000 := by omega
  have c1 := Tryz.bits_Mul64 n 21659138841977 (by omega) (by omega) (lay w [])
  obtain ⟨p, ep⟩ : ∃ p, p = n * 21659138841977 := ⟨_, rfl⟩
  rw [← ep] at c1
  obtain ⟨ph, eph⟩ : ∃ ph, ph = p / 18446744073709551616 := ⟨_, rfl⟩
  obtain ⟨pl, epl⟩ : ∃ pl, pl = p % 18446744073709551616 := ⟨_, rfl⟩
  rw [← eph, ← epl] at c1
  obtain ⟨q, eq⟩ : ∃ q, q = p / 86400000000000 := ⟨_, rfl⟩
  obtain ⟨r, er⟩ : ∃ r, r = p % 86400000000000 := ⟨_, rfl⟩
  have c2 := div64' ph pl 86400000000000 q r (by omega) (by omega) (by omega) (by omega) (by omega) (lay w [])
  rw [show ((21659138841977 : Nat) : Int) = 21659138841977 from by decide] at c1
  rw [show ((86400000000000 : Nat) : Int) = 86400000000000 from by decide] at c2
  have en' : mx t (-t) = (n : Int) := by rw [en]; unfold mx; split <;> omega
  have en2 : IntKind.u64.wrap (n : Int) = (n : Int) := Mul64.wrapN _ (by omega)
  obtain ⟨hqb, hrb, hqr⟩ := ari_q hn ep eq er
  obtain ⟨f1, f2, f3, f4, f5, f6⟩ := ari_facts hqb hrb
  have HN := Lib.hid (And.intro (ari_pos en hqr hqb hrb) (ari_neg en hqr hqb hrb))
  clear en ep eph epl eq er hqb hrb hqr
  go_enter Tryz.func129, Tryz.ntmps129
  go_wp2_with (first | (go_at_call 169; refine c1.mono ?_; rintro e w' ⟨rfl, hw⟩; rw [hw]) | (go_at_call 170; refine c2.mono ?_; rintro e w' ⟨rfl, d, rfl⟩))
  all_goals
    go_loopw [9, 10] (fun v9 v10 wr => ∃ a b : Int, v9 = .int .i64 a ∧ v10 = .int .i64 b ∧ wr = lay w [.inr d] ∧ ariI t a b) (fun _ v10 _ => (200000000000000 - intOf v10).toNat)
    case atStart =>
      refine ⟨_, _, rfl, rfl, rfl, ?_⟩
      first | (rw [f1, f5]; exact HN.out.1 (by assumption)) | (rw [f3, f6]; exact HN.out.2 (by assumption))
    case round =>
      obtain ⟨a, b, rfl, rfl, hw, hI⟩ := hrel
      rw [hw]
      clear hw
      obtain ⟨g1, g2, g3⟩ := ariI_wr hI
      have HI := Lib.hid hI
      by_cases hneg : b < 0
      · have HS := Lib.hid (ariI_step h0 hI hneg)
        clear hI
        go_wp2_with fail
        go_roundw
        case rel =>
          refine ⟨_, _, rfl, rfl, by first | trivial | rfl, ?_⟩
          simp only [g1, g2]
          exact HS.out
        case measure =>
          obtain ⟨-, h1, h2, -, -⟩ := HI.out
          simp only [intOf, g2]
          clear g1 g2 g3 f1 f2 f3 f4 f5 f6
          omega
      · obtain ⟨z1, z2, z3, z4⟩ := ariI_end hI hneg
        have HZ := Lib.hid (And.intro z1 z2)
        clear hI z1 z2
        go_wp2_with fail
        go_ret2
        have e1 : wrap64 (5998067 + a + wrap64 (b.tdiv 86400000000000)) = ariF t := by rw [Int.tdiv_eq_ediv_of_nonneg (by first | exact hneg | exact Int.not_lt.1 hneg), z3, z4]; exact HZ.out.1
        refine ⟨?_, lay_ex w _⟩
        rw [e1, HZ.out.2]
        rfl
end Go.Proofs.YtkhhdpndcidmgaaGreat
/- The reference's hour angle of Aries at an instant: the same number. -/
namespace Go.Proofs.YtkhhdpndcidmgaaGreat
open Go.RowKit

end Go.Proofs.YtkhhdpndcidmgaaGreat
/- The hour angles of Aries over a time (packages sidereal and almucantarref12). -/
namespace Go.Proofs.YtkhhdpndcidmgaaGreat
set_option maxHeartbeats 1000000
open Go.RowKit

def ariU (t : Int) : Int := if 0 < ariR t then ariF t + 1 else ariF t
theorem ariF_b {t : Int} (h0 : -100000000000000 ≤ t) (h1 : t ≤ 100000000000000) : -30000000000000 ≤ ariF t ∧ ariF t ≤ 30000000000000 := by
  have hV : -100000000000000 * 21659138841977 ≤ ariV t ∧ ariV t ≤ 100000000000001 * 21659138841977 + 58838400000000 := by unfold ariV; omega
  unfold ariF
  generalize ariV t = V at *
  clear h0 h1
  omega
theorem ariU_b {t : Int} (h0 : -100000000000000 ≤ t) (h1 : t ≤ 100000000000000) : -30000000000000 ≤ ariU t ∧ ariU t ≤ 30000000000001 := by
  have := ariF_b h0 h1
  unfold ariU
  split <;> omega
theorem sid_up (t : Int) (w : World) (h0 : -100000000000000 ≤ t) (h1 : t ≤ 100000000000000) :
    Calls Tryz.prog 130 #[.int .i64 t] w fun e w' => e = .returned (.int .i64 (ariU t)) ∧ ∃ d, w' = bw w d := by
  refine lay_start ?_
  have c1 := sid_aries t (lay w []) (by omega) (by omega)
  have hb := ariF_b h0 h1
  unfold ariU
  generalize ariF t = F at *
  generalize ariR t = R at *
  clear h0 h1
  go_enter Tryz.func130, Tryz.ntmps130
  have f1 : wrap64 (F + 1) = F + 1 := w64 (by omega)
  go_wp2_with (go_at_call 129; refine c1.mono ?_; rintro e w' ⟨rfl, d, rfl⟩)
  all_goals go_ret
  all_goals exact ⟨ret_int (by first | omega | (split <;> omega)), lay_ex w _⟩
theorem sid_between (a b : Int) (w : World) (h0 : -100000000000000 ≤ a) (h1 : a ≤ b) (h2 : b ≤ 100000000000000) :
    Calls Tryz.prog 98 #[.int .i64 a, .int .i64 b] w fun e w' =>
      e = .returned (.agg #[.int .i64 (turnLo (ariF a) (ariU b)), .int .i64 (turnHi (ariF a) (ariU b))]) ∧ ∃ d, w' = bw w d := by
  refine lay_start ?_
  have c1 := fun w => sid_aries a w (by omega) (by omega)
  have c2 := fun w => sid_up b w (by omega) (by omega)
  have hb := ariF_b h0 (by omega)
  have hc := ariU_b (t := b) (by omega) h2
  generalize ariF a = F at *
  generalize ariU b = G at *
  generalize ariR a = R at *
  clear h0 h1 h2
  go_enter Tryz.func98, Tryz.ntmps98
  go_wp2_with (first | (go_at_call 129; refine (c1 _).mono ?_; rintro e w' ⟨rfl, d, rfl⟩) | (go_at_call 130; refine (c2 _).mono ?_; rintro e w' ⟨rfl, d, rfl⟩) | (go_at_call 33; refine (angle_Wrap _ _).mono ?_; rintro e w' ⟨rfl, rfl⟩))
  all_goals exact bodyPost_ret (v := (.agg #[.int .i64 (turnLo F G), .int .i64 (turnHi F G)])) (by simp [results, Tryz.results98, go_sem, turnLo, turnHi]; omega) rfl ⟨rfl, lay_ex _ _⟩
end Go.Proofs.YtkhhdpndcidmgaaGreat
/- The length of a sidereal day, the interval of a time (package sidereal). -/
namespace Go.Proofs.YtkhhdpndcidmgaaGreat
open Go.RowKit

theorem ariF_le {a b : Int} (h : a ≤ b) : ariF a ≤ ariU b := by
  have h1 : ariV a ≤ ariV b := by unfold ariV; omega
  have h2 : ariF a ≤ ariF b := by
    have := Int.ediv_le_ediv (c := 86400000000000) (by decide) h1
    unfold ariF; omega
  unfold ariU
  split <;> omega
end Go.Proofs.YtkhhdpndcidmgaaGreat
/- Times that are valid (package clock), the interval of a time (package sidereal). -/
namespace Go.Proofs.YtkhhdpndcidmgaaGreat
set_option maxHeartbeats 400000
open Go.RowKit

def insB (t : Int) : Bool := decide (-70368744177664 ≤ t ∧ t ≤ 70368744177664)
def timB (a b : Int) : Bool := decide (a ≤ b) && insB a && insB b
theorem timB_iff {a b : Int} : timB a b = true ↔ a ≤ b ∧ -70368744177664 ≤ a ∧ b ≤ 70368744177664 := by
  unfold timB insB
  simp only [Bool.and_eq_true, decide_eq_true_eq]
  omega
theorem clock_instant (t : Int) (w : World) :
    Calls Tryz.prog 97 #[.int .i64 t] w fun e w' => e = .returned (.bool (insB t)) ∧ w' = w := by
  go_enter Tryz.func97, Tryz.ntmps97
  go_wp2_with fail
  all_goals go_ret
  all_goals exact ⟨ret_bool (by unfold insB; rw [Bool.eq_iff_iff]; simp; try omega), rfl⟩
theorem clock_Valid (a b : Int) (w : World) :
    Calls Tryz.prog 59 #[(.agg #[.int .i64 (a), .int .i64 (b)])] w fun e w' => e = .returned (.bool (timB a b)) ∧ ∃ d, w' = bw w d := by
  refine lay_start ?_
  have c1 := fun w => clock_instant a w
  have c2 := fun w => clock_instant b w
  unfold timB
  generalize insB a = A at *
  generalize insB b = B at *
  go_enter Tryz.func59, Tryz.ntmps59
  by_cases h : a ≤ b
  · cases A
    · go_wp2_with (go_at_call 97; first | (with_reducible refine (c1 _).mono ?_; rintro e w' ⟨rfl, rfl⟩) | (with_reducible refine (c2 _).mono ?_; rintro e w' ⟨rfl, rfl⟩))
      all_goals go_ret
      all_goals exact ⟨ret_bool (by simp [h]), lay_ex _ _⟩
    · go_wp2_with (go_at_call 97; first | (with_reducible refine (c1 _).mono ?_; rintro e w' ⟨rfl, rfl⟩) | (with_reducible refine (c2 _).mono ?_; rintro e w' ⟨rfl, rfl⟩))
      all_goals go_ret
      all_goals exact ⟨ret_bool (by simp [h]), lay_ex _ _⟩
  · go_wp2_with (go_at_call 97; first | (with_reducible refine (c1 _).mono ?_; rintro e w' ⟨rfl, rfl⟩) | (with_reducible refine (c2 _).mono ?_; rintro e w' ⟨rfl, rfl⟩))
    all_goals go_ret
    all_goals exact ⟨ret_bool (by simp; intros; omega), lay_ex _ _⟩
theorem sid_Interval (a b : Int) (w : World) (hv : timB a b = true) :
    Calls Tryz.prog 62 #[(.agg #[.int .i64 (a), .int .i64 (b)])] w fun e w' =>
      e = .returned (.tuple #[(.agg #[.int .i64 (turnLo (ariF a) (ariU b)), .int .i64 (turnHi (ariF a) (ariU b))]), .int .i64 0]) ∧ ∃ d, w' = bw w d := by
  obtain ⟨g1, g2, g3⟩ := timB_iff.1 hv
  refine lay_start ?_
  have c1 := fun w => clock_Valid a b w
  rw [hv] at c1
  have c2 := fun w => sid_between a b w (by omega) g1 (by omega)
  generalize turnLo (ariF a) (ariU b) = x at *
  generalize turnHi (ariF a) (ariU b) = y at *
  clear g1 g2 g3 hv
  go_enter Tryz.func62, Tryz.ntmps62
  go_wp2_with (first | (go_at_call 59; refine (c1 _).mono ?_; rintro e w' ⟨rfl, d, rfl⟩) | (go_at_call 98; refine (c2 _).mono ?_; rintro e w' ⟨rfl, d, rfl⟩))
  all_goals exact bodyPost_ret (v := .tuple #[(.agg #[.int .i64 (x), .int .i64 (y)]), .int .i64 0]) (by simp [results, Tryz.results62, go_sem]) rfl ⟨rfl, lay_ex _ _⟩
theorem ref10_Instant (t : Int) (w : World) :
    Calls Tryz.prog 81 #[.int .i64 t] w fun e w' => e = .returned (.bool (insB t)) ∧ w' = w := by
  go_enter Tryz.func81, Tryz.ntmps81
  go_wp2_with fail
  all_goals go_ret
  all_goals exact ⟨ret_bool (by unfold insB; rw [Bool.eq_iff_iff]; simp; try omega), rfl⟩
theorem ref10_Valid (a b : Int) (w : World) :
    Calls Tryz.prog 46 #[(.agg #[.int .i64 (a), .int .i64 (b)])] w fun e w' => e = .returned (.bool (timB a b)) ∧ ∃ d, w' = bw w d := by
  refine lay_start ?_
  have c1 := fun w => ref10_Instant a w
  have c2 := fun w => ref10_Instant b w
  unfold timB
  generalize insB a = A at *
  generalize insB b = B at *
  go_enter Tryz.func46, Tryz.ntmps46
  by_cases h : a ≤ b
  · cases A
    · go_wp2_with (go_at_call 81; first | (with_reducible refine (c1 _).mono ?_; rintro e w' ⟨rfl, rfl⟩) | (with_reducible refine (c2 _).mono ?_; rintro e w' ⟨rfl, rfl⟩))
      all_goals go_ret
      all_goals exact ⟨ret_bool (by simp [h]), lay_ex _ _⟩
    · go_wp2_with (go_at_call 81; first | (with_reducible refine (c1 _).mono ?_; rintro e w' ⟨rfl, rfl⟩) | (with_reducible refine (c2 _).mono ?_; rintro e w' ⟨rfl, rfl⟩))
      all_goals go_ret
      all_goals exact ⟨ret_bool (by simp [h]), lay_ex _ _⟩
  · go_wp2_with (go_at_call 81; first | (with_reducible refine (c1 _).mono ?_; rintro e w' ⟨rfl, rfl⟩) | (with_reducible refine (c2 _).mono ?_; rintro e w' ⟨rfl, rfl⟩))
    all_goals go_ret
    all_goals exact ⟨ret_bool (by simp; intros; omega), lay_ex _ _⟩
end Go.Proofs.YtkhhdpndcidmgaaGreat
/- Contracts of package almanac: the arc for tenths. -/
namespace Go.Proofs.YtkhhdpndcidmgaaGreat
open Go.RowKit

set_option maxHeartbeats 400000 in
theorem alm_around (n : Int) (w : World) (h0 : -1000000000 ≤ n) (h1 : n ≤ 1000000000) :
    Calls Tryz.prog 99 #[.int .i64 n] w fun e w' => e = .returned (.agg #[.int .i64 (100 * n - 50), .int .i64 (100 * n + 50)]) ∧ ∃ d, w' = bw w d := by
  refine lay_start ?_
  go_enter Tryz.func99, Tryz.ntmps99
  go_wp2_with fail
  all_goals exact bodyPost_ret (v := (.agg #[.int .i64 (100 * n - 50), .int .i64 (100 * n + 50)])) (by simp [results, Tryz.results99, go_sem]) rfl ⟨rfl, lay_ex _ _⟩
end Go.Proofs.YtkhhdpndcidmgaaGreat
