/- CompassReturns, walked. -/
import Derived.Test.YtjfkaogjlfgelaaProg
import Derived.Test.YtjfkaogjlfgelaaLay
import Derived.Test.YtjfkaogjlfgelaaRegion
import Derived.Test.YtjfkaogjlfgelaaMix
import Derived.WalkKit
import Derived.WalkSpells
import Derived.WalkLawsBesides
import Derived.Lib.Hide
import Derived.BigQuiet
import Derived.BigRegion
import Derived.Test.YtjfkaogjlfgelaaPlain
import Derived.Test.YtjfkaogjlfgelaaAngle
import Derived.Test.YtjfkaogjlfgelaaCompPlain
import Derived.Test.YtjfkaogjlfgelaaCompPlain2
import Derived.Test.YtjfkaogjlfgelaaTabs
import Derived.Test.YtjfkaogjlfgelaaComp1
import Derived.Test.YtjfkaogjlfgelaaComp3
import Derived.Test.YtjfkaogjlfgelaaComp4
import Derived.Test.YtjfkaogjlfgelaaComp5
import Derived.Test.YtjfkaogjlfgelaaComp6
import Derived.Test.YtjfkaogjlfgelaaComp8
import Derived.Test.YtjfkaogjlfgelaaComp9
namespace Go.Proofs.Ytjfkaogjlfgelaa
open Go.RowKit

def inB (p0 p1 w0 w1 : Int) : Bool := decide (21600000 ≤ w1 - w0 ∨ (p0 - w0) % 21600000 + p1 - p0 ≤ w1 - w0)
set_option maxHeartbeats 1000000 in
theorem law_within (p0 p1 w0 w1 : Int) (w : World) (h1 : -1099511627776 ≤ p0) (h2 : p0 ≤ 1099511627776) (h3 : -1099511627776 ≤ p1) (h4 : p1 ≤ 1099511627776) (h5 : -1099511627776 ≤ w0) (h6 : w0 ≤ 1099511627776) (h7 : -1099511627776 ≤ w1) (h8 : w1 ≤ 1099511627776) :
    Calls Try.prog 21 #[(.agg #[.int .i64 (p0), .int .i64 (p1)]), (.agg #[.int .i64 (w0), .int .i64 (w1)])] w fun e w' => e = .returned (.bool (inB p0 p1 w0 w1)) ∧ ∃ d, w' = bw w d := by
  have hb : 0 ≤ (p0 - w0) % 21600000 ∧ (p0 - w0) % 21600000 < 21600000 := by omega
  obtain ⟨b1, b2⟩ := hb
  refine lay_start ?_
  go_enter Try.func21, Try.ntmps21
  go_wp2_with (go_at_call 27; refine (ref05_Wrap _ _).mono ?_; rintro e w' ⟨rfl, rfl⟩)
  all_goals go_ret
  all_goals exact ⟨ret_bool (by rw [Bool.eq_iff_iff]; simp [inB]; try omega), lay_ex _ _⟩
/-- What lies in an arc, but for whole turns, lies in its direction form. -/
theorem in_turn {x y n m k : Int} (h1 : x ≤ n) (h2 : n ≤ y) (e : n = m + k * 21600000) : inB m m (turnLo x y) (turnHi x y) = true := by
  unfold inB turnLo turnHi
  rw [decide_eq_true_eq]
  by_cases c : 21600000 ≤ y - x
  · rw [if_pos c, if_pos c]; left; omega
  · rw [if_neg c, if_neg c]; right; omega
theorem to_turn {x y n : Int} (h1 : x ≤ n) (h2 : n ≤ y) : ∃ m k, m = n + k * 21600000 ∧ turnLo x y ≤ m ∧ m ≤ turnHi x y := by
  unfold turnLo turnHi
  by_cases c : 21600000 ≤ y - x
  · rw [if_pos c, if_pos c]
    exact ⟨n % 21600000, -(n / 21600000), by omega, by omega, by omega⟩
  · rw [if_neg c, if_neg c]
    exact ⟨n - x + x % 21600000, -(x / 21600000), by omega, by omega, by omega⟩
theorem back_in {l : Tl} (T : Tab l) {c v0 v1 : Int} (hv : v0 ≤ v1) :
    inB c c (turnLo (trL l (cmL l c c v0 v1) (cmH l c c v0 v1) v0) (trH l (cmL l c c v0 v1) (cmH l c c v0 v1) v1)) (turnHi (trL l (cmL l c c v0 v1) (cmH l c c v0 v1) v0) (trH l (cmL l c c v0 v1) (cmH l c c v0 v1) v1)) = true := by
  obtain ⟨s, s1, s2⟩ := sol_ex T (c - v1)
  have it := itC_has T s1 (show s ≤ (c - v0) - atLo l s by omega) 8
  obtain ⟨m, k, e, m1, m2⟩ := to_turn it.1 it.2
  have o := o_has T m1 m2
  rw [e, atLo_turn, atHi_turn] at o
  refine in_turn (n := c + k * 21600000) (k := k) ?_ ?_ rfl
  · unfold trL cmL cmH; omega
  · unfold trH cmL cmH; omega
theorem again_in {l : Tl} (T : Tab l) {c v0 v1 : Int} (hv : v0 ≤ v1) :
    inB c c (cmL l (turnLo (trL l c c v0) (trH l c c v1)) (turnHi (trL l c c v0) (trH l c c v1)) v0 v1) (cmH l (turnLo (trL l c c v0) (trH l c c v1)) (turnHi (trL l c c v0) (trH l c c v1)) v0 v1) = true := by
  have o := o_has T (Int.le_refl c) (Int.le_refl c)
  have le := at_le T c
  have key : ∃ k, turnLo (trL l c c v0) (trH l c c v1) - v1 - atHi l (c + k * 21600000) ≤ c + k * 21600000 ∧ c + k * 21600000 ≤ turnHi (trL l c c v0) (trH l c c v1) - v0 - atLo l (c + k * 21600000) := by
    have fit : ∀ k, turnLo (trL l c c v0) (trH l c c v1) - v1 - atHi l c ≤ c + k * 21600000 → c + k * 21600000 ≤ turnHi (trL l c c v0) (trH l c c v1) - v0 - atLo l c → turnLo (trL l c c v0) (trH l c c v1) - v1 - atHi l (c + k * 21600000) ≤ c + k * 21600000 ∧ c + k * 21600000 ≤ turnHi (trL l c c v0) (trH l c c v1) - v0 - atLo l (c + k * 21600000) := fun k a b => by
      rw [atLo_turn, atHi_turn]; exact ⟨a, b⟩
    by_cases w : 21600000 ≤ trH l c c v1 - trL l c c v0
    · refine ⟨-((c + v1 + atHi l c) / 21600000), fit _ ?_ ?_⟩
      · unfold turnLo; rw [if_pos w]; omega
      · unfold turnHi; rw [if_pos w]; omega
    · refine ⟨-((trL l c c v0) / 21600000), fit _ ?_ ?_⟩
      · unfold turnLo; rw [if_neg w]; unfold trL at *; omega
      · unfold turnHi; rw [if_neg w]; unfold trL trH at *; omega
  obtain ⟨k, k1, k2⟩ := key
  have it := itC_has T k1 k2 8
  exact in_turn it.1 it.2 rfl
theorem turn_near {x y : Int} (h : x ≤ y) : validB (turnLo x y) (turnHi x y) = true ∧ nearB (turnLo x y) (turnHi x y) = true := by
  have := turn_bd h
  refine ⟨validB_iff.2 (by omega), ?_⟩
  unfold nearB; rw [Bool.and_eq_true, withB_iff, withB_iff]; omega
theorem givE_again {l : Tl} {c0 c1 v0 v1 x y : Int} (h : givE l c0 c1 v0 v1 = 0) (hxy : x ≤ y) : givE l (turnLo x y) (turnHi x y) v0 v1 = 0 := by
  obtain ⟨g1, g2, g3, g4, g5, g6, g7⟩ := givE_ok h
  have := validB_iff.1 g3
  have w0 : withB v0 10800000 = true := withB_iff.2 (by omega)
  have w1 : withB v1 10800000 = true := withB_iff.2 (by omega)
  simp [givE, givB, g1, g3, w0, w1, (turn_near hxy).1, (turn_near hxy).2]
theorem givE_one {l : Tl} {c v0 v1 : Int} (h0 : 0 ≤ c) (h1 : c < 21600000) (h : givE l c c v0 v1 ≠ 0) : givE l c c v0 v1 = 1 := by
  have n : nearB c c = true := by unfold nearB; rw [Bool.and_eq_true, withB_iff]; omega
  unfold givE at *
  split
  · rename_i hh; rw [if_pos hh, if_pos n] at h; exact absurd rfl h
  · rfl
set_option maxHeartbeats 8000000 in
set_option maxRecDepth 100000 in
theorem law34_Returns_main (v : Value) (l : Tl) (c v0 v1 : Int) (w : World) (hv : Tabs w v l) (h72 : l.length ≤ 72) (c0 : 0 ≤ c) (c1 : c < 21600000) (h : givE l c c v0 v1 = 0) :
    Calls Try.prog 5 #[v, .int .i64 c, (.agg #[.int .i64 (v0), .int .i64 (v1)])] w fun e w' => e = .returned (.bool true) ∧ ∃ d, w' = bw w d := by
  obtain ⟨g1, g2, g3, g4, g5, g6, g7⟩ := givE_ok h
  have T := vB_iff.1 g1
  obtain ⟨k4, k5, k6⟩ := validB_iff.1 g3
  have it := itC_ok T (show c - v1 ≤ c - v0 by omega) 8
  have ow := o_wide T (Int.le_refl c)
  have tle : trL l c c v0 ≤ trH l c c v1 := by unfold trL trH; omega
  have HC := fun W (hW : Tabs W v l) => comp_Compass_ok v l c c v0 v1 W hW h
  have HTr := fun W (hW : Tabs W v l) => comp_True_ok v l c c v0 v1 W hW h
  have HB := fun W (hW : Tabs W v l) => comp_True_ok v l (cmL l c c v0 v1) (cmH l c c v0 v1) v0 v1 W hW (givE_again h it.2.1)
  have HA := fun W (hW : Tabs W v l) => comp_Compass_ok v l (turnLo (trL l c c v0) (trH l c c v1)) (turnHi (trL l c c v0) (trH l c c v1)) v0 v1 W hW (givE_again h tle)
  have BI := back_in T (c := c) k4
  have AI := again_in T (c := c) k4
  have n1 := turn_bd it.2.1
  have n2 := turn_bd tle
  have cmle : trL l (cmL l c c v0 v1) (cmH l c c v0 v1) v0 ≤ trH l (cmL l c c v0 v1) (cmH l c c v0 v1) v1 := by
    have := o_wide T (x := cmL l c c v0 v1) (y := cmH l c c v0 v1) n1.2.1
    unfold trL trH cmL cmH at *; omega
  have n3 := turn_bd cmle
  have n4 : 0 ≤ cmL l (turnLo (trL l c c v0) (trH l c c v1)) (turnHi (trL l c c v0) (trH l c c v1)) v0 v1 ∧ cmL l (turnLo (trL l c c v0) (trH l c c v1)) (turnHi (trL l c c v0) (trH l c c v1)) v0 v1 ≤ cmH l (turnLo (trL l c c v0) (trH l c c v1)) (turnHi (trL l c c v0) (trH l c c v1)) v0 v1 ∧ cmH l (turnLo (trL l c c v0) (trH l c c v1)) (turnHi (trL l c c v0) (trH l c c v1)) v0 v1 < 43200000 :=
    turn_bd (itC_ok T (show turnLo (trL l c c v0) (trH l c c v1) - v1 ≤ turnHi (trL l c c v0) (trH l c c v1) - v0 by omega) 8).2.1
  generalize cmL l (turnLo (trL l c c v0) (trH l c c v1)) (turnHi (trL l c c v0) (trH l c c v1)) v0 v1 = a0 at *
  generalize cmH l (turnLo (trL l c c v0) (trH l c c v1)) (turnHi (trL l c c v0) (trH l c c v1)) v0 v1 = a1 at *
  generalize turnLo (trL l (cmL l c c v0 v1) (cmH l c c v0 v1) v0) (trH l (cmL l c c v0 v1) (cmH l c c v0 v1) v1) = b0 at *
  generalize turnHi (trL l (cmL l c c v0 v1) (cmH l c c v0 v1) v0) (trH l (cmL l c c v0 v1) (cmH l c c v0 v1) v1) = b1 at *
  generalize cmL l c c v0 v1 = m0 at *
  generalize cmH l c c v0 v1 = m1 at *
  generalize turnLo (trL l c c v0) (trH l c c v1) = t0 at *
  generalize turnHi (trL l c c v0) (trH l c c v1) = t1 at *
  have HV := Lib.hid hv
  obtain ⟨ad, cap, rfl, q1, r1⟩ := hv
  obtain ⟨m, hm⟩ : ∃ m, m = l.length := ⟨_, rfl⟩
  rw [← hm] at h72 HV HC HTr HB HA q1
  rw [← hm]
  have HC' := Lib.hid HC
  have HTr' := Lib.hid HTr
  have HB' := Lib.hid HB
  have HA' := Lib.hid HA
  obtain ⟨n31, n32, n33⟩ := n3
  obtain ⟨n41, n42, n43⟩ := n4
  clear HC HTr HB HA hm h g1 g2 g3 r1 T it ow tle cmle n1 n2
  refine lay_start ?_
  go_enter Try.func5, Try.ntmps5
  go_wp2_with (go_at_call 9; refine (law_awake _).mono ?_; rintro e w' ⟨rfl, d, rfl⟩)
  refine region_mixW [0, 0, 0, 0, 0, 0, 0, 0, 1, 1, 0] (by kernel_rfl) (by kernel_rfl) (by kernel_rfl) ?_
  repeat (first | (refine wpM_quiet (fun K hK => ?_); go_simp; first | (refine hK _ ?_; clear hK K) | (apply Exists.intro; refine ⟨fun _ => ?_, hK _ ?_⟩; (first | (go_at_call 11; exact bq (law_at _ _) (fun d => ⟨d, rfl⟩)) | (go_at_call 14; exact bq (HC'.out _ (tabs_lay HV.out _)) (fun d => ⟨d, rfl⟩))); clear hK K)) | (refine wpM_special (fun K hK d => ?_); go_simp; refine hK _ _ (by first | exact lay_in w [_] _ | exact lay_in w [_, _] _ | exact lay_in w [_, _, _] _ | exact lay_in w [_, _, _, _] _ | exact lay_in w [_, _, _, _, _] _ | exact lay_in w [_, _, _, _, _, _] _) ?_; clear hK K))
  refine wpM_nil ?_
  intro d
  rw [lay_bw]
  go_wp2_with fail
  refine region_mixW [0, 0, 0, 0, 0, 0, 0, 0, 1, 1, 0] (by kernel_rfl) (by kernel_rfl) (by kernel_rfl) ?_
  repeat (first | (refine wpM_quiet (fun K hK => ?_); go_simp; first | (refine hK _ ?_; clear hK K) | (apply Exists.intro; refine ⟨fun _ => ?_, hK _ ?_⟩; (first | (go_at_call 11; exact bq (law_at _ _) (fun d => ⟨d, rfl⟩)) | (go_at_call 13; exact bq (HTr'.out _ (tabs_lay HV.out _)) (fun d => ⟨d, rfl⟩))); clear hK K)) | (refine wpM_special (fun K hK d => ?_); go_simp; refine hK _ _ (by first | exact lay_in w [_] _ | exact lay_in w [_, _] _ | exact lay_in w [_, _, _] _ | exact lay_in w [_, _, _, _] _ | exact lay_in w [_, _, _, _, _] _ | exact lay_in w [_, _, _, _, _, _] _) ?_; clear hK K))
  refine wpM_nil ?_
  intro d
  rw [lay_bw]
  go_wp2_with (first | (go_at_call 13; refine (HB'.out _ (tabs_lay HV.out _)).mono ?_; rintro e w' ⟨rfl, d, rfl⟩) | (go_at_call 14; refine (HA'.out _ (tabs_lay HV.out _)).mono ?_; rintro e w' ⟨rfl, d, rfl⟩))
  refine region_bw (by kernel_rfl) (by kernel_rfl) ?_
  repeat (go_big_quiet_step ((first | (go_at_call 11; exact bq (law_at _ _) (fun d => lay_join _ _ _ d)) | (go_at_call 11; exact bq (law_at _ _) (fun d => ⟨d, rfl⟩)) | (go_at_call 21; exact bq (law_within _ _ _ _ _ (by omega) (by omega) (by omega) (by omega) (by omega) (by omega) (by omega) (by omega)) (fun d => lay_join _ _ _ d)) | (go_at_call 21; exact bq (law_within _ _ _ _ _ (by omega) (by omega) (by omega) (by omega) (by omega) (by omega) (by omega) (by omega)) (fun d => ⟨d, rfl⟩)))))
  refine wpQuiet_nil ?_
  rintro w' ⟨d, rfl⟩
  rw [lay_bw]
  go_wp2
  go_ret
  exact ⟨rfl, lay_ex _ _⟩
set_option maxHeartbeats 4000000 in
set_option maxRecDepth 100000 in
theorem law34_Returns_bad (v : Value) (l : Tl) (c v0 v1 : Int) (w : World) (hv : Tabs w v l) (h72 : l.length ≤ 72) (c0 : 0 ≤ c) (c1 : c < 21600000) (h : givE l c c v0 v1 ≠ 0) :
    Calls Try.prog 5 #[v, .int .i64 c, (.agg #[.int .i64 (v0), .int .i64 (v1)])] w fun e w' => e = .returned (.bool true) ∧ ∃ d, w' = bw w d := by
  have HC := fun W (hW : Tabs W v l) => comp_Compass_bad v l c c v0 v1 W hW h
  have HTr := fun W (hW : Tabs W v l) => comp_True_bad v l c c v0 v1 W hW h
  rw [givE_one c0 c1 h] at HC HTr
  have HV := Lib.hid hv
  obtain ⟨ad, cap, rfl, q1, r1⟩ := hv
  obtain ⟨m, hm⟩ : ∃ m, m = l.length := ⟨_, rfl⟩
  rw [← hm] at h72 HV HC HTr q1
  rw [← hm]
  have HC' := Lib.hid HC
  have HTr' := Lib.hid HTr
  clear HC HTr hm h r1
  refine lay_start ?_
  go_enter Try.func5, Try.ntmps5
  go_wp2_with (go_at_call 9; refine (law_awake _).mono ?_; rintro e w' ⟨rfl, d, rfl⟩)
  refine region_mixW [0, 0, 0, 0, 0, 0, 0, 0, 1, 1, 0] (by kernel_rfl) (by kernel_rfl) (by kernel_rfl) ?_
  repeat (first | (refine wpM_quiet (fun K hK => ?_); go_simp; first | (refine hK _ ?_; clear hK K) | (apply Exists.intro; refine ⟨fun _ => ?_, hK _ ?_⟩; (first | (go_at_call 11; exact bq (law_at _ _) (fun d => ⟨d, rfl⟩)) | (go_at_call 14; exact bq (HC'.out _ (tabs_lay HV.out _)) (fun d => ⟨d, rfl⟩))); clear hK K)) | (refine wpM_special (fun K hK d => ?_); go_simp; refine hK _ _ (by first | exact lay_in w [_] _ | exact lay_in w [_, _] _ | exact lay_in w [_, _, _] _ | exact lay_in w [_, _, _, _] _ | exact lay_in w [_, _, _, _, _] _ | exact lay_in w [_, _, _, _, _, _] _) ?_; clear hK K))
  refine wpM_nil ?_
  intro d
  rw [lay_bw]
  go_wp2_with fail
  refine region_mixW [0, 0, 0, 0, 0, 0, 0, 0, 1, 1, 0] (by kernel_rfl) (by kernel_rfl) (by kernel_rfl) ?_
  repeat (first | (refine wpM_quiet (fun K hK => ?_); go_simp; first | (refine hK _ ?_; clear hK K) | (apply Exists.intro; refine ⟨fun _ => ?_, hK _ ?_⟩; (first | (go_at_call 11; exact bq (law_at _ _) (fun d => ⟨d, rfl⟩)) | (go_at_call 13; exact bq (HTr'.out _ (tabs_lay HV.out _)) (fun d => ⟨d, rfl⟩))); clear hK K)) | (refine wpM_special (fun K hK d => ?_); go_simp; refine hK _ _ (by first | exact lay_in w [_] _ | exact lay_in w [_, _] _ | exact lay_in w [_, _, _] _ | exact lay_in w [_, _, _, _] _ | exact lay_in w [_, _, _, _, _] _ | exact lay_in w [_, _, _, _, _, _] _) ?_; clear hK K))
  refine wpM_nil ?_
  intro d
  rw [lay_bw]
  go_wp2
  go_ret
  exact ⟨rfl, lay_ex _ _⟩
set_option maxHeartbeats 4000000 in
set_option maxRecDepth 100000 in
theorem law34_Returns {w : World} (v : Value) (l : Tl) (hv : Tabs w v l) (c : Int) (_ : (Lit.int .i64 c).wf = true) (v0 v1 : Int) (_ : (Lit.int .i64 v0).wf = true) (_ : (Lit.int .i64 v1).wf = true) :
    Calls Try.prog 5 #[v, .int .i64 c, (.agg #[.int .i64 (v0), .int .i64 (v1)])] w fun e w' => e = .returned (.bool true) ∧ ∃ d, w' = bw w d := by
  by_cases hc : l.length ≤ 72 ∧ 0 ≤ c ∧ c < 21600000
  · by_cases h : givE l c c v0 v1 = 0
    · exact law34_Returns_main v l c v0 v1 w hv hc.1 hc.2.1 hc.2.2 h
    · exact law34_Returns_bad v l c v0 v1 w hv hc.1 hc.2.1 hc.2.2 h
  · obtain ⟨ad, cap, rfl, q1, r1⟩ := hv
    obtain ⟨m, hm⟩ : ∃ m, m = l.length := ⟨_, rfl⟩
    rw [← hm] at hc q1
    rw [← hm]
    clear hm r1
    have hc' : 72 < m ∨ c < 0 ∨ 21600000 ≤ c := by omega
    clear hc
    refine lay_start ?_
    go_enter Try.func5, Try.ntmps5
    rcases hc' with hc' | hc' | hc'
    all_goals
      go_wp2_with (go_at_call 9; refine (law_awake _).mono ?_; rintro e w' ⟨rfl, d, rfl⟩)
      all_goals go_ret
      all_goals exact ⟨rfl, lay_ex _ _⟩
end Go.Proofs.Ytjfkaogjlfgelaa
