/- Contracts and plain laws, several texts in one: Mer3; BkL -/
import Derived.Test.YtakcfcekdngndaaProg
import Derived.WalkKit
import Derived.WalkSpells
import Derived.WalkLawsBesides
import Derived.Lib.Hide
import Derived.BigQuiet
import Derived.Test.YtakcfcekdngndaaBAA
import Derived.Test.YtakcfcekdngndaaBAF
import Derived.Test.YtakcfcekdngndaaBAH
import Derived.Test.YtakcfcekdngndaaBAM
import Derived.Test.YtakcfcekdngndaaBAN
/- MeridianLatitudes: for any arcs, on either side, Latitude and Below return what the reference specifies. No condition. -/
namespace Go.Proofs.Ytakcfcekdngndaa
open Go.RowKit

set_option maxHeartbeats 4000000 in
set_option maxRecDepth 100000 in
theorem law33_awake (w : World) :
    Calls Try.prog 7 #[] w fun e w' => e = .returned (.bool true) ∧ ∃ d, w' = bw w d := by
  have h1 : lsLo 3000000 3000000 = 3000000 ∧ lsHi 3000000 3000000 = 3000000 ∧ lsE 3000000 3000000 = 0 := by decide
  have h2 : lsLo (-600000) (-600000) = -600000 ∧ lsHi (-600000) (-600000) = -600000 ∧ lsE (-600000) (-600000) = 0 := by decide
  have h3 : lsLo 1200000 1200000 = 1200000 ∧ lsHi 1200000 1200000 = 1200000 ∧ lsE 1200000 1200000 = 0 := by decide
  obtain ⟨a1, a2, a3⟩ := h1
  obtain ⟨b1, b2, b3⟩ := h2
  obtain ⟨c1, c2, c3⟩ := h3
  refine lay_start ?_
  go_enter Try.func7, Try.ntmps7
  go_wp2_with (go_at_call 9; refine (law33_one _ _).mono ?_; rintro e w' ⟨rfl, d, rfl⟩)
  refine (mer_Latitude_true _ _ _ _ _ (by decide) (by decide)).mono ?_
  rintro e w' ⟨rfl, d, rfl⟩
  go_wp2_with (go_at_call 9; refine (law33_one _ _).mono ?_; rintro e w' ⟨rfl, d, rfl⟩)
  refine (mer_Latitude_false _ _ _ _ _ (by decide) (by decide)).mono ?_
  rintro e w' ⟨rfl, d, rfl⟩
  go_wp2_with (go_at_call 9; refine (law33_one _ _).mono ?_; rintro e w' ⟨rfl, d, rfl⟩)
  refine (mer_Below_false _ _ _ _ _ (by decide) (by decide)).mono ?_
  rintro e w' ⟨rfl, d, rfl⟩
  go_wp2_with fail
  refine region_bw (by kernel_rfl) (by kernel_rfl) ?_
  repeat (go_big_quiet_step ((first | (go_at_call 9; exact bq (law33_one _ _) (fun d => lay_join _ _ _ d)))))
  refine wpQuiet_nil ?_
  rintro w' ⟨d, rfl⟩
  rw [lay_bw]
  go_wp2
  go_ret
  exact ⟨rfl, lay_ex _ _⟩
end Go.Proofs.Ytakcfcekdngndaa
/- The law MeridianBack. -/
namespace Go.Proofs.Ytakcfcekdngndaa
open Go.RowKit

theorem tri_pt {lat dec lha : Int} (h0 : -5400000 ≤ lat) (h1 : lat ≤ 5400000) (g0 : -5400000 ≤ dec) (g1 : dec ≤ 5400000) (l0 : -1099511627776 ≤ lha) (l1 : lha ≤ 1099511627776) : triB lat lat dec dec lha lha = true := by
  unfold triB
  rw [latB_iff.2 (by omega), latB_iff.2 (by omega), validB_iff.2 (by omega)]
  rfl
set_option maxHeartbeats 4000000 in
set_option maxRecDepth 100000 in
theorem law33_Back {w : World} (c : Int) (_ : (Lit.int .i64 c).wf = true) (d : Int) (_ : (Lit.int .i64 d).wf = true) :
    Calls Try.prog 3 #[.int .i64 c, .int .i64 d] w fun e w' => e = .returned (.bool true) ∧ ∃ d, w' = bw w d := by
  have HOn := Lib.hid (fun n W => law33_one n W)
  by_cases hin : -5400000 ≤ c ∧ c ≤ 5400000 ∧ -5400000 ≤ d ∧ d ≤ 5400000
  · obtain ⟨h1, h2, h3, h4⟩ := hin
    have U := alt_has (lha := 0) h1 h2 h3 h4 (by omega) (by omega) (alt_upper (lat := c) (dec := d))
    have V := alt_has (lha := 10800000) h1 h2 h3 h4 (by omega) (by omega) (alt_lower (lat := c) (dec := d))
    have HA := Lib.hid (fun W => cos_Altitude c c d d 0 0 W (tri_pt h1 h2 h3 h4 (by decide) (by decide)))
    have HB := Lib.hid (fun W => cos_Altitude c c d d 10800000 10800000 W (tri_pt h1 h2 h3 h4 (by decide) (by decide)))
    obtain ⟨uE, u0, u1, u2, u3⟩ := U
    obtain ⟨vE, v0, v1, v2, v3⟩ := V
    rw [uE] at HA
    rw [vE] at HB
    clear uE vE
    generalize asL (altS0 c c d d 0 0) (altS1 c c d d 0 0) = x0 at *
    generalize asH (altS0 c c d d 0 0) (altS1 c c d d 0 0) = x1 at *
    generalize asL (altS0 c c d d 10800000 10800000) (altS1 c c d d 10800000 10800000) = y0 at *
    generalize asH (altS0 c c d d 10800000 10800000) (altS1 c c d d 10800000 10800000) = y1 at *
    have lx : latB x0 x1 = true := latB_iff.2 (by omega)
    have ly : latB y0 y1 = true := latB_iff.2 (by omega)
    have ld : latB d d = true := latB_iff.2 (by omega)
    have HLx := Lib.hid (fun W => ref25_Latitude x0 x1 W)
    have HLy := Lib.hid (fun W => ref25_Latitude y0 y1 W)
    rw [lx] at HLx
    rw [ly] at HLy
    have A : ∃ p0 p1 : Int, insideB c c p0 p1 = true ∧ Hid (∀ W, Calls Try.prog 11 #[(.agg #[.int .i64 (x0), .int .i64 (x1)]), (.agg #[.int .i64 (d), .int .i64 (d)]), .bool (decide (d ≤ c))] W fun e w' => e = .returned (.tuple #[(.agg #[.int .i64 (p0), .int .i64 (p1)]), .int .i64 0]) ∧ ∃ d, w' = bw W d) := by
      by_cases g : d ≤ c
      · obtain ⟨e, i⟩ := ls_has (x := 5400000 - x1 + d) (y := 5400000 - x0 + d) h1 h2 (by omega) (by omega)
        refine ⟨_, _, i, Lib.hid fun W => ?_⟩
        have := mer_Latitude_true x0 x1 d d W lx ld
        rw [e] at this
        rw [decide_eq_true g]
        exact this
      · obtain ⟨e, i⟩ := ls_has (x := d - (5400000 - x0)) (y := d - (5400000 - x1)) h1 h2 (by omega) (by omega)
        refine ⟨_, _, i, Lib.hid fun W => ?_⟩
        have := mer_Latitude_false x0 x1 d d W lx ld
        rw [e] at this
        rw [decide_eq_false g]
        exact this
    have B : ∃ p0 p1 : Int, insideB c c p0 p1 = true ∧ Hid (∀ W, Calls Try.prog 13 #[(.agg #[.int .i64 (y0), .int .i64 (y1)]), (.agg #[.int .i64 (d), .int .i64 (d)]), .bool (decide (c + d < 0))] W fun e w' => e = .returned (.tuple #[(.agg #[.int .i64 (p0), .int .i64 (p1)]), .int .i64 0]) ∧ ∃ d, w' = bw W d) := by
      by_cases g : c + d < 0
      · obtain ⟨e, i⟩ := ls_has (x := -(y1 + (5400000 + d))) (y := -(y0 + (5400000 + d))) h1 h2 (by omega) (by omega)
        refine ⟨_, _, i, Lib.hid fun W => ?_⟩
        have := mer_Below_true y0 y1 d d W ly ld
        rw [e] at this
        rw [decide_eq_true g]
        exact this
      · obtain ⟨e, i⟩ := ls_has (x := y0 + (5400000 - d)) (y := y1 + (5400000 - d)) h1 h2 (by omega) (by omega)
        refine ⟨_, _, i, Lib.hid fun W => ?_⟩
        have := mer_Below_false y0 y1 d d W ly ld
        rw [e] at this
        rw [decide_eq_false g]
        exact this
    obtain ⟨p0, p1, ip, HP⟩ := A
    obtain ⟨q0, q1, iq, HQ⟩ := B
    have HIp := Lib.hid (fun W => ref05_Inside c c p0 p1 W)
    have HIq := Lib.hid (fun W => ref05_Inside c c q0 q1 W)
    rw [ip] at HIp
    rw [iq] at HIq
    obtain ⟨sm, hsm⟩ : ∃ sm, c + d = sm := ⟨_, rfl⟩
    have k1 : IntKind.i64.wrap (c + d) = sm := by rw [hsm]; exact IntWalk.i64_in _ (by omega)
    rw [hsm] at HQ
    have n1 : ¬ c < -5400000 := by omega
    have n2 : ¬ 5400000 < c := by omega
    have n3 : ¬ d < -5400000 := by omega
    have n4 : ¬ 5400000 < d := by omega
    have HD1 := Lib.hid (show ∃ b, decide (d ≤ c) = b from ⟨_, rfl⟩)
    have HD2 := Lib.hid (show ∃ b, decide (sm < 0) = b from ⟨_, rfl⟩)
    clear h1 h2 h3 h4 u0 u1 u2 u3 v0 v1 v2 v3 lx ly ld ip iq hsm
    refine lay_start ?_
    go_enter Try.func3, Try.ntmps3
    go_wp2_with (first | (go_at_call 7; refine (law33_awake _).mono ?_; rintro e w' ⟨rfl, dA, rfl⟩; rw [lay_bw]) | (go_at_call 9; refine (HOn.out _ _).mono ?_; rintro e w' ⟨rfl, dB, rfl⟩; rw [lay_bw]) | (go_at_call 8; first | (with_reducible refine (HA.out _).mono ?_; rintro e w' ⟨rfl, dC, rfl⟩; rw [lay_bw]) | (with_reducible refine (HB.out _).mono ?_; rintro e w' ⟨rfl, dD, rfl⟩; rw [lay_bw])) | (go_at_call 10; first | (with_reducible refine (HLx.out _).mono ?_; rintro e w' ⟨rfl, dE, rfl⟩; rw [lay_bw]) | (with_reducible refine (HLy.out _).mono ?_; rintro e w' ⟨rfl, dF, rfl⟩; rw [lay_bw])))
    refine region_mixW [0, 0, 0, 0, 0, 0, 0, 0, 0, 0, 1, 1, 0] (by kernel_rfl) (by kernel_rfl) (by kernel_rfl) ?_
    repeat (first | (refine wpM_quiet (fun K hK => ?_); go_simp; first | (refine hK _ ?_; clear hK K) | (apply Exists.intro; refine ⟨fun _ => ?_, hK _ ?_⟩; (first | (go_at_call 9; exact bq (HOn.out _ _) (fun d => ⟨d, rfl⟩)) | (go_at_call 11; exact bq (HP.out _) (fun d => ⟨d, rfl⟩))); clear hK K)) | (refine wpM_special (fun K hK d => ?_); go_simp; refine hK _ _ (by first | exact lay_in w [_] _ | exact lay_in w [_, _] _ | exact lay_in w [_, _, _] _ | exact lay_in w [_, _, _, _] _ | exact lay_in w [_, _, _, _, _] _ | exact lay_in w [_, _, _, _, _, _] _) ?_; clear hK K))
    refine wpM_nil ?_
    intro d
    rw [lay_bw]
    go_wp2_with fail
    refine region_bw (by kernel_rfl) (by kernel_rfl) ?_
    repeat (go_big_quiet_step ((first | (go_at_call 9; first | exact bq (HOn.out _ _) (fun d => lay_join _ _ _ d) | exact bq (HOn.out _ _) (fun d => ⟨d, rfl⟩)) | (go_at_call 12; first | exact bq (HIp.out _) (fun d => lay_join _ _ _ d) | exact bq (HIp.out _) (fun d => ⟨d, rfl⟩)))))
    refine wpQuiet_nil ?_
    rintro w' ⟨d, rfl⟩
    rw [lay_bw]
    go_wp2_with fail
    refine region_mixW [0, 0, 0, 0, 0, 0, 0, 0, 0, 0, 0, 1, 1, 0] (by kernel_rfl) (by kernel_rfl) (by kernel_rfl) ?_
    repeat (first | (refine wpM_quiet (fun K hK => ?_); go_simp; first | (refine hK _ ?_; clear hK K) | (apply Exists.intro; refine ⟨fun _ => ?_, hK _ ?_⟩; (first | (go_at_call 9; exact bq (HOn.out _ _) (fun d => ⟨d, rfl⟩)) | (go_at_call 13; exact bq (HQ.out _) (fun d => ⟨d, rfl⟩))); clear hK K)) | (refine wpM_special (fun K hK d => ?_); go_simp; refine hK _ _ (by first | exact lay_in w [_] _ | exact lay_in w [_, _] _ | exact lay_in w [_, _, _] _ | exact lay_in w [_, _, _, _] _ | exact lay_in w [_, _, _, _, _] _ | exact lay_in w [_, _, _, _, _, _] _) ?_; clear hK K))
    refine wpM_nil ?_
    intro d
    rw [lay_bw]
    go_wp2_with fail
    refine region_bw (by kernel_rfl) (by kernel_rfl) ?_
    repeat (go_big_quiet_step ((first | (go_at_call 9; first | exact bq (HOn.out _ _) (fun d => lay_join _ _ _ d) | exact bq (HOn.out _ _) (fun d => ⟨d, rfl⟩)) | (go_at_call 12; first | exact bq (HIq.out _) (fun d => lay_join _ _ _ d) | exact bq (HIq.out _) (fun d => ⟨d, rfl⟩)))))
    refine wpQuiet_nil ?_
    rintro w' ⟨d, rfl⟩
    rw [lay_bw]
    go_wp2_with fail
    go_ret
    exact ⟨rfl, lay_ex _ _⟩
  · have ho : c < -5400000 ∨ (¬ c < -5400000 ∧ 5400000 < c) ∨ (¬ c < -5400000 ∧ ¬ 5400000 < c ∧ d < -5400000) ∨ (¬ c < -5400000 ∧ ¬ 5400000 < c ∧ ¬ d < -5400000 ∧ 5400000 < d) := by omega
    clear hin
    rcases ho with a1 | ⟨a1, a2⟩ | ⟨a1, a2, a3⟩ | ⟨a1, a2, a3, a4⟩
    all_goals
      refine lay_start ?_
      go_enter Try.func3, Try.ntmps3
      go_wp2_with (go_at_call 7; refine (law33_awake _).mono ?_; rintro e w' ⟨rfl, dA, rfl⟩; rw [lay_bw])
      go_ret
      exact ⟨rfl, lay_ex _ _⟩
end Go.Proofs.Ytakcfcekdngndaa
