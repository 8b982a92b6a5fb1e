/- Contracts and plain laws, several texts in one: NeL -/
import Derived.Test.YtakcfcekdngndaaProg
import Derived.WalkKit
import Derived.WalkSpells
import Derived.WalkLawsBesides
import Derived.Lib.Hide
import Derived.BigQuiet
import Derived.Test.YtakcfcekdngndaaBAA
import Derived.Test.YtakcfcekdngndaaBAO
import Derived.Test.YtakcfcekdngndaaBAP
/- The law MeridianNear. -/
namespace Go.Proofs.Ytakcfcekdngndaa
open Go.RowKit

/-- On one side of the declination the arc by the transit is within the ex-meridian's. -/
theorem near_in {c d a0 a1 y0 y1 z0 z1 X Y : Int} (h0 : -5400000 ≤ a0) (h1 : a0 ≤ c) (h2 : c ≤ a1) (h3 : a1 ≤ 5400000) (hy0 : -5400000 ≤ y0) (hy : y0 ≤ 5400000 - ((c - d).natAbs : Int)) (hy1 : 5400000 - ((c - d).natAbs : Int) ≤ y1) (hy2 : y1 ≤ 5400000)
    (hz0 : z0 ≤ 5400000 - y1) (hz1 : 5400000 - y0 ≤ z1) (hs : (d ≤ c ∧ X = 5400000 - y1 + d ∧ Y = 5400000 - y0 + d) ∨ (c < d ∧ X = d - (5400000 - y0) ∧ Y = d - (5400000 - y1)))
    (hn : ¬ (a0 < d ∧ d < a1)) : insideB (mx (lsLo X Y) a0) (mn (lsHi X Y) a1) (max a0 (outL a0 a1 d d z0 z1)) (min a1 (outH a0 a1 d d z0 z1)) = true := by
  rw [insideB_iff, mx_eq, mn_eq]
  unfold lsLo lsHi outL outH
  rw [mn_eq, mx_eq]
  by_cases c1 : d ≤ a0
  · rw [if_pos c1, if_pos c1]
    rcases hs with ⟨g, rfl, rfl⟩ | ⟨g, rfl, rfl⟩
    · rw [if_pos (by omega), if_pos (by omega)]; omega
    · omega
  · have c2 : a1 ≤ d := by omega
    rw [if_neg c1, if_neg c1, if_pos c2, if_pos c2]
    rcases hs with ⟨g, rfl, rfl⟩ | ⟨g, rfl, rfl⟩
    · rw [if_pos (by omega), if_pos (by omega)]; omega
    · rw [if_pos (by omega), if_pos (by omega)]; omega
theorem near_meets {c a0 a1 X Y : Int} (h0 : -5400000 ≤ c) (h1 : a0 ≤ c) (h2 : c ≤ a1) (h3 : c ≤ 5400000) (hX : X ≤ c) (hY : c ≤ Y) : validB (lsLo X Y) (lsHi X Y) = true ∧ meetsB (lsLo X Y) (lsHi X Y) a0 a1 = true := by
  unfold lsLo lsHi meetsB
  rw [validB_iff, decide_eq_true_iff]
  omega
set_option maxHeartbeats 4000000 in
set_option maxRecDepth 100000 in
theorem law33_Near {w : World} (c : Int) (_ : (Lit.int .i64 c).wf = true) (g : Int) (_ : (Lit.int .i64 g).wf = true) (l : Int) (_ : (Lit.int .i64 l).wf = true) (be : Int) (hbe : (Lit.int .u32 be).wf = true) (ab : Int) (hab : (Lit.int .u32 ab).wf = true) :
    Calls Try.prog 4 #[.int .i64 c, .int .i64 g, .int .i64 l, .int .u32 be, .int .u32 ab] w fun e w' => e = .returned (.bool true) ∧ ∃ d, w' = bw w d := by
  have HOn := Lib.hid (fun n W => law33_one n W)
  have hb : 0 ≤ be ∧ be ≤ 4294967295 := by
    simp [Lit.wf, IntKind.min, IntKind.max, IntKind.bits, IntKind.signed] at hbe; omega
  have ha : 0 ≤ ab ∧ ab ≤ 4294967295 := by
    simp [Lit.wf, IntKind.min, IntKind.max, IntKind.bits, IntKind.signed] at hab; omega
  clear hbe hab
  by_cases hin : -5400000 ≤ c ∧ c ≤ 5400000 ∧ -5400000 ≤ g ∧ g ≤ 5400000 ∧ -1099511627776 ≤ l ∧ l ≤ 1099511627776
  · obtain ⟨h1, h2, h3, h4, h5, h6⟩ := hin
    have kb : IntKind.i64.wrap be = be := IntWalk.i64_in _ (by omega)
    have ka : IntKind.i64.wrap ab = ab := IntWalk.i64_in _ (by omega)
    have tb : be.tmod 300000 = be % 300000 := Int.tmod_eq_emod_of_nonneg hb.1
    have ta : ab.tmod 300000 = ab % 300000 := Int.tmod_eq_emod_of_nonneg ha.1
    obtain ⟨p, hp⟩ : ∃ p, be % 300000 = p := ⟨_, rfl⟩
    obtain ⟨q, hq⟩ : ∃ q, ab % 300000 = q := ⟨_, rfl⟩
    have hp2 : 0 ≤ p ∧ p < 300000 := by omega
    have hq2 : 0 ≤ q ∧ q < 300000 := by omega
    rw [hp] at tb
    rw [hq] at ta
    have kp : IntKind.i64.wrap p = p := IntWalk.i64_in _ (by omega)
    have kq : IntKind.i64.wrap q = q := IntWalk.i64_in _ (by omega)
    obtain ⟨p', hp'⟩ : ∃ p', c - p = p' := ⟨_, rfl⟩
    obtain ⟨q', hq'⟩ : ∃ q', c + q = q' := ⟨_, rfl⟩
    have kp' : IntKind.i64.wrap (c - p) = p' := by rw [hp']; exact IntWalk.i64_in _ (by omega)
    have kq' : IntKind.i64.wrap (c + q) = q' := by rw [hq']; exact IntWalk.i64_in _ (by omega)
    obtain ⟨a0, ha0⟩ : ∃ a0, mx (-5400000) p' = a0 := ⟨_, rfl⟩
    obtain ⟨a1, ha1⟩ : ∃ a1, mn 5400000 q' = a1 := ⟨_, rfl⟩
    have b0 : -5400000 ≤ a0 ∧ a0 ≤ c := by rw [← ha0, mx_eq]; omega
    have b1 : c ≤ a1 ∧ a1 ≤ 5400000 := by rw [← ha1, mn_eq]; omega
    clear hp hq hp2 hq2 hp' hq' hb ha
    -- the altitudes
    have tl := tri_pt (lha := l) h1 h2 h3 h4 h5 h6
    have t0 := tri_pt (lha := 0) h1 h2 h3 h4 (by decide) (by decide)
    have V := alt_has (lha := 0) h1 h2 h3 h4 (by omega) (by omega) (alt_upper (lat := c) (dec := g))
    have HA := Lib.hid (fun W => cos_Altitude c c g g l l W tl)
    have HB := Lib.hid (fun W => cos_Altitude c c g g 0 0 W t0)
    have U := alt_some (lha := l) h1 h2 h3 h4
    obtain ⟨uE, ui⟩ := U
    have EX := ex_has (lha := l) b0.1 b0.2 b1.1 b1.2 h3 h4 rfl rfl uE ui
    have EY := ex_has (lha := 0) b0.1 b0.2 b1.1 b1.2 h3 h4 rfl rfl V.1 ⟨V.2.1, by omega, V.2.2.2.2⟩
    rw [uE] at HA
    rw [V.1] at HB
    obtain ⟨-, v0, v1, v2, v3⟩ := V
    clear tl t0 uE
    obtain ⟨EX0, EX1, EX2⟩ := EX
    obtain ⟨EY0, EY1, EY2⟩ := EY
    obtain ⟨fx, ix0, ix1, jx0, jx1⟩ := ex_in b0.2 b1.1 EX0 EX1 EX2
    obtain ⟨fy, iy0, iy1, jy0, jy1⟩ := ex_in b0.2 b1.1 EY0 EY1 EY2
    have la : latB a0 a1 = true := latB_iff.2 (by omega)
    have lg : latB g g = true := latB_iff.2 (by omega)
    have HE1 := Lib.hid (fun W => mer_ExG _ _ a0 a1 g g l l W (latB_iff.2 ⟨ui.2.1, ui.1, ui.2.2⟩) la lg (validB_iff.2 (by omega)))
    have hly : latB (asL (altS0 c c g g 0 0) (altS1 c c g g 0 0)) (asH (altS0 c c g g 0 0) (altS1 c c g g 0 0)) = true := latB_iff.2 (by omega)
    have HE2 := Lib.hid (fun W => mer_ExG _ _ a0 a1 g g 0 0 W hly la lg (by decide))
    have SD := ah_side v0 (by omega) v3 (ex_side (a0 := a0) (a1 := a1) (dec := g)).1 (ex_side (a0 := a0) (a1 := a1) (dec := g)).2 EY0
    clear EX0 EX1 EX2 EY0
    rw [fx] at HE1
    rw [fy] at HE2
    clear fx fy
    have hlx : latB (asL (altS0 c c g g l l) (altS1 c c g g l l)) (asH (altS0 c c g g l l) (altS1 c c g g l l)) = true := latB_iff.2 ⟨ui.2.1, ui.1, ui.2.2⟩
    generalize asL (altS0 c c g g l l) (altS1 c c g g l l) = x0 at *
    generalize asH (altS0 c c g g l l) (altS1 c c g g l l) = x1 at *
    generalize asL (altS0 c c g g 0 0) (altS1 c c g g 0 0) = y0 at *
    generalize asH (altS0 c c g g 0 0) (altS1 c c g g 0 0) = y1 at *
    generalize exN0 x0 x1 a0 a1 g g l l = n0 at *
    generalize exN1 x0 x1 a0 a1 g g l l = n1 at *
    generalize exN0 y0 y1 a0 a1 g g 0 0 = m0 at *
    generalize exN1 y0 y1 a0 a1 g g 0 0 = m1 at *
    have I1 := Lib.hid (fun W => ref05_Inside c c (exL a0 a1 g g n0 n1) (exH a0 a1 g g n0 n1) W)
    rw [insideB_iff.2 ⟨ix0, ix1⟩] at I1
    have I2 := Lib.hid (fun W => ref05_Inside (exL a0 a1 g g n0 n1) (exH a0 a1 g g n0 n1) a0 a1 W)
    rw [insideB_iff.2 ⟨by omega, by omega⟩] at I2
    clear ix0 ix1 jx0 jx1 iy0 iy1
    generalize exL a0 a1 g g n0 n1 = e0 at *
    generalize exH a0 a1 g g n0 n1 = e1 at *
    generalize exL a0 a1 g g m0 m1 = f0 at *
    generalize exH a0 a1 g g m0 m1 = f1 at *
    generalize ahL m0 m1 = z0 at *
    generalize ahH m0 m1 = z1 at *
    have HLx := Lib.hid (fun W => ref25_Latitude x0 x1 W)
    have HLy := Lib.hid (fun W => ref25_Latitude y0 y1 W)
    rw [hlx] at HLx
    rw [hly] at HLy
    have A : ∃ p0 p1 : Int, validB p0 p1 = true ∧ meetsB p0 p1 a0 a1 = true ∧ (¬ (a0 < g ∧ g < a1) → insideB (mx p0 a0) (mn p1 a1) f0 f1 = true) ∧ Hid (∀ W, Calls Try.prog 11 #[(.agg #[.int .i64 (y0), .int .i64 (y1)]), (.agg #[.int .i64 (g), .int .i64 (g)]), .bool (decide (g ≤ c))] W fun e w' => e = .returned (.tuple #[(.agg #[.int .i64 (p0), .int .i64 (p1)]), .int .i64 0]) ∧ ∃ d, w' = bw W d) := by
      by_cases gc : g ≤ c
      · obtain ⟨e, i⟩ := ls_has (n := c) (x := 5400000 - y1 + g) (y := 5400000 - y0 + g) h1 h2 (by omega) (by omega)
        obtain ⟨m1, m2⟩ := near_meets (X := 5400000 - y1 + g) (Y := 5400000 - y0 + g) h1 b0.2 b1.1 h2 (by omega) (by omega)
        refine ⟨_, _, m1, m2, fun hn => ?_, Lib.hid fun W => ?_⟩
        · rw [jy0, jy1]
          exact near_in b0.1 b0.2 b1.1 b1.2 v0 v1 v2 v3 SD.1 SD.2 (.inl ⟨gc, rfl, rfl⟩) hn
        · have := mer_Latitude_true y0 y1 g g W hly lg
          rw [e] at this
          rw [decide_eq_true gc]
          exact this
      · obtain ⟨e, i⟩ := ls_has (n := c) (x := g - (5400000 - y0)) (y := g - (5400000 - y1)) h1 h2 (by omega) (by omega)
        obtain ⟨m1, m2⟩ := near_meets (X := g - (5400000 - y0)) (Y := g - (5400000 - y1)) h1 b0.2 b1.1 h2 (by omega) (by omega)
        refine ⟨_, _, m1, m2, fun hn => ?_, Lib.hid fun W => ?_⟩
        · rw [jy0, jy1]
          exact near_in b0.1 b0.2 b1.1 b1.2 v0 v1 v2 v3 SD.1 SD.2 (.inr ⟨by omega, rfl, rfl⟩) hn
        · have := mer_Latitude_false y0 y1 g g W hly lg
          rw [e] at this
          rw [decide_eq_false gc]
          exact this
    obtain ⟨p0, p1, vp, mp, ip, HP⟩ := A
    have HVc := Lib.hid (fun W => ref05_Valid p0 p1 W)
    rw [vp] at HVc
    have HMs := Lib.hid (fun W => ref05_Meets p0 p1 a0 a1 W)
    rw [mp] at HMs
    have HMt := Lib.hid (fun W => ref05_Meet p0 p1 a0 a1 W)
    have I3 := Lib.hid (fun W => ref05_Inside (mx p0 a0) (mn p1 a1) f0 f1 W)
    have k1 : ¬ c < -5400000 := by omega
    have k2 : ¬ 5400000 < c := by omega
    have k3 : ¬ g < -5400000 := by omega
    have k4 : ¬ 5400000 < g := by omega
    have k5 : ¬ l < -1099511627776 := by omega
    have k6 : ¬ 1099511627776 < l := by omega
    clear h1 h2 h3 h4 h5 h6 b0 b1 ui v0 v1 v2 v3 la lg hlx hly SD EY1 EY2 jy0 jy1 vp mp
    generalize mx p0 a0 = s0 at *
    generalize mn p1 a1 = s1 at *
    have hgo : (decide (a0 < g) = true ∧ decide (g < a1) = true) ∨ (decide (a0 < g) = false ∧ insideB s0 s1 f0 f1 = true) ∨ (decide (a0 < g) = true ∧ decide (g < a1) = false ∧ insideB s0 s1 f0 f1 = true) := by
      by_cases c1 : a0 < g
      · by_cases c2 : g < a1
        · exact .inl ⟨decide_eq_true c1, decide_eq_true c2⟩
        · exact .inr (.inr ⟨decide_eq_true c1, decide_eq_false c2, ip (fun h => c2 h.2)⟩)
      · exact .inr (.inl ⟨decide_eq_false c1, ip (fun h => c1 h.1)⟩)
    clear ip
    generalize insideB s0 s1 f0 f1 = bb at *
    refine lay_start ?_
    go_enter Try.func4, Try.ntmps4
    go_wp2_with (first | (go_at_call 7; refine (law33_awake _).mono ?_; rintro e w' ⟨rfl, dA, rfl⟩; rw [lay_bw]) | (go_at_call 9; refine (HOn.out _ _).mono ?_; rintro e w' ⟨rfl, dB, rfl⟩; rw [lay_bw]) | (go_at_call 8; first | (with_reducible refine (HA.out _).mono ?_; rintro e w' ⟨rfl, dC, rfl⟩; rw [lay_bw]) | (with_reducible refine (HB.out _).mono ?_; rintro e w' ⟨rfl, dD, rfl⟩; rw [lay_bw])) | (go_at_call 10; first | (with_reducible refine (HLx.out _).mono ?_; rintro e w' ⟨rfl, dE, rfl⟩; rw [lay_bw]) | (with_reducible refine (HLy.out _).mono ?_; rintro e w' ⟨rfl, dF, rfl⟩; rw [lay_bw])) | (go_at_call 15; refine (HVc.out _).mono ?_; rintro e w' ⟨rfl, dG, rfl⟩; rw [lay_bw]) | (go_at_call 16; refine (HMs.out _).mono ?_; rintro e w' ⟨rfl, dH, rfl⟩; rw [lay_bw]))
    refine region_mixW [0, 0, 0, 0, 0, 0, 0, 0, 0, 0, 1, 1, 0] (by kernel_rfl) (by kernel_rfl) (by kernel_rfl) ?_
    repeat (first | (refine wpM_quiet (fun K hK => ?_); go_simp; first | (refine hK _ ?_; clear hK K) | (apply Exists.intro; refine ⟨fun _ => ?_, hK _ ?_⟩; (first | (go_at_call 9; exact bq (HOn.out _ _) (fun d => ⟨d, rfl⟩)) | (go_at_call 14; first | ((with_reducible refine bq (HE1.out _) ?_); first | exact (fun d => ⟨d, rfl⟩) | exact (fun d => lay_join _ _ _ d)))); clear hK K)) | (refine wpM_special (fun K hK d => ?_); go_simp; refine hK _ _ (by first | exact lay_in w [_] _ | exact lay_in w [_, _] _ | exact lay_in w [_, _, _] _ | exact lay_in w [_, _, _, _] _ | exact lay_in w [_, _, _, _, _] _ | exact lay_in w [_, _, _, _, _, _] _) ?_; clear hK K))
    refine wpM_nil ?_
    intro d
    rw [lay_bw]
    go_wp2_with fail
    refine region_bw (by kernel_rfl) (by kernel_rfl) ?_
    repeat (go_big_quiet_step ((first | (go_at_call 9; first | exact bq (HOn.out _ _) (fun d => lay_join _ _ _ d) | exact bq (HOn.out _ _) (fun d => ⟨d, rfl⟩)) | (go_at_call 12; first | ((with_reducible refine bq (I1.out _) ?_); first | exact (fun d => ⟨d, rfl⟩) | exact (fun d => lay_join _ _ _ d)) | ((with_reducible refine bq (I2.out _) ?_); first | exact (fun d => ⟨d, rfl⟩) | exact (fun d => lay_join _ _ _ d))))))
    refine wpQuiet_nil ?_
    rintro w' ⟨d, rfl⟩
    rw [lay_bw]
    go_wp2_with (first | (go_at_call 7; refine (law33_awake _).mono ?_; rintro e w' ⟨rfl, dA, rfl⟩; rw [lay_bw]) | (go_at_call 9; refine (HOn.out _ _).mono ?_; rintro e w' ⟨rfl, dB, rfl⟩; rw [lay_bw]) | (go_at_call 8; first | (with_reducible refine (HA.out _).mono ?_; rintro e w' ⟨rfl, dC, rfl⟩; rw [lay_bw]) | (with_reducible refine (HB.out _).mono ?_; rintro e w' ⟨rfl, dD, rfl⟩; rw [lay_bw])) | (go_at_call 10; first | (with_reducible refine (HLx.out _).mono ?_; rintro e w' ⟨rfl, dE, rfl⟩; rw [lay_bw]) | (with_reducible refine (HLy.out _).mono ?_; rintro e w' ⟨rfl, dF, rfl⟩; rw [lay_bw])) | (go_at_call 15; refine (HVc.out _).mono ?_; rintro e w' ⟨rfl, dG, rfl⟩; rw [lay_bw]) | (go_at_call 16; refine (HMs.out _).mono ?_; rintro e w' ⟨rfl, dH, rfl⟩; rw [lay_bw]))
    refine region_mixW [0, 0, 0, 0, 0, 0, 0, 0, 0, 1, 1, 0] (by kernel_rfl) (by kernel_rfl) (by kernel_rfl) ?_
    repeat (first | (refine wpM_quiet (fun K hK => ?_); go_simp; first | (refine hK _ ?_; clear hK K) | (apply Exists.intro; refine ⟨fun _ => ?_, hK _ ?_⟩; (first | (go_at_call 9; exact bq (HOn.out _ _) (fun d => ⟨d, rfl⟩)) | (go_at_call 14; first | ((with_reducible refine bq (HE2.out _) ?_); first | exact (fun d => ⟨d, rfl⟩) | exact (fun d => lay_join _ _ _ d)))); clear hK K)) | (refine wpM_special (fun K hK d => ?_); go_simp; refine hK _ _ (by first | exact lay_in w [_] _ | exact lay_in w [_, _] _ | exact lay_in w [_, _, _] _ | exact lay_in w [_, _, _, _] _ | exact lay_in w [_, _, _, _, _] _ | exact lay_in w [_, _, _, _, _, _] _) ?_; clear hK K))
    refine wpM_nil ?_
    intro d
    rw [lay_bw]
    go_wp2_with fail
    refine region_mixW [0, 0, 0, 0, 0, 0, 0, 0, 0, 0, 1, 1, 0] (by kernel_rfl) (by kernel_rfl) (by kernel_rfl) ?_
    repeat (first | (refine wpM_quiet (fun K hK => ?_); go_simp; first | (refine hK _ ?_; clear hK K) | (apply Exists.intro; refine ⟨fun _ => ?_, hK _ ?_⟩; (first | (go_at_call 9; exact bq (HOn.out _ _) (fun d => ⟨d, rfl⟩)) | (go_at_call 11; first | ((with_reducible refine bq (HP.out _) ?_); first | exact (fun d => ⟨d, rfl⟩) | exact (fun d => lay_join _ _ _ d)))); clear hK K)) | (refine wpM_special (fun K hK d => ?_); go_simp; refine hK _ _ (by first | exact lay_in w [_] _ | exact lay_in w [_, _] _ | exact lay_in w [_, _, _] _ | exact lay_in w [_, _, _, _] _ | exact lay_in w [_, _, _, _, _] _ | exact lay_in w [_, _, _, _, _, _] _) ?_; clear hK K))
    refine wpM_nil ?_
    intro d
    rw [lay_bw]
    go_wp2_with (first | (go_at_call 7; refine (law33_awake _).mono ?_; rintro e w' ⟨rfl, dA, rfl⟩; rw [lay_bw]) | (go_at_call 9; refine (HOn.out _ _).mono ?_; rintro e w' ⟨rfl, dB, rfl⟩; rw [lay_bw]) | (go_at_call 8; first | (with_reducible refine (HA.out _).mono ?_; rintro e w' ⟨rfl, dC, rfl⟩; rw [lay_bw]) | (with_reducible refine (HB.out _).mono ?_; rintro e w' ⟨rfl, dD, rfl⟩; rw [lay_bw])) | (go_at_call 10; first | (with_reducible refine (HLx.out _).mono ?_; rintro e w' ⟨rfl, dE, rfl⟩; rw [lay_bw]) | (with_reducible refine (HLy.out _).mono ?_; rintro e w' ⟨rfl, dF, rfl⟩; rw [lay_bw])) | (go_at_call 15; refine (HVc.out _).mono ?_; rintro e w' ⟨rfl, dG, rfl⟩; rw [lay_bw]) | (go_at_call 16; refine (HMs.out _).mono ?_; rintro e w' ⟨rfl, dH, rfl⟩; rw [lay_bw]))
    rcases hgo with ⟨c1, c2⟩ | ⟨c1, rfl⟩ | ⟨c1, c2, rfl⟩
    all_goals
      refine region_bw (by kernel_rfl) (by kernel_rfl) ?_
      repeat (go_big_quiet_step ((first | (go_at_call 17; first | ((with_reducible refine bq (HMt.out _) ?_); first | exact (fun d => ⟨d, rfl⟩) | exact (fun d => lay_join _ _ _ d))) | (go_at_call 12; first | ((with_reducible refine bq (I3.out _) ?_); first | exact (fun d => ⟨d, rfl⟩) | exact (fun d => lay_join _ _ _ d))))))
      refine wpQuiet_nil ?_
      rintro w' ⟨d, rfl⟩
      rw [lay_bw]
      go_wp2_with fail
      go_ret
      exact ⟨rfl, lay_ex _ _⟩
  · have ho : c < -5400000 ∨ (¬ c < -5400000 ∧ 5400000 < c) ∨ (¬ c < -5400000 ∧ ¬ 5400000 < c ∧ g < -5400000) ∨ (¬ c < -5400000 ∧ ¬ 5400000 < c ∧ ¬ g < -5400000 ∧ 5400000 < g) ∨ (¬ c < -5400000 ∧ ¬ 5400000 < c ∧ ¬ g < -5400000 ∧ ¬ 5400000 < g ∧ l < -1099511627776) ∨ (¬ c < -5400000 ∧ ¬ 5400000 < c ∧ ¬ g < -5400000 ∧ ¬ 5400000 < g ∧ ¬ l < -1099511627776 ∧ 1099511627776 < l) := by omega
    clear hin hb ha
    rcases ho with a1 | ⟨a1, a2⟩ | ⟨a1, a2, a3⟩ | ⟨a1, a2, a3, a4⟩ | ⟨a1, a2, a3, a4, a5⟩ | ⟨a1, a2, a3, a4, a5, a6⟩
    all_goals
      refine lay_start ?_
      go_enter Try.func4, Try.ntmps4
      go_wp2_with (go_at_call 7; refine (law33_awake _).mono ?_; rintro e w' ⟨rfl, dA, rfl⟩; rw [lay_bw])
      go_ret
      exact ⟨rfl, lay_ex _ _⟩
end Go.Proofs.Ytakcfcekdngndaa
