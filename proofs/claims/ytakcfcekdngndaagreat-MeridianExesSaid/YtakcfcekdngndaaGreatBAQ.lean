/- Contracts and plain laws, several texts in one: ExR -/
import Derived.Test.YtakcfcekdngndaaGreatProg
import Derived.WalkKit
import Derived.WalkSpells
import Derived.WalkLawsBesides
import Derived.Lib.Hide
import Derived.BigQuiet
import Derived.Test.YtakcfcekdngndaaGreatBAA
import Derived.Test.YtakcfcekdngndaaGreatBAB
import Derived.Test.YtakcfcekdngndaaGreatBAJ
import Derived.Test.YtakcfcekdngndaaGreatBAO
import Derived.Test.YtakcfcekdngndaaGreatBAP
/- The reference's Ex. -/
namespace Go.Proofs.YtakcfcekdngndaaGreat
open Go.RowKit

theorem ex_ends {a0 a1 o0 o1 : Int} (ha : a0 ≤ a1) (ho : o0 ≤ o1) : (meetsB o0 o1 a0 a1 = true ∧ mx o0 a0 = meetLo a0 a1 o0 o1 ∧ mn o1 a1 = meetHi a0 a1 o0 o1 ∧ 0 = meetE a0 a1 o0 o1) ∨ (meetsB o0 o1 a0 a1 = false ∧ 0 = meetLo a0 a1 o0 o1 ∧ 0 = meetHi a0 a1 o0 o1 ∧ 23 = meetE a0 a1 o0 o1) := by
  unfold meetLo meetHi meetE
  rw [mx_eq, mn_eq]
  by_cases h : o0 ≤ a1 ∧ a0 ≤ o1
  · refine .inl ⟨decide_eq_true h, ?_⟩
    omega
  · refine .inr ⟨decide_eq_false h, ?_⟩
    omega
set_option maxHeartbeats 4000000 in
set_option maxRecDepth 100000 in
theorem r33_ExG (h0 h1 a0 a1 b0 b1 c0 c1 : Int) (w : World) (lh : latB h0 h1 = true) (la : latB a0 a1 = true) (lb : latB b0 b1 = true) (vc : validB c0 c1 = true) :
    Calls Tryz.prog 8 #[(.agg #[.int .i64 (h0), .int .i64 (h1)]), (.agg #[.int .i64 (a0), .int .i64 (a1)]), (.agg #[.int .i64 (b0), .int .i64 (b1)]), (.agg #[.int .i64 (c0), .int .i64 (c1)])] w fun e' w' => e' = .returned (.tuple #[(.agg #[.int .i64 (exL a0 a1 b0 b1 (exN0 h0 h1 a0 a1 b0 b1 c0 c1) (exN1 h0 h1 a0 a1 b0 b1 c0 c1)), .int .i64 (exH a0 a1 b0 b1 (exN0 h0 h1 a0 a1 b0 b1 c0 c1) (exN1 h0 h1 a0 a1 b0 b1 c0 c1))]), .int .i64 (exE a0 a1 b0 b1 (exN0 h0 h1 a0 a1 b0 b1 c0 c1) (exN1 h0 h1 a0 a1 b0 b1 c0 c1))]) ∧ ∃ d, w' = bw w d := by
  have HLh := Lib.hid (fun W => ref25_Latitude h0 h1 W)
  have HLa := Lib.hid (fun W => ref25_Latitude a0 a1 W)
  have HLb := Lib.hid (fun W => ref25_Latitude b0 b1 W)
  have HV := Lib.hid (fun W => ref05_Valid c0 c1 W)
  rw [lh] at HLh
  rw [la] at HLa
  rw [lb] at HLb
  rw [vc] at HV
  have ih := latB_iff.1 lh
  have ia := latB_iff.1 la
  have ib := latB_iff.1 lb
  have va := lat_valid la
  have vb := lat_valid lb
  have HOn := Lib.hid (fun W => ref33_one 5400000 W)
  have HRe := Lib.hid (fun W => ref05_Sub 5400000 5400000 h0 h1 W (by omega) (by omega) (by omega) (by omega))
  have vr : validB (5400000 - h1) (5400000 - h0) = true := validB_iff.2 (by omega)
  have HHr := Lib.hid (fun W => r6_Hav _ _ vr W)
  have HHc := Lib.hid (fun W => r6_Hav _ _ vc W)
  have HCa : Hid (∀ W, Calls _ _ #[(.agg #[.int .i64 (a0), .int .i64 (a1)])] W fun e w' => e = .returned (.agg #[.int .i64 (cosL a0 a1), .int .i64 (cosH a0 a1)]) ∧ _) := Lib.hid (fun W => r6_Cos _ _ va W)
  have HCb : Hid (∀ W, Calls _ _ #[(.agg #[.int .i64 (b0), .int .i64 (b1)])] W fun e w' => e = .returned (.agg #[.int .i64 (cosL b0 b1), .int .i64 (cosH b0 b1)]) ∧ _) := Lib.hid (fun W => r6_Cos _ _ vb W)
  have HM1 : Hid (∀ W, Calls _ _ #[_, _] W fun e w' => e = .returned (.agg #[.int .i64 (ccL a0 a1 b0 b1), .int .i64 (ccH a0 a1 b0 b1)]) ∧ _) := Lib.hid (fun W => r25_Times (cosL a0 a1) (cosH a0 a1) (cosL b0 b1) (cosH b0 b1) W (unit_fx (cos_in2 _ _)) (unit_fx (cos_in2 _ _)) (unit_fx (cc_in _ _ _ _)))
  have HM2 : Hid (∀ W, Calls _ _ #[_, _] W fun e w' => e = .returned (.agg #[.int .i64 (chL a0 a1 b0 b1 c0 c1), .int .i64 (chH a0 a1 b0 b1 c0 c1)]) ∧ _) := Lib.hid (fun W => r25_Times (ccL a0 a1 b0 b1) (ccH a0 a1 b0 b1) (havL c0 c1) (havH c0 c1) W (unit_fx (cc_in _ _ _ _)) (unit_fx (by have := hav_in c0 c1; omega)) (unit_fx (ch_in _ _ _ _ _ _)))
  have hN := exN_fx h0 h1 a0 a1 b0 b1 c0 c1
  have HS : Hid (∀ W, Calls _ _ #[_, _] W fun e w' => e = .returned (.agg #[.int .i64 (exN0 h0 h1 a0 a1 b0 b1 c0 c1), .int .i64 (exN1 h0 h1 a0 a1 b0 b1 c0 c1)]) ∧ _) := Lib.hid (fun W => r25_Minus (havL (5400000 - h1) (5400000 - h0)) (havH (5400000 - h1) (5400000 - h0)) (chL a0 a1 b0 b1 c0 c1) (chH a0 a1 b0 b1 c0 c1) W (unit_fx (by have := hav_in (5400000 - h1) (5400000 - h0); omega)) (unit_fx (ch_in _ _ _ _ _ _)) hN)
  generalize exN0 h0 h1 a0 a1 b0 b1 c0 c1 = n0 at *
  generalize exN1 h0 h1 a0 a1 b0 b1 c0 c1 = n1 at *
  generalize chL a0 a1 b0 b1 c0 c1 = u0 at *
  generalize chH a0 a1 b0 b1 c0 c1 = u1 at *
  generalize ccL a0 a1 b0 b1 = m0 at *
  generalize ccH a0 a1 b0 b1 = m1 at *
  generalize cosL a0 a1 = p0 at *
  generalize cosH a0 a1 = p1 at *
  generalize cosL b0 b1 = q0 at *
  generalize cosH b0 b1 = q1 at *
  generalize havL c0 c1 = t0 at *
  generalize havH c0 c1 = t1 at *
  generalize havL (5400000 - h1) (5400000 - h0) = g0 at *
  generalize havH (5400000 - h1) (5400000 - h0) = g1 at *
  generalize 5400000 - h1 = r0 at *
  generalize 5400000 - h0 = r1 at *
  have HA := Lib.hid (fun W => r7_Ahav n0 n1 W hN)
  clear vr vb lh la lb vc ih va
  unfold exE exL exH
  rcases ahE_two hN with hE | hE
  · have hz := ah_in hE
    have hz2 := ah_le hE
    rw [hE] at HA
    rw [hE, if_pos rfl, if_pos rfl, if_pos rfl]
    clear hE hN
    generalize ahL n0 n1 = z0 at *
    generalize ahH n0 n1 = z1 at *
    have HP := Lib.hid (fun W => ref05_Add b0 b1 z0 z1 W (by omega) (by omega) (by omega) (by omega))
    have HMi := Lib.hid (fun W => ref05_Sub b0 b1 z0 z1 W (by omega) (by omega) (by omega) (by omega))
    have hout := out_in (a0 := a0) (a1 := a1) (b0 := b0) (b1 := b1) (z0 := z0) (z1 := z1) (by omega) (by omega)
    have hen := ex_ends (a0 := a0) (a1 := a1) (o0 := outL a0 a1 b0 b1 z0 z1) (o1 := outH a0 a1 b0 b1 z0 z1) (by omega) (by omega)
    have HMs := Lib.hid (fun W => ref05_Meets (outL a0 a1 b0 b1 z0 z1) (outH a0 a1 b0 b1 z0 z1) a0 a1 W)
    have HMt := Lib.hid (fun W => ref05_Meet (outL a0 a1 b0 b1 z0 z1) (outH a0 a1 b0 b1 z0 z1) a0 a1 W)
    have HH := Lib.hid (fun W => ref05_Hull (b0 + z0) (b1 + z1) (b0 - z1) (b1 - z0) W)
    have ho : (b1 ≤ a0 ∧ outL a0 a1 b0 b1 z0 z1 = b0 + z0 ∧ outH a0 a1 b0 b1 z0 z1 = b1 + z1) ∨ (¬ b1 ≤ a0 ∧ a1 ≤ b0 ∧ outL a0 a1 b0 b1 z0 z1 = b0 - z1 ∧ outH a0 a1 b0 b1 z0 z1 = b1 - z0) ∨ (¬ b1 ≤ a0 ∧ ¬ a1 ≤ b0 ∧ outL a0 a1 b0 b1 z0 z1 = mn (b0 + z0) (b0 - z1) ∧ outH a0 a1 b0 b1 z0 z1 = mx (b1 + z1) (b1 - z0)) := by
      unfold outL outH
      by_cases g1 : b1 ≤ a0
      · left; rw [if_pos g1, if_pos g1]; exact ⟨g1, rfl, rfl⟩
      · by_cases g2 : a1 ≤ b0
        · right; left; rw [if_neg g1, if_neg g1, if_pos g2, if_pos g2]; exact ⟨g1, g2, rfl, rfl⟩
        · right; right; rw [if_neg g1, if_neg g1, if_neg g2, if_neg g2]; exact ⟨g1, g2, rfl, rfl⟩
    clear hz hz2 hout ia ib
    generalize outL a0 a1 b0 b1 z0 z1 = o0 at *
    generalize outH a0 a1 b0 b1 z0 z1 = o1 at *
    generalize b0 + z0 = s0 at *
    generalize b1 + z1 = s1 at *
    generalize b0 - z1 = y0 at *
    generalize b1 - z0 = y1 at *
    generalize meetLo a0 a1 o0 o1 = x0 at *
    generalize meetHi a0 a1 o0 o1 = x1 at *
    generalize meetE a0 a1 o0 o1 = xe at *
    generalize mx o0 a0 = x2 at *
    generalize mn o1 a1 = x3 at *
    rcases hen with ⟨hm, rfl, rfl, rfl⟩ | ⟨hm, rfl, rfl, rfl⟩
    all_goals
      rw [hm] at HMs
      clear hm
      rcases ho with ⟨g1, rfl, rfl⟩ | ⟨g1, g2, rfl, rfl⟩ | ⟨g1, g2, rfl, rfl⟩
    all_goals
      refine lay_start ?_
      go_enter Tryz.func8, Tryz.ntmps8
      go_wp2_with (first | (go_at_call 12; first | (with_reducible refine (HLh.out _).mono ?_; rintro e w' ⟨rfl, d1, rfl⟩; rw [lay_bw]) | (with_reducible refine (HLa.out _).mono ?_; rintro e w' ⟨rfl, d2, rfl⟩; rw [lay_bw]) | (with_reducible refine (HLb.out _).mono ?_; rintro e w' ⟨rfl, d3, rfl⟩; rw [lay_bw])) | (go_at_call 14; refine (HV.out _).mono ?_; rintro e w' ⟨rfl, d4, rfl⟩; rw [lay_bw]))
      refine region_mixW [0, 0, 0, 0, 1, 1] (by kernel_rfl) (by kernel_rfl) (by kernel_rfl) ?_
      repeat (first | (refine wpM_quiet (fun K hK => ?_); go_simp; first | (refine hK _ ?_; clear hK K) | (apply Exists.intro; refine ⟨fun _ => ?_, hK _ ?_⟩; (first | (go_at_call 36; exact bq (HOn.out _) (fun d => ⟨d, rfl⟩)) | (go_at_call 35; exact bq (HRe.out _) (fun d => ⟨d, rfl⟩)) | (go_at_call 34; exact bq (HHr.out _) (fun d => ⟨d, rfl⟩))); clear hK K)) | (refine wpM_special (fun K hK d => ?_); go_simp; refine hK _ _ (by first | exact lay_in w [_] _ | exact lay_in w [_, _] _ | exact lay_in w [_, _, _] _ | exact lay_in w [_, _, _, _] _ | exact lay_in w [_, _, _, _, _] _ | exact lay_in w [_, _, _, _, _, _] _) ?_; clear hK K))
      refine wpM_nil ?_
      intro d
      rw [lay_bw]
      go_wp2_with fail
      refine region_mixW [0, 0, 0, 0, 0, 0, 0, 0, 1, 1] (by kernel_rfl) (by kernel_rfl) (by kernel_rfl) ?_
      repeat (first | (refine wpM_quiet (fun K hK => ?_); go_simp; first | (refine hK _ ?_; clear hK K) | (apply Exists.intro; refine ⟨fun _ => ?_, hK _ ?_⟩; (first | (go_at_call 38; first | ((with_reducible refine bq (HCa.out _) ?_); exact (fun d => ⟨d, rfl⟩)) | ((with_reducible refine bq (HCb.out _) ?_); exact (fun d => ⟨d, rfl⟩))) | (go_at_call 34; exact bq (HHc.out _) (fun d => ⟨d, rfl⟩)) | (go_at_call 37; first | ((with_reducible refine bq (HM1.out _) ?_); exact (fun d => ⟨d, rfl⟩)) | ((with_reducible refine bq (HM2.out _) ?_); exact (fun d => ⟨d, rfl⟩)))); clear hK K)) | (refine wpM_special (fun K hK d => ?_); go_simp; refine hK _ _ (by first | exact lay_in w [_] _ | exact lay_in w [_, _] _ | exact lay_in w [_, _, _] _ | exact lay_in w [_, _, _, _] _ | exact lay_in w [_, _, _, _, _] _ | exact lay_in w [_, _, _, _, _, _] _) ?_; clear hK K))
      refine wpM_nil ?_
      intro d
      rw [lay_bw]
      go_wp2_with (first | (go_at_call 40; refine (HS.out _).mono ?_; rintro e w' ⟨rfl, d5, rfl⟩; rw [lay_bw]) | (go_at_call 39; refine (HA.out _).mono ?_; rintro e w' ⟨rfl, d6, rfl⟩; rw [lay_bw]))
      refine region_mixW [0, 0, 0, 0, 0, 0, 2, 1, 1] (by kernel_rfl) (by kernel_rfl) (by kernel_rfl) ?_
      repeat (refine wpM_quiet (fun K hK => ?_); go_simp; first | (refine hK _ ?_; clear hK K) | (apply Exists.intro; refine ⟨fun _ => ?_, hK _ ?_⟩; (first | (go_at_call 41; exact bq (HP.out _) (fun d => ⟨d, rfl⟩)) | (go_at_call 35; exact bq (HMi.out _) (fun d => ⟨d, rfl⟩))); clear hK K))
      refine wpM_two (fun J hJ d => ?_) (fun J hJ d => ?_)
      all_goals (go_simp; refine hJ _ _ (by first | exact lay_in w [_] _ | exact lay_in w [_, _] _ | exact lay_in w [_, _, _] _ | exact lay_in w [_, _, _, _] _ | exact lay_in w [_, _, _, _, _] _ | exact lay_in w [_, _, _, _, _, _] _) (fun K hK d => ?_); go_simp; refine hK _ _ (by first | exact lay_in w [_] _ | exact lay_in w [_, _] _ | exact lay_in w [_, _, _] _ | exact lay_in w [_, _, _, _] _ | exact lay_in w [_, _, _, _, _] _ | exact lay_in w [_, _, _, _, _, _] _) ?_; clear hK K hJ J)
      all_goals (repeat (first | (refine wpM_quiet (fun K hK => ?_); go_simp; first | (refine hK _ ?_; clear hK K) | (apply Exists.intro; refine ⟨fun _ => ?_, hK _ ?_⟩; (first | (go_at_call 41; exact bq (HP.out _) (fun d => ⟨d, rfl⟩)) | (go_at_call 35; exact bq (HMi.out _) (fun d => ⟨d, rfl⟩))); clear hK K)) | (refine wpM_special (fun K hK d => ?_); go_simp; refine hK _ _ (by first | exact lay_in w [_] _ | exact lay_in w [_, _] _ | exact lay_in w [_, _, _] _ | exact lay_in w [_, _, _, _] _ | exact lay_in w [_, _, _, _, _] _ | exact lay_in w [_, _, _, _, _, _] _) ?_; clear hK K)))
      all_goals (refine wpM_nil ?_; intro d; rw [lay_bw])
      all_goals
        go_wp2_with (first | (go_at_call 42; refine (HH.out _).mono ?_; rintro e w' ⟨rfl, d7, rfl⟩; rw [lay_bw]) | (go_at_call 43; refine (HMs.out _).mono ?_; rintro e w' ⟨rfl, d8, rfl⟩; rw [lay_bw]) | (go_at_call 44; refine (HMt.out _).mono ?_; rintro e w' ⟨rfl, d9, rfl⟩; rw [lay_bw]))
        first | exact bodyPost_ret (v := .tuple #[(.agg #[.int .i64 (x2), .int .i64 (x3)]), .int .i64 0]) (by simp [results, Tryz.results8, go_sem]) rfl ⟨rfl, lay_ex _ _⟩ | exact bodyPost_ret (v := .tuple #[(.agg #[.int .i64 (0), .int .i64 (0)]), .int .i64 23]) (by simp [results, Tryz.results8, go_sem]) rfl ⟨rfl, lay_ex _ _⟩
  · rw [hE] at HA
    rw [hE, if_neg (by decide), if_neg (by decide), if_neg (by decide)]
    have hzz : ahL n0 n1 = 0 ∧ ahH n0 n1 = 0 := by unfold ahL ahH; rw [hE, if_neg (by decide), if_neg (by decide)]; exact ⟨rfl, rfl⟩
    rw [hzz.1, hzz.2] at HA
    clear hzz hE hN ia ib
    refine lay_start ?_
    go_enter Tryz.func8, Tryz.ntmps8
    go_wp2_with (first | (go_at_call 12; first | (with_reducible refine (HLh.out _).mono ?_; rintro e w' ⟨rfl, d1, rfl⟩; rw [lay_bw]) | (with_reducible refine (HLa.out _).mono ?_; rintro e w' ⟨rfl, d2, rfl⟩; rw [lay_bw]) | (with_reducible refine (HLb.out _).mono ?_; rintro e w' ⟨rfl, d3, rfl⟩; rw [lay_bw])) | (go_at_call 14; refine (HV.out _).mono ?_; rintro e w' ⟨rfl, d4, rfl⟩; rw [lay_bw]))
    refine region_mixW [0, 0, 0, 0, 1, 1] (by kernel_rfl) (by kernel_rfl) (by kernel_rfl) ?_
    repeat (first | (refine wpM_quiet (fun K hK => ?_); go_simp; first | (refine hK _ ?_; clear hK K) | (apply Exists.intro; refine ⟨fun _ => ?_, hK _ ?_⟩; (first | (go_at_call 36; exact bq (HOn.out _) (fun d => ⟨d, rfl⟩)) | (go_at_call 35; exact bq (HRe.out _) (fun d => ⟨d, rfl⟩)) | (go_at_call 34; exact bq (HHr.out _) (fun d => ⟨d, rfl⟩))); clear hK K)) | (refine wpM_special (fun K hK d => ?_); go_simp; refine hK _ _ (by first | exact lay_in w [_] _ | exact lay_in w [_, _] _ | exact lay_in w [_, _, _] _ | exact lay_in w [_, _, _, _] _ | exact lay_in w [_, _, _, _, _] _ | exact lay_in w [_, _, _, _, _, _] _) ?_; clear hK K))
    refine wpM_nil ?_
    intro d
    rw [lay_bw]
    go_wp2_with fail
    refine region_mixW [0, 0, 0, 0, 0, 0, 0, 0, 1, 1] (by kernel_rfl) (by kernel_rfl) (by kernel_rfl) ?_
    repeat (first | (refine wpM_quiet (fun K hK => ?_); go_simp; first | (refine hK _ ?_; clear hK K) | (apply Exists.intro; refine ⟨fun _ => ?_, hK _ ?_⟩; (first | (go_at_call 38; first | ((with_reducible refine bq (HCa.out _) ?_); exact (fun d => ⟨d, rfl⟩)) | ((with_reducible refine bq (HCb.out _) ?_); exact (fun d => ⟨d, rfl⟩))) | (go_at_call 34; exact bq (HHc.out _) (fun d => ⟨d, rfl⟩)) | (go_at_call 37; first | ((with_reducible refine bq (HM1.out _) ?_); exact (fun d => ⟨d, rfl⟩)) | ((with_reducible refine bq (HM2.out _) ?_); exact (fun d => ⟨d, rfl⟩)))); clear hK K)) | (refine wpM_special (fun K hK d => ?_); go_simp; refine hK _ _ (by first | exact lay_in w [_] _ | exact lay_in w [_, _] _ | exact lay_in w [_, _, _] _ | exact lay_in w [_, _, _, _] _ | exact lay_in w [_, _, _, _, _] _ | exact lay_in w [_, _, _, _, _, _] _) ?_; clear hK K))
    refine wpM_nil ?_
    intro d
    rw [lay_bw]
    go_wp2_with (first | (go_at_call 40; refine (HS.out _).mono ?_; rintro e w' ⟨rfl, d5, rfl⟩; rw [lay_bw]) | (go_at_call 39; refine (HA.out _).mono ?_; rintro e w' ⟨rfl, d6, rfl⟩; rw [lay_bw]))
    exact bodyPost_ret (v := .tuple #[(.agg #[.int .i64 (0), .int .i64 (0)]), .int .i64 12]) (by simp [results, Tryz.results8, go_sem]) rfl ⟨rfl, lay_ex _ _⟩
end Go.Proofs.YtakcfcekdngndaaGreat
