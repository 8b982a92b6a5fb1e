/- Contracts and plain laws, several texts in one: FgB -/
import Derived.Test.YtnnmfdeeicpdlaaGreatProg
import Derived.WalkKit
import Derived.WalkSpells
import Derived.WalkLawsBesides
import Derived.Lib.Hide
import Derived.BigQuiet
import Derived.Test.YtnnmfdeeicpdlaaGreatHAC
import Derived.Test.YtnnmfdeeicpdlaaGreatHAD
import Derived.Test.YtnnmfdeeicpdlaaGreatHAE
import Derived.Test.YtnnmfdeeicpdlaaGreatHBW
import Derived.Test.YtnnmfdeeicpdlaaGreatHBX
import Derived.Test.YtnnmfdeeicpdlaaGreatHBY
import Derived.Test.YtnnmfdeeicpdlaaGreatHBZ
/- The reference's Azimuth and Solve of a triangle, its Parallactic and Unknown. -/
namespace Go.Proofs.YtnnmfdeeicpdlaaGreat
set_option maxHeartbeats 4000000
set_option maxRecDepth 100000
open Go.RowKit

theorem r4_NegA (a0 a1 : Int) (w : World) (ha : fxB a0 a1 = true) :
    Calls Tryz.prog 200 #[(.agg #[.int .i64 (a0), .int .i64 (a1)])] w fun e w' => e = .returned (.agg #[.int .i64 (-a1), .int .i64 (-a0)]) ∧ ∃ d, w' = bw w d := by
  have hfa := fxB_iff.1 ha
  have k1 : IntKind.i64.wrap (-a1) = -a1 := IntWalk.i64_in _ (by omega)
  have k2 : IntKind.i64.wrap (-a0) = -a0 := IntWalk.i64_in _ (by omega)
  clear hfa ha
  refine lay_start ?_
  go_enter Tryz.func200, Tryz.ntmps200
  go_wp2_with fail
  exact bodyPost_ret (v := (.agg #[.int .i64 (-a1), .int .i64 (-a0)])) (by simp [results, Tryz.results200, go_sem]) rfl ⟨rfl, lay_ex _ _⟩
theorem r25_Azimuth (a0 a1 b0 b1 c0 c1 : Int) (w : World) (va : validB a0 a1 = true) (vb : validB b0 b1 = true) (vc : validB c0 c1 = true) :
    Calls Tryz.prog 176 #[(.agg #[.int .i64 (a0), .int .i64 (a1), .int .i64 (b0), .int .i64 (b1), .int .i64 (c0), .int .i64 (c1)])] w fun e w' => e = .returned (.agg #[.int .i64 ((azF a0 a1 b0 b1 c0 c1).1), .int .i64 ((azF a0 a1 b0 b1 c0 c1).2)]) ∧ ∃ d, w' = bw w d := by
  have u1 := sI_un a0 a1
  have u2 := cI_un a0 a1
  have u3 := sI_un b0 b1
  have u4 := cI_un b0 b1
  have u5 := sI_un c0 c1
  have u6 := cI_un c0 c1
  have m1 := u4.mul u5
  have m2 := u3.mul u2
  have m3 := u4.mul u6
  have m4 := m3.mul u1
  have hx : fxB (azX a0 a1 b0 b1 c0 c1).1 (azX a0 a1 b0 b1 c0 c1).2 = true := by
    obtain ⟨h1, h2, h3⟩ := m2
    obtain ⟨h4, h5, h6⟩ := m4
    unfold azX
    rw [fxB_iff]; dsimp only; omega
  have hy : fxB (azY b0 b1 c0 c1).1 (azY b0 b1 c0 c1).2 = true := by
    obtain ⟨h1, h2, h3⟩ := m1
    unfold azY
    rw [fxB_iff]; dsimp only; omega
  have HSa : Hid (∀ W, Calls _ _ #[(.agg #[.int .i64 (a0), .int .i64 (a1)])] W fun e w' => e = .returned (.agg #[.int .i64 (encL a0 a1), .int .i64 (encH a0 a1)]) ∧ _) := Lib.hid (fun W => r6_Sin _ _ va W)
  have HSb : Hid (∀ W, Calls _ _ #[(.agg #[.int .i64 (b0), .int .i64 (b1)])] W fun e w' => e = .returned (.agg #[.int .i64 (encL b0 b1), .int .i64 (encH b0 b1)]) ∧ _) := Lib.hid (fun W => r6_Sin _ _ vb W)
  have HSc : Hid (∀ W, Calls _ _ #[(.agg #[.int .i64 (c0), .int .i64 (c1)])] W fun e w' => e = .returned (.agg #[.int .i64 (encL c0 c1), .int .i64 (encH c0 c1)]) ∧ _) := Lib.hid (fun W => r6_Sin _ _ vc W)
  have HCa : Hid (∀ W, Calls _ _ #[(.agg #[.int .i64 (a0), .int .i64 (a1)])] W fun e w' => e = .returned (.agg #[.int .i64 (cosL a0 a1), .int .i64 (cosH a0 a1)]) ∧ _) := Lib.hid (fun W => r6_Cos _ _ va W)
  have HCb : Hid (∀ W, Calls _ _ #[(.agg #[.int .i64 (b0), .int .i64 (b1)])] W fun e w' => e = .returned (.agg #[.int .i64 (cosL b0 b1), .int .i64 (cosH b0 b1)]) ∧ _) := Lib.hid (fun W => r6_Cos _ _ vb W)
  have HCc : Hid (∀ W, Calls _ _ #[(.agg #[.int .i64 (c0), .int .i64 (c1)])] W fun e w' => e = .returned (.agg #[.int .i64 (cosL c0 c1), .int .i64 (cosH c0 c1)]) ∧ _) := Lib.hid (fun W => r6_Cos _ _ vc W)
  have HM1 : Hid (∀ W, Calls _ _ #[(.agg #[.int .i64 (cosL b0 b1), .int .i64 (cosH b0 b1)]), (.agg #[.int .i64 (encL c0 c1), .int .i64 (encH c0 c1)])] W fun e w' => e = .returned (.agg #[.int .i64 ((mL (cI b0 b1) (sI c0 c1)).1), .int .i64 ((mL (cI b0 b1) (sI c0 c1)).2)]) ∧ _) := Lib.hid (fun W => r25_Times (cosL b0 b1) (cosH b0 b1) (encL c0 c1) (encH c0 c1) W u4.fx u5.fx m1.fx)
  have HM2 : Hid (∀ W, Calls _ _ #[(.agg #[.int .i64 (encL b0 b1), .int .i64 (encH b0 b1)]), (.agg #[.int .i64 (cosL a0 a1), .int .i64 (cosH a0 a1)])] W fun e w' => e = .returned (.agg #[.int .i64 ((mL (sI b0 b1) (cI a0 a1)).1), .int .i64 ((mL (sI b0 b1) (cI a0 a1)).2)]) ∧ _) := Lib.hid (fun W => r25_Times (encL b0 b1) (encH b0 b1) (cosL a0 a1) (cosH a0 a1) W u3.fx u2.fx m2.fx)
  have HM3 : Hid (∀ W, Calls _ _ #[(.agg #[.int .i64 (cosL b0 b1), .int .i64 (cosH b0 b1)]), (.agg #[.int .i64 (cosL c0 c1), .int .i64 (cosH c0 c1)])] W fun e w' => e = .returned (.agg #[.int .i64 ((mL (cI b0 b1) (cI c0 c1)).1), .int .i64 ((mL (cI b0 b1) (cI c0 c1)).2)]) ∧ _) := Lib.hid (fun W => r25_Times (cosL b0 b1) (cosH b0 b1) (cosL c0 c1) (cosH c0 c1) W u4.fx u6.fx m3.fx)
  have HM4 : Hid (∀ W, Calls _ _ #[(.agg #[.int .i64 ((mL (cI b0 b1) (cI c0 c1)).1), .int .i64 ((mL (cI b0 b1) (cI c0 c1)).2)]), (.agg #[.int .i64 (encL a0 a1), .int .i64 (encH a0 a1)])] W fun e w' => e = .returned (.agg #[.int .i64 ((mL (mL (cI b0 b1) (cI c0 c1)) (sI a0 a1)).1), .int .i64 ((mL (mL (cI b0 b1) (cI c0 c1)) (sI a0 a1)).2)]) ∧ _) := Lib.hid (fun W => r25_Times ((mL (cI b0 b1) (cI c0 c1)).1) ((mL (cI b0 b1) (cI c0 c1)).2) (encL a0 a1) (encH a0 a1) W m3.fx u1.fx m4.fx)
  have HN : Hid (∀ W, Calls _ _ #[_] W fun e w' => e = .returned (.agg #[.int .i64 ((azY b0 b1 c0 c1).1), .int .i64 ((azY b0 b1 c0 c1).2)]) ∧ _) := Lib.hid (fun W => r4_NegA (mL (cI b0 b1) (sI c0 c1)).1 (mL (cI b0 b1) (sI c0 c1)).2 W m1.fx)
  have HD : Hid (∀ W, Calls _ _ #[_, _] W fun e w' => e = .returned (.agg #[.int .i64 ((azX a0 a1 b0 b1 c0 c1).1), .int .i64 ((azX a0 a1 b0 b1 c0 c1).2)]) ∧ _) := Lib.hid (fun W => r25_Minus (mL (sI b0 b1) (cI a0 a1)).1 (mL (sI b0 b1) (cI a0 a1)).2 (mL (mL (cI b0 b1) (cI c0 c1)) (sI a0 a1)).1 (mL (mL (cI b0 b1) (cI c0 c1)) (sI a0 a1)).2 W m2.fx m4.fx hx)
  have HB : Hid (∀ W, Calls _ _ #[_, _] W fun e w' => e = .returned (.tuple #[(.agg #[.int .i64 ((azF a0 a1 b0 b1 c0 c1).1), .int .i64 ((azF a0 a1 b0 b1 c0 c1).2)]), .int .i64 0]) ∧ _) := Lib.hid (fun W => r7_BearG (azY b0 b1 c0 c1).1 (azY b0 b1 c0 c1).2 (azX a0 a1 b0 b1 c0 c1).1 (azX a0 a1 b0 b1 c0 c1).2 hy hx W)
  clear hx hy u1 u2 u3 u4 u5 u6 m1 m2 m3 m4 va vb vc
  generalize (azF a0 a1 b0 b1 c0 c1).1 = u at *
  generalize (azF a0 a1 b0 b1 c0 c1).2 = v at *
  generalize (azX a0 a1 b0 b1 c0 c1).1 = x0 at *
  generalize (azX a0 a1 b0 b1 c0 c1).2 = x1 at *
  generalize (azY b0 b1 c0 c1).1 = y0 at *
  generalize (azY b0 b1 c0 c1).2 = y1 at *
  generalize (mL (mL (cI b0 b1) (cI c0 c1)) (sI a0 a1)).1 = g0 at *
  generalize (mL (mL (cI b0 b1) (cI c0 c1)) (sI a0 a1)).2 = g1 at *
  generalize (mL (cI b0 b1) (cI c0 c1)).1 = h0 at *
  generalize (mL (cI b0 b1) (cI c0 c1)).2 = h1 at *
  generalize (mL (sI b0 b1) (cI a0 a1)).1 = z0 at *
  generalize (mL (sI b0 b1) (cI a0 a1)).2 = z1 at *
  generalize (mL (cI b0 b1) (sI c0 c1)).1 = s0 at *
  generalize (mL (cI b0 b1) (sI c0 c1)).2 = s1 at *
  generalize encL a0 a1 = p1 at *
  generalize encH a0 a1 = q1 at *
  generalize encL b0 b1 = p2 at *
  generalize encH b0 b1 = q2 at *
  generalize encL c0 c1 = p3 at *
  generalize encH c0 c1 = q3 at *
  generalize cosL a0 a1 = r1 at *
  generalize cosH a0 a1 = t1 at *
  generalize cosL b0 b1 = r2 at *
  generalize cosH b0 b1 = t2 at *
  generalize cosL c0 c1 = r3 at *
  generalize cosH c0 c1 = t3 at *
  refine lay_start ?_
  go_enter Tryz.func176, Tryz.ntmps176
  go_wp2_with fail
  refine region_mixW [0, 0, 0, 0, 0, 0, 0, 0, 1, 1] (by kernel_rfl) (by kernel_rfl) (by kernel_rfl) ?_
  repeat (first | (refine wpM_quiet (fun K hK => ?_); go_simp; first | (refine hK _ ?_; clear hK K) | (apply Exists.intro; refine ⟨fun _ => ?_, hK _ ?_⟩; (first | (go_at_call 54; first | ((with_reducible refine bq (HSa.out _) ?_); first | exact (fun d => ⟨d, rfl⟩) | exact (fun d => lay_join _ _ _ d)) | ((with_reducible refine bq (HSb.out _) ?_); first | exact (fun d => ⟨d, rfl⟩) | exact (fun d => lay_join _ _ _ d)) | ((with_reducible refine bq (HSc.out _) ?_); first | exact (fun d => ⟨d, rfl⟩) | exact (fun d => lay_join _ _ _ d))) | (go_at_call 51; first | ((with_reducible refine bq (HCa.out _) ?_); first | exact (fun d => ⟨d, rfl⟩) | exact (fun d => lay_join _ _ _ d)) | ((with_reducible refine bq (HCb.out _) ?_); first | exact (fun d => ⟨d, rfl⟩) | exact (fun d => lay_join _ _ _ d)) | ((with_reducible refine bq (HCc.out _) ?_); first | exact (fun d => ⟨d, rfl⟩) | exact (fun d => lay_join _ _ _ d))) | (go_at_call 53; first | ((with_reducible refine bq (HM1.out _) ?_); first | exact (fun d => ⟨d, rfl⟩) | exact (fun d => lay_join _ _ _ d)) | ((with_reducible refine bq (HM2.out _) ?_); first | exact (fun d => ⟨d, rfl⟩) | exact (fun d => lay_join _ _ _ d)) | ((with_reducible refine bq (HM3.out _) ?_); first | exact (fun d => ⟨d, rfl⟩) | exact (fun d => lay_join _ _ _ d)) | ((with_reducible refine bq (HM4.out _) ?_); first | exact (fun d => ⟨d, rfl⟩) | exact (fun d => lay_join _ _ _ d))) | (go_at_call 200; first | ((with_reducible refine bq (HN.out _) ?_); first | exact (fun d => ⟨d, rfl⟩) | exact (fun d => lay_join _ _ _ d)))); clear hK K)) | (refine wpM_special (fun K hK d => ?_); go_simp; refine hK _ _ (by first | exact lay_in w [_] _ | exact lay_in w [_, _] _ | exact lay_in w [_, _, _] _ | exact lay_in w [_, _, _, _] _ | exact lay_in w [_, _, _, _, _] _ | exact lay_in w [_, _, _, _, _, _] _) ?_; clear hK K))
  refine wpM_nil ?_
  intro d
  rw [lay_bw]
  go_wp2_with fail
  refine region_mixW [0, 0, 0, 0, 0, 0, 0, 0, 0, 0, 0, 0, 0, 0, 0, 0, 0, 0, 0, 1, 1] (by kernel_rfl) (by kernel_rfl) (by kernel_rfl) ?_
  repeat (first | (refine wpM_quiet (fun K hK => ?_); go_simp; first | (refine hK _ ?_; clear hK K) | (apply Exists.intro; refine ⟨fun _ => ?_, hK _ ?_⟩; (first | (go_at_call 54; first | ((with_reducible refine bq (HSa.out _) ?_); first | exact (fun d => ⟨d, rfl⟩) | exact (fun d => lay_join _ _ _ d)) | ((with_reducible refine bq (HSb.out _) ?_); first | exact (fun d => ⟨d, rfl⟩) | exact (fun d => lay_join _ _ _ d)) | ((with_reducible refine bq (HSc.out _) ?_); first | exact (fun d => ⟨d, rfl⟩) | exact (fun d => lay_join _ _ _ d))) | (go_at_call 51; first | ((with_reducible refine bq (HCa.out _) ?_); first | exact (fun d => ⟨d, rfl⟩) | exact (fun d => lay_join _ _ _ d)) | ((with_reducible refine bq (HCb.out _) ?_); first | exact (fun d => ⟨d, rfl⟩) | exact (fun d => lay_join _ _ _ d)) | ((with_reducible refine bq (HCc.out _) ?_); first | exact (fun d => ⟨d, rfl⟩) | exact (fun d => lay_join _ _ _ d))) | (go_at_call 53; first | ((with_reducible refine bq (HM1.out _) ?_); first | exact (fun d => ⟨d, rfl⟩) | exact (fun d => lay_join _ _ _ d)) | ((with_reducible refine bq (HM2.out _) ?_); first | exact (fun d => ⟨d, rfl⟩) | exact (fun d => lay_join _ _ _ d)) | ((with_reducible refine bq (HM3.out _) ?_); first | exact (fun d => ⟨d, rfl⟩) | exact (fun d => lay_join _ _ _ d)) | ((with_reducible refine bq (HM4.out _) ?_); first | exact (fun d => ⟨d, rfl⟩) | exact (fun d => lay_join _ _ _ d))) | (go_at_call 86; first | ((with_reducible refine bq (HD.out _) ?_); first | exact (fun d => ⟨d, rfl⟩) | exact (fun d => lay_join _ _ _ d)))); clear hK K)) | (refine wpM_special (fun K hK d => ?_); go_simp; refine hK _ _ (by first | exact lay_in w [_] _ | exact lay_in w [_, _] _ | exact lay_in w [_, _, _] _ | exact lay_in w [_, _, _, _] _ | exact lay_in w [_, _, _, _, _] _ | exact lay_in w [_, _, _, _, _, _] _) ?_; clear hK K))
  refine wpM_nil ?_
  intro d
  rw [lay_bw]
  go_wp2_with (go_at_call 52; refine (HB.out _).mono ?_; rintro e w' ⟨rfl, d3, rfl⟩; rw [lay_bw])
  exact bodyPost_ret (v := (.agg #[.int .i64 (u), .int .i64 (v)])) (by simp [results, Tryz.results176, go_sem]) rfl ⟨rfl, lay_ex _ _⟩
theorem r25_Solve (a0 a1 b0 b1 c0 c1 : Int) (w : World) (h : triB a0 a1 b0 b1 c0 c1 = true) :
    Calls Tryz.prog 89 #[(.agg #[.int .i64 (a0), .int .i64 (a1), .int .i64 (b0), .int .i64 (b1), .int .i64 (c0), .int .i64 (c1)])] w fun e w' => e = .returned (.agg #[.int .i64 (alL a0 a1 b0 b1 c0 c1), .int .i64 (alH a0 a1 b0 b1 c0 c1), .int .i64 ((azF a0 a1 b0 b1 c0 c1).1), .int .i64 ((azF a0 a1 b0 b1 c0 c1).2)]) ∧ ∃ d, w' = bw w d := by
  unfold triB at h
  simp only [Bool.and_eq_true] at h
  have HA : Hid (∀ W, Calls _ _ _ W fun e w' => e = .returned (.agg #[.int .i64 (alL a0 a1 b0 b1 c0 c1), .int .i64 (alH a0 a1 b0 b1 c0 c1)]) ∧ _) := Lib.hid (fun W => r25_Altitude a0 a1 b0 b1 c0 c1 W (lat_valid h.1.1) (lat_valid h.1.2) h.2)
  have HZ := Lib.hid (fun W => r25_Azimuth a0 a1 b0 b1 c0 c1 W (lat_valid h.1.1) (lat_valid h.1.2) h.2)
  generalize alL a0 a1 b0 b1 c0 c1 = p at *
  generalize alH a0 a1 b0 b1 c0 c1 = q at *
  generalize (azF a0 a1 b0 b1 c0 c1).1 = u at *
  generalize (azF a0 a1 b0 b1 c0 c1).2 = v at *
  clear h
  refine lay_start ?_
  go_enter Tryz.func89, Tryz.ntmps89
  go_wp2_with fail
  refine region_bw_tail 5 (by kernel_rfl) (by kernel_rfl) ?_
  simp only [List.take_succ_cons, List.take_zero, List.drop_succ_cons, List.drop_zero]
  repeat (go_big_quiet_step ((first | (go_at_call 175; first | ((with_reducible refine bq (HA.out _) ?_); first | exact (fun d => lay_join _ _ _ d) | exact (fun d => ⟨d, rfl⟩))) | (go_at_call 176; first | ((with_reducible refine bq (HZ.out _) ?_); first | exact (fun d => lay_join _ _ _ d) | exact (fun d => ⟨d, rfl⟩))))))
  refine wpQuiet_nil ?_
  rintro w' ⟨d, rfl⟩
  rw [lay_bw]
  go_wp2_with fail
  exact bodyPost_ret (v := (.agg #[.int .i64 (p), .int .i64 (q), .int .i64 (u), .int .i64 (v)])) (by simp [results, Tryz.results89, go_sem]) rfl ⟨rfl, lay_ex _ _⟩
theorem r51_Parallactic (a0 a1 b0 b1 c0 c1 : Int) (w : World) (h : triB a0 a1 b0 b1 c0 c1 = true) :
    Calls Tryz.prog 18 #[(.agg #[.int .i64 (a0), .int .i64 (a1), .int .i64 (b0), .int .i64 (b1), .int .i64 (c0), .int .i64 (c1)])] w fun e w' => e = .returned (.agg #[.int .i64 ((paF a0 a1 b0 b1 c0 c1).1), .int .i64 ((paF a0 a1 b0 b1 c0 c1).2)]) ∧ ∃ d, w' = bw w d := by
  unfold triB at h
  simp only [Bool.and_eq_true] at h
  have va := lat_valid h.1.1
  have vb := lat_valid h.1.2
  have vc := h.2
  have u1 := sI_un a0 a1
  have u2 := cI_un a0 a1
  have u3 := sI_un b0 b1
  have u4 := cI_un b0 b1
  have u5 := sI_un c0 c1
  have u6 := cI_un c0 c1
  have m1 := u2.mul u5
  have m2 := u1.mul u4
  have m3 := u2.mul u6
  have m4 := m3.mul u3
  have hx : fxB (paX a0 a1 b0 b1 c0 c1).1 (paX a0 a1 b0 b1 c0 c1).2 = true := by
    obtain ⟨h1, h2, h3⟩ := m2
    obtain ⟨h4, h5, h6⟩ := m4
    unfold paX
    rw [fxB_iff]; dsimp only; omega
  have HSa : Hid (∀ W, Calls _ _ #[(.agg #[.int .i64 (a0), .int .i64 (a1)])] W fun e w' => e = .returned (.agg #[.int .i64 (encL a0 a1), .int .i64 (encH a0 a1)]) ∧ _) := Lib.hid (fun W => r6_Sin _ _ va W)
  have HSb : Hid (∀ W, Calls _ _ #[(.agg #[.int .i64 (b0), .int .i64 (b1)])] W fun e w' => e = .returned (.agg #[.int .i64 (encL b0 b1), .int .i64 (encH b0 b1)]) ∧ _) := Lib.hid (fun W => r6_Sin _ _ vb W)
  have HSc : Hid (∀ W, Calls _ _ #[(.agg #[.int .i64 (c0), .int .i64 (c1)])] W fun e w' => e = .returned (.agg #[.int .i64 (encL c0 c1), .int .i64 (encH c0 c1)]) ∧ _) := Lib.hid (fun W => r6_Sin _ _ vc W)
  have HCa : Hid (∀ W, Calls _ _ #[(.agg #[.int .i64 (a0), .int .i64 (a1)])] W fun e w' => e = .returned (.agg #[.int .i64 (cosL a0 a1), .int .i64 (cosH a0 a1)]) ∧ _) := Lib.hid (fun W => r6_Cos _ _ va W)
  have HCb : Hid (∀ W, Calls _ _ #[(.agg #[.int .i64 (b0), .int .i64 (b1)])] W fun e w' => e = .returned (.agg #[.int .i64 (cosL b0 b1), .int .i64 (cosH b0 b1)]) ∧ _) := Lib.hid (fun W => r6_Cos _ _ vb W)
  have HCc : Hid (∀ W, Calls _ _ #[(.agg #[.int .i64 (c0), .int .i64 (c1)])] W fun e w' => e = .returned (.agg #[.int .i64 (cosL c0 c1), .int .i64 (cosH c0 c1)]) ∧ _) := Lib.hid (fun W => r6_Cos _ _ vc W)
  have HM1 : Hid (∀ W, Calls _ _ #[(.agg #[.int .i64 (cosL a0 a1), .int .i64 (cosH a0 a1)]), (.agg #[.int .i64 (encL c0 c1), .int .i64 (encH c0 c1)])] W fun e w' => e = .returned (.agg #[.int .i64 ((mL (cI a0 a1) (sI c0 c1)).1), .int .i64 ((mL (cI a0 a1) (sI c0 c1)).2)]) ∧ _) := Lib.hid (fun W => r25_Times (cosL a0 a1) (cosH a0 a1) (encL c0 c1) (encH c0 c1) W u2.fx u5.fx m1.fx)
  have HM2 : Hid (∀ W, Calls _ _ #[(.agg #[.int .i64 (encL a0 a1), .int .i64 (encH a0 a1)]), (.agg #[.int .i64 (cosL b0 b1), .int .i64 (cosH b0 b1)])] W fun e w' => e = .returned (.agg #[.int .i64 ((mL (sI a0 a1) (cI b0 b1)).1), .int .i64 ((mL (sI a0 a1) (cI b0 b1)).2)]) ∧ _) := Lib.hid (fun W => r25_Times (encL a0 a1) (encH a0 a1) (cosL b0 b1) (cosH b0 b1) W u1.fx u4.fx m2.fx)
  have HM3 : Hid (∀ W, Calls _ _ #[(.agg #[.int .i64 (cosL a0 a1), .int .i64 (cosH a0 a1)]), (.agg #[.int .i64 (cosL c0 c1), .int .i64 (cosH c0 c1)])] W fun e w' => e = .returned (.agg #[.int .i64 ((mL (cI a0 a1) (cI c0 c1)).1), .int .i64 ((mL (cI a0 a1) (cI c0 c1)).2)]) ∧ _) := Lib.hid (fun W => r25_Times (cosL a0 a1) (cosH a0 a1) (cosL c0 c1) (cosH c0 c1) W u2.fx u6.fx m3.fx)
  have HM4 : Hid (∀ W, Calls _ _ #[(.agg #[.int .i64 ((mL (cI a0 a1) (cI c0 c1)).1), .int .i64 ((mL (cI a0 a1) (cI c0 c1)).2)]), (.agg #[.int .i64 (encL b0 b1), .int .i64 (encH b0 b1)])] W fun e w' => e = .returned (.agg #[.int .i64 ((mL (mL (cI a0 a1) (cI c0 c1)) (sI b0 b1)).1), .int .i64 ((mL (mL (cI a0 a1) (cI c0 c1)) (sI b0 b1)).2)]) ∧ _) := Lib.hid (fun W => r25_Times ((mL (cI a0 a1) (cI c0 c1)).1) ((mL (cI a0 a1) (cI c0 c1)).2) (encL b0 b1) (encH b0 b1) W m3.fx u3.fx m4.fx)
  have HD : Hid (∀ W, Calls _ _ #[_, _] W fun e w' => e = .returned (.agg #[.int .i64 ((paX a0 a1 b0 b1 c0 c1).1), .int .i64 ((paX a0 a1 b0 b1 c0 c1).2)]) ∧ _) := Lib.hid (fun W => r25_Minus (mL (sI a0 a1) (cI b0 b1)).1 (mL (sI a0 a1) (cI b0 b1)).2 (mL (mL (cI a0 a1) (cI c0 c1)) (sI b0 b1)).1 (mL (mL (cI a0 a1) (cI c0 c1)) (sI b0 b1)).2 W m2.fx m4.fx hx)
  have HB : Hid (∀ W, Calls _ _ #[(.agg #[.int .i64 ((mL (cI a0 a1) (sI c0 c1)).1), .int .i64 ((mL (cI a0 a1) (sI c0 c1)).2)]), _] W fun e w' => e = .returned (.tuple #[(.agg #[.int .i64 ((paF a0 a1 b0 b1 c0 c1).1), .int .i64 ((paF a0 a1 b0 b1 c0 c1).2)]), .int .i64 0]) ∧ _) := Lib.hid (fun W => r7_BearG (paY a0 a1 c0 c1).1 (paY a0 a1 c0 c1).2 (paX a0 a1 b0 b1 c0 c1).1 (paX a0 a1 b0 b1 c0 c1).2 m1.fx hx W)
  clear hx u1 u2 u3 u4 u5 u6 m1 m2 m3 m4 va vb vc h
  generalize (paF a0 a1 b0 b1 c0 c1).1 = u at *
  generalize (paF a0 a1 b0 b1 c0 c1).2 = v at *
  generalize (paX a0 a1 b0 b1 c0 c1).1 = x0 at *
  generalize (paX a0 a1 b0 b1 c0 c1).2 = x1 at *
  generalize (mL (mL (cI a0 a1) (cI c0 c1)) (sI b0 b1)).1 = g0 at *
  generalize (mL (mL (cI a0 a1) (cI c0 c1)) (sI b0 b1)).2 = g1 at *
  generalize (mL (cI a0 a1) (cI c0 c1)).1 = h0 at *
  generalize (mL (cI a0 a1) (cI c0 c1)).2 = h1 at *
  generalize (mL (sI a0 a1) (cI b0 b1)).1 = z0 at *
  generalize (mL (sI a0 a1) (cI b0 b1)).2 = z1 at *
  generalize (mL (cI a0 a1) (sI c0 c1)).1 = s0 at *
  generalize (mL (cI a0 a1) (sI c0 c1)).2 = s1 at *
  generalize encL a0 a1 = p1 at *
  generalize encH a0 a1 = q1 at *
  generalize encL b0 b1 = p2 at *
  generalize encH b0 b1 = q2 at *
  generalize encL c0 c1 = p3 at *
  generalize encH c0 c1 = q3 at *
  generalize cosL a0 a1 = r1 at *
  generalize cosH a0 a1 = t1 at *
  generalize cosL b0 b1 = r2 at *
  generalize cosH b0 b1 = t2 at *
  generalize cosL c0 c1 = r3 at *
  generalize cosH c0 c1 = t3 at *
  refine lay_start ?_
  go_enter Tryz.func18, Tryz.ntmps18
  go_wp2_with fail
  refine region_mixW [0, 0, 0, 0, 0, 0, 0, 1, 1] (by kernel_rfl) (by kernel_rfl) (by kernel_rfl) ?_
  repeat (first | (refine wpM_quiet (fun K hK => ?_); go_simp; first | (refine hK _ ?_; clear hK K) | (apply Exists.intro; refine ⟨fun _ => ?_, hK _ ?_⟩; (first | (go_at_call 54; first | ((with_reducible refine bq (HSa.out _) ?_); first | exact (fun d => ⟨d, rfl⟩) | exact (fun d => lay_join _ _ _ d)) | ((with_reducible refine bq (HSb.out _) ?_); first | exact (fun d => ⟨d, rfl⟩) | exact (fun d => lay_join _ _ _ d)) | ((with_reducible refine bq (HSc.out _) ?_); first | exact (fun d => ⟨d, rfl⟩) | exact (fun d => lay_join _ _ _ d))) | (go_at_call 51; first | ((with_reducible refine bq (HCa.out _) ?_); first | exact (fun d => ⟨d, rfl⟩) | exact (fun d => lay_join _ _ _ d)) | ((with_reducible refine bq (HCb.out _) ?_); first | exact (fun d => ⟨d, rfl⟩) | exact (fun d => lay_join _ _ _ d)) | ((with_reducible refine bq (HCc.out _) ?_); first | exact (fun d => ⟨d, rfl⟩) | exact (fun d => lay_join _ _ _ d))) | (go_at_call 53; first | ((with_reducible refine bq (HM1.out _) ?_); first | exact (fun d => ⟨d, rfl⟩) | exact (fun d => lay_join _ _ _ d)) | ((with_reducible refine bq (HM2.out _) ?_); first | exact (fun d => ⟨d, rfl⟩) | exact (fun d => lay_join _ _ _ d)) | ((with_reducible refine bq (HM3.out _) ?_); first | exact (fun d => ⟨d, rfl⟩) | exact (fun d => lay_join _ _ _ d)) | ((with_reducible refine bq (HM4.out _) ?_); first | exact (fun d => ⟨d, rfl⟩) | exact (fun d => lay_join _ _ _ d)))); clear hK K)) | (refine wpM_special (fun K hK d => ?_); go_simp; refine hK _ _ (by first | exact lay_in w [_] _ | exact lay_in w [_, _] _ | exact lay_in w [_, _, _] _ | exact lay_in w [_, _, _, _] _ | exact lay_in w [_, _, _, _, _] _ | exact lay_in w [_, _, _, _, _, _] _) ?_; clear hK K))
  refine wpM_nil ?_
  intro d
  rw [lay_bw]
  go_wp2_with fail
  refine region_mixW [0, 0, 0, 0, 0, 0, 0, 1, 1] (by kernel_rfl) (by kernel_rfl) (by kernel_rfl) ?_
  repeat (first | (refine wpM_quiet (fun K hK => ?_); go_simp; first | (refine hK _ ?_; clear hK K) | (apply Exists.intro; refine ⟨fun _ => ?_, hK _ ?_⟩; (first | (go_at_call 54; first | ((with_reducible refine bq (HSa.out _) ?_); first | exact (fun d => ⟨d, rfl⟩) | exact (fun d => lay_join _ _ _ d)) | ((with_reducible refine bq (HSb.out _) ?_); first | exact (fun d => ⟨d, rfl⟩) | exact (fun d => lay_join _ _ _ d)) | ((with_reducible refine bq (HSc.out _) ?_); first | exact (fun d => ⟨d, rfl⟩) | exact (fun d => lay_join _ _ _ d))) | (go_at_call 51; first | ((with_reducible refine bq (HCa.out _) ?_); first | exact (fun d => ⟨d, rfl⟩) | exact (fun d => lay_join _ _ _ d)) | ((with_reducible refine bq (HCb.out _) ?_); first | exact (fun d => ⟨d, rfl⟩) | exact (fun d => lay_join _ _ _ d)) | ((with_reducible refine bq (HCc.out _) ?_); first | exact (fun d => ⟨d, rfl⟩) | exact (fun d => lay_join _ _ _ d))) | (go_at_call 53; first | ((with_reducible refine bq (HM1.out _) ?_); first | exact (fun d => ⟨d, rfl⟩) | exact (fun d => lay_join _ _ _ d)) | ((with_reducible refine bq (HM2.out _) ?_); first | exact (fun d => ⟨d, rfl⟩) | exact (fun d => lay_join _ _ _ d)) | ((with_reducible refine bq (HM3.out _) ?_); first | exact (fun d => ⟨d, rfl⟩) | exact (fun d => lay_join _ _ _ d)) | ((with_reducible refine bq (HM4.out _) ?_); first | exact (fun d => ⟨d, rfl⟩) | exact (fun d => lay_join _ _ _ d)))); clear hK K)) | (refine wpM_special (fun K hK d => ?_); go_simp; refine hK _ _ (by first | exact lay_in w [_] _ | exact lay_in w [_, _] _ | exact lay_in w [_, _, _] _ | exact lay_in w [_, _, _, _] _ | exact lay_in w [_, _, _, _, _] _ | exact lay_in w [_, _, _, _, _, _] _) ?_; clear hK K))
  refine wpM_nil ?_
  intro d
  rw [lay_bw]
  go_wp2_with fail
  refine region_mixW [0, 0, 0, 0, 0, 0, 0, 0, 0, 0, 0, 1, 1] (by kernel_rfl) (by kernel_rfl) (by kernel_rfl) ?_
  repeat (first | (refine wpM_quiet (fun K hK => ?_); go_simp; first | (refine hK _ ?_; clear hK K) | (apply Exists.intro; refine ⟨fun _ => ?_, hK _ ?_⟩; (first | (go_at_call 54; first | ((with_reducible refine bq (HSa.out _) ?_); first | exact (fun d => ⟨d, rfl⟩) | exact (fun d => lay_join _ _ _ d)) | ((with_reducible refine bq (HSb.out _) ?_); first | exact (fun d => ⟨d, rfl⟩) | exact (fun d => lay_join _ _ _ d)) | ((with_reducible refine bq (HSc.out _) ?_); first | exact (fun d => ⟨d, rfl⟩) | exact (fun d => lay_join _ _ _ d))) | (go_at_call 51; first | ((with_reducible refine bq (HCa.out _) ?_); first | exact (fun d => ⟨d, rfl⟩) | exact (fun d => lay_join _ _ _ d)) | ((with_reducible refine bq (HCb.out _) ?_); first | exact (fun d => ⟨d, rfl⟩) | exact (fun d => lay_join _ _ _ d)) | ((with_reducible refine bq (HCc.out _) ?_); first | exact (fun d => ⟨d, rfl⟩) | exact (fun d => lay_join _ _ _ d))) | (go_at_call 53; first | ((with_reducible refine bq (HM1.out _) ?_); first | exact (fun d => ⟨d, rfl⟩) | exact (fun d => lay_join _ _ _ d)) | ((with_reducible refine bq (HM2.out _) ?_); first | exact (fun d => ⟨d, rfl⟩) | exact (fun d => lay_join _ _ _ d)) | ((with_reducible refine bq (HM3.out _) ?_); first | exact (fun d => ⟨d, rfl⟩) | exact (fun d => lay_join _ _ _ d)) | ((with_reducible refine bq (HM4.out _) ?_); first | exact (fun d => ⟨d, rfl⟩) | exact (fun d => lay_join _ _ _ d)))); clear hK K)) | (refine wpM_special (fun K hK d => ?_); go_simp; refine hK _ _ (by first | exact lay_in w [_] _ | exact lay_in w [_, _] _ | exact lay_in w [_, _, _] _ | exact lay_in w [_, _, _, _] _ | exact lay_in w [_, _, _, _, _] _ | exact lay_in w [_, _, _, _, _, _] _) ?_; clear hK K))
  refine wpM_nil ?_
  intro d
  rw [lay_bw]
  go_wp2_with fail
  refine region_mixW [0, 0, 0, 0, 0, 0, 0, 0, 1, 1, 0] (by kernel_rfl) (by kernel_rfl) (by kernel_rfl) ?_
  repeat (first | (refine wpM_quiet (fun K hK => ?_); go_simp; first | (refine hK _ ?_; clear hK K) | (apply Exists.intro; refine ⟨fun _ => ?_, hK _ ?_⟩; (first | (go_at_call 86; first | ((with_reducible refine bq (HD.out _) ?_); first | exact (fun d => ⟨d, rfl⟩) | exact (fun d => lay_join _ _ _ d))) | (go_at_call 52; first | ((with_reducible refine bq (HB.out _) ?_); first | exact (fun d => ⟨d, rfl⟩) | exact (fun d => lay_join _ _ _ d)))); clear hK K)) | (refine wpM_special (fun K hK d => ?_); go_simp; refine hK _ _ (by first | exact lay_in w [_] _ | exact lay_in w [_, _] _ | exact lay_in w [_, _, _] _ | exact lay_in w [_, _, _, _] _ | exact lay_in w [_, _, _, _, _] _ | exact lay_in w [_, _, _, _, _, _] _) ?_; clear hK K))
  refine wpM_nil ?_
  intro d
  rw [lay_bw]
  go_wp2_with fail
  exact bodyPost_ret (v := (.agg #[.int .i64 (u), .int .i64 (v)])) (by simp [results, Tryz.results18, go_sem]) rfl ⟨rfl, lay_ex _ _⟩
end Go.Proofs.YtnnmfdeeicpdlaaGreat
