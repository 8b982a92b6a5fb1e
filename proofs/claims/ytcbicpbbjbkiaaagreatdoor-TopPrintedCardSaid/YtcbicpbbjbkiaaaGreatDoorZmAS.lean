/- Contracts and plain laws, several texts in one: TqJ -/
import Derived.Test.YtcbicpbbjbkiaaaGreatDoorProg
import Derived.WalkKit
import Derived.WalkSpells
import Derived.WalkLawsBesides
import Derived.Lib.Hide
import Derived.BigQuiet
import Derived.Test.YtcbicpbbjbkiaaaGreatDoorZmAA
import Derived.Test.YtcbicpbbjbkiaaaGreatDoorZmAC
import Derived.Test.YtcbicpbbjbkiaaaGreatDoorZmAE
import Derived.Test.YtcbicpbbjbkiaaaGreatDoorZmAQ
namespace Go.Proofs.YtcbicpbbjbkiaaaGreatDoor
set_option maxHeartbeats 8000000
set_option maxRecDepth 100000
open Go.RowKit

def WorkP (w : World) (en : Ending) (w' : World) : Prop := (∃ i0 i1 d0 d1 r0 r1 p0 p1 s0 s1 a0 a1 o0 o1 k : Int, (k = 0 → PrA a0 a1 ∧ PrA o0 o1 ∧ PrA r0 r1 ∧ PrA d0 d1) ∧ (0 ≤ k ∧ k ≤ 100) ∧ en = .returned (.tuple #[(.agg #[.int .i64 (i0), .int .i64 (i1), .int .i64 (d0), .int .i64 (d1), .int .i64 (r0), .int .i64 (r1), .int .i64 (p0), .int .i64 (p1), .int .i64 (s0), .int .i64 (s1), .int .i64 (a0), .int .i64 (a1), .int .i64 (o0), .int .i64 (o1)]), .int .i64 k])) ∧ ∃ d, w' = bw w d
theorem work_end {k4 E1 E2 E3 H0 H1 R0 R1 Q0 Q1 S0 S1 X1 Y1 X2 Y2 X3 Y3 : Int} (h : kpE (kpE (kpE k4 E1) E2) E3 = 0) (hk : k4 = 0 → True ∧ (Wi 5000000000 R0 ∧ Wi 5000000000 R1) ∧ (Wi 200000 Q0 ∧ Wi 200000 Q1) ∧ (Wi 400000 S0 ∧ Wi 400000 S1))
  (hx : (E1 = 0 → (validB H0 H1 = true ∧ validB R0 R1 = true) ∧ X1 = H0 - R1 ∧ Y1 = H1 - R0 ∧ (-1099511627776 ≤ H0 - R1 ∧ H0 - R1 ≤ 1099511627776) ∧ (-1099511627776 ≤ H1 - R0 ∧ H1 - R0 ≤ 1099511627776)) ∧ (E2 = 0 → (validB X1 Y1 = true ∧ validB Q0 Q1 = true) ∧ X2 = X1 + Q0 ∧ Y2 = Y1 + Q1 ∧ (-1099511627776 ≤ X1 + Q0 ∧ X1 + Q0 ≤ 1099511627776) ∧ (-1099511627776 ≤ Y1 + Q1 ∧ Y1 + Q1 ≤ 1099511627776)) ∧ (E3 = 0 → (validB X2 Y2 = true ∧ validB S0 S1 = true) ∧ X3 = X2 + S0 ∧ Y3 = Y2 + S1 ∧ (-1099511627776 ≤ X2 + S0 ∧ X2 + S0 ≤ 1099511627776) ∧ (-1099511627776 ≤ Y2 + S1 ∧ Y2 + S1 ≤ 1099511627776)))
  (hh : -60000 ≤ H0 ∧ H0 ≤ H1 ∧ H1 ≤ 5400000) : PrA X3 Y3 ∧ PrA R0 R1 := by
 rw [kpE_iff, kpE_iff, kpE_iff] at h
 obtain ⟨⟨⟨h0, h1⟩, h2⟩, h3⟩ := h
 obtain ⟨-, ⟨r0, r1⟩, ⟨q0, q1⟩, s0, s1⟩ := hk h0
 obtain ⟨⟨-, v1⟩, a1, a2, -⟩ := hx.1 h1
 obtain ⟨⟨-, v2⟩, b1, b2, -⟩ := hx.2.1 h2
 obtain ⟨⟨-, v3⟩, c1, c2, -⟩ := hx.2.2 h3
 have v1 := (validB_iff.1 v1).1
 have v2 := (validB_iff.1 v2).1
 have v3 := (validB_iff.1 v3).1
 unfold Wi at *
 unfold PrA
 omega
theorem dip_end {D0 D1 : Int} (h : Wi 90000000000 D0 ∧ Wi 90000000000 D1) (hv : validB D0 D1 = true) : PrA D0 D1 := by
 have := (validB_iff.1 hv).1
 unfold Wi at h
 unfold PrA
 omega
theorem work_bd {k4 E1 E2 E3 K : Int} (h : kpE (kpE (kpE k4 E1) E2) E3 = K) (hk : 0 ≤ k4 ∧ k4 ≤ 100) (he : (0 ≤ E1 ∧ E1 ≤ 100) ∧ (0 ≤ E2 ∧ E2 ≤ 100) ∧ (0 ≤ E3 ∧ E3 ≤ 100)) : 0 ≤ K ∧ K ≤ 100 := by
 rw [← h]
 exact ⟨kpE_bd.1 (kpE_bd.1 (kpE_bd.1 hk.1 he.1.1) he.2.1.1) he.2.2.1, kpE_bd.2 (kpE_bd.2 (kpE_bd.2 hk.2 he.1.2) he.2.1.2) he.2.2.2⟩
theorem cor_WorkA (ix : Int) (v : Value) (l : List ErV) (s : ByteArray) (lm t0 t1 hs by_ hzn ey sh tp pr g0 g1 c0 c1 m0 m1 p0 p1 : Int) (w : World) (hv : SlG eR w v l) (hb : s.size ≤ 9223372036854775807) (hz : hzn = 2) :
  Calls Tryz.prog 5 #[.agg #[.int .i64 ix, v], .agg #[.string s, .int .i64 lm, .int .i64 t0, .int .i64 t1, .int .i64 hs, .int .i64 by_, .int .i64 hzn, .int .i64 ey, .int .i64 sh, .int .i64 tp, .int .i64 pr], .agg #[.int .i64 g0, .int .i64 g1, .int .i64 c0, .int .i64 c1, .int .i64 m0, .int .i64 m1, .int .i64 p0, .int .i64 p1]] w (WorkP w) := by
 have HZn := Lib.hid hz
 clear hz
 obtain ⟨a, cc, rfl⟩ := hv.form
 have HG := Lib.hid (fun L => cor_given ix _ l s lm t0 t1 hs by_ hzn ey sh tp pr g0 g1 c0 c1 m0 m1 p0 p1 (lay w L) (hv.lay L) hb)
 have HC := Lib.hid (fun L => inst_Correction ix hs _ l (lay w L) (hv.lay L))
 have HV := Lib.hid hv
 clear hv hb
 generalize l.length = m at *
 refine lay_start ?_
 go_enter Tryz.func5, Tryz.ntmps5
 go_wp2_with fail
 refine (HG.out _).mono ?_
 rintro en w' ⟨⟨q, rfl, hq⟩, dg, rfl⟩
 rw [lay_bw]
 have HQ := Lib.hid hq
 clear hq
 cases q
 ·go_wp2_with fail
  exact bodyPost_ret (v := .tuple #[(.agg #[.int .i64 (0), .int .i64 (0), .int .i64 (0), .int .i64 (0), .int .i64 (0), .int .i64 (0), .int .i64 (0), .int .i64 (0), .int .i64 (0), .int .i64 (0), .int .i64 (0), .int .i64 (0), .int .i64 (0), .int .i64 (0)]), .int .i64 1]) (by simp [results, Tryz.results5, go_sem]) rfl ⟨⟨0, 0, 0, 0, 0, 0, 0, 0, 0, 0, 0, 0, 0, 0, 1, fun h => absurd h (by decide), by decide, rfl⟩, lay_ex _ _⟩
 ·obtain ⟨-, hSg, hM, hP⟩ := HQ.out rfl
  have HSg := Lib.hid hSg
  have HSm := Lib.hid (And.intro hM hP)
  clear hSg hM hP HG HQ
  go_wp2_with fail
  refine (HC.out _).mono ?_
  rintro en w' ⟨⟨x0, x1, e1, -, he1, -, rfl⟩, d1, rfl⟩
  rw [lay_bw]
  have HE1 := Lib.hid he1
  clear he1 HC
  go_wp2_with fail
  refine (cor_arc _ x0 x1 e1 0 _ (by simp [go_sem]; unfold posn; simp; omega) (by simp [go_sem]) (by simp [go_sem])).mono ?_
  rintro en w' ⟨rfl, d2, rfl⟩
  rw [kpE_def, kpE_z]
  go_wp2_with fail
  refine (inst_Apply ix hs by_ _ l _ (HV.out.lay _) HSg.out.1 HSg.out.2).mono ?_
  rintro en w' ⟨⟨y0, y1, e2, hy, he2, hy2, rfl⟩, d3, rfl⟩
  rw [lay_bw]
  have HE2 := Lib.hid he2
  have hyb : (-240010000000 ≤ y0 ∧ y0 ≤ 240010000000) ∧ (-240010000000 ≤ y1 ∧ y1 ≤ 240010000000) := by
   by_cases hz : e2 = 0
   ·exact hy hz
   ·obtain ⟨rfl, rfl⟩ := hy2 hz; omega
  have HYB := Lib.hid hyb
  clear he2 hy hy2 hyb HV
  go_wp2_with fail
  refine (cor_arc _ y0 y1 e2 e1 _ (by simp [go_sem]; unfold posn; simp; omega) (by simp [go_sem]) (by simp [go_sem])).mono ?_
  rintro en w' ⟨rfl, d4, rfl⟩
  rw [kpE_def]
  obtain ⟨K2, hK2⟩ : ∃ K2, kpE e1 e2 = K2 := ⟨_, rfl⟩
  rw [hK2]
  have HK2 := Lib.hid hK2
  clear hK2
  have z2 : (hzn == 2) = true := by rw [HZn.out]; rfl
  have HCe := Lib.hid (fun W => cor_ceil y1 (by have := HYB.out; omega) W)
  obtain ⟨A0, hA0⟩ : ∃ A0, A0 = y0 / 2 := ⟨_, rfl⟩
  obtain ⟨A1, hA1⟩ : ∃ A1, A1 = -((-y1) / 2) := ⟨_, rfl⟩
  rw [← hA1] at HCe
  have HA0 : Hid (y0 / 2 = A0) := Lib.hid hA0.symm
  clear hA0 hA1
  go_wp2_with fail
  refine region_bw_tail 7 (by kernel_rfl) (by kernel_rfl) ?_
  simp only [List.take_succ_cons, List.take_zero, List.drop_succ_cons, List.drop_zero]
  repeat (go_big_quiet_step ((first | (go_at_call 27; first | ((with_reducible refine bq (HCe.out _) ?_); exact (fun d => ⟨d, rfl⟩)) | ((with_reducible refine bq (HCe.out _) ?_); exact (fun d => lay_join _ _ _ d))))))
  refine wpQuiet_nil ?_
  rintro w' ⟨dt, rfl⟩
  rw [lay_bw]
  rw [HA0.out]
  go_wp2_with fail
  refine (cor_dep _ K2 s lm t0 t1 hs by_ hzn ey sh tp pr _ ⟨by simp [go_sem]; unfold posn; simp; omega, by simp [go_sem], by simp [go_sem]⟩).mono ?_
  rintro en w' ⟨D0, D1, e3, hD, he3, rfl, d5, rfl⟩
  have HD := Lib.hid (And.intro hD he3)
  clear hD he3
  obtain ⟨K3, hK3⟩ : ∃ K3, kpE K2 e3 = K3 := ⟨_, rfl⟩
  rw [hK3]
  have HK3 := Lib.hid hK3
  clear hK3
  go_wp2_with fail
  refine (ang_SubA A0 A1 D0 D1 _).mono ?_
  rintro en w' ⟨⟨H0, H1, e4, hH, he4, hH2, rfl⟩, d6, rfl⟩
  rw [lay_bw]
  have HH := Lib.hid (And.intro hH he4)
  clear hH he4 hH2
  go_wp2_with fail
  refine (cor_arc _ H0 H1 e4 K3 _ (by simp [go_sem]; unfold posn; simp; omega) (by simp [go_sem]) (by simp [go_sem])).mono ?_
  rintro en w' ⟨rfl, d7, rfl⟩
  rw [kpE_def]
  obtain ⟨K4, hK4⟩ : ∃ K4, kpE K3 e4 = K4 := ⟨_, rfl⟩
  rw [hK4]
  have hKb : 0 ≤ K4 ∧ K4 ≤ 100 := by
   rw [← hK4, ← HK3.out, ← HK2.out]
   exact ⟨kpE_bd.1 (kpE_bd.1 (kpE_bd.1 HE1.out.1 HE2.out.1) HD.out.2.1) HH.out.2.1, kpE_bd.2 (kpE_bd.2 (kpE_bd.2 HE1.out.2 HE2.out.2) HD.out.2.2) HH.out.2.2⟩
  have HKb := Lib.hid hKb
  have HK4 := Lib.hid hK4
  clear hK4 hKb
  by_cases hk : K4 = 0
  ·subst hk
   have HZ : Hid (e3 = 0 ∧ e4 = 0) := Lib.hid (by
    have h := HK4.out
    rw [← HK3.out, ← HK2.out, kpE_iff, kpE_iff, kpE_iff] at h
    exact ⟨h.1.2, h.2⟩)
   have HI := Lib.hid (fun W => angle_Inside H0 H1 (-60000) 5400000 W)
   by_cases hi : inside2B H0 H1 (-60000) 5400000 = true
   ·rw [hi] at HI
    obtain ⟨hi1, -, hi2, hi3⟩ := inside2B_iff.1 hi
    have HHB : Hid (-60000 ≤ H0 ∧ H0 ≤ H1 ∧ H1 ≤ 5400000) := Lib.hid ⟨hi2, (validB_iff.1 hi1).1, hi3⟩
    clear hi hi1 hi2 hi3
    go_wp2_with fail
    refine region_bw (by kernel_rfl) (by kernel_rfl) ?_
    repeat (go_big_quiet_step ((first | (go_at_call 31; first | ((with_reducible refine bq (cor_possible _) ?_); exact (fun d => ⟨d, rfl⟩)) | ((with_reducible refine bq (cor_possible _) ?_); exact (fun d => lay_join _ _ _ d))) | (go_at_call 30; first | ((with_reducible refine bq (HI.out _) ?_); exact (fun d => ⟨d, rfl⟩)) | ((with_reducible refine bq (HI.out _) ?_); exact (fun d => lay_join _ _ _ d))))))
    refine wpQuiet_nil ?_
    rintro w' ⟨d, rfl⟩
    rw [lay_bw]
    go_wp2_with fail
    refine (cor_up _ _ 0 s lm t0 t1 hs by_ hzn ey sh tp pr g0 g1 c0 c1 m0 m1 p0 p1 H0 H1 _ ⟨⟨by simp [go_sem]; unfold posn; simp; omega, by simp [go_sem], by simp [go_sem]⟩, by unfold posn; simp, by simp [go_sem]; unfold posn; simp; omega, fun i hi => ?_, fun i => by simp [go_sem]⟩ (by simp [go_sem]) (by simp [go_sem]) HSm.out.1 HSm.out.2 HHB.out).mono ?_
    ·rcases i with _ | _ | _ | _ | _ | _ | _ | _ | _ | _ | _ | _ | _ | _ | i
     all_goals first | exact ⟨_, by simp [go_sem]; rfl⟩ | omega
    rintro en w' ⟨k1, R0, R1, k2, Q0, Q1, k3, k4, S0, S1, hk, hk0, hk1, rfl, du, rfl⟩
    have HKU := Lib.hid (And.intro hk (And.intro (hk0 (by decide)) (hk1 (by decide))))
    clear hk hk0 hk1
    unfold upW
    obtain ⟨X1, Y1, E1, hX1, hE1, hZ1, hS1⟩ := ang_SubU H0 H1 R0 R1
    obtain ⟨X2, Y2, E2, hX2, hE2, hZ2, hS2⟩ := ang_AddU X1 Y1 Q0 Q1
    obtain ⟨X3, Y3, E3, hX3, hE3, hZ3, hS3⟩ := ang_AddU X2 Y2 S0 S1
    have HS1 := Lib.hid hS1
    have HS2 := Lib.hid hS2
    have HS3 := Lib.hid hS3
    have HX := Lib.hid (And.intro hX1 (And.intro hX2 hX3))
    have HE := Lib.hid (And.intro hE1 (And.intro hE2 hE3))
    clear hX1 hX2 hX3 hE1 hE2 hE3 hZ1 hZ2 hZ3 hS1 hS2 hS3
    go_wp2_with fail
    refine region_mixSC 21 [(0, 0), (1, 0), (2, 0), (3, 0), (8, 0), (9, 0), (14, 0), (15, 0), (4, 0), (5, 0), (6, 0), (7, 1), (10, 0), (11, 0), (12, 0), (13, 1), (16, 0), (17, 0), (18, 0), (19, 1), (20, 0), (21, 3)] (fun p : Int × Ext => lay w [.inr p.2, .inr d, .inr d7, .inr d6, .inr d5, .inr dt, .inl (.cells #[.int .i64 A0, .int .i64 A1] 29), .inr d4, .inr d3, .inr d2, .inr d1, .inl (.cells #[.int .i64 x0, .int .i64 x1, .int .i64 D0, .int .i64 D1, .int .i64 R0, .int .i64 R1, .int .i64 Q0, .int .i64 Q1, .int .i64 S0, .int .i64 S1, .int .i64 H0, .int .i64 H1, .int .i64 0, .int .i64 0] 37), .inl (.cells #[.int .i64 (p.1)] 92), .inr dg, .inl (.cells #[.int .i64 0, .int .i64 0, .int .i64 0, .int .i64 0, .int .i64 0, .int .i64 0, .int .i64 0, .int .i64 0, .int .i64 0, .int .i64 0, .int .i64 0, .int .i64 0, .int .i64 0, .int .i64 0] 37), .inl (.cells #[.int .i64 g0, .int .i64 g1, .int .i64 c0, .int .i64 c1, .int .i64 m0, .int .i64 m1, .int .i64 p0, .int .i64 p1] 31), .inl (.cells #[.string s, .int .i64 lm, .int .i64 t0, .int .i64 t1, .int .i64 hs, .int .i64 by_, .int .i64 hzn, .int .i64 ey, .int .i64 sh, .int .i64 tp, .int .i64 pr] 28), .inl (.cells #[.int .i64 ix, .slice a m cc] 24)]) (fun p e => ⟨(p.1, _), (lay_join w [.inr d, .inr d7, .inr d6, .inr d5, .inr dt, .inl (.cells #[.int .i64 A0, .int .i64 A1] 29), .inr d4, .inr d3, .inr d2, .inr d1, .inl (.cells #[.int .i64 x0, .int .i64 x1, .int .i64 D0, .int .i64 D1, .int .i64 R0, .int .i64 R1, .int .i64 Q0, .int .i64 Q1, .int .i64 S0, .int .i64 S1, .int .i64 H0, .int .i64 H1, .int .i64 0, .int .i64 0] 37), .inl (.cells #[.int .i64 (p.1)] 92), .inr dg, .inl (.cells #[.int .i64 0, .int .i64 0, .int .i64 0, .int .i64 0, .int .i64 0, .int .i64 0, .int .i64 0, .int .i64 0, .int .i64 0, .int .i64 0, .int .i64 0, .int .i64 0, .int .i64 0, .int .i64 0] 37), .inl (.cells #[.int .i64 g0, .int .i64 g1, .int .i64 c0, .int .i64 c1, .int .i64 m0, .int .i64 m1, .int .i64 p0, .int .i64 p1] 31), .inl (.cells #[.string s, .int .i64 lm, .int .i64 t0, .int .i64 t1, .int .i64 hs, .int .i64 by_, .int .i64 hzn, .int .i64 ey, .int .i64 sh, .int .i64 tp, .int .i64 pr] 28), .inl (.cells #[.int .i64 ix, .slice a m cc] 24)] p.2 e).choose_spec⟩) ⟨(k4, du), rfl⟩ (by kernel_rfl) (by kernel_rfl) (by kernel_rfl) rfl ?_
    repeat (first | (refine wpMS_pure rfl (fun K hK => ?_); go_simp; refine hK _ ?_; clear hK K) | (refine wpMS_quiet rfl (fun K hK => ?_); go_simp; first | (refine hK _ ?_; clear hK K) | (apply Exists.intro; refine ⟨fun _ => ?_, hK _ ?_⟩; (first | (intro q; go_at_call 29; (with_reducible refine bq (HS1.out _) ?_); exact (fun d => ⟨d, rfl⟩))); clear hK K)))
    refine wpMS_special rfl (fun K hK e5 => ?_)
    rw [lay_bw]
    go_simp
    refine (cor_arcL w [.inr e5, .inr du, .inr d, .inr d7, .inr d6, .inr d5, .inr dt, .inl (.cells #[.int .i64 A0, .int .i64 A1] 29), .inr d4, .inr d3, .inr d2, .inr d1, .inl (.cells #[.int .i64 x0, .int .i64 x1, .int .i64 D0, .int .i64 D1, .int .i64 R0, .int .i64 R1, .int .i64 Q0, .int .i64 Q1, .int .i64 S0, .int .i64 S1, .int .i64 H0, .int .i64 H1, .int .i64 0, .int .i64 0] 37)] [.inr dg, .inl (.cells #[.int .i64 0, .int .i64 0, .int .i64 0, .int .i64 0, .int .i64 0, .int .i64 0, .int .i64 0, .int .i64 0, .int .i64 0, .int .i64 0, .int .i64 0, .int .i64 0, .int .i64 0, .int .i64 0] 37), .inl (.cells #[.int .i64 g0, .int .i64 g1, .int .i64 c0, .int .i64 c1, .int .i64 m0, .int .i64 m1, .int .i64 p0, .int .i64 p1] 31), .inl (.cells #[.string s, .int .i64 lm, .int .i64 t0, .int .i64 t1, .int .i64 hs, .int .i64 by_, .int .i64 hzn, .int .i64 ey, .int .i64 sh, .int .i64 tp, .int .i64 pr] 28), .inl (.cells #[.int .i64 ix, .slice a m cc] 24)] (k4) X1 Y1 E1 _).mono ?_
    rintro en w' ⟨rfl, f5, rfl⟩
    rw [kpE_def]
    refine ⟨_, rfl, hK _ _ ⟨(_, _), (lay_fold w [.inr f5, .inr e5, .inr du] [.inr d, .inr d7, .inr d6, .inr d5, .inr dt, .inl (.cells #[.int .i64 A0, .int .i64 A1] 29), .inr d4, .inr d3, .inr d2, .inr d1, .inl (.cells #[.int .i64 x0, .int .i64 x1, .int .i64 D0, .int .i64 D1, .int .i64 R0, .int .i64 R1, .int .i64 Q0, .int .i64 Q1, .int .i64 S0, .int .i64 S1, .int .i64 H0, .int .i64 H1, .int .i64 0, .int .i64 0] 37), .inl (.cells #[.int .i64 (kpE k4 E1)] 92), .inr dg, .inl (.cells #[.int .i64 0, .int .i64 0, .int .i64 0, .int .i64 0, .int .i64 0, .int .i64 0, .int .i64 0, .int .i64 0, .int .i64 0, .int .i64 0, .int .i64 0, .int .i64 0, .int .i64 0, .int .i64 0] 37), .inl (.cells #[.int .i64 g0, .int .i64 g1, .int .i64 c0, .int .i64 c1, .int .i64 m0, .int .i64 m1, .int .i64 p0, .int .i64 p1] 31), .inl (.cells #[.string s, .int .i64 lm, .int .i64 t0, .int .i64 t1, .int .i64 hs, .int .i64 by_, .int .i64 hzn, .int .i64 ey, .int .i64 sh, .int .i64 tp, .int .i64 pr] 28), .inl (.cells #[.int .i64 ix, .slice a m cc] 24)]).choose_spec⟩ ?_⟩
    clear hK K
    repeat (first | (refine wpMS_pure rfl (fun K hK => ?_); go_simp; refine hK _ ?_; clear hK K) | (refine wpMS_quiet rfl (fun K hK => ?_); go_simp; first | (refine hK _ ?_; clear hK K) | (apply Exists.intro; refine ⟨fun _ => ?_, hK _ ?_⟩; (first | (intro q; go_at_call 33; (with_reducible refine bq (HS2.out _) ?_); exact (fun d => ⟨d, rfl⟩))); clear hK K)))
    refine wpMS_special rfl (fun K hK e6 => ?_)
    rw [lay_bw]
    go_simp
    refine (cor_arcL w [.inr e6, .inr f5, .inr e5, .inr du, .inr d, .inr d7, .inr d6, .inr d5, .inr dt, .inl (.cells #[.int .i64 A0, .int .i64 A1] 29), .inr d4, .inr d3, .inr d2, .inr d1, .inl (.cells #[.int .i64 x0, .int .i64 x1, .int .i64 D0, .int .i64 D1, .int .i64 R0, .int .i64 R1, .int .i64 Q0, .int .i64 Q1, .int .i64 S0, .int .i64 S1, .int .i64 H0, .int .i64 H1, .int .i64 0, .int .i64 0] 37)] [.inr dg, .inl (.cells #[.int .i64 0, .int .i64 0, .int .i64 0, .int .i64 0, .int .i64 0, .int .i64 0, .int .i64 0, .int .i64 0, .int .i64 0, .int .i64 0, .int .i64 0, .int .i64 0, .int .i64 0, .int .i64 0] 37), .inl (.cells #[.int .i64 g0, .int .i64 g1, .int .i64 c0, .int .i64 c1, .int .i64 m0, .int .i64 m1, .int .i64 p0, .int .i64 p1] 31), .inl (.cells #[.string s, .int .i64 lm, .int .i64 t0, .int .i64 t1, .int .i64 hs, .int .i64 by_, .int .i64 hzn, .int .i64 ey, .int .i64 sh, .int .i64 tp, .int .i64 pr] 28), .inl (.cells #[.int .i64 ix, .slice a m cc] 24)] (kpE k4 E1) X2 Y2 E2 _).mono ?_
    rintro en w' ⟨rfl, f6, rfl⟩
    rw [kpE_def]
    refine ⟨_, rfl, hK _ _ ⟨(_, _), (lay_fold w [.inr f6, .inr e6, .inr f5, .inr e5, .inr du] [.inr d, .inr d7, .inr d6, .inr d5, .inr dt, .inl (.cells #[.int .i64 A0, .int .i64 A1] 29), .inr d4, .inr d3, .inr d2, .inr d1, .inl (.cells #[.int .i64 x0, .int .i64 x1, .int .i64 D0, .int .i64 D1, .int .i64 R0, .int .i64 R1, .int .i64 Q0, .int .i64 Q1, .int .i64 S0, .int .i64 S1, .int .i64 H0, .int .i64 H1, .int .i64 0, .int .i64 0] 37), .inl (.cells #[.int .i64 (kpE (kpE k4 E1) E2)] 92), .inr dg, .inl (.cells #[.int .i64 0, .int .i64 0, .int .i64 0, .int .i64 0, .int .i64 0, .int .i64 0, .int .i64 0, .int .i64 0, .int .i64 0, .int .i64 0, .int .i64 0, .int .i64 0, .int .i64 0, .int .i64 0] 37), .inl (.cells #[.int .i64 g0, .int .i64 g1, .int .i64 c0, .int .i64 c1, .int .i64 m0, .int .i64 m1, .int .i64 p0, .int .i64 p1] 31), .inl (.cells #[.string s, .int .i64 lm, .int .i64 t0, .int .i64 t1, .int .i64 hs, .int .i64 by_, .int .i64 hzn, .int .i64 ey, .int .i64 sh, .int .i64 tp, .int .i64 pr] 28), .inl (.cells #[.int .i64 ix, .slice a m cc] 24)]).choose_spec⟩ ?_⟩
    clear hK K
    repeat (first | (refine wpMS_pure rfl (fun K hK => ?_); go_simp; refine hK _ ?_; clear hK K) | (refine wpMS_quiet rfl (fun K hK => ?_); go_simp; first | (refine hK _ ?_; clear hK K) | (apply Exists.intro; refine ⟨fun _ => ?_, hK _ ?_⟩; (first | (intro q; go_at_call 33; (with_reducible refine bq (HS3.out _) ?_); exact (fun d => ⟨d, rfl⟩))); clear hK K)))
    refine wpMS_special rfl (fun K hK e7 => ?_)
    rw [lay_bw]
    go_simp
    refine (cor_arcL w [.inr e7, .inr f6, .inr e6, .inr f5, .inr e5, .inr du, .inr d, .inr d7, .inr d6, .inr d5, .inr dt, .inl (.cells #[.int .i64 A0, .int .i64 A1] 29), .inr d4, .inr d3, .inr d2, .inr d1, .inl (.cells #[.int .i64 x0, .int .i64 x1, .int .i64 D0, .int .i64 D1, .int .i64 R0, .int .i64 R1, .int .i64 Q0, .int .i64 Q1, .int .i64 S0, .int .i64 S1, .int .i64 H0, .int .i64 H1, .int .i64 0, .int .i64 0] 37)] [.inr dg, .inl (.cells #[.int .i64 0, .int .i64 0, .int .i64 0, .int .i64 0, .int .i64 0, .int .i64 0, .int .i64 0, .int .i64 0, .int .i64 0, .int .i64 0, .int .i64 0, .int .i64 0, .int .i64 0, .int .i64 0] 37), .inl (.cells #[.int .i64 g0, .int .i64 g1, .int .i64 c0, .int .i64 c1, .int .i64 m0, .int .i64 m1, .int .i64 p0, .int .i64 p1] 31), .inl (.cells #[.string s, .int .i64 lm, .int .i64 t0, .int .i64 t1, .int .i64 hs, .int .i64 by_, .int .i64 hzn, .int .i64 ey, .int .i64 sh, .int .i64 tp, .int .i64 pr] 28), .inl (.cells #[.int .i64 ix, .slice a m cc] 24)] (kpE (kpE k4 E1) E2) X3 Y3 E3 _).mono ?_
    rintro en w' ⟨rfl, f7, rfl⟩
    rw [kpE_def]
    refine ⟨_, rfl, hK _ _ ⟨(_, _), (lay_fold w [.inr f7, .inr e7, .inr f6, .inr e6, .inr f5, .inr e5, .inr du] [.inr d, .inr d7, .inr d6, .inr d5, .inr dt, .inl (.cells #[.int .i64 A0, .int .i64 A1] 29), .inr d4, .inr d3, .inr d2, .inr d1, .inl (.cells #[.int .i64 x0, .int .i64 x1, .int .i64 D0, .int .i64 D1, .int .i64 R0, .int .i64 R1, .int .i64 Q0, .int .i64 Q1, .int .i64 S0, .int .i64 S1, .int .i64 H0, .int .i64 H1, .int .i64 0, .int .i64 0] 37), .inl (.cells #[.int .i64 (kpE (kpE (kpE k4 E1) E2) E3)] 92), .inr dg, .inl (.cells #[.int .i64 0, .int .i64 0, .int .i64 0, .int .i64 0, .int .i64 0, .int .i64 0, .int .i64 0, .int .i64 0, .int .i64 0, .int .i64 0, .int .i64 0, .int .i64 0, .int .i64 0, .int .i64 0] 37), .inl (.cells #[.int .i64 g0, .int .i64 g1, .int .i64 c0, .int .i64 c1, .int .i64 m0, .int .i64 m1, .int .i64 p0, .int .i64 p1] 31), .inl (.cells #[.string s, .int .i64 lm, .int .i64 t0, .int .i64 t1, .int .i64 hs, .int .i64 by_, .int .i64 hzn, .int .i64 ey, .int .i64 sh, .int .i64 tp, .int .i64 pr] 28), .inl (.cells #[.int .i64 ix, .slice a m cc] 24)]).choose_spec⟩ ?_⟩
    clear hK K
    repeat (first | (refine wpMS_pure rfl (fun K hK => ?_); go_simp; refine hK _ ?_; clear hK K) | (refine wpMS_quiet rfl (fun K hK => ?_); go_simp; first | (refine hK _ ?_; clear hK K) | (apply Exists.intro; refine ⟨fun _ => ?_, hK _ ?_⟩; (first | fail); clear hK K)))
    refine wpMS_store rfl (fun K hK e8 => ?_)
    rw [lay_bw]
    go_simp
    refine hK _ _ ?_
    clear hK K
    refine wpMS_nil (fun e9 => ?_)
    rw [lay_bw]
    obtain ⟨K5, hK5⟩ : ∃ K5, kpE (kpE (kpE k4 E1) E2) E3 = K5 := ⟨_, rfl⟩
    rw [hK5]
    have HK5 := Lib.hid hK5
    clear hK5
    by_cases hk5 : K5 = 0
    ·subst hk5
     have HR := Lib.hid (work_end HK5.out HKU.out.1 HX.out HHB.out)
     go_wp2_with fail
     exact bodyPost_ret (v := .tuple #[(.agg #[.int .i64 (x0), .int .i64 (x1), .int .i64 (D0), .int .i64 (D1), .int .i64 (R0), .int .i64 (R1), .int .i64 (Q0), .int .i64 (Q1), .int .i64 (S0), .int .i64 (S1), .int .i64 (H0), .int .i64 (H1), .int .i64 (X3), .int .i64 (Y3)]), .int .i64 0]) (by simp [results, Tryz.results5, go_sem]) rfl ⟨⟨x0, x1, D0, D1, R0, R1, Q0, Q1, S0, S1, H0, H1, X3, Y3, 0, fun _ => ⟨⟨HHB.out.2.1, by have := HHB.out; omega, by have := HHB.out; omega⟩, HR.out.1, HR.out.2, dip_end (HD.out.1 HZ.out.1) (HH.out.1 HZ.out.2).1.2⟩, by decide, rfl⟩, lay_ex _ _⟩
    ·have hk6 : (K5 != 0) = true := bne_iff_ne.2 hk5
     have HKN := Lib.hid hk5
     clear hk5
     go_wp2_with fail
     go_region
     all_goals go_wp2_with fail
     all_goals exact bodyPost_ret (v := .tuple #[(.agg #[.int .i64 (0), .int .i64 (0), .int .i64 (0), .int .i64 (0), .int .i64 (0), .int .i64 (0), .int .i64 (0), .int .i64 (0), .int .i64 (0), .int .i64 (0), .int .i64 (0), .int .i64 (0), .int .i64 (0), .int .i64 (0)]), .int .i64 K5]) (by simp [results, Tryz.results5, go_sem]) rfl ⟨⟨0, 0, 0, 0, 0, 0, 0, 0, 0, 0, 0, 0, 0, 0, K5, fun h => absurd h HKN.out, work_bd HK5.out HKU.out.2 HE.out, rfl⟩, bw_of (Below.drew (lay_extends _ _))⟩
   ·rw [Bool.eq_false_iff.2 hi] at HI
    clear hi
    go_wp2_with fail
    refine region_bw (by kernel_rfl) (by kernel_rfl) ?_
    repeat (go_big_quiet_step ((first | (go_at_call 31; first | ((with_reducible refine bq (cor_possible _) ?_); exact (fun d => ⟨d, rfl⟩)) | ((with_reducible refine bq (cor_possible _) ?_); exact (fun d => lay_join _ _ _ d))) | (go_at_call 30; first | ((with_reducible refine bq (HI.out _) ?_); exact (fun d => ⟨d, rfl⟩)) | ((with_reducible refine bq (HI.out _) ?_); exact (fun d => lay_join _ _ _ d))))))
    refine wpQuiet_nil ?_
    rintro w' ⟨d, rfl⟩
    rw [lay_bw]
    go_wp2_with fail
    exact bodyPost_ret (v := .tuple #[(.agg #[.int .i64 (0), .int .i64 (0), .int .i64 (0), .int .i64 (0), .int .i64 (0), .int .i64 (0), .int .i64 (0), .int .i64 (0), .int .i64 (0), .int .i64 (0), .int .i64 (0), .int .i64 (0), .int .i64 (0), .int .i64 (0)]), .int .i64 2]) (by simp [results, Tryz.results5, go_sem]) rfl ⟨⟨0, 0, 0, 0, 0, 0, 0, 0, 0, 0, 0, 0, 0, 0, 2, fun h => absurd h (by decide), by decide, rfl⟩, lay_ex _ _⟩
  ·have hk2 : (K4 != 0) = true := bne_iff_ne.2 hk
   have HKN := Lib.hid hk
   clear hk
   go_wp2_with fail
   go_region
   all_goals go_wp2_with fail
   all_goals exact bodyPost_ret (v := .tuple #[(.agg #[.int .i64 (0), .int .i64 (0), .int .i64 (0), .int .i64 (0), .int .i64 (0), .int .i64 (0), .int .i64 (0), .int .i64 (0), .int .i64 (0), .int .i64 (0), .int .i64 (0), .int .i64 (0), .int .i64 (0), .int .i64 (0)]), .int .i64 K4]) (by simp [results, Tryz.results5, go_sem]) rfl ⟨⟨0, 0, 0, 0, 0, 0, 0, 0, 0, 0, 0, 0, 0, 0, K4, fun h => absurd h HKN.out, HKb.out, rfl⟩, bw_of (Below.drew (lay_extends _ _))⟩
theorem cor_WorkB (ix : Int) (v : Value) (l : List ErV) (s : ByteArray) (lm t0 t1 hs by_ hzn ey sh tp pr g0 g1 c0 c1 m0 m1 p0 p1 : Int) (w : World) (hv : SlG eR w v l) (hb : s.size ≤ 9223372036854775807) (hz : hzn ≠ 2) :
  Calls Tryz.prog 5 #[.agg #[.int .i64 ix, v], .agg #[.string s, .int .i64 lm, .int .i64 t0, .int .i64 t1, .int .i64 hs, .int .i64 by_, .int .i64 hzn, .int .i64 ey, .int .i64 sh, .int .i64 tp, .int .i64 pr], .agg #[.int .i64 g0, .int .i64 g1, .int .i64 c0, .int .i64 c1, .int .i64 m0, .int .i64 m1, .int .i64 p0, .int .i64 p1]] w (WorkP w) := by
 have HZn := Lib.hid hz
 clear hz
 obtain ⟨a, cc, rfl⟩ := hv.form
 have HG := Lib.hid (fun L => cor_given ix _ l s lm t0 t1 hs by_ hzn ey sh tp pr g0 g1 c0 c1 m0 m1 p0 p1 (lay w L) (hv.lay L) hb)
 have HC := Lib.hid (fun L => inst_Correction ix hs _ l (lay w L) (hv.lay L))
 have HV := Lib.hid hv
 clear hv hb
 generalize l.length = m at *
 refine lay_start ?_
 go_enter Tryz.func5, Tryz.ntmps5
 go_wp2_with fail
 refine (HG.out _).mono ?_
 rintro en w' ⟨⟨q, rfl, hq⟩, dg, rfl⟩
 rw [lay_bw]
 have HQ := Lib.hid hq
 clear hq
 cases q
 ·go_wp2_with fail
  exact bodyPost_ret (v := .tuple #[(.agg #[.int .i64 (0), .int .i64 (0), .int .i64 (0), .int .i64 (0), .int .i64 (0), .int .i64 (0), .int .i64 (0), .int .i64 (0), .int .i64 (0), .int .i64 (0), .int .i64 (0), .int .i64 (0), .int .i64 (0), .int .i64 (0)]), .int .i64 1]) (by simp [results, Tryz.results5, go_sem]) rfl ⟨⟨0, 0, 0, 0, 0, 0, 0, 0, 0, 0, 0, 0, 0, 0, 1, fun h => absurd h (by decide), by decide, rfl⟩, lay_ex _ _⟩
 ·obtain ⟨-, hSg, hM, hP⟩ := HQ.out rfl
  have HSg := Lib.hid hSg
  have HSm := Lib.hid (And.intro hM hP)
  clear hSg hM hP HG HQ
  go_wp2_with fail
  refine (HC.out _).mono ?_
  rintro en w' ⟨⟨x0, x1, e1, -, he1, -, rfl⟩, d1, rfl⟩
  rw [lay_bw]
  have HE1 := Lib.hid he1
  clear he1 HC
  go_wp2_with fail
  refine (cor_arc _ x0 x1 e1 0 _ (by simp [go_sem]; unfold posn; simp; omega) (by simp [go_sem]) (by simp [go_sem])).mono ?_
  rintro en w' ⟨rfl, d2, rfl⟩
  rw [kpE_def, kpE_z]
  go_wp2_with fail
  refine (inst_Apply ix hs by_ _ l _ (HV.out.lay _) HSg.out.1 HSg.out.2).mono ?_
  rintro en w' ⟨⟨y0, y1, e2, hy, he2, hy2, rfl⟩, d3, rfl⟩
  rw [lay_bw]
  have HE2 := Lib.hid he2
  have hyb : (-240010000000 ≤ y0 ∧ y0 ≤ 240010000000) ∧ (-240010000000 ≤ y1 ∧ y1 ≤ 240010000000) := by
   by_cases hz : e2 = 0
   ·exact hy hz
   ·obtain ⟨rfl, rfl⟩ := hy2 hz; omega
  have HYB := Lib.hid hyb
  clear he2 hy hy2 hyb HV
  go_wp2_with fail
  refine (cor_arc _ y0 y1 e2 e1 _ (by simp [go_sem]; unfold posn; simp; omega) (by simp [go_sem]) (by simp [go_sem])).mono ?_
  rintro en w' ⟨rfl, d4, rfl⟩
  rw [kpE_def]
  obtain ⟨K2, hK2⟩ : ∃ K2, kpE e1 e2 = K2 := ⟨_, rfl⟩
  rw [hK2]
  have HK2 := Lib.hid hK2
  clear hK2
  have z2 : (hzn == 2) = false := beq_eq_false_iff_ne.2 HZn.out
  go_wp2_with fail
  refine (cor_dep _ K2 s lm t0 t1 hs by_ hzn ey sh tp pr _ ⟨by simp [go_sem]; unfold posn; simp; omega, by simp [go_sem], by simp [go_sem]⟩).mono ?_
  rintro en w' ⟨D0, D1, e3, hD, he3, rfl, d5, rfl⟩
  have HD := Lib.hid (And.intro hD he3)
  clear hD he3
  obtain ⟨K3, hK3⟩ : ∃ K3, kpE K2 e3 = K3 := ⟨_, rfl⟩
  rw [hK3]
  have HK3 := Lib.hid hK3
  clear hK3
  go_wp2_with fail
  refine (ang_SubA y0 y1 D0 D1 _).mono ?_
  rintro en w' ⟨⟨H0, H1, e4, hH, he4, hH2, rfl⟩, d6, rfl⟩
  rw [lay_bw]
  have HH := Lib.hid (And.intro hH he4)
  clear hH he4 hH2
  go_wp2_with fail
  refine (cor_arc _ H0 H1 e4 K3 _ (by simp [go_sem]; unfold posn; simp; omega) (by simp [go_sem]) (by simp [go_sem])).mono ?_
  rintro en w' ⟨rfl, d7, rfl⟩
  rw [kpE_def]
  obtain ⟨K4, hK4⟩ : ∃ K4, kpE K3 e4 = K4 := ⟨_, rfl⟩
  rw [hK4]
  have hKb : 0 ≤ K4 ∧ K4 ≤ 100 := by
   rw [← hK4, ← HK3.out, ← HK2.out]
   exact ⟨kpE_bd.1 (kpE_bd.1 (kpE_bd.1 HE1.out.1 HE2.out.1) HD.out.2.1) HH.out.2.1, kpE_bd.2 (kpE_bd.2 (kpE_bd.2 HE1.out.2 HE2.out.2) HD.out.2.2) HH.out.2.2⟩
  have HKb := Lib.hid hKb
  have HK4 := Lib.hid hK4
  clear hK4 hKb
  by_cases hk : K4 = 0
  ·subst hk
   have HZ : Hid (e3 = 0 ∧ e4 = 0) := Lib.hid (by
    have h := HK4.out
    rw [← HK3.out, ← HK2.out, kpE_iff, kpE_iff, kpE_iff] at h
    exact ⟨h.1.2, h.2⟩)
   have HI := Lib.hid (fun W => angle_Inside H0 H1 (-60000) 5400000 W)
   by_cases hi : inside2B H0 H1 (-60000) 5400000 = true
   ·rw [hi] at HI
    obtain ⟨hi1, -, hi2, hi3⟩ := inside2B_iff.1 hi
    have HHB : Hid (-60000 ≤ H0 ∧ H0 ≤ H1 ∧ H1 ≤ 5400000) := Lib.hid ⟨hi2, (validB_iff.1 hi1).1, hi3⟩
    clear hi hi1 hi2 hi3
    go_wp2_with fail
    refine region_bw (by kernel_rfl) (by kernel_rfl) ?_
    repeat (go_big_quiet_step ((first | (go_at_call 31; first | ((with_reducible refine bq (cor_possible _) ?_); exact (fun d => ⟨d, rfl⟩)) | ((with_reducible refine bq (cor_possible _) ?_); exact (fun d => lay_join _ _ _ d))) | (go_at_call 30; first | ((with_reducible refine bq (HI.out _) ?_); exact (fun d => ⟨d, rfl⟩)) | ((with_reducible refine bq (HI.out _) ?_); exact (fun d => lay_join _ _ _ d))))))
    refine wpQuiet_nil ?_
    rintro w' ⟨d, rfl⟩
    rw [lay_bw]
    go_wp2_with fail
    refine (cor_up _ _ 0 s lm t0 t1 hs by_ hzn ey sh tp pr g0 g1 c0 c1 m0 m1 p0 p1 H0 H1 _ ⟨⟨by simp [go_sem]; unfold posn; simp; omega, by simp [go_sem], by simp [go_sem]⟩, by unfold posn; simp, by simp [go_sem]; unfold posn; simp; omega, fun i hi => ?_, fun i => by simp [go_sem]⟩ (by simp [go_sem]) (by simp [go_sem]) HSm.out.1 HSm.out.2 HHB.out).mono ?_
    ·rcases i with _ | _ | _ | _ | _ | _ | _ | _ | _ | _ | _ | _ | _ | _ | i
     all_goals first | exact ⟨_, by simp [go_sem]; rfl⟩ | omega
    rintro en w' ⟨k1, R0, R1, k2, Q0, Q1, k3, k4, S0, S1, hk, hk0, hk1, rfl, du, rfl⟩
    have HKU := Lib.hid (And.intro hk (And.intro (hk0 (by decide)) (hk1 (by decide))))
    clear hk hk0 hk1
    unfold upW
    obtain ⟨X1, Y1, E1, hX1, hE1, hZ1, hS1⟩ := ang_SubU H0 H1 R0 R1
    obtain ⟨X2, Y2, E2, hX2, hE2, hZ2, hS2⟩ := ang_AddU X1 Y1 Q0 Q1
    obtain ⟨X3, Y3, E3, hX3, hE3, hZ3, hS3⟩ := ang_AddU X2 Y2 S0 S1
    have HS1 := Lib.hid hS1
    have HS2 := Lib.hid hS2
    have HS3 := Lib.hid hS3
    have HX := Lib.hid (And.intro hX1 (And.intro hX2 hX3))
    have HE := Lib.hid (And.intro hE1 (And.intro hE2 hE3))
    clear hX1 hX2 hX3 hE1 hE2 hE3 hZ1 hZ2 hZ3 hS1 hS2 hS3
    go_wp2_with fail
    refine region_mixSC 21 [(0, 0), (1, 0), (2, 0), (3, 0), (8, 0), (9, 0), (14, 0), (15, 0), (4, 0), (5, 0), (6, 0), (7, 1), (10, 0), (11, 0), (12, 0), (13, 1), (16, 0), (17, 0), (18, 0), (19, 1), (20, 0), (21, 3)] (fun p : Int × Ext => lay w [.inr p.2, .inr d, .inr d7, .inr d6, .inr d5, .inl (.cells #[.int .i64 y0, .int .i64 y1] 29), .inr d4, .inr d3, .inr d2, .inr d1, .inl (.cells #[.int .i64 x0, .int .i64 x1, .int .i64 D0, .int .i64 D1, .int .i64 R0, .int .i64 R1, .int .i64 Q0, .int .i64 Q1, .int .i64 S0, .int .i64 S1, .int .i64 H0, .int .i64 H1, .int .i64 0, .int .i64 0] 37), .inl (.cells #[.int .i64 (p.1)] 92), .inr dg, .inl (.cells #[.int .i64 0, .int .i64 0, .int .i64 0, .int .i64 0, .int .i64 0, .int .i64 0, .int .i64 0, .int .i64 0, .int .i64 0, .int .i64 0, .int .i64 0, .int .i64 0, .int .i64 0, .int .i64 0] 37), .inl (.cells #[.int .i64 g0, .int .i64 g1, .int .i64 c0, .int .i64 c1, .int .i64 m0, .int .i64 m1, .int .i64 p0, .int .i64 p1] 31), .inl (.cells #[.string s, .int .i64 lm, .int .i64 t0, .int .i64 t1, .int .i64 hs, .int .i64 by_, .int .i64 hzn, .int .i64 ey, .int .i64 sh, .int .i64 tp, .int .i64 pr] 28), .inl (.cells #[.int .i64 ix, .slice a m cc] 24)]) (fun p e => ⟨(p.1, _), (lay_join w [.inr d, .inr d7, .inr d6, .inr d5, .inl (.cells #[.int .i64 y0, .int .i64 y1] 29), .inr d4, .inr d3, .inr d2, .inr d1, .inl (.cells #[.int .i64 x0, .int .i64 x1, .int .i64 D0, .int .i64 D1, .int .i64 R0, .int .i64 R1, .int .i64 Q0, .int .i64 Q1, .int .i64 S0, .int .i64 S1, .int .i64 H0, .int .i64 H1, .int .i64 0, .int .i64 0] 37), .inl (.cells #[.int .i64 (p.1)] 92), .inr dg, .inl (.cells #[.int .i64 0, .int .i64 0, .int .i64 0, .int .i64 0, .int .i64 0, .int .i64 0, .int .i64 0, .int .i64 0, .int .i64 0, .int .i64 0, .int .i64 0, .int .i64 0, .int .i64 0, .int .i64 0] 37), .inl (.cells #[.int .i64 g0, .int .i64 g1, .int .i64 c0, .int .i64 c1, .int .i64 m0, .int .i64 m1, .int .i64 p0, .int .i64 p1] 31), .inl (.cells #[.string s, .int .i64 lm, .int .i64 t0, .int .i64 t1, .int .i64 hs, .int .i64 by_, .int .i64 hzn, .int .i64 ey, .int .i64 sh, .int .i64 tp, .int .i64 pr] 28), .inl (.cells #[.int .i64 ix, .slice a m cc] 24)] p.2 e).choose_spec⟩) ⟨(k4, du), rfl⟩ (by kernel_rfl) (by kernel_rfl) (by kernel_rfl) rfl ?_
    repeat (first | (refine wpMS_pure rfl (fun K hK => ?_); go_simp; refine hK _ ?_; clear hK K) | (refine wpMS_quiet rfl (fun K hK => ?_); go_simp; first | (refine hK _ ?_; clear hK K) | (apply Exists.intro; refine ⟨fun _ => ?_, hK _ ?_⟩; (first | (intro q; go_at_call 29; (with_reducible refine bq (HS1.out _) ?_); exact (fun d => ⟨d, rfl⟩))); clear hK K)))
    refine wpMS_special rfl (fun K hK e5 => ?_)
    rw [lay_bw]
    go_simp
    refine (cor_arcL w [.inr e5, .inr du, .inr d, .inr d7, .inr d6, .inr d5, .inl (.cells #[.int .i64 y0, .int .i64 y1] 29), .inr d4, .inr d3, .inr d2, .inr d1, .inl (.cells #[.int .i64 x0, .int .i64 x1, .int .i64 D0, .int .i64 D1, .int .i64 R0, .int .i64 R1, .int .i64 Q0, .int .i64 Q1, .int .i64 S0, .int .i64 S1, .int .i64 H0, .int .i64 H1, .int .i64 0, .int .i64 0] 37)] [.inr dg, .inl (.cells #[.int .i64 0, .int .i64 0, .int .i64 0, .int .i64 0, .int .i64 0, .int .i64 0, .int .i64 0, .int .i64 0, .int .i64 0, .int .i64 0, .int .i64 0, .int .i64 0, .int .i64 0, .int .i64 0] 37), .inl (.cells #[.int .i64 g0, .int .i64 g1, .int .i64 c0, .int .i64 c1, .int .i64 m0, .int .i64 m1, .int .i64 p0, .int .i64 p1] 31), .inl (.cells #[.string s, .int .i64 lm, .int .i64 t0, .int .i64 t1, .int .i64 hs, .int .i64 by_, .int .i64 hzn, .int .i64 ey, .int .i64 sh, .int .i64 tp, .int .i64 pr] 28), .inl (.cells #[.int .i64 ix, .slice a m cc] 24)] (k4) X1 Y1 E1 _).mono ?_
    rintro en w' ⟨rfl, f5, rfl⟩
    rw [kpE_def]
    refine ⟨_, rfl, hK _ _ ⟨(_, _), (lay_fold w [.inr f5, .inr e5, .inr du] [.inr d, .inr d7, .inr d6, .inr d5, .inl (.cells #[.int .i64 y0, .int .i64 y1] 29), .inr d4, .inr d3, .inr d2, .inr d1, .inl (.cells #[.int .i64 x0, .int .i64 x1, .int .i64 D0, .int .i64 D1, .int .i64 R0, .int .i64 R1, .int .i64 Q0, .int .i64 Q1, .int .i64 S0, .int .i64 S1, .int .i64 H0, .int .i64 H1, .int .i64 0, .int .i64 0] 37), .inl (.cells #[.int .i64 (kpE k4 E1)] 92), .inr dg, .inl (.cells #[.int .i64 0, .int .i64 0, .int .i64 0, .int .i64 0, .int .i64 0, .int .i64 0, .int .i64 0, .int .i64 0, .int .i64 0, .int .i64 0, .int .i64 0, .int .i64 0, .int .i64 0, .int .i64 0] 37), .inl (.cells #[.int .i64 g0, .int .i64 g1, .int .i64 c0, .int .i64 c1, .int .i64 m0, .int .i64 m1, .int .i64 p0, .int .i64 p1] 31), .inl (.cells #[.string s, .int .i64 lm, .int .i64 t0, .int .i64 t1, .int .i64 hs, .int .i64 by_, .int .i64 hzn, .int .i64 ey, .int .i64 sh, .int .i64 tp, .int .i64 pr] 28), .inl (.cells #[.int .i64 ix, .slice a m cc] 24)]).choose_spec⟩ ?_⟩
    clear hK K
    repeat (first | (refine wpMS_pure rfl (fun K hK => ?_); go_simp; refine hK _ ?_; clear hK K) | (refine wpMS_quiet rfl (fun K hK => ?_); go_simp; first | (refine hK _ ?_; clear hK K) | (apply Exists.intro; refine ⟨fun _ => ?_, hK _ ?_⟩; (first | (intro q; go_at_call 33; (with_reducible refine bq (HS2.out _) ?_); exact (fun d => ⟨d, rfl⟩))); clear hK K)))
    refine wpMS_special rfl (fun K hK e6 => ?_)
    rw [lay_bw]
    go_simp
    refine (cor_arcL w [.inr e6, .inr f5, .inr e5, .inr du, .inr d, .inr d7, .inr d6, .inr d5, .inl (.cells #[.int .i64 y0, .int .i64 y1] 29), .inr d4, .inr d3, .inr d2, .inr d1, .inl (.cells #[.int .i64 x0, .int .i64 x1, .int .i64 D0, .int .i64 D1, .int .i64 R0, .int .i64 R1, .int .i64 Q0, .int .i64 Q1, .int .i64 S0, .int .i64 S1, .int .i64 H0, .int .i64 H1, .int .i64 0, .int .i64 0] 37)] [.inr dg, .inl (.cells #[.int .i64 0, .int .i64 0, .int .i64 0, .int .i64 0, .int .i64 0, .int .i64 0, .int .i64 0, .int .i64 0, .int .i64 0, .int .i64 0, .int .i64 0, .int .i64 0, .int .i64 0, .int .i64 0] 37), .inl (.cells #[.int .i64 g0, .int .i64 g1, .int .i64 c0, .int .i64 c1, .int .i64 m0, .int .i64 m1, .int .i64 p0, .int .i64 p1] 31), .inl (.cells #[.string s, .int .i64 lm, .int .i64 t0, .int .i64 t1, .int .i64 hs, .int .i64 by_, .int .i64 hzn, .int .i64 ey, .int .i64 sh, .int .i64 tp, .int .i64 pr] 28), .inl (.cells #[.int .i64 ix, .slice a m cc] 24)] (kpE k4 E1) X2 Y2 E2 _).mono ?_
    rintro en w' ⟨rfl, f6, rfl⟩
    rw [kpE_def]
    refine ⟨_, rfl, hK _ _ ⟨(_, _), (lay_fold w [.inr f6, .inr e6, .inr f5, .inr e5, .inr du] [.inr d, .inr d7, .inr d6, .inr d5, .inl (.cells #[.int .i64 y0, .int .i64 y1] 29), .inr d4, .inr d3, .inr d2, .inr d1, .inl (.cells #[.int .i64 x0, .int .i64 x1, .int .i64 D0, .int .i64 D1, .int .i64 R0, .int .i64 R1, .int .i64 Q0, .int .i64 Q1, .int .i64 S0, .int .i64 S1, .int .i64 H0, .int .i64 H1, .int .i64 0, .int .i64 0] 37), .inl (.cells #[.int .i64 (kpE (kpE k4 E1) E2)] 92), .inr dg, .inl (.cells #[.int .i64 0, .int .i64 0, .int .i64 0, .int .i64 0, .int .i64 0, .int .i64 0, .int .i64 0, .int .i64 0, .int .i64 0, .int .i64 0, .int .i64 0, .int .i64 0, .int .i64 0, .int .i64 0] 37), .inl (.cells #[.int .i64 g0, .int .i64 g1, .int .i64 c0, .int .i64 c1, .int .i64 m0, .int .i64 m1, .int .i64 p0, .int .i64 p1] 31), .inl (.cells #[.string s, .int .i64 lm, .int .i64 t0, .int .i64 t1, .int .i64 hs, .int .i64 by_, .int .i64 hzn, .int .i64 ey, .int .i64 sh, .int .i64 tp, .int .i64 pr] 28), .inl (.cells #[.int .i64 ix, .slice a m cc] 24)]).choose_spec⟩ ?_⟩
    clear hK K
    repeat (first | (refine wpMS_pure rfl (fun K hK => ?_); go_simp; refine hK _ ?_; clear hK K) | (refine wpMS_quiet rfl (fun K hK => ?_); go_simp; first | (refine hK _ ?_; clear hK K) | (apply Exists.intro; refine ⟨fun _ => ?_, hK _ ?_⟩; (first | (intro q; go_at_call 33; (with_reducible refine bq (HS3.out _) ?_); exact (fun d => ⟨d, rfl⟩))); clear hK K)))
    refine wpMS_special rfl (fun K hK e7 => ?_)
    rw [lay_bw]
    go_simp
    refine (cor_arcL w [.inr e7, .inr f6, .inr e6, .inr f5, .inr e5, .inr du, .inr d, .inr d7, .inr d6, .inr d5, .inl (.cells #[.int .i64 y0, .int .i64 y1] 29), .inr d4, .inr d3, .inr d2, .inr d1, .inl (.cells #[.int .i64 x0, .int .i64 x1, .int .i64 D0, .int .i64 D1, .int .i64 R0, .int .i64 R1, .int .i64 Q0, .int .i64 Q1, .int .i64 S0, .int .i64 S1, .int .i64 H0, .int .i64 H1, .int .i64 0, .int .i64 0] 37)] [.inr dg, .inl (.cells #[.int .i64 0, .int .i64 0, .int .i64 0, .int .i64 0, .int .i64 0, .int .i64 0, .int .i64 0, .int .i64 0, .int .i64 0, .int .i64 0, .int .i64 0, .int .i64 0, .int .i64 0, .int .i64 0] 37), .inl (.cells #[.int .i64 g0, .int .i64 g1, .int .i64 c0, .int .i64 c1, .int .i64 m0, .int .i64 m1, .int .i64 p0, .int .i64 p1] 31), .inl (.cells #[.string s, .int .i64 lm, .int .i64 t0, .int .i64 t1, .int .i64 hs, .int .i64 by_, .int .i64 hzn, .int .i64 ey, .int .i64 sh, .int .i64 tp, .int .i64 pr] 28), .inl (.cells #[.int .i64 ix, .slice a m cc] 24)] (kpE (kpE k4 E1) E2) X3 Y3 E3 _).mono ?_
    rintro en w' ⟨rfl, f7, rfl⟩
    rw [kpE_def]
    refine ⟨_, rfl, hK _ _ ⟨(_, _), (lay_fold w [.inr f7, .inr e7, .inr f6, .inr e6, .inr f5, .inr e5, .inr du] [.inr d, .inr d7, .inr d6, .inr d5, .inl (.cells #[.int .i64 y0, .int .i64 y1] 29), .inr d4, .inr d3, .inr d2, .inr d1, .inl (.cells #[.int .i64 x0, .int .i64 x1, .int .i64 D0, .int .i64 D1, .int .i64 R0, .int .i64 R1, .int .i64 Q0, .int .i64 Q1, .int .i64 S0, .int .i64 S1, .int .i64 H0, .int .i64 H1, .int .i64 0, .int .i64 0] 37), .inl (.cells #[.int .i64 (kpE (kpE (kpE k4 E1) E2) E3)] 92), .inr dg, .inl (.cells #[.int .i64 0, .int .i64 0, .int .i64 0, .int .i64 0, .int .i64 0, .int .i64 0, .int .i64 0, .int .i64 0, .int .i64 0, .int .i64 0, .int .i64 0, .int .i64 0, .int .i64 0, .int .i64 0] 37), .inl (.cells #[.int .i64 g0, .int .i64 g1, .int .i64 c0, .int .i64 c1, .int .i64 m0, .int .i64 m1, .int .i64 p0, .int .i64 p1] 31), .inl (.cells #[.string s, .int .i64 lm, .int .i64 t0, .int .i64 t1, .int .i64 hs, .int .i64 by_, .int .i64 hzn, .int .i64 ey, .int .i64 sh, .int .i64 tp, .int .i64 pr] 28), .inl (.cells #[.int .i64 ix, .slice a m cc] 24)]).choose_spec⟩ ?_⟩
    clear hK K
    repeat (first | (refine wpMS_pure rfl (fun K hK => ?_); go_simp; refine hK _ ?_; clear hK K) | (refine wpMS_quiet rfl (fun K hK => ?_); go_simp; first | (refine hK _ ?_; clear hK K) | (apply Exists.intro; refine ⟨fun _ => ?_, hK _ ?_⟩; (first | fail); clear hK K)))
    refine wpMS_store rfl (fun K hK e8 => ?_)
    rw [lay_bw]
    go_simp
    refine hK _ _ ?_
    clear hK K
    refine wpMS_nil (fun e9 => ?_)
    rw [lay_bw]
    obtain ⟨K5, hK5⟩ : ∃ K5, kpE (kpE (kpE k4 E1) E2) E3 = K5 := ⟨_, rfl⟩
    rw [hK5]
    have HK5 := Lib.hid hK5
    clear hK5
    by_cases hk5 : K5 = 0
    ·subst hk5
     have HR := Lib.hid (work_end HK5.out HKU.out.1 HX.out HHB.out)
     go_wp2_with fail
     exact bodyPost_ret (v := .tuple #[(.agg #[.int .i64 (x0), .int .i64 (x1), .int .i64 (D0), .int .i64 (D1), .int .i64 (R0), .int .i64 (R1), .int .i64 (Q0), .int .i64 (Q1), .int .i64 (S0), .int .i64 (S1), .int .i64 (H0), .int .i64 (H1), .int .i64 (X3), .int .i64 (Y3)]), .int .i64 0]) (by simp [results, Tryz.results5, go_sem]) rfl ⟨⟨x0, x1, D0, D1, R0, R1, Q0, Q1, S0, S1, H0, H1, X3, Y3, 0, fun _ => ⟨⟨HHB.out.2.1, by have := HHB.out; omega, by have := HHB.out; omega⟩, HR.out.1, HR.out.2, dip_end (HD.out.1 HZ.out.1) (HH.out.1 HZ.out.2).1.2⟩, by decide, rfl⟩, lay_ex _ _⟩
    ·have hk6 : (K5 != 0) = true := bne_iff_ne.2 hk5
     have HKN := Lib.hid hk5
     clear hk5
     go_wp2_with fail
     go_region
     all_goals go_wp2_with fail
     all_goals exact bodyPost_ret (v := .tuple #[(.agg #[.int .i64 (0), .int .i64 (0), .int .i64 (0), .int .i64 (0), .int .i64 (0), .int .i64 (0), .int .i64 (0), .int .i64 (0), .int .i64 (0), .int .i64 (0), .int .i64 (0), .int .i64 (0), .int .i64 (0), .int .i64 (0)]), .int .i64 K5]) (by simp [results, Tryz.results5, go_sem]) rfl ⟨⟨0, 0, 0, 0, 0, 0, 0, 0, 0, 0, 0, 0, 0, 0, K5, fun h => absurd h HKN.out, work_bd HK5.out HKU.out.2 HE.out, rfl⟩, bw_of (Below.drew (lay_extends _ _))⟩
   ·rw [Bool.eq_false_iff.2 hi] at HI
    clear hi
    go_wp2_with fail
    refine region_bw (by kernel_rfl) (by kernel_rfl) ?_
    repeat (go_big_quiet_step ((first | (go_at_call 31; first | ((with_reducible refine bq (cor_possible _) ?_); exact (fun d => ⟨d, rfl⟩)) | ((with_reducible refine bq (cor_possible _) ?_); exact (fun d => lay_join _ _ _ d))) | (go_at_call 30; first | ((with_reducible refine bq (HI.out _) ?_); exact (fun d => ⟨d, rfl⟩)) | ((with_reducible refine bq (HI.out _) ?_); exact (fun d => lay_join _ _ _ d))))))
    refine wpQuiet_nil ?_
    rintro w' ⟨d, rfl⟩
    rw [lay_bw]
    go_wp2_with fail
    exact bodyPost_ret (v := .tuple #[(.agg #[.int .i64 (0), .int .i64 (0), .int .i64 (0), .int .i64 (0), .int .i64 (0), .int .i64 (0), .int .i64 (0), .int .i64 (0), .int .i64 (0), .int .i64 (0), .int .i64 (0), .int .i64 (0), .int .i64 (0), .int .i64 (0)]), .int .i64 2]) (by simp [results, Tryz.results5, go_sem]) rfl ⟨⟨0, 0, 0, 0, 0, 0, 0, 0, 0, 0, 0, 0, 0, 0, 2, fun h => absurd h (by decide), by decide, rfl⟩, lay_ex _ _⟩
  ·have hk2 : (K4 != 0) = true := bne_iff_ne.2 hk
   have HKN := Lib.hid hk
   clear hk
   go_wp2_with fail
   go_region
   all_goals go_wp2_with fail
   all_goals exact bodyPost_ret (v := .tuple #[(.agg #[.int .i64 (0), .int .i64 (0), .int .i64 (0), .int .i64 (0), .int .i64 (0), .int .i64 (0), .int .i64 (0), .int .i64 (0), .int .i64 (0), .int .i64 (0), .int .i64 (0), .int .i64 (0), .int .i64 (0), .int .i64 (0)]), .int .i64 K4]) (by simp [results, Tryz.results5, go_sem]) rfl ⟨⟨0, 0, 0, 0, 0, 0, 0, 0, 0, 0, 0, 0, 0, 0, K4, fun h => absurd h HKN.out, HKb.out, rfl⟩, bw_of (Below.drew (lay_extends _ _))⟩
theorem cor_Work (ix : Int) (v : Value) (l : List ErV) (s : ByteArray) (lm t0 t1 hs by_ hzn ey sh tp pr g0 g1 c0 c1 m0 m1 p0 p1 : Int) (w : World) (hv : SlG eR w v l) (hb : s.size ≤ 9223372036854775807) :
  Calls Tryz.prog 5 #[.agg #[.int .i64 ix, v], .agg #[.string s, .int .i64 lm, .int .i64 t0, .int .i64 t1, .int .i64 hs, .int .i64 by_, .int .i64 hzn, .int .i64 ey, .int .i64 sh, .int .i64 tp, .int .i64 pr], .agg #[.int .i64 g0, .int .i64 g1, .int .i64 c0, .int .i64 c1, .int .i64 m0, .int .i64 m1, .int .i64 p0, .int .i64 p1]] w (WorkP w) := by
 by_cases hz : hzn = 2
 ·exact cor_WorkA ix v l s lm t0 t1 hs by_ hzn ey sh tp pr g0 g1 c0 c1 m0 m1 p0 p1 w hv hb hz
 ·exact cor_WorkB ix v l s lm t0 t1 hs by_ hzn ey sh tp pr g0 g1 c0 c1 m0 m1 p0 p1 w hv hb hz
end Go.Proofs.YtcbicpbbjbkiaaaGreatDoor
