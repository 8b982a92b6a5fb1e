/- Contracts and plain laws, several texts in one: TpZ; TqA; TqB; TqC; TqD; TqE; TqF; Sgn; TqK -/
import Derived.Test.YtcbicpbbjbkiaaaGreatDoorProg
import Derived.WalkKit
import Derived.WalkSpells
import Derived.WalkLawsBesides
import Derived.Lib.Hide
import Derived.BigQuiet
import Derived.Test.YtcbicpbbjbkiaaaGreatDoorZmAA
import Derived.Test.YtcbicpbbjbkiaaaGreatDoorZmAF
import Derived.Test.YtcbicpbbjbkiaaaGreatDoorZmAH
import Derived.Test.YtcbicpbbjbkiaaaGreatDoorZmAO
import Derived.Test.YtcbicpbbjbkiaaaGreatDoorZmAQ
import Derived.Test.YtcbicpbbjbkiaaaGreatDoorZmAR
namespace Go.Proofs.YtcbicpbbjbkiaaaGreatDoor
set_option maxHeartbeats 1000000
open Go.RowKit

theorem vc_keep (b : Nat) (x y : Int) (w : World) (hc : ChW b w) :
  Calls Tryz.prog 99 #[.pointer (some ⟨b, 0, none⟩), (.agg #[.int .i64 (x), .int .i64 (y)]), .int .i64 0] w fun e w' => e = .returned ((.agg #[.int .i64 (x), .int .i64 (y)])) ∧ ∃ d, w' = bw w d := by
 have hb := hc.lt
 have h1 := hc.cell
 have h2 := hc.froz
 have h3 : ∀ L, (lay w L).setCell ⟨b, 0, none⟩ (.int .i64 0) = lay w L := fun L => (hc.lay L).set
 refine lay_start ?_
 go_enter Tryz.func99, Tryz.ntmps99
 go_wp2_with fail
 exact bodyPost_ret (v := (.agg #[.int .i64 (x), .int .i64 (y)])) (by simp [results, Tryz.results99, go_sem]) rfl ⟨rfl, lay_ex _ _⟩
theorem vc_sin (b : Nat) (lo hi : Int) (w : World) (hc : ChW b w) (hv : validB lo hi = true) :
  Calls Tryz.prog 42 #[.pointer (some ⟨b, 0, none⟩), (.agg #[.int .i64 (lo), .int .i64 (hi)])] w fun e w' => e = .returned ((.agg #[.int .i64 (encL lo hi), .int .i64 (encH lo hi)])) ∧ ∃ d, w' = bw w d := by
 have HT := Lib.hid (fun W => tg_Sin lo hi hv W)
 have HK := Lib.hid (fun L => vc_keep b (encL lo hi) (encH lo hi) (lay w L) (hc.lay L))
 generalize encL lo hi = p at *
 generalize encH lo hi = q at *
 have hb := hc.lt
 clear hc
 refine lay_start ?_
 go_enter Tryz.func42, Tryz.ntmps42
 go_wp2_with fail
 refine region_bw_tail 8 (by kernel_rfl) (by kernel_rfl) ?_
 simp only [List.take_succ_cons, List.take_zero, List.drop_succ_cons, List.drop_zero]
 repeat (go_big_quiet_step ((first | (go_at_call 102; first | ((with_reducible refine bq (HT.out _) ?_); exact (fun d => ⟨d, rfl⟩)) | ((with_reducible refine bq (HT.out _) ?_); exact (fun d => lay_join _ _ _ d))) | (go_at_call 99; first | ((with_reducible refine bq (HK.out _) ?_); exact (fun d => ⟨d, rfl⟩)) | ((with_reducible refine bq (HK.out _) ?_); exact (fun d => lay_join _ _ _ d))))))
 refine wpQuiet_nil ?_
 rintro w' ⟨d, rfl⟩
 rw [lay_bw]
 go_wp2_with fail
 exact bodyPost_ret (v := (.agg #[.int .i64 (p), .int .i64 (q)])) (by simp [results, Tryz.results42, go_sem]) rfl ⟨rfl, lay_ex _ _⟩
theorem vc_cos (b : Nat) (lo hi : Int) (w : World) (hc : ChW b w) (hv : validB lo hi = true) :
  Calls Tryz.prog 39 #[.pointer (some ⟨b, 0, none⟩), (.agg #[.int .i64 (lo), .int .i64 (hi)])] w fun e w' => e = .returned ((.agg #[.int .i64 (encL (lo + 5400000) (hi + 5400000)), .int .i64 (encH (lo + 5400000) (hi + 5400000))])) ∧ ∃ d, w' = bw w d := by
 have HT := Lib.hid (fun W => tg_Cos lo hi hv W)
 have HK := Lib.hid (fun L => vc_keep b (encL (lo + 5400000) (hi + 5400000)) (encH (lo + 5400000) (hi + 5400000)) (lay w L) (hc.lay L))
 generalize encL (lo + 5400000) (hi + 5400000) = p at *
 generalize encH (lo + 5400000) (hi + 5400000) = q at *
 have hb := hc.lt
 clear hc
 refine lay_start ?_
 go_enter Tryz.func39, Tryz.ntmps39
 go_wp2_with fail
 refine region_bw_tail 8 (by kernel_rfl) (by kernel_rfl) ?_
 simp only [List.take_succ_cons, List.take_zero, List.drop_succ_cons, List.drop_zero]
 repeat (go_big_quiet_step ((first | (go_at_call 100; first | ((with_reducible refine bq (HT.out _) ?_); exact (fun d => ⟨d, rfl⟩)) | ((with_reducible refine bq (HT.out _) ?_); exact (fun d => lay_join _ _ _ d))) | (go_at_call 99; first | ((with_reducible refine bq (HK.out _) ?_); exact (fun d => ⟨d, rfl⟩)) | ((with_reducible refine bq (HK.out _) ?_); exact (fun d => lay_join _ _ _ d))))))
 refine wpQuiet_nil ?_
 rintro w' ⟨d, rfl⟩
 rw [lay_bw]
 go_wp2_with fail
 exact bodyPost_ret (v := (.agg #[.int .i64 (p), .int .i64 (q)])) (by simp [results, Tryz.results39, go_sem]) rfl ⟨rfl, lay_ex _ _⟩
theorem vc_mul (b : Nat) (a0 a1 b0 b1 : Int) (w : World) (hc : ChW b w) (ha : fxB a0 a1 = true) (hb' : fxB b0 b1 = true) (hm : fxB (mulL a0 a1 b0 b1) (mulH a0 a1 b0 b1) = true) :
  Calls Tryz.prog 41 #[.pointer (some ⟨b, 0, none⟩), (.agg #[.int .i64 (a0), .int .i64 (a1)]), (.agg #[.int .i64 (b0), .int .i64 (b1)])] w fun e w' => e = .returned ((.agg #[.int .i64 (mulL a0 a1 b0 b1), .int .i64 (mulH a0 a1 b0 b1)])) ∧ ∃ d, w' = bw w d := by
 have HT := Lib.hid (fun W => fx_MulG a0 a1 b0 b1 W ha hb' hm)
 have HK := Lib.hid (fun L => vc_keep b (mulL a0 a1 b0 b1) (mulH a0 a1 b0 b1) (lay w L) (hc.lay L))
 generalize mulL a0 a1 b0 b1 = p at *
 generalize mulH a0 a1 b0 b1 = q at *
 have hb := hc.lt
 clear hc
 refine lay_start ?_
 go_enter Tryz.func41, Tryz.ntmps41
 go_wp2_with fail
 refine region_bw_tail 9 (by kernel_rfl) (by kernel_rfl) ?_
 simp only [List.take_succ_cons, List.take_zero, List.drop_succ_cons, List.drop_zero]
 repeat (go_big_quiet_step ((first | (go_at_call 101; first | ((with_reducible refine bq (HT.out _) ?_); exact (fun d => ⟨d, rfl⟩)) | ((with_reducible refine bq (HT.out _) ?_); exact (fun d => lay_join _ _ _ d))) | (go_at_call 99; first | ((with_reducible refine bq (HK.out _) ?_); exact (fun d => ⟨d, rfl⟩)) | ((with_reducible refine bq (HK.out _) ?_); exact (fun d => lay_join _ _ _ d))))))
 refine wpQuiet_nil ?_
 rintro w' ⟨d, rfl⟩
 rw [lay_bw]
 go_wp2_with fail
 exact bodyPost_ret (v := (.agg #[.int .i64 (p), .int .i64 (q)])) (by simp [results, Tryz.results41, go_sem]) rfl ⟨rfl, lay_ex _ _⟩
theorem vc_add (b : Nat) (a0 a1 b0 b1 : Int) (w : World) (hc : ChW b w) (ha : fxB a0 a1 = true) (hb' : fxB b0 b1 = true) (hm : fxB (a0 + b0) (a1 + b1) = true) :
  Calls Tryz.prog 45 #[.pointer (some ⟨b, 0, none⟩), (.agg #[.int .i64 (a0), .int .i64 (a1)]), (.agg #[.int .i64 (b0), .int .i64 (b1)])] w fun e w' => e = .returned ((.agg #[.int .i64 (a0 + b0), .int .i64 (a1 + b1)])) ∧ ∃ d, w' = bw w d := by
 have HT := Lib.hid (fun W => fx_AddG a0 a1 b0 b1 W ha hb' hm)
 have HK := Lib.hid (fun L => vc_keep b (a0 + b0) (a1 + b1) (lay w L) (hc.lay L))
 generalize a0 + b0 = p at *
 generalize a1 + b1 = q at *
 have hb := hc.lt
 clear hc
 refine lay_start ?_
 go_enter Tryz.func45, Tryz.ntmps45
 go_wp2_with fail
 refine region_bw_tail 9 (by kernel_rfl) (by kernel_rfl) ?_
 simp only [List.take_succ_cons, List.take_zero, List.drop_succ_cons, List.drop_zero]
 repeat (go_big_quiet_step ((first | (go_at_call 105; first | ((with_reducible refine bq (HT.out _) ?_); exact (fun d => ⟨d, rfl⟩)) | ((with_reducible refine bq (HT.out _) ?_); exact (fun d => lay_join _ _ _ d))) | (go_at_call 99; first | ((with_reducible refine bq (HK.out _) ?_); exact (fun d => ⟨d, rfl⟩)) | ((with_reducible refine bq (HK.out _) ?_); exact (fun d => lay_join _ _ _ d))))))
 refine wpQuiet_nil ?_
 rintro w' ⟨d, rfl⟩
 rw [lay_bw]
 go_wp2_with fail
 exact bodyPost_ret (v := (.agg #[.int .i64 (p), .int .i64 (q)])) (by simp [results, Tryz.results45, go_sem]) rfl ⟨rfl, lay_ex _ _⟩
set_option maxHeartbeats 4000000
open Go.RowKit

theorem vc_vector (b : Nat) (x0 x1 y0 y1 z0 z1 : Int) (w : World) (hc : ChW b w) :
  Calls Tryz.prog 40 #[.pointer (some ⟨b, 0, none⟩), (.agg #[.int .i64 (x0), .int .i64 (x1)]), (.agg #[.int .i64 (y0), .int .i64 (y1)]), (.agg #[.int .i64 (z0), .int .i64 (z1)])] w fun e w' => e = .returned (.tuple #[(.agg #[.int .i64 (x0), .int .i64 (x1), .int .i64 (y0), .int .i64 (y1), .int .i64 (z0), .int .i64 (z1)]), .int .i64 0]) ∧ ∃ d, w' = bw w d := by
 have hb := hc.lt
 have h1 := hc.cell
 refine lay_start ?_
 go_enter Tryz.func40, Tryz.ntmps40
 go_wp2_with fail
 exact bodyPost_ret (v := .tuple #[(.agg #[.int .i64 (x0), .int .i64 (x1), .int .i64 (y0), .int .i64 (y1), .int .i64 (z0), .int .i64 (z1)]), .int .i64 0]) (by simp [results, Tryz.results40, go_sem]) rfl ⟨rfl, lay_ex _ _⟩
set_option maxRecDepth 100000 in
theorem vec_Of (a b c d : Int) (h1 : validB a b = true) (h2 : validB c d = true) :
  ∃ x0 x1 y0 y1 z0 z1 : Int, (-1073741824 ≤ x0 ∧ x0 ≤ x1 ∧ x1 ≤ 1073741824) ∧ (-1073741824 ≤ y0 ∧ y0 ≤ y1 ∧ y1 ≤ 1073741824) ∧ (-1073741824 ≤ z0 ∧ z0 ≤ z1 ∧ z1 ≤ 1073741824) ∧ ∀ w : World,
   Calls Tryz.prog 8 #[(.agg #[.int .i64 (a), .int .i64 (b)]), (.agg #[.int .i64 (c), .int .i64 (d)])] w fun e w' => e = .returned (.tuple #[(.agg #[.int .i64 (x0), .int .i64 (x1), .int .i64 (y0), .int .i64 (y1), .int .i64 (z0), .int .i64 (z1)]), .int .i64 0]) ∧ ∃ k, w' = bw w k := by
 have e1 := enc_in (lo := a + 5400000) (hi := b + 5400000)
 have e2 := enc_in (lo := c + 5400000) (hi := d + 5400000)
 have e3 := enc_in (lo := c) (hi := d)
 have e4 := enc_in (lo := a) (hi := b)
 have m1 := mul_unit e1.1 e1.2.1 e1.2.2 e2.1 e2.2.1 e2.2.2
 have m2 := mul_unit e1.1 e1.2.1 e1.2.2 e3.1 e3.2.1 e3.2.2
 refine ⟨_, _, _, _, _, _, m1, m2, e4, fun w => ?_⟩
 have HV1 := Lib.hid (fun W => angle_Valid a b W)
 have HV2 := Lib.hid (fun W => angle_Valid c d W)
 have HC1 := Lib.hid (fun k W h => vc_cos k a b W h h1)
 have HC2 := Lib.hid (fun k W h => vc_cos k c d W h h2)
 have HS1 := Lib.hid (fun k W h => vc_sin k a b W h h1)
 have HS2 := Lib.hid (fun k W h => vc_sin k c d W h h2)
 have HM1 := Lib.hid (fun k W h => vc_mul k _ _ _ _ W h (fxB_iff.2 (by omega)) (fxB_iff.2 (by omega)) (fxB_iff.2 ⟨m1.2.1, by omega, by omega⟩))
 have HM2 := Lib.hid (fun k W h => vc_mul k _ _ _ _ W h (fxB_iff.2 (by omega)) (fxB_iff.2 (by omega)) (fxB_iff.2 ⟨m2.2.1, by omega, by omega⟩))
 rw [h1] at HV1
 rw [h2] at HV2
 clear h1 h2 e1 e2 e3 e4 m1 m2
 generalize mulL (encL (a + 5400000) (b + 5400000)) (encH (a + 5400000) (b + 5400000)) (encL (c + 5400000) (d + 5400000)) (encH (c + 5400000) (d + 5400000)) = x0 at *
 generalize mulH (encL (a + 5400000) (b + 5400000)) (encH (a + 5400000) (b + 5400000)) (encL (c + 5400000) (d + 5400000)) (encH (c + 5400000) (d + 5400000)) = x1 at *
 generalize mulL (encL (a + 5400000) (b + 5400000)) (encH (a + 5400000) (b + 5400000)) (encL c d) (encH c d) = y0 at *
 generalize mulH (encL (a + 5400000) (b + 5400000)) (encH (a + 5400000) (b + 5400000)) (encL c d) (encH c d) = y1 at *
 generalize encL (a + 5400000) (b + 5400000) = p0 at *
 generalize encH (a + 5400000) (b + 5400000) = p1 at *
 generalize encL (c + 5400000) (d + 5400000) = q0 at *
 generalize encH (c + 5400000) (d + 5400000) = q1 at *
 generalize encL c d = r0 at *
 generalize encH c d = r1 at *
 generalize encL a b = z0 at *
 generalize encH a b = z1 at *
 have HR := Lib.hid (fun k W h => vc_vector k x0 x1 y0 y1 z0 z1 W h)
 refine lay_start ?_
 go_enter Tryz.func8, Tryz.ntmps8
 go_wp2_with (go_at_call 38; first | ((with_reducible refine (HV1.out _).mono ?_); rintro e w' ⟨rfl, dq, rfl⟩; rw [lay_bw]) | ((with_reducible refine (HV2.out _).mono ?_); rintro e w' ⟨rfl, dr, rfl⟩; rw [lay_bw]))
 have hc0 : ChW (posn w [dr.n, dq.n, 1, 1, 1]) (lay w [.inl (Obj.cells #[.int .i64 0] 111), .inr dr, .inr dq, .inl (Obj.cells #[.int .i64 0, .int .i64 0, .int .i64 0, .int .i64 0, .int .i64 0, .int .i64 0] 48), .inl (Obj.cells #[.int .i64 c, .int .i64 d] 29), .inl (Obj.cells #[.int .i64 a, .int .i64 b] 29)]) := chW_new w _ _ _ rfl
 refine (HC1.out _ _ hc0).mono ?_
 rintro e w' ⟨rfl, d1, rfl⟩
 rw [lay_bw]
 go_wp2_with fail
 have hc2 : ChW (posn w [dr.n, dq.n, 1, 1, 1]) (lay w [.inl (Obj.cells #[.int .i64 p0, .int .i64 p1] 46), .inr d1, .inl (Obj.cells #[.int .i64 0] 111), .inr dr, .inr dq, .inl (Obj.cells #[.int .i64 0, .int .i64 0, .int .i64 0, .int .i64 0, .int .i64 0, .int .i64 0] 48), .inl (Obj.cells #[.int .i64 c, .int .i64 d] 29), .inl (Obj.cells #[.int .i64 a, .int .i64 b] 29)]) := hc0.on [.inl (Obj.cells #[.int .i64 p0, .int .i64 p1] 46), .inr d1]
 have hc3 : ∀ e, ChW (posn w [dr.n, dq.n, 1, 1, 1]) (lay w (.inr e :: [.inl (Obj.cells #[.int .i64 p0, .int .i64 p1] 46), .inr d1, .inl (Obj.cells #[.int .i64 0] 111), .inr dr, .inr dq, .inl (Obj.cells #[.int .i64 0, .int .i64 0, .int .i64 0, .int .i64 0, .int .i64 0, .int .i64 0] 48), .inl (Obj.cells #[.int .i64 c, .int .i64 d] 29), .inl (Obj.cells #[.int .i64 a, .int .i64 b] 29)])) := fun e => hc0.on [.inr e, .inl (Obj.cells #[.int .i64 p0, .int .i64 p1] 46), .inr d1]
 refine region_bw_tail 19 (by kernel_rfl) (by kernel_rfl) ?_
 simp only [List.take_succ_cons, List.take_zero, List.drop_succ_cons, List.drop_zero]
 repeat (go_big_quiet_step ((first | (go_at_call 39; first | ((with_reducible refine bq (HC2.out _ _ hc2) ?_); exact (fun d => ⟨d, rfl⟩)) | ((with_reducible refine bq (HC2.out _ _ (hc3 _)) ?_); exact (fun d => lay_join _ _ _ d))) | (go_at_call 42; first | ((with_reducible refine bq (HS2.out _ _ hc2) ?_); exact (fun d => ⟨d, rfl⟩)) | ((with_reducible refine bq (HS2.out _ _ (hc3 _)) ?_); exact (fun d => lay_join _ _ _ d)) | ((with_reducible refine bq (HS1.out _ _ hc2) ?_); exact (fun d => ⟨d, rfl⟩)) | ((with_reducible refine bq (HS1.out _ _ (hc3 _)) ?_); exact (fun d => lay_join _ _ _ d))) | (go_at_call 41; first | ((with_reducible refine bq (HM1.out _ _ hc2) ?_); exact (fun d => ⟨d, rfl⟩)) | ((with_reducible refine bq (HM1.out _ _ (hc3 _)) ?_); exact (fun d => lay_join _ _ _ d)) | ((with_reducible refine bq (HM2.out _ _ hc2) ?_); exact (fun d => ⟨d, rfl⟩)) | ((with_reducible refine bq (HM2.out _ _ (hc3 _)) ?_); exact (fun d => lay_join _ _ _ d))) | (go_at_call 40; first | ((with_reducible refine bq (HR.out _ _ hc2) ?_); exact (fun d => ⟨d, rfl⟩)) | ((with_reducible refine bq (HR.out _ _ (hc3 _)) ?_); exact (fun d => lay_join _ _ _ d))))))
 refine wpQuiet_nil ?_
 rintro w' ⟨d, rfl⟩
 rw [lay_bw]
 go_wp2_with fail
 exact bodyPost_ret (v := .tuple #[(.agg #[.int .i64 (x0), .int .i64 (x1), .int .i64 (y0), .int .i64 (y1), .int .i64 (z0), .int .i64 (z1)]), .int .i64 0]) (by simp [results, Tryz.results8, go_sem]) rfl ⟨rfl, lay_ex _ _⟩
end Go.Proofs.YtcbicpbbjbkiaaaGreatDoor
namespace Go.Proofs.YtcbicpbbjbkiaaaGreatDoor
open Go.RowKit

set_option maxHeartbeats 1000000 in
theorem vec_OfN (a b c d : Int) (h : ¬ (validB a b = true ∧ validB c d = true)) (w : World) :
  Calls Tryz.prog 8 #[(.agg #[.int .i64 (a), .int .i64 (b)]), (.agg #[.int .i64 (c), .int .i64 (d)])] w fun e w' => e = .returned (.tuple #[(.agg #[.int .i64 (0), .int .i64 (0), .int .i64 (0), .int .i64 (0), .int .i64 (0), .int .i64 (0)]), .int .i64 1]) ∧ ∃ k, w' = bw w k := by
 have HV1 := Lib.hid (fun W => angle_Valid a b W)
 have HV2 := Lib.hid (fun W => angle_Valid c d W)
 have hor : (validB a b = false) ∨ (validB a b = true ∧ validB c d = false) := by
  cases h1 : validB a b
  ·exact .inl rfl
  ·cases h2 : validB c d
   ·exact .inr ⟨rfl, rfl⟩
   ·exact absurd ⟨h1, h2⟩ h
 clear h
 rcases hor with h1 | ⟨h1, h2⟩
 all_goals
  first | rw [h1] at HV1 | skip
  first | rw [h2] at HV2 | skip
  refine lay_start ?_
  go_enter Tryz.func8, Tryz.ntmps8
  go_wp2_with (go_at_call 38; first | ((with_reducible refine (HV1.out _).mono ?_); rintro e w' ⟨rfl, dq, rfl⟩; rw [lay_bw]) | ((with_reducible refine (HV2.out _).mono ?_); rintro e w' ⟨rfl, dr, rfl⟩; rw [lay_bw]))
  exact bodyPost_ret (v := .tuple #[(.agg #[.int .i64 (0), .int .i64 (0), .int .i64 (0), .int .i64 (0), .int .i64 (0), .int .i64 (0)]), .int .i64 1]) (by simp [results, Tryz.results8, go_sem]) rfl ⟨rfl, lay_ex _ _⟩
theorem vec_Valid (x0 x1 y0 y1 z0 z1 : Int) (hx : fxB x0 x1 = true) (hy : fxB y0 y1 = true) (hz : fxB z0 z1 = true) (w : World) :
  Calls Tryz.prog 43 #[(.agg #[.int .i64 (x0), .int .i64 (x1), .int .i64 (y0), .int .i64 (y1), .int .i64 (z0), .int .i64 (z1)])] w fun e w' => e = .returned (.bool true) ∧ ∃ k, w' = bw w k := by
 have H1 := Lib.hid (fun W => fx_ValidG x0 x1 W)
 have H2 := Lib.hid (fun W => fx_ValidG y0 y1 W)
 have H3 := Lib.hid (fun W => fx_ValidG z0 z1 W)
 rw [hx] at H1
 rw [hy] at H2
 rw [hz] at H3
 refine lay_start ?_
 go_enter Tryz.func43, Tryz.ntmps43
 go_wp2_with (go_at_call 103; first | ((with_reducible refine (H1.out _).mono ?_); rintro e w' ⟨rfl, dq, rfl⟩; rw [lay_bw]) | ((with_reducible refine (H2.out _).mono ?_); rintro e w' ⟨rfl, dr, rfl⟩; rw [lay_bw]) | ((with_reducible refine (H3.out _).mono ?_); rintro e w' ⟨rfl, dr, rfl⟩; rw [lay_bw]))
 go_ret
 exact ⟨rfl, lay_ex _ _⟩
theorem tp_sq {a : Int} (h : -1073741824 ≤ a ∧ a ≤ 1073741824) : 0 ≤ a * a ∧ a * a ≤ 1152921504606846976 := by
 have p := tp_prod (x := a) (k := a) (X := 1073741824) (K := 1073741824) h h
 refine ⟨?_, by omega⟩
 rcases Int.le_total 0 a with g | g
 ·exact Int.mul_nonneg g g
 ·have := Int.mul_nonneg (show 0 ≤ -a by omega) (show 0 ≤ -a by omega)
  rw [Int.neg_mul_neg] at this
  exact this
set_option maxHeartbeats 2000000 in
set_option maxRecDepth 100000 in
theorem fx_SquareT (a b : Int) (h : -1073741824 ≤ a ∧ a ≤ b ∧ b ≤ 1073741824) :
  ∃ p q : Int, 0 ≤ p ∧ p ≤ q ∧ q ≤ 1073741824 ∧ ∀ w : World, Calls Tryz.prog 106 #[(.agg #[.int .i64 (a), .int .i64 (b)])] w fun e w' => e = .returned (.tuple #[(.agg #[.int .i64 (p), .int .i64 (q)]), .int .i64 0]) ∧ ∃ d, w' = bw w d := by
 obtain ⟨s1, s2⟩ := tp_sq (a := a) (by omega)
 obtain ⟨t1, t2⟩ := tp_sq (a := b) (by omega)
 obtain ⟨S, hS⟩ : ∃ S, S = a * a := ⟨_, rfl⟩
 obtain ⟨T, hT⟩ : ∃ T, T = b * b := ⟨_, rfl⟩
 rw [← hS] at s1 s2
 rw [← hT] at t1 t2
 have y1 : wrap64 (a * a) = S := by rw [← hS]; unfold wrap64; omega
 have y2 : wrap64 (b * b) = T := by rw [← hT]; unfold wrap64; omega
 have HV := Lib.hid (fun W => fx_ValidG a b W)
 rw [fxB_iff.2 (by omega : a ≤ b ∧ -2147483648 ≤ a ∧ b ≤ 2147483648)] at HV
 have hU : mx S T = (if S < T then T else S) := by rw [mx_eq]; split <;> omega
 have u1 : 0 ≤ mx S T ∧ mx S T ≤ 1152921504606846976 := by rw [mx_eq]; omega
 have l1 : 0 ≤ mn S T ∧ mn S T ≤ mx S T := by rw [mn_eq, mx_eq]; omega
 obtain ⟨U, hU'⟩ : ∃ U, U = mx S T := ⟨_, rfl⟩
 obtain ⟨M, hM⟩ : ∃ M, M = mn S T := ⟨_, rfl⟩
 rw [← hU'] at u1 l1
 rw [← hM] at l1
 clear hU
 have key : ∀ L : Int, 0 ≤ L → L ≤ U → 0 ≤ L / 1073741824 ∧ L / 1073741824 ≤ -((-U) / 1073741824) ∧ -((-U) / 1073741824) ≤ 1073741824 := fun L h1 h2 => by omega
 by_cases hz : a ≤ 0 ∧ 0 ≤ b
 ·obtain ⟨k1, k2, k3⟩ := key 0 (by omega) (by omega)
  refine ⟨0 / 1073741824, -((-U) / 1073741824), k1, k2, k3, fun w => ?_⟩
  have HF := Lib.hid (fun W => fx_floorG 0 1073741824 W (by decide) (by omega) (by omega))
  have HC := Lib.hid (fun W => fx_ceilG U 1073741824 W (by decide) (by omega) (by omega))
  have HT := Lib.hid (fun W => fx_fitG (0 / 1073741824) (-((-U) / 1073741824)) W (fxB_iff.2 (by omega)))
  obtain ⟨z1, z2⟩ := hz
  clear key k1 k2 k3 h s1 s2 t1 t2 hS hT u1 l1
  have hm1 : mn S T = M := hM.symm
  have hm2 : mx S T = U := hU'.symm
  clear hM hU'
  generalize (0 : Int) / 1073741824 = X at *
  generalize -((-U) / 1073741824) = Y at *
  refine lay_start ?_
  go_enter Tryz.func106, Tryz.ntmps106
  go_wp2_with (go_at_call 103; refine (HV.out _).mono ?_; rintro e w' ⟨rfl, d, rfl⟩)
  refine region_bw (by kernel_rfl) (by kernel_rfl) ?_
  repeat (go_big_quiet_step ((first | fail)))
  refine wpQuiet_nil ?_
  rintro w' ⟨d, rfl⟩
  rw [lay_bw]
  go_wp2_with (first | (go_at_call 190; refine (HF.out _).mono ?_; rintro e w' ⟨rfl, rfl⟩) | (go_at_call 191; refine (HC.out _).mono ?_; rintro e w' ⟨rfl, rfl⟩) | (go_at_call 189; refine (HT.out _).mono ?_; rintro e w' ⟨rfl, d, rfl⟩))
  exact bodyPost_ret (v := .tuple #[(.agg #[.int .i64 (X), .int .i64 (Y)]), .int .i64 0]) (by simp [results, Tryz.results106, go_sem]) rfl ⟨rfl, lay_ex _ _⟩
 ·obtain ⟨k1, k2, k3⟩ := key M l1.1 l1.2
  refine ⟨M / 1073741824, -((-U) / 1073741824), k1, k2, k3, fun w => ?_⟩
  have HF := Lib.hid (fun W => fx_floorG M 1073741824 W (by decide) (by omega) (by omega))
  have HC := Lib.hid (fun W => fx_ceilG U 1073741824 W (by decide) (by omega) (by omega))
  have HT := Lib.hid (fun W => fx_fitG (M / 1073741824) (-((-U) / 1073741824)) W (fxB_iff.2 (by omega)))
  have hor : (0 < a) ∨ (a ≤ 0 ∧ b < 0) := by omega
  clear key k1 k2 k3 h s1 s2 t1 t2 hS hT u1 l1 hz
  have hm1 : mn S T = M := hM.symm
  have hm2 : mx S T = U := hU'.symm
  clear hM hU'
  generalize M / 1073741824 = X at *
  generalize -((-U) / 1073741824) = Y at *
  rcases hor with z1 | ⟨z1, z2⟩
  all_goals
   refine lay_start ?_
   go_enter Tryz.func106, Tryz.ntmps106
   go_wp2_with (go_at_call 103; refine (HV.out _).mono ?_; rintro e w' ⟨rfl, d, rfl⟩)
   refine region_bw (by kernel_rfl) (by kernel_rfl) ?_
   repeat (go_big_quiet_step ((first | fail)))
   refine wpQuiet_nil ?_
   rintro w' ⟨d, rfl⟩
   rw [lay_bw]
   go_wp2_with (first | (go_at_call 190; refine (HF.out _).mono ?_; rintro e w' ⟨rfl, rfl⟩) | (go_at_call 191; refine (HC.out _).mono ?_; rintro e w' ⟨rfl, rfl⟩) | (go_at_call 189; refine (HT.out _).mono ?_; rintro e w' ⟨rfl, d, rfl⟩))
   exact bodyPost_ret (v := .tuple #[(.agg #[.int .i64 (X), .int .i64 (Y)]), .int .i64 0]) (by simp [results, Tryz.results106, go_sem]) rfl ⟨rfl, lay_ex _ _⟩
theorem sq_le {K n : Int} (h0 : 0 ≤ K) (h : K * K ≤ n) (hn : n ≤ 2305843009213693952) : K ≤ 1518500249 := by
 rcases Int.lt_or_le 1518500249 K with g | g
 ·exfalso
  have := Int.mul_le_mul (show 1518500250 ≤ K by omega) (show 1518500250 ≤ K by omega) (by decide) h0
  omega
 ·exact g
structure RtI (n K B : Int) (j : Nat) : Prop where
 k0 : 0 ≤ K
 lo : K * K ≤ n
 hi : n < (K + 2 ^ j) * (K + 2 ^ j)
 bb : B = if j = 0 then 0 else 2 ^ (j - 1)
 jj : j ≤ 32
 kb : K + B ≤ 2592242073
theorem pow_half (j : Nat) : ((2 : Int) ^ (j + 1)) / 2 = 2 ^ j ∧ (1 : Int) ≤ 2 ^ j := by
 have h : (1 : Int) ≤ 2 ^ j := by
  have : (0 : Int) < 2 ^ j := Int.pow_pos (by decide)
  omega
 rw [Int.pow_succ]
 omega
theorem pow_30 {j : Nat} (h : j ≤ 30) : (2 : Int) ^ j ≤ 1073741824 := by
 have : (2 : Nat) ^ j ≤ 2 ^ 30 := Nat.pow_le_pow_right (by decide) h
 have e : (2 : Int) ^ j = ((2 ^ j : Nat) : Int) := by push_cast; rfl
 rw [e]
 omega
theorem rtI_half {j : Nat} : ((if j + 1 = 0 then (0 : Int) else 2 ^ (j + 1 - 1))) / 2 = if j = 0 then 0 else 2 ^ (j - 1) := by
 rw [if_neg (by omega)]
 cases j with
 | zero => rfl
 | succ i =>
  rw [if_neg (by omega)]
  exact (pow_half i).1
theorem RtI.yes {n K B : Int} {j : Nat} (h : RtI n K B (j + 1)) (hn : n ≤ 2305843009213693952) (hs : (K + B) * (K + B) ≤ n) : RtI n (K + B) (B / 2) j := by
 have hB : B = 2 ^ j := by rw [h.bb, if_neg (by omega)]; rfl
 have p := (pow_half j).2
 have k0 := h.k0
 have hK := sq_le (K := K + B) (by omega) hs hn
 refine ⟨by omega, hs, ?_, by rw [h.bb]; exact rtI_half, by have := h.jj; omega, ?_⟩
 ·have e : K + B + 2 ^ j = K + 2 ^ (j + 1) := by rw [hB, Int.pow_succ]; omega
  rw [e]; exact h.hi
 ·have : B / 2 ≤ 1073741824 := by
   rw [hB]
   cases j with
   | zero => decide
   | succ i =>
    rw [(pow_half i).1]
    exact pow_30 (by have := h.jj; omega)
  omega
theorem RtI.no {n K B : Int} {j : Nat} (h : RtI n K B (j + 1)) (hs : n < (K + B) * (K + B)) : RtI n K (B / 2) j := by
 have hB : B = 2 ^ j := by rw [h.bb, if_neg (by omega)]; rfl
 have p := (pow_half j).2
 have k0 := h.k0
 refine ⟨k0, h.lo, by rw [← hB]; exact hs, by rw [h.bb]; exact rtI_half, by have := h.jj; omega, by have := h.kb; omega⟩
theorem RtI.start {n : Int} (h0 : 0 ≤ n) (hn : n ≤ 2305843009213693952) : RtI n 0 2147483648 32 := by
 refine ⟨by decide, by omega, ?_, by decide, by decide, by decide⟩
 have : ((0 : Int) + 2 ^ 32) * (0 + 2 ^ 32) = 18446744073709551616 := by decide
 omega
set_option maxHeartbeats 2000000 in
theorem fx_root (n : Int) (h0 : 0 ≤ n) (hn : n ≤ 2305843009213693952) (w : World) :
  Calls Tryz.prog 192 #[.int .i64 n] w fun e w' => (∃ r : Int, 0 ≤ r ∧ r * r ≤ n ∧ n < (r + 1) * (r + 1) ∧ e = .returned (.int .i64 r)) ∧ ∃ d, w' = bw w d := by
 refine lay_start ?_
 go_enter Tryz.func192, Tryz.ntmps192
 go_wp2_with fail
 go_loop [3, 4] (fun v3 v4 => ∃ (K B : Int) (j : Nat), v3 = .int .i64 K ∧ v4 = .int .i64 B ∧ RtI n K B j) (fun _ v4 => (intOf v4).toNat)
 case atStart => exact ⟨0, 2147483648, 32, rfl, rfl, RtI.start h0 hn⟩
 case round =>
  obtain ⟨K, B, j, rfl, rfl, hI⟩ := hrel
  have HI := Lib.hid hI
  have hK := sq_le hI.k0 hI.lo hn
  have k0 := hI.k0
  have kb := hI.kb
  cases j with
  | zero =>
   have hB : B = 0 := by rw [hI.bb]; rfl
   subst hB
   clear hI kb
   go_wp2_with fail
   exact bodyPost_ret (v := .int .i64 K) (by simp [results, Tryz.results192, go_sem]) rfl ⟨⟨K, k0, HI.out.lo, by have := HI.out.hi; simpa using this, rfl⟩, lay_ex _ _⟩
  | succ j =>
   have hB : B = 2 ^ j := by rw [hI.bb, if_neg (by omega)]; rfl
   have b1 : 1 ≤ B := by rw [hB]; exact (pow_half j).2
   have y1 : wrap64 (K + B) = K + B := by unfold wrap64; omega
   have p := tp_prod (x := K + B) (k := K + B) (X := 2592242073) (K := 2592242073) (by omega) (by omega)
   obtain ⟨S, hS⟩ : ∃ S, S = (K + B) * (K + B) := ⟨_, rfl⟩
   have y2 : wrap64 ((K + B) * (K + B)) = S := by rw [← hS]; rw [← hS] at p; unfold wrap64; omega
   have hb0 : 0 < B := by omega
   by_cases hs : S ≤ n
   ·have HN := Lib.hid (HI.out.yes hn (by rw [← hS]; exact hs))
    clear p hS hB hI
    go_wp2_with fail
    exact ⟨⟨_, _, j, rfl, rfl, HN.out⟩, by simp only [intOf]; omega⟩
   ·have HN := Lib.hid (HI.out.no (by rw [← hS]; omega))
    clear p hS hB hI
    go_wp2_with fail
    exact ⟨⟨_, _, j, rfl, rfl, HN.out⟩, by simp only [intOf]; omega⟩
theorem RtI.done {n : Int} (hn : n ≤ 2305843009213693952) : ∀ (j : Nat) (K B : Int), RtI n K B j → ∃ r : Int, 0 ≤ r ∧ r * r ≤ n ∧ n < (r + 1) * (r + 1)
 | 0, K, B, h => ⟨K, h.k0, h.lo, by have := h.hi; simpa using this⟩
 | j + 1, K, B, h => by
  by_cases hs : (K + B) * (K + B) ≤ n
  ·exact RtI.done hn j _ _ (h.yes hn hs)
  ·exact RtI.done hn j _ _ (h.no (by omega))
theorem sq_mono {r s n m : Int} (r0 : 0 ≤ r) (s0 : 0 ≤ s) (h : r * r ≤ n) (hnm : n ≤ m) (g : m < (s + 1) * (s + 1)) : r ≤ s := by
 rcases Int.lt_or_le s r with h1 | h1
 ·exfalso
  have := Int.mul_le_mul (show s + 1 ≤ r by omega) (show s + 1 ≤ r by omega) (by omega) r0
  omega
 ·exact h1
theorem fx_rootT (n : Int) (h0 : 0 ≤ n) (hn : n ≤ 2305843009213693952) : ∃ r : Int, 0 ≤ r ∧ r * r ≤ n ∧ n < (r + 1) * (r + 1) ∧ ∀ w : World, Calls Tryz.prog 192 #[.int .i64 n] w fun e w' => e = .returned (.int .i64 r) ∧ ∃ d, w' = bw w d := by
 obtain ⟨r, r0, r1, r2⟩ := RtI.done hn 32 _ _ (RtI.start h0 hn)
 refine ⟨r, r0, r1, r2, fun w => (fx_root n h0 hn w).mono ?_⟩
 rintro e w' ⟨⟨s, s0, s1, s2, rfl⟩, d⟩
 have := sq_mono r0 s0 r1 (Int.le_refl n) s2
 have := sq_mono s0 r0 s1 (Int.le_refl n) r2
 obtain rfl : r = s := by omega
 exact ⟨rfl, d⟩
set_option maxHeartbeats 2000000 in
set_option maxRecDepth 100000 in
theorem fx_SqrtT (a b : Int) (h : 0 ≤ a ∧ a ≤ b ∧ b ≤ 2147483648) :
  ∃ p q : Int, 0 ≤ p ∧ p ≤ q ∧ q ≤ 2147483648 ∧ ∀ w : World, Calls Tryz.prog 104 #[(.agg #[.int .i64 (a), .int .i64 (b)])] w fun e w' => e = .returned (.tuple #[(.agg #[.int .i64 (p), .int .i64 (q)]), .int .i64 0]) ∧ ∃ d, w' = bw w d := by
 obtain ⟨r, r0, r1, r2, hR⟩ := fx_rootT (a * 1073741824) (by omega) (by omega)
 obtain ⟨s, s0, s1, s2, hS⟩ := fx_rootT (b * 1073741824) (by omega) (by omega)
 have hrs := sq_mono r0 s0 r1 (by omega) s2
 have hs := sq_le s0 s1 (by omega)
 obtain ⟨Q, hQ⟩ : ∃ Q, Q = s * s := ⟨_, rfl⟩
 have pq := tp_prod (x := s) (k := s) (X := 1518500249) (K := 1518500249) (by omega) (by omega)
 have y1 : wrap64 (a * 1073741824) = a * 1073741824 := by unfold wrap64; omega
 have y2 : wrap64 (b * 1073741824) = b * 1073741824 := by unfold wrap64; omega
 have y3 : wrap64 (s * s) = Q := by rw [hQ]; unfold wrap64; omega
 have y4 : wrap64 (s + 1) = s + 1 := by unfold wrap64; omega
 have y5 : mx 0 a = a := by rw [mx_eq]; omega
 have y6 : ¬ b < 0 := by omega
 have HV := Lib.hid (fun W => fx_ValidG a b W)
 rw [fxB_iff.2 (by omega : a ≤ b ∧ -2147483648 ≤ a ∧ b ≤ 2147483648)] at HV
 have HR := Lib.hid hR
 have HS := Lib.hid hS
 by_cases hq : Q < b * 1073741824
 ·refine ⟨r, s + 1, r0, by omega, by omega, fun w => ?_⟩
  have HT := Lib.hid (fun W => fx_fitG r (s + 1) W (fxB_iff.2 (by omega)))
  clear h r1 r2 s1 s2 hR hS pq hQ
  refine lay_start ?_
  go_enter Tryz.func104, Tryz.ntmps104
  go_wp2_with (first | (go_at_call 103; refine (HV.out _).mono ?_; rintro e w' ⟨rfl, dq, rfl⟩; rw [lay_bw]) | (go_at_call 192; first | ((with_reducible refine (HR.out _).mono ?_); rintro e w' ⟨rfl, dq, rfl⟩; rw [lay_bw]) | ((with_reducible refine (HS.out _).mono ?_); rintro e w' ⟨rfl, dq, rfl⟩; rw [lay_bw])) | (go_at_call 189; refine (HT.out _).mono ?_; rintro e w' ⟨rfl, dq, rfl⟩; rw [lay_bw]))
  exact bodyPost_ret (v := .tuple #[(.agg #[.int .i64 (r), .int .i64 (s + 1)]), .int .i64 0]) (by simp [results, Tryz.results104, go_sem]) rfl ⟨rfl, lay_ex _ _⟩
 ·refine ⟨r, s, r0, hrs, by omega, fun w => ?_⟩
  have HT := Lib.hid (fun W => fx_fitG r s W (fxB_iff.2 (by omega)))
  clear h r1 r2 s1 s2 hR hS pq hQ
  refine lay_start ?_
  go_enter Tryz.func104, Tryz.ntmps104
  go_wp2_with (first | (go_at_call 103; refine (HV.out _).mono ?_; rintro e w' ⟨rfl, dq, rfl⟩; rw [lay_bw]) | (go_at_call 192; first | ((with_reducible refine (HR.out _).mono ?_); rintro e w' ⟨rfl, dq, rfl⟩; rw [lay_bw]) | ((with_reducible refine (HS.out _).mono ?_); rintro e w' ⟨rfl, dq, rfl⟩; rw [lay_bw])) | (go_at_call 189; refine (HT.out _).mono ?_; rintro e w' ⟨rfl, dq, rfl⟩; rw [lay_bw]))
  exact bodyPost_ret (v := .tuple #[(.agg #[.int .i64 (r), .int .i64 (s)]), .int .i64 0]) (by simp [results, Tryz.results104, go_sem]) rfl ⟨rfl, lay_ex _ _⟩
end Go.Proofs.YtcbicpbbjbkiaaaGreatDoor
namespace Go.Proofs.YtcbicpbbjbkiaaaGreatDoor
set_option maxHeartbeats 1000000
open Go.RowKit

theorem vc_square (b : Nat) (x y p q : Int) (w : World) (hc : ChW b w) (hT : ∀ w : World, Calls Tryz.prog 106 #[(.agg #[.int .i64 (x), .int .i64 (y)])] w fun e w' => e = .returned (.tuple #[(.agg #[.int .i64 (p), .int .i64 (q)]), .int .i64 0]) ∧ ∃ d, w' = bw w d) :
  Calls Tryz.prog 46 #[.pointer (some ⟨b, 0, none⟩), (.agg #[.int .i64 (x), .int .i64 (y)])] w fun e w' => e = .returned ((.agg #[.int .i64 (p), .int .i64 (q)])) ∧ ∃ d, w' = bw w d := by
 have HT := Lib.hid hT
 have HK := Lib.hid (fun L => vc_keep b p q (lay w L) (hc.lay L))
 have hb := hc.lt
 clear hc hT
 refine lay_start ?_
 go_enter Tryz.func46, Tryz.ntmps46
 go_wp2_with fail
 refine region_bw_tail 8 (by kernel_rfl) (by kernel_rfl) ?_
 simp only [List.take_succ_cons, List.take_zero, List.drop_succ_cons, List.drop_zero]
 repeat (go_big_quiet_step ((first | (go_at_call 106; first | ((with_reducible refine bq (HT.out _) ?_); exact (fun d => ⟨d, rfl⟩)) | ((with_reducible refine bq (HT.out _) ?_); exact (fun d => lay_join _ _ _ d))) | (go_at_call 99; first | ((with_reducible refine bq (HK.out _) ?_); exact (fun d => ⟨d, rfl⟩)) | ((with_reducible refine bq (HK.out _) ?_); exact (fun d => lay_join _ _ _ d))))))
 refine wpQuiet_nil ?_
 rintro w' ⟨d, rfl⟩
 rw [lay_bw]
 go_wp2_with fail
 exact bodyPost_ret (v := (.agg #[.int .i64 (p), .int .i64 (q)])) (by simp [results, Tryz.results46, go_sem]) rfl ⟨rfl, lay_ex _ _⟩
theorem vc_root (b : Nat) (x y p q : Int) (w : World) (hc : ChW b w) (hT : ∀ w : World, Calls Tryz.prog 104 #[(.agg #[.int .i64 (x), .int .i64 (y)])] w fun e w' => e = .returned (.tuple #[(.agg #[.int .i64 (p), .int .i64 (q)]), .int .i64 0]) ∧ ∃ d, w' = bw w d) :
  Calls Tryz.prog 44 #[.pointer (some ⟨b, 0, none⟩), (.agg #[.int .i64 (x), .int .i64 (y)])] w fun e w' => e = .returned ((.agg #[.int .i64 (p), .int .i64 (q)])) ∧ ∃ d, w' = bw w d := by
 have HT := Lib.hid hT
 have HK := Lib.hid (fun L => vc_keep b p q (lay w L) (hc.lay L))
 have hb := hc.lt
 clear hc hT
 refine lay_start ?_
 go_enter Tryz.func44, Tryz.ntmps44
 go_wp2_with fail
 refine region_bw_tail 8 (by kernel_rfl) (by kernel_rfl) ?_
 simp only [List.take_succ_cons, List.take_zero, List.drop_succ_cons, List.drop_zero]
 repeat (go_big_quiet_step ((first | (go_at_call 104; first | ((with_reducible refine bq (HT.out _) ?_); exact (fun d => ⟨d, rfl⟩)) | ((with_reducible refine bq (HT.out _) ?_); exact (fun d => lay_join _ _ _ d))) | (go_at_call 99; first | ((with_reducible refine bq (HK.out _) ?_); exact (fun d => ⟨d, rfl⟩)) | ((with_reducible refine bq (HK.out _) ?_); exact (fun d => lay_join _ _ _ d))))))
 refine wpQuiet_nil ?_
 rintro w' ⟨d, rfl⟩
 rw [lay_bw]
 go_wp2_with fail
 exact bodyPost_ret (v := (.agg #[.int .i64 (p), .int .i64 (q)])) (by simp [results, Tryz.results44, go_sem]) rfl ⟨rfl, lay_ex _ _⟩
end Go.Proofs.YtcbicpbbjbkiaaaGreatDoor
namespace Go.Proofs.YtcbicpbbjbkiaaaGreatDoor
open Go.RowKit

def sgnI (n : Int) : Int := if n % 21600000 < 10800000 then n % 21600000 else n % 21600000 - 21600000
set_option maxHeartbeats 400000 in
theorem angle_Sgn (n : Int) (w : World) :
  Calls Tryz.prog 48 #[.int .i64 n] w fun e w' => e = .returned (.int .i64 (sgnI n)) ∧ w' = w := by
 have hb : 0 ≤ n % 21600000 ∧ n % 21600000 < 21600000 := by omega
 go_enter Tryz.func48, Tryz.ntmps48
 go_wp2_with (go_at_call 109; refine (angle_Wrap _ _).mono ?_; rintro e w' ⟨rfl, rfl⟩)
 all_goals go_ret
 all_goals exact ⟨ret_int (by unfold sgnI; omega), rfl⟩
theorem sgn_bd (n : Int) : -10800000 ≤ sgnI n ∧ sgnI n < 10800000 := by unfold sgnI; split <;> omega
theorem not_f {b : Bool} (h : (!b) = false) : b = true := by cases b <;> simp_all
def PlcP (w : World) (en : Ending) (w' : World) : Prop := (∃ a b c d k : Int, (k = 0 → plcW a b c d = true ∧ d ≤ 1000000000000) ∧ (0 ≤ k ∧ k ≤ 100) ∧ en = .returned (.tuple #[(.agg #[.int .i64 (a), .int .i64 (b), .int .i64 (c), .int .i64 (d)]), .int .i64 k])) ∧ ∃ e, w' = bw w e
set_option maxHeartbeats 4000000 in
set_option maxRecDepth 100000 in
theorem vec_Place (x0 x1 y0 y1 z0 z1 : Int) (hx : -1073741824 ≤ x0 ∧ x0 ≤ x1 ∧ x1 ≤ 1073741824) (hy : -1073741824 ≤ y0 ∧ y0 ≤ y1 ∧ y1 ≤ 1073741824) (hz : -1073741824 ≤ z0 ∧ z0 ≤ z1 ∧ z1 ≤ 1073741824) (w : World) :
  Calls Tryz.prog 9 #[(.agg #[.int .i64 (x0), .int .i64 (x1), .int .i64 (y0), .int .i64 (y1), .int .i64 (z0), .int .i64 (z1)])] w (PlcP w) := by
 have fx : fxB x0 x1 = true := fxB_iff.2 (by omega)
 have fy : fxB y0 y1 = true := fxB_iff.2 (by omega)
 have fz : fxB z0 z1 = true := fxB_iff.2 (by omega)
 have HV := Lib.hid (fun W => vec_Valid x0 x1 y0 y1 z0 z1 fx fy fz W)
 obtain ⟨p0, p1, hp0, hp01, hp1, hP⟩ := fx_SquareT x0 x1 hx
 obtain ⟨q0, q1, hq0, hq01, hq1, hQ⟩ := fx_SquareT y0 y1 hy
 obtain ⟨h0, h1, hh0, hh01, hh1, hH⟩ := fx_SqrtT (p0 + q0) (p1 + q1) (by omega)
 have HSX := Lib.hid (fun k W h => vc_square k x0 x1 p0 p1 W h hP)
 have HSY := Lib.hid (fun k W h => vc_square k y0 y1 q0 q1 W h hQ)
 have HAd := Lib.hid (fun k W h => vc_add k p0 p1 q0 q1 W h (fxB_iff.2 (by omega)) (fxB_iff.2 (by omega)) (fxB_iff.2 (by omega)))
 have HRo := Lib.hid (fun k W h => vc_root k (p0 + q0) (p1 + q1) h0 h1 W h hH)
 have HB1 := Lib.hid (fun W => ar_BearG z0 z1 h0 h1 fz (fxB_iff.2 (by omega)) W)
 have HB2 := Lib.hid (fun W => ar_BearG y0 y1 x0 x1 fy fx W)
 have b1 := brF_bd h0 h1 z0 z1
 have b2 := brF_bd x0 x1 y0 y1
 clear fx fy fz hP hQ hH hx hy hz hp0 hp01 hp1 hq0 hq01 hq1 hh0 hh01 hh1
 generalize (brF h0 h1 z0 z1).1 = A0 at *
 generalize (brF h0 h1 z0 z1).2 = A1 at *
 generalize (brF x0 x1 y0 y1).1 = B0 at *
 generalize (brF x0 x1 y0 y1).2 = B1 at *
 generalize p0 + q0 = P0 at *
 generalize p1 + q1 = P1 at *
 have HBB := Lib.hid (And.intro b1 b2)
 have k1 : wrap64 (A1 - A0) = A1 - A0 := by unfold wrap64; omega
 have k2 : wrap64 (B1 - B0) = B1 - B0 := by unfold wrap64; omega
 have HK1 := Lib.hid k1
 have HK2 := Lib.hid k2
 clear b1 b2 k1 k2
 refine lay_start ?_
 go_enter Tryz.func9, Tryz.ntmps9
 go_wp2_with (go_at_call 43; refine (HV.out _).mono ?_; rintro e w' ⟨rfl, dv, rfl⟩; rw [lay_bw])
 have hc0 : ChW (posn w [dv.n, 1, 1]) (lay w [.inl (Obj.cells #[.int .i64 0] 111), .inr dv, .inl (Obj.cells #[.int .i64 0, .int .i64 0, .int .i64 0, .int .i64 0] 52), .inl (Obj.cells #[.int .i64 x0, .int .i64 x1, .int .i64 y0, .int .i64 y1, .int .i64 z0, .int .i64 z1] 48)]) := chW_new w _ _ _ rfl
 have hc1 : ∀ d, ChW (posn w [dv.n, 1, 1]) (lay w (.inr d :: [.inl (Obj.cells #[.int .i64 0] 111), .inr dv, .inl (Obj.cells #[.int .i64 0, .int .i64 0, .int .i64 0, .int .i64 0] 52), .inl (Obj.cells #[.int .i64 x0, .int .i64 x1, .int .i64 y0, .int .i64 y1, .int .i64 z0, .int .i64 z1] 48)])) := fun d => hc0.on [.inr d]
 refine region_mixW [0, 0, 0, 0, 0, 0, 0, 0, 0, 0, 0, 0, 1, 1] (by kernel_rfl) (by kernel_rfl) (by kernel_rfl) ?_
 repeat (first | (refine wpM_quiet (fun K hK => ?_); go_simp; first | (refine hK _ ?_; clear hK K) | (apply Exists.intro; refine ⟨fun _ => ?_, hK _ ?_⟩; (first | (go_at_call 46; first | ((with_reducible refine bq (HSX.out _ _ (hc1 _)) ?_); exact (fun d => ⟨d, rfl⟩)) | ((with_reducible refine bq (HSY.out _ _ (hc1 _)) ?_); exact (fun d => ⟨d, rfl⟩))) | (go_at_call 45; (with_reducible refine bq (HAd.out _ _ (hc1 _)) ?_); exact (fun d => ⟨d, rfl⟩)) | (go_at_call 44; (with_reducible refine bq (HRo.out _ _ (hc1 _)) ?_); exact (fun d => ⟨d, rfl⟩))); clear hK K)) | (refine wpM_special (fun K hK d => ?_); go_simp; refine hK _ _ (by first | exact lay_in w [_] _ | exact lay_in w [_, _] _ | exact lay_in w [_, _, _] _ | exact lay_in w [_, _, _, _] _ | exact lay_in w [_, _, _, _, _] _ | exact lay_in w [_, _, _, _, _, _] _) ?_; clear hK K))
 refine wpM_nil ?_
 intro d
 rw [lay_bw]
 go_wp2_with (first | (go_at_call 47; first | ((with_reducible refine (HB1.out _).mono ?_); rintro e w' ⟨rfl, dq, rfl⟩; rw [lay_bw]) | ((with_reducible refine (HB2.out _).mono ?_); rintro e w' ⟨rfl, dr, rfl⟩; rw [lay_bw])) | (go_at_call 48; refine (angle_Sgn _ _).mono ?_; rintro e w' ⟨rfl, rfl⟩) | (go_at_call 49; refine (plc_Valid _ _ _ _ _).mono ?_; rintro e w' ⟨rfl, dp, rfl⟩; rw [lay_bw]))
 all_goals
  first
  | (refine bodyPost_ret (v := .tuple #[(.agg #[.int .i64 (0), .int .i64 (0), .int .i64 (0), .int .i64 (0)]), .int .i64 21]) ?_ rfl ⟨⟨0, 0, 0, 0, 21, fun h => absurd h (by decide), by decide, rfl⟩, lay_ex _ _⟩; (simp [results, Tryz.results9, go_sem]; done))
  | (refine bodyPost_ret (v := .tuple #[(.agg #[.int .i64 (mx A0 (-5400000)), .int .i64 (mn A1 5400000), .int .i64 (-10800000), .int .i64 (10800000)]), .int .i64 0]) ?_ rfl ⟨⟨_, _, _, _, 0, fun _ => ⟨?_, ?_⟩, by decide, rfl⟩, lay_ex _ _⟩; (focus (simp [results, Tryz.results9, go_sem]; done)); (focus (refine not_f ?_; assumption)); (focus (first | decide | (rw [HK2.out]; have := HBB.out; have := sgn_bd B0; unfold wrap64; omega))))
  | (refine bodyPost_ret (v := .tuple #[(.agg #[.int .i64 (mx (wrap64 (A0 - 21600000)) (-5400000)), .int .i64 (mn (wrap64 (A1 - 21600000)) 5400000), .int .i64 (-10800000), .int .i64 (10800000)]), .int .i64 0]) ?_ rfl ⟨⟨_, _, _, _, 0, fun _ => ⟨?_, ?_⟩, by decide, rfl⟩, lay_ex _ _⟩; (focus (simp [results, Tryz.results9, go_sem]; done)); (focus (refine not_f ?_; assumption)); (focus (first | decide | (rw [HK2.out]; have := HBB.out; have := sgn_bd B0; unfold wrap64; omega))))
  | (refine bodyPost_ret (v := .tuple #[(.agg #[.int .i64 (mx A0 (-5400000)), .int .i64 (mn A1 5400000), .int .i64 (sgnI B0), .int .i64 (wrap64 (sgnI B0 + wrap64 (B1 - B0)))]), .int .i64 0]) ?_ rfl ⟨⟨_, _, _, _, 0, fun _ => ⟨?_, ?_⟩, by decide, rfl⟩, lay_ex _ _⟩; (focus (simp [results, Tryz.results9, go_sem]; done)); (focus (refine not_f ?_; assumption)); (focus (first | decide | (rw [HK2.out]; have := HBB.out; have := sgn_bd B0; unfold wrap64; omega))))
  | (refine bodyPost_ret (v := .tuple #[(.agg #[.int .i64 (mx (wrap64 (A0 - 21600000)) (-5400000)), .int .i64 (mn (wrap64 (A1 - 21600000)) 5400000), .int .i64 (sgnI B0), .int .i64 (wrap64 (sgnI B0 + wrap64 (B1 - B0)))]), .int .i64 0]) ?_ rfl ⟨⟨_, _, _, _, 0, fun _ => ⟨?_, ?_⟩, by decide, rfl⟩, lay_ex _ _⟩; (focus (simp [results, Tryz.results9, go_sem]; done)); (focus (refine not_f ?_; assumption)); (focus (first | decide | (rw [HK2.out]; have := HBB.out; have := sgn_bd B0; unfold wrap64; omega))))
end Go.Proofs.YtcbicpbbjbkiaaaGreatDoor
