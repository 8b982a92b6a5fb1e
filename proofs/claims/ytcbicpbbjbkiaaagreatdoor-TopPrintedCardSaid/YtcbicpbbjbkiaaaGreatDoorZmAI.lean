/- Contracts and plain laws, several texts in one: TpU -/
import Derived.Test.YtcbicpbbjbkiaaaGreatDoorProg
import Derived.WalkKit
import Derived.WalkSpells
import Derived.WalkLawsBesides
import Derived.Lib.Hide
import Derived.BigQuiet
import Derived.Test.YtcbicpbbjbkiaaaGreatDoorZmAA
import Derived.Test.YtcbicpbbjbkiaaaGreatDoorZmAH
namespace Go.Proofs.YtcbicpbbjbkiaaaGreatDoor
open Go.RowKit

theorem px_part (n : Int) (w : World) :
  Calls Tryz.prog 176 #[.int .i64 n] w fun e w' => e = .returned (.int .i64 (mx 0 (mn n 1073741824))) ∧ ∃ d, w' = bw w d := by
 refine lay_start ?_
 go_enter Tryz.func176, Tryz.ntmps176
 go_wp2_with fail
 exact bodyPost_ret (v := .int .i64 (mx 0 (mn n 1073741824))) (by simp [results, Tryz.results176, go_sem]) rfl ⟨rfl, lay_ex _ _⟩
set_option maxHeartbeats 2000000 in
set_option maxRecDepth 100000 in
theorem px_Augmented (m n x y a b : Int) (hm : smlB m n = true) (hs : smlB x y = true) (ha : altB a b = true) (w : World) :
  Calls Tryz.prog 94 #[(.agg #[.int .i64 (m), .int .i64 (n)]), (.agg #[.int .i64 (x), .int .i64 (y)]), (.agg #[.int .i64 (a), .int .i64 (b)])] w (ArcE 400000 w) := by
 have HS := Lib.hid (fun W => px_small x y W)
 have HM := Lib.hid (fun W => px_small m n W)
 have HA := Lib.hid (fun W => px_altitude a b W)
 rw [hs] at HS
 rw [hm] at HM
 rw [ha] at HA
 have hx := smlB_iff.1 hs
 have hmn := smlB_iff.1 hm
 have hb := altB_iff.1 ha
 have e1 := enc_in (lo := x) (hi := y)
 have e2 := enc_in (lo := a) (hi := b)
 have hg := mul_unit e1.1 e1.2.1 e1.2.2 e2.1 e2.2.1 e2.2.2
 have HMu := Lib.hid (fun W => fx_MulG (encL x y) (encH x y) (encL a b) (encH a b) W (fxB_iff.2 (by omega)) (fxB_iff.2 (by omega)) (fxB_iff.2 (by omega)))
 have HS1 := Lib.hid ((px_trig x y (validB_iff.2 (by omega))).1)
 have HS2 := Lib.hid ((px_trig a b (validB_iff.2 (by omega))).1)
 have HKe := Lib.hid (fun k W h => px_keep k W h)
 generalize mulL (encL x y) (encH x y) (encL a b) (encH a b) = g0 at *
 generalize mulH (encL x y) (encH x y) (encL a b) (encH a b) = g1 at *
 generalize encL x y = s0 at *
 generalize encH x y = s1 at *
 generalize encL a b = t0 at *
 generalize encH a b = t1 at *
 have hp0 : ∀ z : Int, 0 ≤ mx 0 (mn z 1073741824) ∧ mx 0 (mn z 1073741824) ≤ 1073741824 := fun z => by rw [mx_eq, mn_eq]; omega
 have hp1 : mx 0 (mn g0 1073741824) ≤ mx 0 (mn g1 1073741824) := by rw [mx_eq, mx_eq, mn_eq, mn_eq]; omega
 obtain ⟨p, q, hp, hq, hpq, hT⟩ := px_times m n (mx 0 (mn g0 1073741824)) (mx 0 (mn g1 1073741824)) hmn (by have := hp0 g0; have := hp0 g1; omega)
 have HT := Lib.hid hT
 have hAd := px_add m n p q (validB_iff.2 (by omega)) (validB_iff.2 (by unfold Wi at hp hq; omega)) (validB_iff.2 (by unfold Wi at hp hq; omega))
 have HAd := Lib.hid hAd
 have HR := Lib.hid (fun k W h => px_result (m + p) (n + q) k W h)
 have HB : Hid ((-400000 ≤ m + p ∧ m + p ≤ 400000) ∧ (-400000 ≤ n + q ∧ n + q ≤ 400000)) := Lib.hid (by unfold Wi at hp hq; omega)
 clear hs hm ha hx hmn hb e1 e2 hg hp0 hp1 hp hq hpq hT hAd
 refine lay_start ?_
 go_enter Tryz.func94, Tryz.ntmps94
 go_wp2_with (first | (go_at_call 169; first | ((with_reducible refine (HS.out _).mono ?_); rintro e w' ⟨rfl, d1, rfl⟩; rw [lay_bw]) | ((with_reducible refine (HM.out _).mono ?_); rintro e w' ⟨rfl, d3, rfl⟩; rw [lay_bw])) | (go_at_call 170; refine (HA.out _).mono ?_; rintro e w' ⟨rfl, d2, rfl⟩; rw [lay_bw]))
 have hc0 : ChW (posn w [d2.n, d1.n, d3.n, 1, 1, 1, 1]) (lay w [.inl (Obj.cells #[.int .i64 0] 250), .inr d2, .inr d1, .inr d3, .inl (Obj.cells #[.int .i64 0, .int .i64 0] 29), .inl (Obj.cells #[.int .i64 a, .int .i64 b] 29), .inl (Obj.cells #[.int .i64 x, .int .i64 y] 29), .inl (Obj.cells #[.int .i64 m, .int .i64 n] 29)]) := chW_new w _ _ _ rfl
 have hc1 : ∀ d, ChW (posn w [d2.n, d1.n, d3.n, 1, 1, 1, 1]) (lay w (.inr d :: [.inl (Obj.cells #[.int .i64 0] 250), .inr d2, .inr d1, .inr d3, .inl (Obj.cells #[.int .i64 0, .int .i64 0] 29), .inl (Obj.cells #[.int .i64 a, .int .i64 b] 29), .inl (Obj.cells #[.int .i64 x, .int .i64 y] 29), .inl (Obj.cells #[.int .i64 m, .int .i64 n] 29)])) := fun d => hc0.on [.inr d]
 refine region_mixW [0, 0, 0, 0, 0, 0, 0, 0, 0, 0, 1, 1, 0] (by kernel_rfl) (by kernel_rfl) (by kernel_rfl) ?_
 repeat (first | (refine wpM_quiet (fun K hK => ?_); go_simp; first | (refine hK _ ?_; clear hK K) | (apply Exists.intro; refine ⟨fun _ => ?_, hK _ ?_⟩; (first | (go_at_call 101; (with_reducible refine bq (HMu.out _) ?_); exact (fun d => ⟨d, rfl⟩)) | (go_at_call 174; first | ((with_reducible refine bq (HS1.out _ _ (hc1 _)) ?_); exact (fun d => ⟨d, rfl⟩)) | ((with_reducible refine bq (HS2.out _ _ (hc1 _)) ?_); exact (fun d => ⟨d, rfl⟩)))); clear hK K)) | (refine wpM_special (fun K hK d => ?_); go_simp; refine hK _ _ (by first | exact lay_in w [_] _ | exact lay_in w [_, _] _ | exact lay_in w [_, _, _] _ | exact lay_in w [_, _, _, _] _ | exact lay_in w [_, _, _, _, _] _ | exact lay_in w [_, _, _, _, _, _] _) ?_; clear hK K))
 refine wpM_nil ?_
 intro d
 rw [lay_bw]
 go_wp2_with fail
 refine (HKe.out _ _ (hc0.on [_, _, _, _])).mono ?_
 rintro e w' ⟨rfl, dk, rfl⟩
 rw [lay_bw]
 go_wp2_with fail
 rename_i dA dB K hK
 have hc2 : ChW (posn w [d2.n, d1.n, d3.n, 1, 1, 1, 1]) (lay w [.inr dk, .inr d, .inr dB, .inl (Obj.cells #[.int .i64 g0, .int .i64 g1] 46), .inr dA, .inl (Obj.cells #[.int .i64 0] 250), .inr d2, .inr d1, .inr d3, .inl (Obj.cells #[.int .i64 0, .int .i64 0] 29), .inl (Obj.cells #[.int .i64 a, .int .i64 b] 29), .inl (Obj.cells #[.int .i64 x, .int .i64 y] 29), .inl (Obj.cells #[.int .i64 m, .int .i64 n] 29)]) := hc0.on [.inr dk, .inr d, .inr dB, .inl (Obj.cells #[.int .i64 g0, .int .i64 g1] 46), .inr dA]
 have hc3 : ∀ e, ChW (posn w [d2.n, d1.n, d3.n, 1, 1, 1, 1]) (lay w (.inr e :: [.inr dk, .inr d, .inr dB, .inl (Obj.cells #[.int .i64 g0, .int .i64 g1] 46), .inr dA, .inl (Obj.cells #[.int .i64 0] 250), .inr d2, .inr d1, .inr d3, .inl (Obj.cells #[.int .i64 0, .int .i64 0] 29), .inl (Obj.cells #[.int .i64 a, .int .i64 b] 29), .inl (Obj.cells #[.int .i64 x, .int .i64 y] 29), .inl (Obj.cells #[.int .i64 m, .int .i64 n] 29)])) := fun e => hc0.on [.inr e, .inr dk, .inr d, .inr dB, .inl (Obj.cells #[.int .i64 g0, .int .i64 g1] 46), .inr dA]
 refine region_bw_tail 19 (by kernel_rfl) (by kernel_rfl) ?_
 simp only [List.take_succ_cons, List.take_zero, List.drop_succ_cons, List.drop_zero]
 repeat (go_big_quiet_step ((first | (go_at_call 176; first | ((with_reducible refine bq (px_part _ _) ?_); exact (fun d => ⟨d, rfl⟩)) | ((with_reducible refine bq (px_part _ _) ?_); exact (fun d => lay_join _ _ _ d))) | (go_at_call 172; first | ((with_reducible refine bq (HT.out _ _ hc2) ?_); exact (fun d => ⟨d, rfl⟩)) | ((with_reducible refine bq (HT.out _ _ (hc3 _)) ?_); exact (fun d => lay_join _ _ _ d))) | (go_at_call 177; first | ((with_reducible refine bq (HAd.out _ _ hc2) ?_); exact (fun d => ⟨d, rfl⟩)) | ((with_reducible refine bq (HAd.out _ _ (hc3 _)) ?_); exact (fun d => lay_join _ _ _ d))) | (go_at_call 171; first | ((with_reducible refine bq (HR.out _ _ hc2) ?_); exact (fun d => ⟨d, rfl⟩)) | ((with_reducible refine bq (HR.out _ _ (hc3 _)) ?_); exact (fun d => lay_join _ _ _ d))))))
 refine wpQuiet_nil ?_
 rintro w' ⟨d, rfl⟩
 rw [lay_bw]
 go_wp2_with fail
 exact bodyPost_ret (v := .tuple #[(.agg #[.int .i64 (m + p), .int .i64 (n + q)]), .int .i64 0]) (by simp [results, Tryz.results94, go_sem]) rfl ⟨⟨m + p, n + q, 0, fun _ => HB.out, by decide, fun h => absurd rfl h, rfl⟩, lay_ex _ _⟩
end Go.Proofs.YtcbicpbbjbkiaaaGreatDoor
