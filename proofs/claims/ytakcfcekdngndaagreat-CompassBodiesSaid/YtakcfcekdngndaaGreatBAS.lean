/- Contracts and plain laws, several texts in one: FxD; AmW; F4D -/
import Derived.Test.YtakcfcekdngndaaGreatProg
import Derived.WalkKit
import Derived.WalkSpells
import Derived.WalkLawsBesides
import Derived.Lib.Hide
import Derived.BigQuiet
import Derived.Test.YtakcfcekdngndaaGreatBAA
import Derived.Test.YtakcfcekdngndaaGreatBAB
import Derived.Test.YtakcfcekdngndaaGreatBAJ
import Derived.Test.YtakcfcekdngndaaGreatBAP
/- fixed.Div by a positive divisor. -/
namespace Go.Proofs.YtakcfcekdngndaaGreat
open Go.RowKit

theorem fx_zeroP (b0 b1 : Int) (w : World) (h : 1 ≤ b0) :
    Calls Tryz.prog 83 #[(.agg #[.int .i64 (b0), .int .i64 (b1)])] w fun e w' => e = .returned (.bool false) ∧ ∃ d, w' = bw w d := by
  have h1 : ¬ b0 ≤ 0 := by omega
  clear h
  refine lay_start ?_
  go_enter Tryz.func83, Tryz.ntmps83
  go_wp2
  go_ret
  exact ⟨rfl, lay_ex _ _⟩
theorem four_lo {q00 q01 q10 q11 : Int} (h0 : q00 ≤ q10) (h1 : q01 ≤ q11) : mn (mn (mn (mn q00 q00) q01) q10) q11 = mn q00 q01 := by simp only [mn_eq]; omega
theorem four_hi {q00 q01 q10 q11 : Int} (h0 : q00 ≤ q10) (h1 : q01 ≤ q11) : mx (mx (mx (mx q00 q00) q01) q10) q11 = mx q10 q11 := by simp only [mx_eq]; omega
set_option maxHeartbeats 2000000 in
set_option maxRecDepth 100000 in
theorem fx_DivP (a0 a1 b0 b1 : Int) (w : World) (ha : fxB a0 a1 = true) (hb : fxB b0 b1 = true) (h1 : 1 ≤ b0) :
    Calls Tryz.prog 50 #[(.agg #[.int .i64 (a0), .int .i64 (a1)]), (.agg #[.int .i64 (b0), .int .i64 (b1)])] w fun e w' => e = .returned (.tuple #[(.agg #[.int .i64 (if fxB (divL a0 b0 b1) (divH a1 b0 b1) then divL a0 b0 b1 else 0), .int .i64 (if fxB (divL a0 b0 b1) (divH a1 b0 b1) then divH a1 b0 b1 else 0)]), .int .i64 (if fxB (divL a0 b0 b1) (divH a1 b0 b1) then 0 else 5)]) ∧ ∃ d, w' = bw w d := by
  have HB := Lib.hid (fun W => fx_bothG a0 a1 b0 b1 W)
  rw [ha, hb, Bool.and_self] at HB
  have HZ := Lib.hid (fun W => fx_zeroP b0 b1 W h1)
  have ga := fxB_iff.1 ha
  have gb := fxB_iff.1 hb
  have HF := Lib.hid (fun W => fx_fitX (divL a0 b0 b1) (divH a1 b0 b1) W)
  generalize (if fxB (divL a0 b0 b1) (divH a1 b0 b1) then divL a0 b0 b1 else 0) = r0 at *
  generalize (if fxB (divL a0 b0 b1) (divH a1 b0 b1) then divH a1 b0 b1 else 0) = r1 at *
  generalize (if fxB (divL a0 b0 b1) (divH a1 b0 b1) then (0 : Int) else 5) = re at *
  unfold divL divH at HF
  have m0 : a0 * 1073741824 / b0 ≤ a1 * 1073741824 / b0 := Int.ediv_le_ediv (by omega) (by omega)
  have m1 : a0 * 1073741824 / b1 ≤ a1 * 1073741824 / b1 := Int.ediv_le_ediv (by omega) (by omega)
  have m2 : -(a1 * 1073741824) / b0 ≤ -(a0 * 1073741824) / b0 := Int.ediv_le_ediv (by omega) (by omega)
  have m3 : -(a1 * 1073741824) / b1 ≤ -(a0 * 1073741824) / b1 := Int.ediv_le_ediv (by omega) (by omega)
  have F00 := Lib.hid (fun W => fx_floorG (a0 * 1073741824) b0 W h1 (by omega) (by omega))
  have F01 := Lib.hid (fun W => fx_floorG (a0 * 1073741824) b1 W (by omega) (by omega) (by omega))
  have F10 := Lib.hid (fun W => fx_floorG (a1 * 1073741824) b0 W h1 (by omega) (by omega))
  have F11 := Lib.hid (fun W => fx_floorG (a1 * 1073741824) b1 W (by omega) (by omega) (by omega))
  have C00 := Lib.hid (fun W => fx_ceilG (a0 * 1073741824) b0 W h1 (by omega) (by omega))
  have C01 := Lib.hid (fun W => fx_ceilG (a0 * 1073741824) b1 W (by omega) (by omega) (by omega))
  have C10 := Lib.hid (fun W => fx_ceilG (a1 * 1073741824) b0 W h1 (by omega) (by omega))
  have C11 := Lib.hid (fun W => fx_ceilG (a1 * 1073741824) b1 W (by omega) (by omega) (by omega))
  have kx : IntKind.i64.wrap (a0 * 1073741824) = a0 * 1073741824 := IntWalk.i64_in _ (by omega)
  have ky : IntKind.i64.wrap (a1 * 1073741824) = a1 * 1073741824 := IntWalk.i64_in _ (by omega)
  obtain ⟨X, hX⟩ : ∃ X, a0 * 1073741824 = X := ⟨_, rfl⟩
  obtain ⟨Y, hY⟩ : ∃ Y, a1 * 1073741824 = Y := ⟨_, rfl⟩
  have k1 : IntKind.i64.wrap (a0 * 1073741824) = X := kx.trans hX
  have k2 : IntKind.i64.wrap (a1 * 1073741824) = Y := ky.trans hY
  simp only [hX, hY] at F00 F01 F10 F11 C00 C01 C10 C11 m0 m1 m2 m3 HF
  clear kx ky hX hY ga gb ha hb h1
  generalize X / b0 = q00 at *
  generalize X / b1 = q01 at *
  generalize Y / b0 = q10 at *
  generalize Y / b1 = q11 at *
  obtain ⟨c00, e00⟩ : ∃ c, -(-X / b0) = c := ⟨_, rfl⟩
  obtain ⟨c01, e01⟩ : ∃ c, -(-X / b1) = c := ⟨_, rfl⟩
  obtain ⟨c10, e10⟩ : ∃ c, -(-Y / b0) = c := ⟨_, rfl⟩
  obtain ⟨c11, e11⟩ : ∃ c, -(-Y / b1) = c := ⟨_, rfl⟩
  have n0 : c00 ≤ c10 := by omega
  have n1 : c01 ≤ c11 := by omega
  rw [e00] at C00
  rw [e01] at C01
  rw [e10] at C10 HF
  rw [e11] at C11 HF
  rw [← four_lo m0 m1, ← four_hi n0 n1] at HF
  clear m0 m1 m2 m3 n0 n1 e00 e01 e10 e11
  generalize hu1 : mn q00 q00 = u1 at *
  generalize hu2 : mn u1 q01 = u2 at *
  generalize hu3 : mn u2 q10 = u3 at *
  generalize hu4 : mn u3 q11 = u4 at *
  generalize hv1 : mx c00 c00 = v1 at *
  generalize hv2 : mx v1 c01 = v2 at *
  generalize hv3 : mx v2 c10 = v3 at *
  generalize hv4 : mx v3 c11 = v4 at *
  refine lay_start ?_
  go_enter Tryz.func50, Tryz.ntmps50
  go_wp2_with (first | (go_at_call 64; refine (HB.out _).mono ?_; rintro e w' ⟨rfl, d1, rfl⟩; rw [lay_bw]) | (go_at_call 83; refine (HZ.out _).mono ?_; rintro e w' ⟨rfl, d2, rfl⟩; rw [lay_bw]))
  refine region_bw (by kernel_rfl) (by kernel_rfl) ?_
  repeat (go_big_quiet_step ((first | (go_at_call 84; exact bqs (F00.out _) ⟨_, rfl⟩) | (go_at_call 85; exact bqs (C00.out _) ⟨_, rfl⟩))))
  refine wpQuiet_nil ?_
  rintro w' ⟨d, rfl⟩
  rw [lay_bw]
  go_wp2_with fail
  go_loopw [40, 6, 7] (fun v40 v6 v7 wr => ∃ (i l h : Int) (dd : Ext), v40 = .int .i64 i ∧ v6 = .int .i64 l ∧ v7 = .int .i64 h ∧ wr = lay w (.inr dd :: [.inl (Obj.cells #[.int .i64 a0, .int .i64 a1] 3), .inr d, .inr d2, .inr d1, .inl (Obj.cells #[.int .i64 0, .int .i64 0] 44), .inl (Obj.cells #[.int .i64 b0, .int .i64 b1] 44), .inl (Obj.cells #[.int .i64 a0, .int .i64 a1] 44)]) ∧ ((i = 0 ∧ q00 = l ∧ c00 = h) ∨ (i = 1 ∧ u2 = l ∧ v2 = h) ∨ (i = 2 ∧ u4 = l ∧ v4 = h))) (fun v40 _ _ _ => (3 - intOf v40).toNat)
  case atStart => exact ⟨_, _, _, noExt _, rfl, rfl, rfl, (bw_noExt _).symm, .inl ⟨rfl, rfl, rfl⟩⟩
  case round =>
    obtain ⟨i, l, h, dd, rfl, rfl, rfl, rfl, hi⟩ := hrel
    rcases hi with ⟨rfl, rfl, rfl⟩ | ⟨rfl, rfl, rfl⟩ | ⟨rfl, rfl, rfl⟩
    · clear HB HZ F10 F11 C10 C11 HF hu3 hu4 hv3 hv4 k2
      go_wp2_with fail
      go_loopw [50, 6, 7] (fun v50 v6 v7 wr => ∃ (j l h : Int) (de : Ext), v50 = .int .i64 j ∧ v6 = .int .i64 l ∧ v7 = .int .i64 h ∧ wr = lay w (.inr de :: .inl (Obj.cells #[.int .i64 b0, .int .i64 b1] 3) :: .inr dd :: [.inl (Obj.cells #[.int .i64 a0, .int .i64 a1] 3), .inr d, .inr d2, .inr d1, .inl (Obj.cells #[.int .i64 0, .int .i64 0] 44), .inl (Obj.cells #[.int .i64 b0, .int .i64 b1] 44), .inl (Obj.cells #[.int .i64 a0, .int .i64 a1] 44)]) ∧ ((j = 0 ∧ q00 = l ∧ c00 = h) ∨ (j = 1 ∧ u1 = l ∧ v1 = h) ∨ (j = 2 ∧ u2 = l ∧ v2 = h))) (fun v50 _ _ _ => (3 - intOf v50).toNat)
      case atStart => exact ⟨_, _, _, noExt _, rfl, rfl, rfl, (bw_noExt _).symm, .inl ⟨rfl, rfl, rfl⟩⟩
      case round =>
        obtain ⟨j, l, h, de, rfl, rfl, rfl, rfl, hj⟩ := hrel
        rcases hj with ⟨rfl, rfl, rfl⟩ | ⟨rfl, rfl, rfl⟩ | ⟨rfl, rfl, rfl⟩
        · go_wp2_with (first | (go_at_call 84; refine (F00.out _).mono ?_; rintro e w' ⟨rfl, rfl⟩) | (go_at_call 85; refine (C00.out _).mono ?_; rintro e w' ⟨rfl, rfl⟩))
          exact ⟨⟨_, _, _, de, rfl, rfl, rfl, rfl, .inr (.inl ⟨rfl, rfl, rfl⟩)⟩, by simp only [intOf]; decide⟩
        · go_wp2_with (first | (go_at_call 84; refine (F01.out _).mono ?_; rintro e w' ⟨rfl, rfl⟩) | (go_at_call 85; refine (C01.out _).mono ?_; rintro e w' ⟨rfl, rfl⟩))
          exact ⟨⟨_, _, _, de, rfl, rfl, rfl, rfl, .inr (.inr ⟨rfl, rfl, rfl⟩)⟩, by simp only [intOf]; decide⟩
        · go_wp2_with fail
          obtain ⟨df, hdf⟩ := lay_fold w [.inr de, .inl (Obj.cells #[.int .i64 b0, .int .i64 b1] 3), .inr dd] [.inl (Obj.cells #[.int .i64 a0, .int .i64 a1] 3), .inr d, .inr d2, .inr d1, .inl (Obj.cells #[.int .i64 0, .int .i64 0] 44), .inl (Obj.cells #[.int .i64 b0, .int .i64 b1] 44), .inl (Obj.cells #[.int .i64 a0, .int .i64 a1] 44)]
          exact ⟨⟨_, _, _, df, rfl, rfl, rfl, hdf, .inr (.inl ⟨rfl, rfl, rfl⟩)⟩, by simp only [intOf]; decide⟩
    · clear HB HZ F00 F01 C00 C01 HF hu1 hu2 hv1 hv2 k1
      go_wp2_with fail
      go_loopw [50, 6, 7] (fun v50 v6 v7 wr => ∃ (j l h : Int) (de : Ext), v50 = .int .i64 j ∧ v6 = .int .i64 l ∧ v7 = .int .i64 h ∧ wr = lay w (.inr de :: .inl (Obj.cells #[.int .i64 b0, .int .i64 b1] 3) :: .inr dd :: [.inl (Obj.cells #[.int .i64 a0, .int .i64 a1] 3), .inr d, .inr d2, .inr d1, .inl (Obj.cells #[.int .i64 0, .int .i64 0] 44), .inl (Obj.cells #[.int .i64 b0, .int .i64 b1] 44), .inl (Obj.cells #[.int .i64 a0, .int .i64 a1] 44)]) ∧ ((j = 0 ∧ u2 = l ∧ v2 = h) ∨ (j = 1 ∧ u3 = l ∧ v3 = h) ∨ (j = 2 ∧ u4 = l ∧ v4 = h))) (fun v50 _ _ _ => (3 - intOf v50).toNat)
      case atStart => exact ⟨_, _, _, noExt _, rfl, rfl, rfl, (bw_noExt _).symm, .inl ⟨rfl, rfl, rfl⟩⟩
      case round =>
        obtain ⟨j, l, h, de, rfl, rfl, rfl, rfl, hj⟩ := hrel
        rcases hj with ⟨rfl, rfl, rfl⟩ | ⟨rfl, rfl, rfl⟩ | ⟨rfl, rfl, rfl⟩
        · go_wp2_with (first | (go_at_call 84; refine (F10.out _).mono ?_; rintro e w' ⟨rfl, rfl⟩) | (go_at_call 85; refine (C10.out _).mono ?_; rintro e w' ⟨rfl, rfl⟩))
          exact ⟨⟨_, _, _, de, rfl, rfl, rfl, rfl, .inr (.inl ⟨rfl, rfl, rfl⟩)⟩, by simp only [intOf]; decide⟩
        · go_wp2_with (first | (go_at_call 84; refine (F11.out _).mono ?_; rintro e w' ⟨rfl, rfl⟩) | (go_at_call 85; refine (C11.out _).mono ?_; rintro e w' ⟨rfl, rfl⟩))
          exact ⟨⟨_, _, _, de, rfl, rfl, rfl, rfl, .inr (.inr ⟨rfl, rfl, rfl⟩)⟩, by simp only [intOf]; decide⟩
        · go_wp2_with fail
          obtain ⟨df, hdf⟩ := lay_fold w [.inr de, .inl (Obj.cells #[.int .i64 b0, .int .i64 b1] 3), .inr dd] [.inl (Obj.cells #[.int .i64 a0, .int .i64 a1] 3), .inr d, .inr d2, .inr d1, .inl (Obj.cells #[.int .i64 0, .int .i64 0] 44), .inl (Obj.cells #[.int .i64 b0, .int .i64 b1] 44), .inl (Obj.cells #[.int .i64 a0, .int .i64 a1] 44)]
          exact ⟨⟨_, _, _, df, rfl, rfl, rfl, hdf, .inr (.inr ⟨rfl, rfl, rfl⟩)⟩, by simp only [intOf]; decide⟩
    · clear HB HZ F00 F01 C00 C01 F10 F11 C10 C11 hu1 hu2 hv1 hv2 hu3 hv3 hu4 hv4 k1 k2
      go_wp2_with (go_at_call 65; refine (HF.out _).mono ?_; rintro e w' ⟨rfl, d3, rfl⟩)
      exact bodyPost_ret (v := .tuple #[(.agg #[.int .i64 (r0), .int .i64 (r1)]), .int .i64 re]) (by simp [results, Tryz.results50, go_sem]) rfl ⟨rfl, lay_ex _ _⟩
end Go.Proofs.YtakcfcekdngndaaGreat
/- compass.Amplitude. -/
namespace Go.Proofs.YtakcfcekdngndaaGreat
open Go.RowKit

theorem amp_in (a b : Int) : -5400000 ≤ ampL a a b b ∧ ampL a a b b ≤ 5400000 ∧ -5400000 ≤ ampH a a b b ∧ ampH a a b b ≤ 5400000 := by
  unfold ampL ampH
  split
  · generalize divL _ _ _ = x
    generalize divH _ _ _ = y
    unfold asL asH
    split
    · have h1 := asnI_in (v := mx x (-1073741824)) (by rw [mx_eq]; omega)
      have h2 := asnI_in (v := -(mn y 1073741824)) (by rw [mn_eq]; omega)
      omega
    · omega
  · omega
theorem comp_latitude (x0 y0 : Int) (w : World) :
    Calls Tryz.prog 47 #[(.agg #[.int .i64 (x0), .int .i64 (y0)])] w fun e w' => e = .returned (.bool (latB x0 y0)) ∧ ∃ d, w' = bw w d := by
  refine lay_start ?_
  go_enter Tryz.func47, Tryz.ntmps47
  go_wp2
  all_goals go_ret
  all_goals exact ⟨ret_bool (by rw [Bool.eq_iff_iff]; simp [latB]; omega), lay_ex _ _⟩
set_option maxRecDepth 100000 in
theorem comp_AmpBad (c0 c1 d0 d1 : Int) (w : World) (h : (latB c0 c1 && latB d0 d1) = false) :
    Calls Tryz.prog 10 #[(.agg #[.int .i64 (c0), .int .i64 (c1)]), (.agg #[.int .i64 (d0), .int .i64 (d1)])] w fun e w' => e = .returned (.tuple #[(.agg #[.int .i64 (0), .int .i64 (0)]), .int .i64 1]) ∧ ∃ d, w' = bw w d := by
  have HLc := Lib.hid (fun W => comp_latitude c0 c1 W)
  have HLd := Lib.hid (fun W => comp_latitude d0 d1 W)
  generalize latB c0 c1 = p at *
  generalize latB d0 d1 = q at *
  have hc : (p = false) ∨ (p = true ∧ q = false) := by cases p <;> cases q <;> simp_all
  clear h
  rcases hc with rfl | ⟨rfl, rfl⟩
  all_goals
    refine lay_start ?_
    go_enter Tryz.func10, Tryz.ntmps10
    go_wp2_with (go_at_call 47; first | (with_reducible refine (HLc.out _).mono ?_; rintro e w' ⟨rfl, d1, rfl⟩; rw [lay_bw]) | (with_reducible refine (HLd.out _).mono ?_; rintro e w' ⟨rfl, d2, rfl⟩; rw [lay_bw]))
    exact bodyPost_ret (v := .tuple #[(.agg #[.int .i64 (0), .int .i64 (0)]), .int .i64 1]) (by simp [results, Tryz.results10, go_sem]) rfl ⟨rfl, lay_ex _ _⟩
set_option maxHeartbeats 1000000 in
set_option maxRecDepth 100000 in
theorem comp_Amp (c0 c1 d0 d1 : Int) (w : World) (lc : latB c0 c1 = true) (ld : latB d0 d1 = true) :
    Calls Tryz.prog 10 #[(.agg #[.int .i64 (c0), .int .i64 (c1)]), (.agg #[.int .i64 (d0), .int .i64 (d1)])] w fun e w' => e = .returned (.tuple #[(.agg #[.int .i64 (ampL c0 c1 d0 d1), .int .i64 (ampH c0 c1 d0 d1)]), .int .i64 (ampE c0 c1 d0 d1)]) ∧ ∃ d, w' = bw w d := by
  have HLc := Lib.hid (fun W => comp_latitude c0 c1 W)
  have HLd := Lib.hid (fun W => comp_latitude d0 d1 W)
  rw [lc] at HLc
  rw [ld] at HLd
  have HS := Lib.hid (fun W => tg_Sin d0 d1 (lat_valid ld) W)
  have HC := Lib.hid (fun W => tg_Cos c0 c1 (lat_valid lc) W)
  unfold ampL ampH ampE
  have hs := @enc_in d0 d1
  have hc := @enc_in (c0 + 5400000) (c1 + 5400000)
  generalize encL (c0 + 5400000) (c1 + 5400000) = p at *
  generalize encH (c0 + 5400000) (c1 + 5400000) = q at *
  generalize encL d0 d1 = r at *
  generalize encH d0 d1 = s at *
  clear lc ld
  by_cases h : p ≤ 0
  · rw [if_pos h, if_neg (show ¬ ((21 : Int) = 0) by decide), if_neg (show ¬ ((21 : Int) = 0) by decide)]
    clear hs hc
    refine lay_start ?_
    go_enter Tryz.func10, Tryz.ntmps10
    go_wp2_with (first | (go_at_call 47; first | (with_reducible refine (HLc.out _).mono ?_; rintro e w' ⟨rfl, d1, rfl⟩; rw [lay_bw]) | (with_reducible refine (HLd.out _).mono ?_; rintro e w' ⟨rfl, d2, rfl⟩; rw [lay_bw])) | (go_at_call 48; refine (HS.out _).mono ?_; rintro e w' ⟨rfl, d3, rfl⟩; rw [lay_bw]) | (go_at_call 49; refine (HC.out _).mono ?_; rintro e w' ⟨rfl, d4, rfl⟩; rw [lay_bw]) | (go_at_call 50; refine (HD.out _).mono ?_; rintro e w' ⟨rfl, d5, rfl⟩; rw [lay_bw]) | (go_at_call 51; refine (HA.out _).mono ?_; rintro e w' ⟨rfl, d6, rfl⟩; rw [lay_bw]))
    exact bodyPost_ret (v := .tuple #[(.agg #[.int .i64 (0), .int .i64 (0)]), .int .i64 21]) (by simp [results, Tryz.results10, go_sem]) rfl ⟨rfl, lay_ex _ _⟩
  · rw [if_neg h]
    have HD := Lib.hid (fun W => fx_DivP r s p q W (unit_fx hs) (unit_fx hc) (by omega))
    clear hs hc
    generalize divL r p q = x at *
    generalize divH s p q = y at *
    cases hx : fxB x y
    · rw [hx] at HD
      simp only [Bool.false_eq_true, if_false] at HD
      rw [if_pos rfl, if_neg (show ¬ ((24 : Int) = 0) by decide), if_neg (show ¬ ((24 : Int) = 0) by decide)]
      clear hx
      refine lay_start ?_
      go_enter Tryz.func10, Tryz.ntmps10
      go_wp2_with (first | (go_at_call 47; first | (with_reducible refine (HLc.out _).mono ?_; rintro e w' ⟨rfl, d1, rfl⟩; rw [lay_bw]) | (with_reducible refine (HLd.out _).mono ?_; rintro e w' ⟨rfl, d2, rfl⟩; rw [lay_bw])) | (go_at_call 48; refine (HS.out _).mono ?_; rintro e w' ⟨rfl, d3, rfl⟩; rw [lay_bw]) | (go_at_call 49; refine (HC.out _).mono ?_; rintro e w' ⟨rfl, d4, rfl⟩; rw [lay_bw]) | (go_at_call 50; refine (HD.out _).mono ?_; rintro e w' ⟨rfl, d5, rfl⟩; rw [lay_bw]) | (go_at_call 51; refine (HA.out _).mono ?_; rintro e w' ⟨rfl, d6, rfl⟩; rw [lay_bw]))
      exact bodyPost_ret (v := .tuple #[(.agg #[.int .i64 (0), .int .i64 (0)]), .int .i64 24]) (by simp [results, Tryz.results10, go_sem]) rfl ⟨rfl, lay_ex _ _⟩
    · rw [hx] at HD
      simp only [if_true] at HD
      rw [if_neg (show ¬ (true = false) by decide)]
      have HA := Lib.hid (fun W => ar_Asin x y W)
      clear hx
      generalize asL x y = u at *
      generalize asH x y = v at *
      generalize asE x y = k at *
      by_cases hk : k = 0
      · subst hk
        rw [if_neg (show ¬ ((0 : Int) ≠ 0) by decide), if_pos rfl, if_pos rfl]
        refine lay_start ?_
        go_enter Tryz.func10, Tryz.ntmps10
        go_wp2_with (first | (go_at_call 47; first | (with_reducible refine (HLc.out _).mono ?_; rintro e w' ⟨rfl, d1, rfl⟩; rw [lay_bw]) | (with_reducible refine (HLd.out _).mono ?_; rintro e w' ⟨rfl, d2, rfl⟩; rw [lay_bw])) | (go_at_call 48; refine (HS.out _).mono ?_; rintro e w' ⟨rfl, d3, rfl⟩; rw [lay_bw]) | (go_at_call 49; refine (HC.out _).mono ?_; rintro e w' ⟨rfl, d4, rfl⟩; rw [lay_bw]) | (go_at_call 50; refine (HD.out _).mono ?_; rintro e w' ⟨rfl, d5, rfl⟩; rw [lay_bw]) | (go_at_call 51; refine (HA.out _).mono ?_; rintro e w' ⟨rfl, d6, rfl⟩; rw [lay_bw]))
        exact bodyPost_ret (v := .tuple #[(.agg #[.int .i64 (u), .int .i64 (v)]), .int .i64 0]) (by simp [results, Tryz.results10, go_sem]) rfl ⟨rfl, lay_ex _ _⟩
      · have hk2 : (k != 0) = true := by simp [hk]
        have hk3 : (k == 0) = false := beq_eq_false_iff_ne.2 hk
        rw [if_pos hk, if_neg (show ¬ ((12 : Int) = 0) by decide), if_neg (show ¬ ((12 : Int) = 0) by decide)]
        refine lay_start ?_
        go_enter Tryz.func10, Tryz.ntmps10
        go_wp2_with (first | (go_at_call 47; first | (with_reducible refine (HLc.out _).mono ?_; rintro e w' ⟨rfl, d1, rfl⟩; rw [lay_bw]) | (with_reducible refine (HLd.out _).mono ?_; rintro e w' ⟨rfl, d2, rfl⟩; rw [lay_bw])) | (go_at_call 48; refine (HS.out _).mono ?_; rintro e w' ⟨rfl, d3, rfl⟩; rw [lay_bw]) | (go_at_call 49; refine (HC.out _).mono ?_; rintro e w' ⟨rfl, d4, rfl⟩; rw [lay_bw]) | (go_at_call 50; refine (HD.out _).mono ?_; rintro e w' ⟨rfl, d5, rfl⟩; rw [lay_bw]) | (go_at_call 51; refine (HA.out _).mono ?_; rintro e w' ⟨rfl, d6, rfl⟩; rw [lay_bw]))
        exact bodyPost_ret (v := .tuple #[(.agg #[.int .i64 (0), .int .i64 (0)]), .int .i64 12]) (by simp [results, Tryz.results10, go_sem]) rfl ⟨rfl, lay_ex _ _⟩
end Go.Proofs.YtakcfcekdngndaaGreat
/- The reference's Div by a positive divisor. -/
namespace Go.Proofs.YtakcfcekdngndaaGreat
open Go.RowKit

theorem r4_zeroP (b0 b1 : Int) (w : World) (h : 1 ≤ b0) :
    Calls Tryz.prog 89 #[(.agg #[.int .i64 (b0), .int .i64 (b1)])] w fun e w' => e = .returned (.bool false) ∧ ∃ d, w' = bw w d := by
  have h1 : ¬ b0 ≤ 0 := by omega
  clear h
  refine lay_start ?_
  go_enter Tryz.func89, Tryz.ntmps89
  go_wp2
  go_ret
  exact ⟨rfl, lay_ex _ _⟩
set_option maxRecDepth 100000 in
theorem r4_turnedP (a0 a1 b0 b1 : Int) (w : World) (h : 1 ≤ b0) :
    Calls Tryz.prog 90 #[(.agg #[.int .i64 (a0), .int .i64 (a1)]), (.agg #[.int .i64 (b0), .int .i64 (b1)])] w fun e w' => e = .returned (.tuple #[(.agg #[.int .i64 (a0), .int .i64 (a1)]), (.agg #[.int .i64 (b0), .int .i64 (b1)])]) ∧ ∃ d, w' = bw w d := by
  have h1 : ¬ b0 < 0 := by omega
  clear h
  refine lay_start ?_
  go_enter Tryz.func90, Tryz.ntmps90
  go_wp2_with fail
  go_region
  go_wp2_with fail
  exact bodyPost_ret (v := .tuple #[(.agg #[.int .i64 (a0), .int .i64 (a1)]), (.agg #[.int .i64 (b0), .int .i64 (b1)])]) (by simp [results, Tryz.results90, go_sem]) rfl ⟨rfl, by rw [bw_drewExt, lay_bw]; exact lay_ex _ _⟩
set_option maxHeartbeats 1000000 in
set_option maxRecDepth 100000 in
theorem r4_DivP (a0 a1 b0 b1 : Int) (w : World) (ha : fxB a0 a1 = true) (hb : fxB b0 b1 = true) (h1 : 1 ≤ b0) :
    Calls Tryz.prog 54 #[(.agg #[.int .i64 (a0), .int .i64 (a1)]), (.agg #[.int .i64 (b0), .int .i64 (b1)])] w fun e w' => e = .returned (.tuple #[(.agg #[.int .i64 (if fxB (divL a0 b0 b1) (divH a1 b0 b1) then divL a0 b0 b1 else 0), .int .i64 (if fxB (divL a0 b0 b1) (divH a1 b0 b1) then divH a1 b0 b1 else 0)]), .int .i64 (if fxB (divL a0 b0 b1) (divH a1 b0 b1) then 0 else 5)]) ∧ ∃ d, w' = bw w d := by
  have HZ := Lib.hid (fun W => r4_zeroP b0 b1 W h1)
  have HT := Lib.hid (fun W => r4_turnedP a0 a1 b0 b1 W h1)
  have ga := fxB_iff.1 ha
  have gb := fxB_iff.1 hb
  have HF := Lib.hid (fun W => r4_fitX (divL a0 b0 b1) (divH a1 b0 b1) (div_le ga.1 (by omega)) W)
  generalize (if fxB (divL a0 b0 b1) (divH a1 b0 b1) then divL a0 b0 b1 else 0) = r0 at *
  generalize (if fxB (divL a0 b0 b1) (divH a1 b0 b1) then divH a1 b0 b1 else 0) = r1 at *
  generalize (if fxB (divL a0 b0 b1) (divH a1 b0 b1) then (0 : Int) else 5) = re at *
  unfold divL divH at HF
  have F00 := Lib.hid (fun W => r4_Floor (a0 * 1073741824) b0 W h1 (by omega) (by omega))
  have F01 := Lib.hid (fun W => r4_Floor (a0 * 1073741824) b1 W (by omega) (by omega) (by omega))
  have C10 := Lib.hid (fun W => r4_Ceil (a1 * 1073741824) b0 W h1 (by omega) (by omega))
  have C11 := Lib.hid (fun W => r4_Ceil (a1 * 1073741824) b1 W (by omega) (by omega) (by omega))
  have kx : IntKind.i64.wrap (a0 * 1073741824) = a0 * 1073741824 := IntWalk.i64_in _ (by omega)
  have ky : IntKind.i64.wrap (a1 * 1073741824) = a1 * 1073741824 := IntWalk.i64_in _ (by omega)
  obtain ⟨X, hX⟩ : ∃ X, a0 * 1073741824 = X := ⟨_, rfl⟩
  obtain ⟨Y, hY⟩ : ∃ Y, a1 * 1073741824 = Y := ⟨_, rfl⟩
  have k1 : IntKind.i64.wrap (a0 * 1073741824) = X := kx.trans hX
  have k2 : IntKind.i64.wrap (a1 * 1073741824) = Y := ky.trans hY
  simp only [hX, hY] at F00 F01 C10 C11 HF
  clear kx ky hX hY ga gb ha hb h1
  generalize X / b0 = q00 at *
  generalize X / b1 = q01 at *
  generalize -(-Y / b0) = c10 at *
  generalize -(-Y / b1) = c11 at *
  have HL := Lib.hid (fun W => r4_Least q00 q01 W)
  have HM := Lib.hid (fun W => r4_Most c10 c11 W)
  generalize mn q00 q01 = x0 at *
  generalize mx c10 c11 = x1 at *
  refine lay_start ?_
  go_enter Tryz.func54, Tryz.ntmps54
  go_wp2_with (first | (go_at_call 89; refine (HZ.out _).mono ?_; rintro e w' ⟨rfl, d1, rfl⟩; rw [lay_bw]) | (go_at_call 90; refine (HT.out _).mono ?_; rintro e w' ⟨rfl, d2, rfl⟩; rw [lay_bw]))
  refine region_bw (by kernel_rfl) (by kernel_rfl) ?_
  repeat (go_big_quiet_step ((first | (go_at_call 92; first | ((with_reducible refine bq (F00.out _) ?_); first | exact (fun d => lay_join _ _ _ d) | exact (fun d => ⟨d, rfl⟩)) | ((with_reducible refine bq (F01.out _) ?_); first | exact (fun d => lay_join _ _ _ d) | exact (fun d => ⟨d, rfl⟩))) | (go_at_call 91; (with_reducible refine bq (HL.out _) ?_); first | exact (fun d => lay_join _ _ _ d) | exact (fun d => ⟨d, rfl⟩)))))
  refine wpQuiet_nil ?_
  rintro w' ⟨d, rfl⟩
  rw [lay_bw]
  go_wp2_with fail
  refine region_bw (by kernel_rfl) (by kernel_rfl) ?_
  repeat (go_big_quiet_step ((first | (go_at_call 94; first | ((with_reducible refine bq (C10.out _) ?_); first | exact (fun d => lay_join _ _ _ d) | exact (fun d => ⟨d, rfl⟩)) | ((with_reducible refine bq (C11.out _) ?_); first | exact (fun d => lay_join _ _ _ d) | exact (fun d => ⟨d, rfl⟩))) | (go_at_call 93; (with_reducible refine bq (HM.out _) ?_); first | exact (fun d => lay_join _ _ _ d) | exact (fun d => ⟨d, rfl⟩)))))
  refine wpQuiet_nil ?_
  rintro w' ⟨d, rfl⟩
  rw [lay_bw]
  go_wp2_with (first | (go_at_call 95; refine (HF.out _).mono ?_; rintro e w' ⟨rfl, d3, rfl⟩; rw [lay_bw]))
  exact bodyPost_ret (v := .tuple #[(.agg #[.int .i64 (r0), .int .i64 (r1)]), .int .i64 re]) (by simp [results, Tryz.results54, go_sem]) rfl ⟨rfl, lay_ex _ _⟩
end Go.Proofs.YtakcfcekdngndaaGreat
