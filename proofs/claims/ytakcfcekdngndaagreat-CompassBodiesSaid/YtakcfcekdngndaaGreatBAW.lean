/- Contracts and plain laws, several texts in one: AmR -/
import Derived.Test.YtakcfcekdngndaaGreatProg
import Derived.WalkKit
import Derived.WalkSpells
import Derived.WalkLawsBesides
import Derived.Lib.Hide
import Derived.BigQuiet
import Derived.Test.YtakcfcekdngndaaGreatBAA
import Derived.Test.YtakcfcekdngndaaGreatBAB
import Derived.Test.YtakcfcekdngndaaGreatBAJ
import Derived.Test.YtakcfcekdngndaaGreatBAO
import Derived.Test.YtakcfcekdngndaaGreatBAP
import Derived.Test.YtakcfcekdngndaaGreatBAS
import Derived.Test.YtakcfcekdngndaaGreatBAV
/- The reference's Amplitude and ErrorBy. -/
namespace Go.Proofs.YtakcfcekdngndaaGreat
open Go.RowKit

theorem cos_nn {c0 c1 : Int} (h : latB c0 c1 = true) : 0 ≤ encL (c0 + 5400000) (c1 + 5400000) := by
  have := latB_iff.1 h
  exact enc_pos (by omega) (by omega) (by omega)
set_option maxHeartbeats 1000000 in
set_option maxRecDepth 100000 in
theorem r34_Amp (c0 c1 d0 d1 : Int) (w : World) (lc : latB c0 c1 = true) (ld : latB d0 d1 = true) :
    Calls Tryz.prog 13 #[(.agg #[.int .i64 (c0), .int .i64 (c1)]), (.agg #[.int .i64 (d0), .int .i64 (d1)])] w fun e w' => e = .returned (.tuple #[(.agg #[.int .i64 (ampL c0 c1 d0 d1), .int .i64 (ampH c0 c1 d0 d1)]), .int .i64 (ampE c0 c1 d0 d1)]) ∧ ∃ d, w' = bw w d := by
  have HS := Lib.hid (fun W => r6_Sin d0 d1 (lat_valid ld) W)
  have HC := Lib.hid (fun W => r6_Cos c0 c1 (lat_valid lc) W)
  have hn := cos_nn lc
  unfold ampL ampH ampE
  have hs := @enc_in d0 d1
  have hc := @enc_in (c0 + 5400000) (c1 + 5400000)
  generalize encL (c0 + 5400000) (c1 + 5400000) = p at *
  generalize encH (c0 + 5400000) (c1 + 5400000) = q at *
  generalize encL d0 d1 = r at *
  generalize encH d0 d1 = s at *
  clear lc ld
  by_cases h : p ≤ 0
  · rw [if_pos h, if_neg (show ¬ ((21 : Int) = 0) by decide), if_neg (show ¬ ((21 : Int) = 0) by decide)]
    have h2 : 0 ≤ q := by omega
    clear hs hc hn
    refine lay_start ?_
    go_enter Tryz.func13, Tryz.ntmps13
    go_wp2_with (first | (go_at_call 38; refine (HC.out _).mono ?_; rintro e w' ⟨rfl, d4, rfl⟩; rw [lay_bw]))
    exact bodyPost_ret (v := .tuple #[(.agg #[.int .i64 (0), .int .i64 (0)]), .int .i64 21]) (by simp [results, Tryz.results13, go_sem]) rfl ⟨rfl, lay_ex _ _⟩
  · rw [if_neg h]
    have HD := Lib.hid (fun W => r4_DivP r s p q W (unit_fx hs) (unit_fx hc) (by omega))
    clear hs hc hn
    generalize divL r p q = x at *
    generalize divH s p q = y at *
    cases hx : fxB x y
    · rw [hx] at HD
      simp only [Bool.false_eq_true, if_false] at HD
      rw [if_pos rfl, if_neg (show ¬ ((24 : Int) = 0) by decide), if_neg (show ¬ ((24 : Int) = 0) by decide)]
      clear hx
      refine lay_start ?_
      go_enter Tryz.func13, Tryz.ntmps13
      go_wp2_with (first | (go_at_call 38; refine (HC.out _).mono ?_; rintro e w' ⟨rfl, d4, rfl⟩; rw [lay_bw]))
      refine region_mixW [0, 0, 0, 0, 0, 0, 0, 1, 1, 0] (by kernel_rfl) (by kernel_rfl) (by kernel_rfl) ?_
      repeat (first | (refine wpM_quiet (fun K hK => ?_); go_simp; first | (refine hK _ ?_; clear hK K) | (apply Exists.intro; refine ⟨fun _ => ?_, hK _ ?_⟩; (first | (go_at_call 55; exact bq (HS.out _) (fun d => ⟨d, rfl⟩)) | (go_at_call 54; exact bq (HD.out _) (fun d => ⟨d, rfl⟩))); clear hK K)) | (refine wpM_special (fun K hK d => ?_); go_simp; refine hK _ _ (by first | exact lay_in w [_] _ | exact lay_in w [_, _] _ | exact lay_in w [_, _, _] _ | exact lay_in w [_, _, _, _] _ | exact lay_in w [_, _, _, _, _] _ | exact lay_in w [_, _, _, _, _, _] _) ?_; clear hK K))
      refine wpM_nil ?_
      intro d
      rw [lay_bw]
      go_wp2_with (first | (go_at_call 56; refine (HA.out _).mono ?_; rintro e w' ⟨rfl, d6, rfl⟩; rw [lay_bw]))
      exact bodyPost_ret (v := .tuple #[(.agg #[.int .i64 (0), .int .i64 (0)]), .int .i64 24]) (by simp [results, Tryz.results13, go_sem]) rfl ⟨rfl, lay_ex _ _⟩
    · rw [hx] at HD
      simp only [if_true] at HD
      rw [if_neg (show ¬ (true = false) by decide)]
      have HA := Lib.hid (fun W => r7_Asin x y W)
      clear hx
      generalize asL x y = u at *
      generalize asH x y = v at *
      generalize asE x y = k at *
      by_cases hk : k = 0
      · subst hk
        rw [if_neg (show ¬ ((0 : Int) ≠ 0) by decide), if_pos rfl, if_pos rfl]
        refine lay_start ?_
        go_enter Tryz.func13, Tryz.ntmps13
        go_wp2_with (first | (go_at_call 38; refine (HC.out _).mono ?_; rintro e w' ⟨rfl, d4, rfl⟩; rw [lay_bw]))
        refine region_mixW [0, 0, 0, 0, 0, 0, 0, 1, 1, 0] (by kernel_rfl) (by kernel_rfl) (by kernel_rfl) ?_
        repeat (first | (refine wpM_quiet (fun K hK => ?_); go_simp; first | (refine hK _ ?_; clear hK K) | (apply Exists.intro; refine ⟨fun _ => ?_, hK _ ?_⟩; (first | (go_at_call 55; exact bq (HS.out _) (fun d => ⟨d, rfl⟩)) | (go_at_call 54; exact bq (HD.out _) (fun d => ⟨d, rfl⟩))); clear hK K)) | (refine wpM_special (fun K hK d => ?_); go_simp; refine hK _ _ (by first | exact lay_in w [_] _ | exact lay_in w [_, _] _ | exact lay_in w [_, _, _] _ | exact lay_in w [_, _, _, _] _ | exact lay_in w [_, _, _, _, _] _ | exact lay_in w [_, _, _, _, _, _] _) ?_; clear hK K))
        refine wpM_nil ?_
        intro d
        rw [lay_bw]
        go_wp2_with (first | (go_at_call 56; refine (HA.out _).mono ?_; rintro e w' ⟨rfl, d6, rfl⟩; rw [lay_bw]))
        exact bodyPost_ret (v := .tuple #[(.agg #[.int .i64 (u), .int .i64 (v)]), .int .i64 0]) (by simp [results, Tryz.results13, go_sem]) rfl ⟨rfl, lay_ex _ _⟩
      · have hk2 : (k != 0) = true := by simp [hk]
        have hk3 : (k == 0) = false := beq_eq_false_iff_ne.2 hk
        rw [if_pos hk, if_neg (show ¬ ((12 : Int) = 0) by decide), if_neg (show ¬ ((12 : Int) = 0) by decide)]
        refine lay_start ?_
        go_enter Tryz.func13, Tryz.ntmps13
        go_wp2_with (first | (go_at_call 38; refine (HC.out _).mono ?_; rintro e w' ⟨rfl, d4, rfl⟩; rw [lay_bw]))
        refine region_mixW [0, 0, 0, 0, 0, 0, 0, 1, 1, 0] (by kernel_rfl) (by kernel_rfl) (by kernel_rfl) ?_
        repeat (first | (refine wpM_quiet (fun K hK => ?_); go_simp; first | (refine hK _ ?_; clear hK K) | (apply Exists.intro; refine ⟨fun _ => ?_, hK _ ?_⟩; (first | (go_at_call 55; exact bq (HS.out _) (fun d => ⟨d, rfl⟩)) | (go_at_call 54; exact bq (HD.out _) (fun d => ⟨d, rfl⟩))); clear hK K)) | (refine wpM_special (fun K hK d => ?_); go_simp; refine hK _ _ (by first | exact lay_in w [_] _ | exact lay_in w [_, _] _ | exact lay_in w [_, _, _] _ | exact lay_in w [_, _, _, _] _ | exact lay_in w [_, _, _, _, _] _ | exact lay_in w [_, _, _, _, _, _] _) ?_; clear hK K))
        refine wpM_nil ?_
        intro d
        rw [lay_bw]
        go_wp2_with (first | (go_at_call 56; refine (HA.out _).mono ?_; rintro e w' ⟨rfl, d6, rfl⟩; rw [lay_bw]))
        exact bodyPost_ret (v := .tuple #[(.agg #[.int .i64 (0), .int .i64 (0)]), .int .i64 12]) (by simp [results, Tryz.results13, go_sem]) rfl ⟨rfl, lay_ex _ _⟩
theorem r34_Near (v0 v1 : Int) (w : World) (h : v0 ≤ v1) :
    Calls Tryz.prog 15 #[(.agg #[.int .i64 (v0), .int .i64 (v1)])] w fun e w' => e = .returned (.bool (nearB v0 v1)) ∧ ∃ d, w' = bw w d := by
  refine lay_start ?_
  go_enter Tryz.func15, Tryz.ntmps15
  go_wp2
  all_goals go_ret
  all_goals exact ⟨ret_bool (by rw [Bool.eq_iff_iff]; simp [nearB, withB]; omega), lay_ex _ _⟩
set_option maxHeartbeats 1000000 in
set_option maxRecDepth 100000 in
theorem r34_ErrorBy (o0 o1 z0 z1 : Int) (w : World) (vo : validB o0 o1 = true) (vz : validB z0 z1 = true) :
    Calls Tryz.prog 16 #[(.agg #[.int .i64 (o0), .int .i64 (o1)]), (.agg #[.int .i64 (z0), .int .i64 (z1)])] w fun e w' => e = .returned (.agg #[.int .i64 (ebL o0 o1 z0 z1), .int .i64 (ebH o0 o1 z0 z1)]) ∧ ∃ d, w' = bw w d := by
  have go := validB_iff.1 vo
  have gz := validB_iff.1 vz
  have HS := Lib.hid (fun W => ref05_Sub z0 z1 o0 o1 W (by omega) (by omega) (by omega) (by omega))
  have HN := Lib.hid (fun W => ref05_Signed (z0 - o1) W)
  have hb := signedI_bd (z0 - o1)
  unfold ebL ebH ebW
  obtain ⟨p, hp⟩ : ∃ p, z0 - o1 = p := ⟨_, rfl⟩
  obtain ⟨q, hq⟩ : ∃ q, z1 - o0 = q := ⟨_, rfl⟩
  simp only [hp, hq] at HS HN hb ⊢
  have k1 : IntKind.i64.wrap (q - p) = q - p := IntWalk.i64_in _ (by omega)
  generalize signedI p = s at *
  have k2 : IntKind.i64.wrap (s + q) = s + q := IntWalk.i64_in _ (by omega)
  have k3 : IntKind.i64.wrap (s + q - p) = s + q - p := IntWalk.i64_in _ (by omega)
  clear go gz vo vz hp hq hb
  by_cases c : 21600000 ≤ q - p
  · rw [if_pos c, if_pos c]
    refine lay_start ?_
    go_enter Tryz.func16, Tryz.ntmps16
    go_wp2_with (first | (go_at_call 35; refine (HS.out _).mono ?_; rintro e w' ⟨rfl, d1, rfl⟩; rw [lay_bw]))
    exact bodyPost_ret (v := (.agg #[.int .i64 (-10800000), .int .i64 (10800000)])) (by simp [results, Tryz.results16, go_sem]) rfl ⟨rfl, lay_ex _ _⟩
  · rw [if_neg c, if_neg c]
    refine lay_start ?_
    go_enter Tryz.func16, Tryz.ntmps16
    go_wp2_with (first | (go_at_call 35; refine (HS.out _).mono ?_; rintro e w' ⟨rfl, d1, rfl⟩; rw [lay_bw]) | (go_at_call 57; refine (HN.out _).mono ?_; rintro e w' ⟨rfl, rfl⟩))
    exact bodyPost_ret (v := (.agg #[.int .i64 (s), .int .i64 (s + q - p)])) (by simp [results, Tryz.results16, go_sem]) rfl ⟨rfl, lay_ex _ _⟩
end Go.Proofs.YtakcfcekdngndaaGreat
