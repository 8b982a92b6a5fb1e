/- Contracts and plain laws, several texts in one: S23; Av3 -/
import Derived.Test.YtmomoeagnkjbiaaGreatProg
import Derived.WalkKit
import Derived.WalkSpells
import Derived.WalkLawsBesides
import Derived.Lib.Hide
import Derived.BigQuiet
import Derived.Test.YtmomoeagnkjbiaaGreatBAA
import Derived.Test.YtmomoeagnkjbiaaGreatBAB
import Derived.Test.YtmomoeagnkjbiaaGreatBAF
import Derived.Test.YtmomoeagnkjbiaaGreatBAL
import Derived.Test.YtmomoeagnkjbiaaGreatBAR
import Derived.Test.YtmomoeagnkjbiaaGreatBAT
import Derived.Test.YtmomoeagnkjbiaaGreatBAU
import Derived.Test.YtmomoeagnkjbiaaGreatBAV
/- The reference's Slope; both answers of the program's Slope where an argument is not valid. -/
namespace Go.Proofs.YtmomoeagnkjbiaaGreat
open Go.RowKit

set_option maxRecDepth 100000 in
theorem r8_ValidLat (lo hi : Int) (w : World) :
    Calls Tryz.prog 10 #[(.agg #[.int .i64 (lo), .int .i64 (hi)])] w fun e w' => e = .returned (.bool (latB lo hi)) ∧ ∃ d, w' = bw w d := by
  refine lay_start ?_
  go_enter Tryz.func10, Tryz.ntmps10
  go_wp2
  all_goals go_ret
  all_goals exact ⟨ret_bool (by rw [Bool.eq_iff_iff]; simp [latB]; omega), lay_ex _ _⟩
set_option maxHeartbeats 2000000 in
set_option maxRecDepth 100000 in
theorem r23_SlopeG (l0 l1 z0 z1 : Int) (w : World) (hl : latB l0 l1 = true) (hz : validB z0 z1 = true) :
    Calls Tryz.prog 9 #[(.agg #[.int .i64 (l0), .int .i64 (l1)]), (.agg #[.int .i64 (z0), .int .i64 (z1)])] w fun e w' => e = .returned (.tuple #[(.agg #[.int .i64 (mkNN (slpL l0 l1 z0 z1) 1000), .int .i64 (mkDD (slpL l0 l1 z0 z1) 1000)]), (.agg #[.int .i64 (mkNN (slpH l0 l1 z0 z1) 1000), .int .i64 (mkDD (slpH l0 l1 z0 z1) 1000)]), .int .i64 0]) ∧ ∃ d, w' = bw w d := by
  have hlf := latB_iff.1 hl
  have hlv : validB l0 l1 = true := validB_iff.2 ⟨by omega, by omega, by omega⟩
  have HV1 := Lib.hid (fun W => r8_ValidLat l0 l1 W)
  have HV2 := Lib.hid (fun W => ref05_Valid z0 z1 W)
  rw [hl] at HV1
  rw [hz] at HV2
  have HC := Lib.hid (fun W => r6_Cos l0 l1 hlv W)
  have HS := Lib.hid (fun W => r6_Sin z0 z1 hz W)
  have hin := slp_in (l0 := l0) (l1 := l1) (z0 := z0) (z1 := z1)
  have hm1 := (rate_frac (L := slpL l0 l1 z0 z1) (by omega) (by omega)).1
  have hm2 := (rate_frac (L := slpH l0 l1 z0 z1) (by omega) (by omega)).1
  have HM1 := Lib.hid (fun W => r3_Make (slpL l0 l1 z0 z1) 1000 W ⟨by omega, by omega⟩ (by decide))
  have HM2 := Lib.hid (fun W => r3_Make (slpH l0 l1 z0 z1) 1000 W ⟨by omega, by omega⟩ (by decide))
  rw [hm1] at HM1
  rw [hm2] at HM2
  obtain ⟨a1, a2, a3⟩ := enc_in (lo := l0 + 5400000) (hi := l1 + 5400000)
  obtain ⟨b1, b2, b3⟩ := enc_in (lo := z0) (hi := z1)
  obtain ⟨m1, m2, m3⟩ := mul_unit a1 a2 a3 b1 b2 b3
  have HP := Lib.hid (fun W => r4_Mul _ _ _ _ W (fxB_iff.2 ⟨a2, by omega, by omega⟩) (fxB_iff.2 ⟨b2, by omega, by omega⟩) (fxB_iff.2 ⟨m2, by omega, by omega⟩))
  have HL := Lib.hid (fun W => r4_Scale _ _ W (fxB_iff.2 ⟨m2, by omega, by omega⟩))
  obtain ⟨e1, e2⟩ := slp_at (l0 := l0) (l1 := l1) (z0 := z0) (z1 := z1)
  rw [← e1, ← e2] at HL
  clear e1 e2 hm1 hm2 hin m1 m2 m3 a1 a2 a3 b1 b2 b3 hlv hz hl hlf
  generalize slpL l0 l1 z0 z1 = L at *
  generalize slpH l0 l1 z0 z1 = H at *
  generalize mulL (encL (l0 + 5400000) (l1 + 5400000)) (encH (l0 + 5400000) (l1 + 5400000)) (encL z0 z1) (encH z0 z1) = P at *
  generalize mulH (encL (l0 + 5400000) (l1 + 5400000)) (encH (l0 + 5400000) (l1 + 5400000)) (encL z0 z1) (encH z0 z1) = Q at *
  generalize encL (l0 + 5400000) (l1 + 5400000) = c0 at *
  generalize encH (l0 + 5400000) (l1 + 5400000) = c1 at *
  generalize encL z0 z1 = s0 at *
  generalize encH z0 z1 = s1 at *
  generalize mkNN L 1000 = n1 at *
  generalize mkDD L 1000 = d1 at *
  generalize mkNN H 1000 = n2 at *
  generalize mkDD H 1000 = d2 at *
  refine lay_start ?_
  go_enter Tryz.func9, Tryz.ntmps9
  go_wp2_with (first | (go_at_call 10; refine (HV1.out _).mono ?_; rintro e w' ⟨rfl, dd1, rfl⟩) | (go_at_call 11; refine (HV2.out _).mono ?_; rintro e w' ⟨rfl, dd2, rfl⟩))
  refine region_mixW [0, 0, 0, 0, 0, 0, 0, 0, 1, 1, 0] (by kernel_rfl) (by kernel_rfl) (by kernel_rfl) ?_
  repeat (first | (refine wpM_quiet (fun K hK => ?_); go_simp; first | (refine hK _ ?_; clear hK K) | (apply Exists.intro; refine ⟨fun _ => ?_, hK _ ?_⟩; (first | (go_at_call 34; exact bq (HC.out _) (fun d => ⟨d, rfl⟩)) | (go_at_call 35; exact bq (HS.out _) (fun d => ⟨d, rfl⟩)) | (go_at_call 33; exact bq (HP.out _) (fun d => ⟨d, rfl⟩))); clear hK K)) | (refine wpM_special (fun K hK d => ?_); go_simp; refine hK _ _ (by first | exact lay_in w [_] _ | exact lay_in w [_, _] _ | exact lay_in w [_, _, _] _ | exact lay_in w [_, _, _, _] _ | exact lay_in w [_, _, _, _, _] _ | exact lay_in w [_, _, _, _, _, _] _) ?_; clear hK K))
  refine wpM_nil ?_
  intro d
  rw [lay_bw]
  go_wp2_with (first | (go_at_call 36; refine (HL.out _).mono ?_; rintro e w' ⟨rfl, dd6, rfl⟩) | (go_at_call 37; first | (with_reducible refine (HM1.out _).mono ?_; rintro e w' ⟨rfl, dd7, rfl⟩) | (with_reducible refine (HM2.out _).mono ?_; rintro e w' ⟨rfl, dd8, rfl⟩)))
  go_region
  all_goals
    go_wp2_with fail
    exact bodyPost_ret (v := .tuple #[(.agg #[.int .i64 (n1), .int .i64 (d1)]), (.agg #[.int .i64 (n2), .int .i64 (d2)]), .int .i64 0]) (by simp [results, Tryz.results9, go_sem]) rfl ⟨rfl, by rw [bw_drewExt, lay_bw]; exact lay_ex _ _⟩
set_option maxHeartbeats 2000000 in
set_option maxRecDepth 100000 in
theorem r23_SlopeBad (l0 l1 z0 z1 : Int) (w : World) (h : (latB l0 l1 && validB z0 z1) = false) :
    Calls Tryz.prog 9 #[(.agg #[.int .i64 (l0), .int .i64 (l1)]), (.agg #[.int .i64 (z0), .int .i64 (z1)])] w fun e w' => e = .returned (.tuple #[(.agg #[.int .i64 (0), .int .i64 (0)]), (.agg #[.int .i64 (0), .int .i64 (0)]), .int .i64 1]) ∧ ∃ d, w' = bw w d := by
  have HV1 := Lib.hid (fun W => r8_ValidLat l0 l1 W)
  have HV2 := Lib.hid (fun W => ref05_Valid z0 z1 W)
  cases h1 : latB l0 l1
  · rw [h1] at HV1
    clear h h1
    refine lay_start ?_
    go_enter Tryz.func9, Tryz.ntmps9
    go_wp2_with (first | (go_at_call 10; refine (HV1.out _).mono ?_; rintro e w' ⟨rfl, dd1, rfl⟩))
    exact bodyPost_ret (v := .tuple #[(.agg #[.int .i64 (0), .int .i64 (0)]), (.agg #[.int .i64 (0), .int .i64 (0)]), .int .i64 1]) (by simp [results, Tryz.results9, go_sem]) rfl ⟨rfl, lay_ex _ _⟩
  · rw [h1, Bool.true_and] at h
    rw [h1] at HV1
    rw [h] at HV2
    clear h h1
    refine lay_start ?_
    go_enter Tryz.func9, Tryz.ntmps9
    go_wp2_with (first | (go_at_call 10; refine (HV1.out _).mono ?_; rintro e w' ⟨rfl, dd1, rfl⟩) | (go_at_call 11; refine (HV2.out _).mono ?_; rintro e w' ⟨rfl, dd2, rfl⟩))
    exact bodyPost_ret (v := .tuple #[(.agg #[.int .i64 (0), .int .i64 (0)]), (.agg #[.int .i64 (0), .int .i64 (0)]), .int .i64 1]) (by simp [results, Tryz.results9, go_sem]) rfl ⟨rfl, lay_ex _ _⟩
set_option maxHeartbeats 2000000 in
set_option maxRecDepth 100000 in
theorem av_SlopeBad (l0 l1 z0 z1 : Int) (w : World) (h : (latB l0 l1 && validB z0 z1) = false) :
    Calls Tryz.prog 8 #[(.agg #[.int .i64 (l0), .int .i64 (l1)]), (.agg #[.int .i64 (z0), .int .i64 (z1)])] w fun e w' => e = .returned (.tuple #[(.agg #[.int .i64 (0), .int .i64 (0)]), (.agg #[.int .i64 (0), .int .i64 (0)]), .int .i64 1]) ∧ ∃ d, w' = bw w d := by
  have HV1 := Lib.hid (fun W => angle_Valid l0 l1 W)
  have HV2 := Lib.hid (fun W => angle_Valid z0 z1 W)
  have hL : latB l0 l1 = (validB l0 l1 && (!decide (l0 < -5400000) && !decide (5400000 < l1))) := by
    rw [Bool.eq_iff_iff]
    simp [latB, validB]
    omega
  rw [hL] at h
  clear hL
  obtain ⟨A, hA⟩ : ∃ x, validB l0 l1 = x := ⟨_, rfl⟩
  obtain ⟨B, hB⟩ : ∃ x, validB z0 z1 = x := ⟨_, rfl⟩
  obtain ⟨C, hC⟩ : ∃ x, decide (l0 < -5400000) = x := ⟨_, rfl⟩
  obtain ⟨D, hD⟩ : ∃ x, decide (5400000 < l1) = x := ⟨_, rfl⟩
  rw [hA, hB, hC, hD] at h
  rw [hA] at HV1
  rw [hB] at HV2
  clear hA hB
  refine lay_start ?_
  cases A <;> cases B <;> cases C <;> cases D
  all_goals try (exfalso; revert h; decide)
  all_goals
    clear h
    go_enter Tryz.func8, Tryz.ntmps8
    go_wp2_with (first | (go_at_call 27; first | (with_reducible refine (HV1.out _).mono ?_; rintro e w' ⟨rfl, dd1, rfl⟩) | (with_reducible refine (HV2.out _).mono ?_; rintro e w' ⟨rfl, dd2, rfl⟩)))
    exact bodyPost_ret (v := .tuple #[(.agg #[.int .i64 (0), .int .i64 (0)]), (.agg #[.int .i64 (0), .int .i64 (0)]), .int .i64 1]) (by simp [results, Tryz.results8, go_sem]) rfl ⟨rfl, lay_ex _ _⟩
end Go.Proofs.YtmomoeagnkjbiaaGreat
/- average.Reject. -/
namespace Go.Proofs.YtmomoeagnkjbiaaGreat
open Go.RowKit

set_option maxHeartbeats 2000000 in
set_option maxRecDepth 100000 in
theorem av_Reject (v : Value) (l : List Int) (f : Int) (w : World) (hs : Sl w v l) :
    Calls Tryz.prog 26 #[v, .int .i64 f] w (RwE w (rejL l f) (rejE l f)) := by
  by_cases c1 : l.length < 1 ∨ 1000 < l.length
  · have he : rejE l f = 3 := if_pos c1
    rw [rejL_ne (by rw [he]; decide), he]
    obtain ⟨a, cap, rfl, hcp, -⟩ := hs
    obtain ⟨m, hm⟩ : ∃ m, l.length = m := ⟨_, rfl⟩
    rw [hm] at c1 ⊢
    rcases c1 with c1 | c1
    · obtain rfl : m = 0 := by omega
      clear hm hcp
      refine lay_start ?_
      go_enter Tryz.func26, Tryz.ntmps26
      go_wp2_with fail
      go_ret2
      exact rwe_nil rfl
    · have x0 : ¬ (m : Int) < 1 := by omega
      have x1 : (1000 : Int) < (m : Int) := by omega
      clear hm hcp
      refine lay_start ?_
      go_enter Tryz.func26, Tryz.ntmps26
      go_wp2_with fail
      go_ret2
      exact rwe_nil rfl
  · have HS := Lib.hid hs
    obtain ⟨b, o, cap, rfl, hc, hw, hbs, hr⟩ := hs.open (by omega)
    have hE : rejE l f = if f < 1 ∨ 100 < f ∨ outB l 1099511627776 = true then 2 else 0 := if_neg c1
    have HOut := Lib.hid (fun W (h : Sl W (.slice (some ⟨b, o, none⟩) l.length cap) l) => av_outside _ l 1099511627776 W h (by decide) (by decide))
    obtain ⟨m, hm⟩ : ∃ m, l.length = m := ⟨_, rfl⟩
    have x0 : ¬ (m : Int) < 1 := by omega
    have x1 : ¬ (1000 : Int) < (m : Int) := by omega
    by_cases c2 : f < 1
    · have he : rejE l f = 2 := by rw [hE, if_pos (by omega)]
      rw [rejL_ne (by rw [he]; decide), he, hm]
      clear hm hr hE he c1 hs hw
      refine lay_start ?_
      go_enter Tryz.func26, Tryz.ntmps26
      go_wp2_with fail
      go_ret2
      exact rwe_nil rfl
    · by_cases c3 : 100 < f
      · have he : rejE l f = 2 := by rw [hE, if_pos (by omega)]
        rw [rejL_ne (by rw [he]; decide), he, hm]
        clear hm hr hE he c1 hs hw
        refine lay_start ?_
        go_enter Tryz.func26, Tryz.ntmps26
        go_wp2_with fail
        go_ret2
        exact rwe_nil rfl
      · cases ho : outB l 1099511627776
        · have hb := outB_bd ho
          rw [ho] at HOut
          have he : rejE l f = 0 := by rw [hE, if_neg (by rw [ho]; simp; omega)]
          rw [rejL_eq he, he]
          have h1 : 1 ≤ l.length := by omega
          have hlb := lim_bd hb h1 (f := f) (by omega) (by omega)
          have HMd := Lib.hid (fun W h => av_median (.slice (some ⟨b, o, none⟩) l.length cap) l W h h1 (by omega))
          have HM2 := Lib.hid (fun W v h => av_median v (farI l) W h (by rw [farI_len]; exact h1) (by rw [farI_len]; omega))
          have HD := Lib.hid (fun W i (hi : i < l.length) => av_size (nth l i - medI l) W (by have h2 := hb i hi; have h3 := hb.med h1; omega) (by have h2 := hb i hi; have h3 := hb.med h1; omega))
          have HDb := Lib.hid (fun i (hi : i < l.length) => (show -4000000000000 ≤ nth l i - medI l ∧ nth l i - medI l ≤ 4000000000000 by have h2 := hb i hi; have h3 := hb.med h1; omega))
          have HF := Lib.hid (fun i (hi : i < l.length) => far_nth hi)
          have HFb := Lib.hid (hb.far h1)
          have HE := Lib.hid (outI_K l f)
          have HFL := Lib.hid (farI_len l)
          have HR := Lib.hid hr
          obtain ⟨M, hM⟩ : ∃ M, medI l = M := ⟨_, rfl⟩
          obtain ⟨F, hF⟩ : ∃ F, farI l = F := ⟨_, rfl⟩
          obtain ⟨M2, hM2⟩ : ∃ M2, medI (farI l) = M2 := ⟨_, rfl⟩
          have hlim : limI l f = max (f * M2) 100 := by unfold limI; rw [hM2]
          rw [hlim] at HE
          rw [hM2] at hlb
          rw [hF] at HM2 HE HF HFb HFL hM2
          rw [hM] at HMd HD HF HDb
          rw [hM2] at HM2
          rw [hm] at HS HMd HD HR HF HE HFL HOut HDb h1 hc ⊢
          have HX := Lib.hid (fun i (hi : i < m) => (HF.out i hi).symm)
          generalize outI l f = OUT at *
          obtain ⟨p0, p1⟩ := hlb
          obtain ⟨P, hP⟩ : ∃ P, f * M2 = P := ⟨_, rfl⟩
          rw [hP] at p0 p1 HE
          have hP1 : IntKind.i64.wrap (f * M2) = P := by rw [hP]; exact IntWalk.i64_in _ (by omega)
          have hml : m ≤ 1000 := by omega
          clear hr hb hm hM hF hM2 hlim hs HF hw he hE ho c1
          refine lay_start ?_
          go_enter Tryz.func26, Tryz.ntmps26
          go_wp2_with (first | (go_at_call 66; refine (HOut.out _ (HS.out.lay _)).mono ?_; rintro e w' ⟨rfl, d, rfl⟩) | (go_at_call 43; refine (HMd.out _ (HS.out.lay _)).mono ?_; rintro e w' ⟨rfl, dM, rfl⟩))
          obtain ⟨d0, e0⟩ : ∃ x, lay w [.inr dM, .inr d] = lay w [.inr x] := ⟨_, bw_bw _ _ _⟩
          rw [e0]
          go_loopw [7, 38] (fun v7 v38 wr => ∃ (k : Nat) (dd : Ext), k ≤ m ∧ v38 = .int .i64 (k : Int) ∧ wr = lay w [.inr dd] ∧ Ow (lay w [.inr dd]) (lay w []).heap.size v7 (F.take k)) (fun _ v38 _ => m - (intOf v38).toNat)
          case atStart => exact ⟨0, d0, Nat.zero_le _, rfl, rfl, Ow.nil _ _⟩
          case round =>
            obtain ⟨k, dd, hk, rfl, rfl, hO⟩ := hrel
            have HO := Lib.hid hO
            clear hO
            by_cases hlt : k < m
            · have e1 := HR.out k hlt
              have H1 := Lib.hid (fun W => HD.out W k hlt)
              rw [HX.out k hlt] at H1
              have x1 : (k : Int) < (m : Int) := by omega
              have x0 : (0 : Int) ≤ (k : Int) := by omega
              have lw : (Lit.int .i64 (nth F k)).wf = true := lit_b (by have := HFb.out k (by rw [HFL.out]; exact hlt); omega)
              have hlen : (F.take k).length ≤ 1000000000 := by rw [List.length_take]; omega
              have HT := Lib.hid (take_nth (l := F) (k := k) (by rw [HFL.out]; exact hlt))
              have wk : IntKind.i64.wrap (nth l k - M) = nth l k - M := IntWalk.i64_in _ (by have := HDb.out k hlt; omega)
              generalize nth F k = Q at *
              generalize nth l k = X at *
              generalize F.take k = R at *
              go_wp2_with (first | (go_at_call 67; refine (H1.out _).mono ?_; rintro e w' ⟨rfl, d, rfl⟩) | (at_builtin; refine push_int rfl _ _ rfl (lay w []) _ (Q) 3 _ _ _ ?_ (ow_on (A := [_, _]) HO.out) ?_ rfl rfl (by omega) lw ?_; exact lay_below (A := [_, _, _]); exact lay_get w _ 0 _ rfl; intro v' d' hv'))
              go_roundw
              case rel => exact ⟨k + 1, d', by omega, by go_num, rfl, by rw [HT.out]; exact hv'⟩
              case measure => simp [intOf]; omega
            · obtain rfl : k = m := by omega
              rw [show F.take k = F by rw [← HFL.out, List.take_length]] at HO
              clear HD HX HR HS HMd e0
              go_wp2_with fail
              refine (HM2.out _ _ HO.out.sl).mono ?_
              rintro e w' ⟨rfl, d2, rfl⟩
              rw [lay_bw]
              have HO2 := Lib.hid (ow_on (A := [.inr d2]) HO.out)
              clear HO HM2
              obtain ⟨g, cF, hv6, hg1, hg2, hg3⟩ := HO2.out.form1 (by rw [HFL.out]; exact h1)
              rw [HFL.out] at hv6 hg3
              subst hv6
              obtain ⟨T, hT⟩ : ∃ T, max P 100 = T := ⟨_, rfl⟩
              rw [hT] at HE
              have HOut := HE
              clear HE
              have t0 : 100 ≤ T := by omega
              obtain ⟨d3, e3⟩ : ∃ x, lay w [.inr d2, .inr dd] = lay w [.inr x] := ⟨_, bw_bw _ _ _⟩
              replace HO2 : Hid (Ow (lay w [.inr d2, .inr dd]) (lay w []).heap.size (.slice (some ⟨g, 0, none⟩) k cF) F) := HO2
              rw [show lay w ([Sum.inr d2] ++ [Sum.inr dd]) = lay w [.inr d2, .inr dd] from rfl, e3] at hg2
              rw [e3] at HO2 ⊢
              clear e3
              by_cases hP2 : P < 100
              · have hT2 : T = 100 := by omega
                subst hT2
                go_wp2_with fail
                go_loopw [11, 57] (fun v9 v10 wr => ∃ (i : Nat) (dd : Ext), i ≤ k ∧ v10 = .int .i64 (i : Int) ∧ wr = lay w [.inr dd, .inr d3] ∧ Ow (lay w [.inr dd, .inr d3]) (lay w [.inr d3]).heap.size v9 (outK F 100 i)) (fun _ v10 _ => k - (intOf v10).toNat)
                case atStart => exact ⟨0, noExt _, Nat.zero_le _, rfl, (bw_noExt _).symm, Ow.nil _ _⟩
                case round =>
                  obtain ⟨i, da, hi, rfl, rfl, hO⟩ := hrel
                  have HO := Lib.hid hO
                  clear hO
                  by_cases hlt2 : i < k
                  · have e1 := (ow_on (A := [.inr da]) HO2.out).cell (i := i) (by rw [HFL.out]; exact hlt2)
                    have c1 : (lay w [.inr da, .inr d3]).cell? ⟨g, i, none⟩ = some (.int .i64 (nth F i)) := e1
                    have x1 : (i : Int) < (k : Int) := by omega
                    have x0 : (0 : Int) ≤ (i : Int) := by omega
                    have hst := outK_succ F 100 i
                    have hlen : (outK F 100 i).length ≤ 1000000000 := Nat.le_trans (outK_len _ _ _) (by omega)
                    have lw : (Lit.int .i64 (i : Int)).wf = true := lit_b (by omega)
                    clear e1
                    by_cases hf : 100 < nth F i
                    · rw [if_pos hf] at hst
                      have HST := Lib.hid hst
                      clear hst
                      generalize nth F i = Q at *
                      generalize outK F 100 i = R at *
                      go_wp2_with (at_builtin; refine push_int rfl _ _ rfl (lay w [.inr d3]) _ ((i : Int)) 3 _ _ _ ?_ (ow_on (A := [_]) HO.out) ?_ rfl rfl (by omega) lw ?_; exact lay_below (A := [_, _]); exact lay_get w _ 0 _ rfl; intro v' d' hv')
                      go_roundw
                      case rel => exact ⟨i + 1, d', by omega, by go_num, rfl, by rw [HST.out]; exact hv'⟩
                      case measure => simp [intOf]; omega
                    · rw [if_neg hf, List.append_nil] at hst
                      have HST := Lib.hid hst
                      clear hst
                      generalize nth F i = Q at *
                      generalize outK F 100 i = R at *
                      go_wp2_with fail
                      go_roundw
                      case rel => exact ⟨i + 1, da, by omega, by go_num, rfl, by rw [HST.out]; exact HO.out⟩
                      case measure => simp [intOf]; omega
                  · obtain rfl : i = k := by omega
                    go_wp2_with fail
                    go_ret2
                    obtain ⟨y, hy⟩ := lay_ex w [.inr da, .inr d3]
                    exact ⟨_, y, rfl, hy, by rw [← hy, HOut.out]; exact HO.out.le (lay_below (w := w) (A := [.inr d3]) (B := [])).size⟩
              · obtain rfl : T = P := by omega
                go_wp2_with fail
                go_loopw [11, 57] (fun v9 v10 wr => ∃ (i : Nat) (dd : Ext), i ≤ k ∧ v10 = .int .i64 (i : Int) ∧ wr = lay w [.inr dd, .inr d3] ∧ Ow (lay w [.inr dd, .inr d3]) (lay w [.inr d3]).heap.size v9 (outK F T i)) (fun _ v10 _ => k - (intOf v10).toNat)
                case atStart => exact ⟨0, noExt _, Nat.zero_le _, rfl, (bw_noExt _).symm, Ow.nil _ _⟩
                case round =>
                  obtain ⟨i, da, hi, rfl, rfl, hO⟩ := hrel
                  have HO := Lib.hid hO
                  clear hO
                  by_cases hlt2 : i < k
                  · have e1 := (ow_on (A := [.inr da]) HO2.out).cell (i := i) (by rw [HFL.out]; exact hlt2)
                    have c1 : (lay w [.inr da, .inr d3]).cell? ⟨g, i, none⟩ = some (.int .i64 (nth F i)) := e1
                    have x1 : (i : Int) < (k : Int) := by omega
                    have x0 : (0 : Int) ≤ (i : Int) := by omega
                    have hst := outK_succ F T i
                    have hlen : (outK F T i).length ≤ 1000000000 := Nat.le_trans (outK_len _ _ _) (by omega)
                    have lw : (Lit.int .i64 (i : Int)).wf = true := lit_b (by omega)
                    clear e1
                    by_cases hf : T < nth F i
                    · rw [if_pos hf] at hst
                      have HST := Lib.hid hst
                      clear hst
                      generalize nth F i = Q at *
                      generalize outK F T i = R at *
                      go_wp2_with (at_builtin; refine push_int rfl _ _ rfl (lay w [.inr d3]) _ ((i : Int)) 3 _ _ _ ?_ (ow_on (A := [_]) HO.out) ?_ rfl rfl (by omega) lw ?_; exact lay_below (A := [_, _]); exact lay_get w _ 0 _ rfl; intro v' d' hv')
                      go_roundw
                      case rel => exact ⟨i + 1, d', by omega, by go_num, rfl, by rw [HST.out]; exact hv'⟩
                      case measure => simp [intOf]; omega
                    · rw [if_neg hf, List.append_nil] at hst
                      have HST := Lib.hid hst
                      clear hst
                      generalize nth F i = Q at *
                      generalize outK F T i = R at *
                      go_wp2_with fail
                      go_roundw
                      case rel => exact ⟨i + 1, da, by omega, by go_num, rfl, by rw [HST.out]; exact HO.out⟩
                      case measure => simp [intOf]; omega
                  · obtain rfl : i = k := by omega
                    go_wp2_with fail
                    go_ret2
                    obtain ⟨y, hy⟩ := lay_ex w [.inr da, .inr d3]
                    exact ⟨_, y, rfl, hy, by rw [← hy, HOut.out]; exact HO.out.le (lay_below (w := w) (A := [.inr d3]) (B := [])).size⟩
        · rw [ho] at HOut
          have he : rejE l f = 2 := by rw [hE, if_pos (by rw [ho]; simp)]
          rw [rejL_ne (by rw [he]; decide), he]
          rw [hm] at HS HOut ⊢
          clear hm hr hE he c1 hs hw
          refine lay_start ?_
          go_enter Tryz.func26, Tryz.ntmps26
          go_wp2_with (go_at_call 66; refine (HOut.out _ (HS.out.lay _)).mono ?_; rintro e w' ⟨rfl, d, rfl⟩)
          go_ret2
          exact rwe_nil rfl
end Go.Proofs.YtmomoeagnkjbiaaGreat
