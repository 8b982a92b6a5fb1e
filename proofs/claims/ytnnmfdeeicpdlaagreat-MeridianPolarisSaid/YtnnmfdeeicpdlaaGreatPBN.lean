/- Contracts and plain laws, several texts in one: PoB; Mer2; Mer3; PoC -/
import Derived.Test.YtnnmfdeeicpdlaaGreatProg
import Derived.WalkKit
import Derived.WalkSpells
import Derived.WalkLawsBesides
import Derived.Lib.Hide
import Derived.BigQuiet
import Derived.Test.YtnnmfdeeicpdlaaGreatPAA
import Derived.Test.YtnnmfdeeicpdlaaGreatPAF
import Derived.Test.YtnnmfdeeicpdlaaGreatPAO
import Derived.Test.YtnnmfdeeicpdlaaGreatPBM
/- The reference's Polaris at all arguments. -/
namespace Go.Proofs.YtnnmfdeeicpdlaaGreat
set_option maxHeartbeats 8000000
set_option maxRecDepth 100000
open Go.RowKit

theorem exaQ_two {n : Int} (h0 : -5400000 ≤ n) (h1 : n < 5400000) : exaQ (foldT n) = false ∨ exaQ (foldT (n + 1)) = false := by
  have hf : ∀ {m : Int}, -5400000 ≤ m → m ≤ 5400000 → foldT m = m.natAbs := by
    intro m a b
    unfold foldT
    split <;> split <;> omega
  rw [hf h0 (by omega), hf (by omega) (by omega)]
  unfold exaQ
  simp only [Bool.or_eq_false_iff, beq_eq_false_iff_ne]
  omega
theorem b_step {n : Int} (h0 : -5400000 ≤ n) (h1 : n < 5400000) : bLo n < bHi (n + 1) := by
  obtain ⟨u1, u2⟩ := b_up h0 (show n ≤ n + 1 by omega) (by omega)
  have l1 := (bb_le n).1
  have l2 := (bb_le (n + 1)).1
  rcases exaQ_two h0 h1 with h | h
  · have := (bb_no h).1
    omega
  · have := (bb_no h).1
    omega
theorem asn_pair {u v : Int} (hu : -1073741824 ≤ u) (huv : u ≤ v) (hv : v ≤ 1073741824) : asnI u ≤ -(asnI (-v)) := by
  have a := asnI_is hu
  have b := asnI_is (v := -v) (by omega)
  have a0 := a.lo
  have a1 := a.hi
  have b0 := b.lo
  have b1 := b.hi
  have a2 := a.le
  have b2 := b.le
  generalize asnI u = x at *
  generalize asnI (-v) = y at *
  rcases Int.lt_or_le (-y) x with c | c
  · exfalso
    have hs := b_step (n := -y) (by omega) (by omega)
    have ho := (b_odd (n := y) b0 b1).1
    have hm := (b_up (a := -y + 1) (b := x) (by omega) (by omega) a1).2
    omega
  · exact c
theorem as_ord {L H : Int} (hE : asE L H = 0) (hf : fxB L H = true) : asL L H ≤ asH L H := by
  have h1 := hE
  unfold asE at h1
  have hb := fxB_iff.1 hf
  rw [decide_eq_true (by omega)] at h1
  simp only [Bool.true_eq_false, if_false] at h1
  unfold asL asH
  rw [if_pos hE, if_pos hE]
  rw [mn_eq, mx_eq] at *
  refine asn_pair (by omega) ?_ (by omega)
  split at h1
  · omega
  · omega
theorem pol_bad (h0 h1 r0 r1 p0 p1 : Int) (w : World) (hb : ¬ (latB h0 h1 = true ∧ validB r0 r1 = true ∧ 0 ≤ p0 ∧ p0 ≤ p1 ∧ p1 ≤ 180000)) :
    Calls Tryz.prog 10 #[(.agg #[.int .i64 (h0), .int .i64 (h1)]), (.agg #[.int .i64 (r0), .int .i64 (r1)]), (.agg #[.int .i64 (p0), .int .i64 (p1)])] w fun e w' => e = .returned (.tuple #[(.agg #[.int .i64 (0), .int .i64 (0)]), .int .i64 1]) ∧ ∃ d, w' = bw w d := by
  have HL := Lib.hid (fun W => ref25_Latitude h0 h1 W)
  have HV := Lib.hid (fun W => ref05_Valid r0 r1 W)
  cases c1 : latB h0 h1
  · rw [c1] at HL
    clear hb
    refine lay_start ?_
    go_enter Tryz.func10, Tryz.ntmps10
    go_wp2_with (first | (go_at_call 49; refine (HL.out _).mono ?_; rintro e w' ⟨rfl, d1, rfl⟩; rw [lay_bw]) | (go_at_call 50; refine (HV.out _).mono ?_; rintro e w' ⟨rfl, d2, rfl⟩; rw [lay_bw]))
    exact bodyPost_ret (v := .tuple #[(.agg #[.int .i64 (0), .int .i64 (0)]), .int .i64 1]) (by simp [results, Tryz.results10, go_sem]) rfl ⟨rfl, lay_ex _ _⟩
  · rw [c1] at HL
    cases c2 : validB r0 r1
    · rw [c2] at HV
      clear hb
      refine lay_start ?_
      go_enter Tryz.func10, Tryz.ntmps10
      go_wp2_with (first | (go_at_call 49; refine (HL.out _).mono ?_; rintro e w' ⟨rfl, d1, rfl⟩; rw [lay_bw]) | (go_at_call 50; refine (HV.out _).mono ?_; rintro e w' ⟨rfl, d2, rfl⟩; rw [lay_bw]))
      exact bodyPost_ret (v := .tuple #[(.agg #[.int .i64 (0), .int .i64 (0)]), .int .i64 1]) (by simp [results, Tryz.results10, go_sem]) rfl ⟨rfl, lay_ex _ _⟩
    · rw [c2] at HV
      have hb2 : ¬ (0 ≤ p0 ∧ p0 ≤ p1 ∧ p1 ≤ 180000) := fun h => hb ⟨c1, c2, h⟩
      clear hb c1 c2
      refine lay_start ?_
      go_enter Tryz.func10, Tryz.ntmps10
      go_wp2_with (first | (go_at_call 49; refine (HL.out _).mono ?_; rintro e w' ⟨rfl, d1, rfl⟩; rw [lay_bw]) | (go_at_call 50; refine (HV.out _).mono ?_; rintro e w' ⟨rfl, d2, rfl⟩; rw [lay_bw]))
      all_goals first | exact bodyPost_ret (v := .tuple #[(.agg #[.int .i64 (0), .int .i64 (0)]), .int .i64 1]) (by simp [results, Tryz.results10, go_sem]) rfl ⟨rfl, lay_ex _ _⟩ | (exfalso; omega)
theorem r33_PolG (h0 h1 r0 r1 p0 p1 cp0 cp1 sp0 sp1 cr0 cr1 y0 y1 : Int) (w : World) (lh : latB h0 h1 = true) (vr : validB r0 r1 = true) (p00 : 0 ≤ p0) (p01 : p0 ≤ p1) (p18 : p1 ≤ 180000) (fy : fxB y0 y1 = true) (fx : fxB cp0 cp1 = true) (cpp : 0 < cp0) (hdv : ∀ m0 m1, fxB (divL (pqL h0 h1 m0 m1) cp0 cp1) (divH (pqH h0 h1 m0 m1) cp0 cp1) = true)
    (HCp : Hid (∀ W, Calls Tryz.prog 51 #[(.agg #[.int .i64 (p0), .int .i64 (p1)])] W fun e w' => e = .returned (.agg #[.int .i64 (cp0), .int .i64 (cp1)]) ∧ ∃ d, w' = bw W d))
    (HSp : Hid (∀ W, Calls Tryz.prog 54 #[(.agg #[.int .i64 (p0), .int .i64 (p1)])] W fun e w' => e = .returned (.agg #[.int .i64 (sp0), .int .i64 (sp1)]) ∧ ∃ d, w' = bw W d))
    (HCr : Hid (∀ W, Calls Tryz.prog 51 #[(.agg #[.int .i64 (r0), .int .i64 (r1)])] W fun e w' => e = .returned (.agg #[.int .i64 (cr0), .int .i64 (cr1)]) ∧ ∃ d, w' = bw W d))
    (HMy : Hid (∀ W, Calls Tryz.prog 53 #[(.agg #[.int .i64 (sp0), .int .i64 (sp1)]), (.agg #[.int .i64 (cr0), .int .i64 (cr1)])] W fun e w' => e = .returned (.agg #[.int .i64 (y0), .int .i64 (y1)]) ∧ ∃ d, w' = bw W d)) :
    Calls Tryz.prog 10 #[(.agg #[.int .i64 (h0), .int .i64 (h1)]), (.agg #[.int .i64 (r0), .int .i64 (r1)]), (.agg #[.int .i64 (p0), .int .i64 (p1)])] w fun e w' => e = .returned (.tuple #[(.agg #[.int .i64 ((polV h0 h1 cp0 cp1 (brF cp0 cp1 y0 y1).1 (brF cp0 cp1 y0 y1).2).1.1), .int .i64 ((polV h0 h1 cp0 cp1 (brF cp0 cp1 y0 y1).1 (brF cp0 cp1 y0 y1).2).1.2)]), .int .i64 (polV h0 h1 cp0 cp1 (brF cp0 cp1 y0 y1).1 (brF cp0 cp1 y0 y1).2).2]) ∧ ∃ d, w' = bw w d := by
  have a1 : ¬ p0 < 0 := by omega
  have a2 : ¬ p1 < p0 := by omega
  have a3 : ¬ 180000 < p1 := by omega
  have HBe := Lib.hid (fun W => r7_BearG y0 y1 cp0 cp1 fy fx W)
  have hbb := brF_bd cp0 cp1 y0 y1
  generalize (brF cp0 cp1 y0 y1).1 = m0 at *
  generalize (brF cp0 cp1 y0 y1).2 = m1 at *
  obtain ⟨PV, hPV⟩ : ∃ PV, polV h0 h1 cp0 cp1 m0 m1 = PV := ⟨_, rfl⟩
  rw [hPV]
  unfold polV at hPV
  have HPV := Lib.hid hPV
  clear hPV
  have HL := Lib.hid (fun W => ref25_Latitude h0 h1 W)
  have HV1 := Lib.hid (fun W => ref05_Valid r0 r1 W)
  rw [lh] at HL
  rw [vr] at HV1
  refine lay_start ?_
  go_enter Tryz.func10, Tryz.ntmps10
  go_wp2_with (first | (go_at_call 49; refine (HL.out _).mono ?_; rintro e w' ⟨rfl, d1, rfl⟩; rw [lay_bw]) | (go_at_call 50; refine (HV1.out _).mono ?_; rintro e w' ⟨rfl, d2, rfl⟩; rw [lay_bw]) | (go_at_call 51; refine (HCp.out _).mono ?_; rintro e w' ⟨rfl, d3, rfl⟩; rw [lay_bw]))
  refine region_mixW [0, 0, 0, 0, 0, 0, 0, 0, 0, 0, 1, 1, 0] (by kernel_rfl) (by kernel_rfl) (by kernel_rfl) ?_
  repeat (first | (refine wpM_quiet (fun K hK => ?_); go_simp; first | (refine hK _ ?_; clear hK K) | (apply Exists.intro; refine ⟨fun _ => ?_, hK _ ?_⟩; (first | (go_at_call 54; exact bq (HSp.out _) (fun d => ⟨d, rfl⟩)) | (go_at_call 51; exact bq (HCr.out _) (fun d => ⟨d, rfl⟩)) | (go_at_call 53; exact bq (HMy.out _) (fun d => ⟨d, rfl⟩)) | (go_at_call 52; exact bq (HBe.out _) (fun d => ⟨d, rfl⟩))); clear hK K)) | (refine wpM_special (fun K hK d => ?_); go_simp; refine hK _ _ (by first | exact lay_in w [_] _ | exact lay_in w [_, _] _ | exact lay_in w [_, _, _] _ | exact lay_in w [_, _, _, _] _ | exact lay_in w [_, _, _, _, _] _ | exact lay_in w [_, _, _, _, _, _] _) ?_; clear hK K))
  refine wpM_nil ?_
  intro d
  rw [lay_bw]
  clear HCp HSp HCr HMy HBe
  obtain ⟨b1, b2, b3⟩ := hbb
  have k1 : IntKind.i64.wrap (m0 - 21600000) = m0 - 21600000 := IntWalk.i64_in _ (by omega)
  have k2 : IntKind.i64.wrap (m1 - 21600000) = m1 - 21600000 := IntWalk.i64_in _ (by omega)
  have va : validB (m0 - 21600000) (m1 - 21600000) = true := validB_iff.2 (by omega)
  have vb : validB m0 m1 = true := validB_iff.2 (by omega)
  clear b1 b2 b3
  by_cases hm : 10800000 ≤ m0
  · have vm := va
    have HSh := Lib.hid (fun W => r6_Sin h0 h1 (lat_valid lh) W)
    have HCm := Lib.hid (fun W => r6_Cos (m0 - 21600000) (m1 - 21600000) vm W)
    have HM2 := Lib.hid (fun W => r25_Times (encL h0 h1) (encH h0 h1) (encL (m0 - 21600000 + 5400000) (m1 - 21600000 + 5400000)) (encH (m0 - 21600000 + 5400000) (m1 - 21600000 + 5400000)) W (unit_fx enc_in) (unit_fx enc_in) (unit_fx (mul_unit enc_in.1 enc_in.2.1 enc_in.2.2 enc_in.1 enc_in.2.1 enc_in.2.2)))
    have HD := Lib.hid (fun W => r4_DivP (pqL h0 h1 (m0 - 21600000) (m1 - 21600000)) (pqH h0 h1 (m0 - 21600000) (m1 - 21600000)) cp0 cp1 W (unit_fx (mul_unit enc_in.1 enc_in.2.1 enc_in.2.2 enc_in.1 enc_in.2.1 enc_in.2.2)) fx (by omega))
    rw [hdv (m0 - 21600000) (m1 - 21600000), if_pos rfl, if_pos rfl, if_pos rfl] at HD
    have hfx := hdv (m0 - 21600000) (m1 - 21600000)
    have HA := Lib.hid (fun W => r7_Asin (divL (pqL h0 h1 (m0 - 21600000) (m1 - 21600000)) cp0 cp1) (divH (pqH h0 h1 (m0 - 21600000) (m1 - 21600000)) cp0 cp1) W)
    have hq := as_bd (divL (pqL h0 h1 (m0 - 21600000) (m1 - 21600000)) cp0 cp1) (divH (pqH h0 h1 (m0 - 21600000) (m1 - 21600000)) cp0 cp1)
    have hE2 := asE_val (hdv (m0 - 21600000) (m1 - 21600000))
    have hor := fun h => as_ord (L := divL (pqL h0 h1 (m0 - 21600000) (m1 - 21600000)) cp0 cp1) (H := divH (pqH h0 h1 (m0 - 21600000) (m1 - 21600000)) cp0 cp1) h hfx
    have s0 : sgM m0 m0 = m0 - 21600000 := by unfold sgM; first | exact if_pos hm | exact if_neg (by omega)
    have s1 : sgM m0 m1 = m1 - 21600000 := by unfold sgM; first | exact if_pos hm | exact if_neg (by omega)
    have hP := HPV.out
    rw [s0, s1] at hP
    unfold pqL pqH at HD HA hq hE2 hP hor
    clear hfx hdv HPV
    generalize (divL (mulL (encL h0 h1) (encH h0 h1) (encL (m0 - 21600000 + 5400000) (m1 - 21600000 + 5400000)) (encH (m0 - 21600000 + 5400000) (m1 - 21600000 + 5400000))) cp0 cp1) = D0 at *
    generalize (divH (mulH (encL h0 h1) (encH h0 h1) (encL (m0 - 21600000 + 5400000) (m1 - 21600000 + 5400000)) (encH (m0 - 21600000 + 5400000) (m1 - 21600000 + 5400000))) cp0 cp1) = D1 at *
    generalize (mulL (encL h0 h1) (encH h0 h1) (encL (m0 - 21600000 + 5400000) (m1 - 21600000 + 5400000)) (encH (m0 - 21600000 + 5400000) (m1 - 21600000 + 5400000))) = Q0 at *
    generalize (mulH (encL h0 h1) (encH h0 h1) (encL (m0 - 21600000 + 5400000) (m1 - 21600000 + 5400000)) (encH (m0 - 21600000 + 5400000) (m1 - 21600000 + 5400000))) = Q1 at *
    have hv := validB_iff.1 vm
    obtain ⟨q1, q2, q3, q4⟩ := hq
    generalize asL D0 D1 = A0 at *
    generalize asH D0 D1 = A1 at *
    obtain ⟨B0, hB0⟩ : ∃ B0, A0 - (m1 - 21600000) = B0 := ⟨_, rfl⟩
    obtain ⟨B1, hB1⟩ : ∃ B1, A1 - (m0 - 21600000) = B1 := ⟨_, rfl⟩
    have HMi := Lib.hid (fun W => ref05_Sub A0 A1 (m0 - 21600000) (m1 - 21600000) W (by omega) (by omega) (by omega) (by omega))
    rw [hB0, hB1] at HMi hP
    have HLs := Lib.hid (fun W (h : asE D0 D1 = 0) => ref33_latitudes B0 B1 W (by have := hor h; omega))
    have HPP := Lib.hid hP
    rcases hE2 with hE2 | hE2
    · have HLt := Lib.hid (fun W => HLs.out W hE2)
      rw [hE2] at HA
      have HE := Lib.hid hE2
      clear q1 q2 q3 q4 hv hE2 hP hB0 hB1 hor HLs
      go_wp2_with fail
      refine region_mixW [0, 0, 0, 0, 0, 0, 0, 0, 0, 0, 1, 1, 0] (by kernel_rfl) (by kernel_rfl) (by kernel_rfl) ?_
      repeat (first | (refine wpM_quiet (fun K hK => ?_); go_simp; first | (refine hK _ ?_; clear hK K) | (apply Exists.intro; refine ⟨fun _ => ?_, hK _ ?_⟩; (first | (go_at_call 54; exact bq (HSh.out _) (fun d => ⟨d, rfl⟩)) | (go_at_call 51; exact bq (HCm.out _) (fun d => ⟨d, rfl⟩)) | (go_at_call 53; exact bq (HM2.out _) (fun d => ⟨d, rfl⟩)) | (go_at_call 55; exact bq (HD.out _) (fun d => ⟨d, rfl⟩))); clear hK K)) | (refine wpM_special (fun K hK d => ?_); go_simp; refine hK _ _ (by first | exact lay_in w [_] _ | exact lay_in w [_, _] _ | exact lay_in w [_, _, _] _ | exact lay_in w [_, _, _, _] _ | exact lay_in w [_, _, _, _, _] _ | exact lay_in w [_, _, _, _, _, _] _) ?_; clear hK K))
      refine wpM_nil ?_
      intro d
      rw [lay_bw]
      go_wp2_with (first | (go_at_call 56; refine (HA.out _).mono ?_; rintro e w' ⟨rfl, d7, rfl⟩; rw [lay_bw]) | (go_at_call 58; refine (HMi.out _).mono ?_; rintro e w' ⟨rfl, d8, rfl⟩; rw [lay_bw]) | (go_at_call 57; refine (HLt.out _).mono ?_; rintro e w' ⟨rfl, d9, rfl⟩; rw [lay_bw]))
      refine bodyPost_ret (v := .tuple #[(.agg #[.int .i64 (lsLo B0 B1), .int .i64 (lsHi B0 B1)]), .int .i64 (lsE B0 B1)]) (by simp [results, Tryz.results10, go_sem]) rfl ⟨?_, lay_ex _ _⟩
      rw [← HPP.out, if_pos HE.out]
    · rw [hE2] at HA
      have HE := Lib.hid hE2
      clear q1 q2 q3 q4 hv hE2 hP hB0 hB1 hor HLs
      go_wp2_with fail
      refine region_mixW [0, 0, 0, 0, 0, 0, 0, 0, 0, 0, 1, 1, 0] (by kernel_rfl) (by kernel_rfl) (by kernel_rfl) ?_
      repeat (first | (refine wpM_quiet (fun K hK => ?_); go_simp; first | (refine hK _ ?_; clear hK K) | (apply Exists.intro; refine ⟨fun _ => ?_, hK _ ?_⟩; (first | (go_at_call 54; exact bq (HSh.out _) (fun d => ⟨d, rfl⟩)) | (go_at_call 51; exact bq (HCm.out _) (fun d => ⟨d, rfl⟩)) | (go_at_call 53; exact bq (HM2.out _) (fun d => ⟨d, rfl⟩)) | (go_at_call 55; exact bq (HD.out _) (fun d => ⟨d, rfl⟩))); clear hK K)) | (refine wpM_special (fun K hK d => ?_); go_simp; refine hK _ _ (by first | exact lay_in w [_] _ | exact lay_in w [_, _] _ | exact lay_in w [_, _, _] _ | exact lay_in w [_, _, _, _] _ | exact lay_in w [_, _, _, _, _] _ | exact lay_in w [_, _, _, _, _, _] _) ?_; clear hK K))
      refine wpM_nil ?_
      intro d
      rw [lay_bw]
      go_wp2_with (first | (go_at_call 56; refine (HA.out _).mono ?_; rintro e w' ⟨rfl, d7, rfl⟩; rw [lay_bw]))
      refine bodyPost_ret (v := .tuple #[(.agg #[.int .i64 (0), .int .i64 (0)]), .int .i64 12]) (by simp [results, Tryz.results10, go_sem]) rfl ⟨?_, lay_ex _ _⟩
      rw [← HPP.out, if_neg (by rw [HE.out]; decide)]
  · have vm := vb
    have HSh := Lib.hid (fun W => r6_Sin h0 h1 (lat_valid lh) W)
    have HCm := Lib.hid (fun W => r6_Cos (m0) (m1) vm W)
    have HM2 := Lib.hid (fun W => r25_Times (encL h0 h1) (encH h0 h1) (encL (m0 + 5400000) (m1 + 5400000)) (encH (m0 + 5400000) (m1 + 5400000)) W (unit_fx enc_in) (unit_fx enc_in) (unit_fx (mul_unit enc_in.1 enc_in.2.1 enc_in.2.2 enc_in.1 enc_in.2.1 enc_in.2.2)))
    have HD := Lib.hid (fun W => r4_DivP (pqL h0 h1 (m0) (m1)) (pqH h0 h1 (m0) (m1)) cp0 cp1 W (unit_fx (mul_unit enc_in.1 enc_in.2.1 enc_in.2.2 enc_in.1 enc_in.2.1 enc_in.2.2)) fx (by omega))
    rw [hdv (m0) (m1), if_pos rfl, if_pos rfl, if_pos rfl] at HD
    have hfx := hdv (m0) (m1)
    have HA := Lib.hid (fun W => r7_Asin (divL (pqL h0 h1 (m0) (m1)) cp0 cp1) (divH (pqH h0 h1 (m0) (m1)) cp0 cp1) W)
    have hq := as_bd (divL (pqL h0 h1 (m0) (m1)) cp0 cp1) (divH (pqH h0 h1 (m0) (m1)) cp0 cp1)
    have hE2 := asE_val (hdv (m0) (m1))
    have hor := fun h => as_ord (L := divL (pqL h0 h1 (m0) (m1)) cp0 cp1) (H := divH (pqH h0 h1 (m0) (m1)) cp0 cp1) h hfx
    have s0 : sgM m0 m0 = m0 := by unfold sgM; first | exact if_pos hm | exact if_neg (by omega)
    have s1 : sgM m0 m1 = m1 := by unfold sgM; first | exact if_pos hm | exact if_neg (by omega)
    have hP := HPV.out
    rw [s0, s1] at hP
    unfold pqL pqH at HD HA hq hE2 hP hor
    clear hfx hdv HPV
    generalize (divL (mulL (encL h0 h1) (encH h0 h1) (encL (m0 + 5400000) (m1 + 5400000)) (encH (m0 + 5400000) (m1 + 5400000))) cp0 cp1) = D0 at *
    generalize (divH (mulH (encL h0 h1) (encH h0 h1) (encL (m0 + 5400000) (m1 + 5400000)) (encH (m0 + 5400000) (m1 + 5400000))) cp0 cp1) = D1 at *
    generalize (mulL (encL h0 h1) (encH h0 h1) (encL (m0 + 5400000) (m1 + 5400000)) (encH (m0 + 5400000) (m1 + 5400000))) = Q0 at *
    generalize (mulH (encL h0 h1) (encH h0 h1) (encL (m0 + 5400000) (m1 + 5400000)) (encH (m0 + 5400000) (m1 + 5400000))) = Q1 at *
    have hv := validB_iff.1 vm
    obtain ⟨q1, q2, q3, q4⟩ := hq
    generalize asL D0 D1 = A0 at *
    generalize asH D0 D1 = A1 at *
    obtain ⟨B0, hB0⟩ : ∃ B0, A0 - (m1) = B0 := ⟨_, rfl⟩
    obtain ⟨B1, hB1⟩ : ∃ B1, A1 - (m0) = B1 := ⟨_, rfl⟩
    have HMi := Lib.hid (fun W => ref05_Sub A0 A1 (m0) (m1) W (by omega) (by omega) (by omega) (by omega))
    rw [hB0, hB1] at HMi hP
    have HLs := Lib.hid (fun W (h : asE D0 D1 = 0) => ref33_latitudes B0 B1 W (by have := hor h; omega))
    have HPP := Lib.hid hP
    rcases hE2 with hE2 | hE2
    · have HLt := Lib.hid (fun W => HLs.out W hE2)
      rw [hE2] at HA
      have HE := Lib.hid hE2
      clear q1 q2 q3 q4 hv hE2 hP hB0 hB1 hor HLs
      go_wp2_with fail
      refine region_mixW [0, 0, 0, 0, 0, 0, 0, 0, 0, 0, 1, 1, 0] (by kernel_rfl) (by kernel_rfl) (by kernel_rfl) ?_
      repeat (first | (refine wpM_quiet (fun K hK => ?_); go_simp; first | (refine hK _ ?_; clear hK K) | (apply Exists.intro; refine ⟨fun _ => ?_, hK _ ?_⟩; (first | (go_at_call 54; exact bq (HSh.out _) (fun d => ⟨d, rfl⟩)) | (go_at_call 51; exact bq (HCm.out _) (fun d => ⟨d, rfl⟩)) | (go_at_call 53; exact bq (HM2.out _) (fun d => ⟨d, rfl⟩)) | (go_at_call 55; exact bq (HD.out _) (fun d => ⟨d, rfl⟩))); clear hK K)) | (refine wpM_special (fun K hK d => ?_); go_simp; refine hK _ _ (by first | exact lay_in w [_] _ | exact lay_in w [_, _] _ | exact lay_in w [_, _, _] _ | exact lay_in w [_, _, _, _] _ | exact lay_in w [_, _, _, _, _] _ | exact lay_in w [_, _, _, _, _, _] _) ?_; clear hK K))
      refine wpM_nil ?_
      intro d
      rw [lay_bw]
      go_wp2_with (first | (go_at_call 56; refine (HA.out _).mono ?_; rintro e w' ⟨rfl, d7, rfl⟩; rw [lay_bw]) | (go_at_call 58; refine (HMi.out _).mono ?_; rintro e w' ⟨rfl, d8, rfl⟩; rw [lay_bw]) | (go_at_call 57; refine (HLt.out _).mono ?_; rintro e w' ⟨rfl, d9, rfl⟩; rw [lay_bw]))
      refine bodyPost_ret (v := .tuple #[(.agg #[.int .i64 (lsLo B0 B1), .int .i64 (lsHi B0 B1)]), .int .i64 (lsE B0 B1)]) (by simp [results, Tryz.results10, go_sem]) rfl ⟨?_, lay_ex _ _⟩
      rw [← HPP.out, if_pos HE.out]
    · rw [hE2] at HA
      have HE := Lib.hid hE2
      clear q1 q2 q3 q4 hv hE2 hP hB0 hB1 hor HLs
      go_wp2_with fail
      refine region_mixW [0, 0, 0, 0, 0, 0, 0, 0, 0, 0, 1, 1, 0] (by kernel_rfl) (by kernel_rfl) (by kernel_rfl) ?_
      repeat (first | (refine wpM_quiet (fun K hK => ?_); go_simp; first | (refine hK _ ?_; clear hK K) | (apply Exists.intro; refine ⟨fun _ => ?_, hK _ ?_⟩; (first | (go_at_call 54; exact bq (HSh.out _) (fun d => ⟨d, rfl⟩)) | (go_at_call 51; exact bq (HCm.out _) (fun d => ⟨d, rfl⟩)) | (go_at_call 53; exact bq (HM2.out _) (fun d => ⟨d, rfl⟩)) | (go_at_call 55; exact bq (HD.out _) (fun d => ⟨d, rfl⟩))); clear hK K)) | (refine wpM_special (fun K hK d => ?_); go_simp; refine hK _ _ (by first | exact lay_in w [_] _ | exact lay_in w [_, _] _ | exact lay_in w [_, _, _] _ | exact lay_in w [_, _, _, _] _ | exact lay_in w [_, _, _, _, _] _ | exact lay_in w [_, _, _, _, _, _] _) ?_; clear hK K))
      refine wpM_nil ?_
      intro d
      rw [lay_bw]
      go_wp2_with (first | (go_at_call 56; refine (HA.out _).mono ?_; rintro e w' ⟨rfl, d7, rfl⟩; rw [lay_bw]))
      refine bodyPost_ret (v := .tuple #[(.agg #[.int .i64 (0), .int .i64 (0)]), .int .i64 12]) (by simp [results, Tryz.results10, go_sem]) rfl ⟨?_, lay_ex _ _⟩
      rw [← HPP.out, if_neg (by rw [HE.out]; decide)]
end Go.Proofs.YtnnmfdeeicpdlaaGreat
/- Contracts of meridian's Latitude and Below, of their references, and the law on them, walked. -/
namespace Go.Proofs.YtnnmfdeeicpdlaaGreat
set_option maxHeartbeats 2000000
open Go.RowKit

theorem mer_Latitude_true (x0 y0 x1 y1 : Int) (w : World) (h1 : latB x0 y0 = true) (h2 : latB x1 y1 = true) :
    Calls Tryz.prog 35 #[(.agg #[.int .i64 (x0), .int .i64 (y0)]), (.agg #[.int .i64 (x1), .int .i64 (y1)]), .bool true] w fun e w' => e = .returned (.tuple #[(.agg #[.int .i64 (lsLo (5400000 - y0 + x1) (5400000 - x0 + y1)), .int .i64 (lsHi (5400000 - y0 + x1) (5400000 - x0 + y1))]), .int .i64 (lsE (5400000 - y0 + x1) (5400000 - x0 + y1))]) ∧ ∃ d, w' = bw w d := by
  obtain ⟨a1, a2, a3⟩ := latB_iff.1 h1
  obtain ⟨b1, b2, b3⟩ := latB_iff.1 h2
  refine lay_start ?_
  go_enter Tryz.func35, Tryz.ntmps35
  go_wp2_with (first | (go_at_call 38; refine (mer_latitude _ _ _).mono ?_; rintro e w' ⟨rfl, d, rfl⟩) | (go_at_call 47; refine (mer_latitudes _ _ _).mono ?_; rintro e w' ⟨rfl, d, rfl⟩) | (go_at_call 113; refine (mer_plus _ _ _ _ _ (by omega) (by omega) (by omega) (by omega)).mono ?_; rintro e w' ⟨rfl, d, rfl⟩) | (go_at_call 48; refine (mer_minus _ _ _ _ _ (by omega) (by omega) (by omega) (by omega)).mono ?_; rintro e w' ⟨rfl, d, rfl⟩) | (go_at_call 114; refine (mer_rest _ _ _ (by omega) (by omega) (by omega) (by omega)).mono ?_; rintro e w' ⟨rfl, d, rfl⟩))
  refine region_bw_tail 7 (by kernel_rfl) (by kernel_rfl) ?_
  simp only [List.take_succ_cons, List.take_zero, List.drop_succ_cons, List.drop_zero]
  repeat (go_big_quiet_step ((first | (go_at_call 38; exact bq (mer_latitude _ _ _) (fun d => lay_join _ _ _ d)) | (go_at_call 47; exact bq (mer_latitudes _ _ _) (fun d => lay_join _ _ _ d)) | (go_at_call 113; exact bq (mer_plus _ _ _ _ _ (by omega) (by omega) (by omega) (by omega)) (fun d => lay_join _ _ _ d)) | (go_at_call 48; exact bq (mer_minus _ _ _ _ _ (by omega) (by omega) (by omega) (by omega)) (fun d => lay_join _ _ _ d)) | (go_at_call 114; exact bq (mer_rest _ _ _ (by omega) (by omega) (by omega) (by omega)) (fun d => lay_join _ _ _ d)))))
  refine wpQuiet_nil ?_
  rintro w' ⟨d, rfl⟩
  rw [lay_bw]
  go_wp2_with (first | (go_at_call 38; refine (mer_latitude _ _ _).mono ?_; rintro e w' ⟨rfl, d, rfl⟩) | (go_at_call 47; refine (mer_latitudes _ _ _).mono ?_; rintro e w' ⟨rfl, d, rfl⟩) | (go_at_call 113; refine (mer_plus _ _ _ _ _ (by omega) (by omega) (by omega) (by omega)).mono ?_; rintro e w' ⟨rfl, d, rfl⟩) | (go_at_call 48; refine (mer_minus _ _ _ _ _ (by omega) (by omega) (by omega) (by omega)).mono ?_; rintro e w' ⟨rfl, d, rfl⟩) | (go_at_call 114; refine (mer_rest _ _ _ (by omega) (by omega) (by omega) (by omega)).mono ?_; rintro e w' ⟨rfl, d, rfl⟩))
  exact bodyPost_ret (v := .tuple #[(.agg #[.int .i64 (lsLo (5400000 - y0 + x1) (5400000 - x0 + y1)), .int .i64 (lsHi (5400000 - y0 + x1) (5400000 - x0 + y1))]), .int .i64 (lsE (5400000 - y0 + x1) (5400000 - x0 + y1))]) (by simp [results, Tryz.results35, go_sem]) rfl ⟨rfl, lay_ex _ _⟩
theorem mer_Latitude_false (x0 y0 x1 y1 : Int) (w : World) (h1 : latB x0 y0 = true) (h2 : latB x1 y1 = true) :
    Calls Tryz.prog 35 #[(.agg #[.int .i64 (x0), .int .i64 (y0)]), (.agg #[.int .i64 (x1), .int .i64 (y1)]), .bool false] w fun e w' => e = .returned (.tuple #[(.agg #[.int .i64 (lsLo (x1 - (5400000 - x0)) (y1 - (5400000 - y0))), .int .i64 (lsHi (x1 - (5400000 - x0)) (y1 - (5400000 - y0)))]), .int .i64 (lsE (x1 - (5400000 - x0)) (y1 - (5400000 - y0)))]) ∧ ∃ d, w' = bw w d := by
  obtain ⟨a1, a2, a3⟩ := latB_iff.1 h1
  obtain ⟨b1, b2, b3⟩ := latB_iff.1 h2
  refine lay_start ?_
  go_enter Tryz.func35, Tryz.ntmps35
  go_wp2_with (first | (go_at_call 38; refine (mer_latitude _ _ _).mono ?_; rintro e w' ⟨rfl, d, rfl⟩) | (go_at_call 47; refine (mer_latitudes _ _ _).mono ?_; rintro e w' ⟨rfl, d, rfl⟩) | (go_at_call 113; refine (mer_plus _ _ _ _ _ (by omega) (by omega) (by omega) (by omega)).mono ?_; rintro e w' ⟨rfl, d, rfl⟩) | (go_at_call 48; refine (mer_minus _ _ _ _ _ (by omega) (by omega) (by omega) (by omega)).mono ?_; rintro e w' ⟨rfl, d, rfl⟩) | (go_at_call 114; refine (mer_rest _ _ _ (by omega) (by omega) (by omega) (by omega)).mono ?_; rintro e w' ⟨rfl, d, rfl⟩))
  refine region_bw_tail 7 (by kernel_rfl) (by kernel_rfl) ?_
  simp only [List.take_succ_cons, List.take_zero, List.drop_succ_cons, List.drop_zero]
  repeat (go_big_quiet_step ((first | (go_at_call 38; exact bq (mer_latitude _ _ _) (fun d => lay_join _ _ _ d)) | (go_at_call 47; exact bq (mer_latitudes _ _ _) (fun d => lay_join _ _ _ d)) | (go_at_call 113; exact bq (mer_plus _ _ _ _ _ (by omega) (by omega) (by omega) (by omega)) (fun d => lay_join _ _ _ d)) | (go_at_call 48; exact bq (mer_minus _ _ _ _ _ (by omega) (by omega) (by omega) (by omega)) (fun d => lay_join _ _ _ d)) | (go_at_call 114; exact bq (mer_rest _ _ _ (by omega) (by omega) (by omega) (by omega)) (fun d => lay_join _ _ _ d)))))
  refine wpQuiet_nil ?_
  rintro w' ⟨d, rfl⟩
  rw [lay_bw]
  go_wp2_with (first | (go_at_call 38; refine (mer_latitude _ _ _).mono ?_; rintro e w' ⟨rfl, d, rfl⟩) | (go_at_call 47; refine (mer_latitudes _ _ _).mono ?_; rintro e w' ⟨rfl, d, rfl⟩) | (go_at_call 113; refine (mer_plus _ _ _ _ _ (by omega) (by omega) (by omega) (by omega)).mono ?_; rintro e w' ⟨rfl, d, rfl⟩) | (go_at_call 48; refine (mer_minus _ _ _ _ _ (by omega) (by omega) (by omega) (by omega)).mono ?_; rintro e w' ⟨rfl, d, rfl⟩) | (go_at_call 114; refine (mer_rest _ _ _ (by omega) (by omega) (by omega) (by omega)).mono ?_; rintro e w' ⟨rfl, d, rfl⟩))
  exact bodyPost_ret (v := .tuple #[(.agg #[.int .i64 (lsLo (x1 - (5400000 - x0)) (y1 - (5400000 - y0))), .int .i64 (lsHi (x1 - (5400000 - x0)) (y1 - (5400000 - y0)))]), .int .i64 (lsE (x1 - (5400000 - x0)) (y1 - (5400000 - y0)))]) (by simp [results, Tryz.results35, go_sem]) rfl ⟨rfl, lay_ex _ _⟩
theorem mer_Below_false (x0 y0 x1 y1 : Int) (w : World) (h1 : latB x0 y0 = true) (h2 : latB x1 y1 = true) :
    Calls Tryz.prog 37 #[(.agg #[.int .i64 (x0), .int .i64 (y0)]), (.agg #[.int .i64 (x1), .int .i64 (y1)]), .bool false] w fun e w' => e = .returned (.tuple #[(.agg #[.int .i64 (lsLo (x0 + (5400000 - y1)) (y0 + (5400000 - x1))), .int .i64 (lsHi (x0 + (5400000 - y1)) (y0 + (5400000 - x1)))]), .int .i64 (lsE (x0 + (5400000 - y1)) (y0 + (5400000 - x1)))]) ∧ ∃ d, w' = bw w d := by
  obtain ⟨a1, a2, a3⟩ := latB_iff.1 h1
  obtain ⟨b1, b2, b3⟩ := latB_iff.1 h2
  refine lay_start ?_
  go_enter Tryz.func37, Tryz.ntmps37
  go_wp2_with (first | (go_at_call 38; refine (mer_latitude _ _ _).mono ?_; rintro e w' ⟨rfl, d, rfl⟩) | (go_at_call 47; refine (mer_latitudes _ _ _).mono ?_; rintro e w' ⟨rfl, d, rfl⟩) | (go_at_call 113; refine (mer_plus _ _ _ _ _ (by omega) (by omega) (by omega) (by omega)).mono ?_; rintro e w' ⟨rfl, d, rfl⟩) | (go_at_call 48; refine (mer_minus _ _ _ _ _ (by omega) (by omega) (by omega) (by omega)).mono ?_; rintro e w' ⟨rfl, d, rfl⟩) | (go_at_call 114; refine (mer_rest _ _ _ (by omega) (by omega) (by omega) (by omega)).mono ?_; rintro e w' ⟨rfl, d, rfl⟩))
  refine region_bw_tail 7 (by kernel_rfl) (by kernel_rfl) ?_
  simp only [List.take_succ_cons, List.take_zero, List.drop_succ_cons, List.drop_zero]
  repeat (go_big_quiet_step ((first | (go_at_call 38; exact bq (mer_latitude _ _ _) (fun d => lay_join _ _ _ d)) | (go_at_call 47; exact bq (mer_latitudes _ _ _) (fun d => lay_join _ _ _ d)) | (go_at_call 113; exact bq (mer_plus _ _ _ _ _ (by omega) (by omega) (by omega) (by omega)) (fun d => lay_join _ _ _ d)) | (go_at_call 48; exact bq (mer_minus _ _ _ _ _ (by omega) (by omega) (by omega) (by omega)) (fun d => lay_join _ _ _ d)) | (go_at_call 114; exact bq (mer_rest _ _ _ (by omega) (by omega) (by omega) (by omega)) (fun d => lay_join _ _ _ d)))))
  refine wpQuiet_nil ?_
  rintro w' ⟨d, rfl⟩
  rw [lay_bw]
  go_wp2_with (first | (go_at_call 38; refine (mer_latitude _ _ _).mono ?_; rintro e w' ⟨rfl, d, rfl⟩) | (go_at_call 47; refine (mer_latitudes _ _ _).mono ?_; rintro e w' ⟨rfl, d, rfl⟩) | (go_at_call 113; refine (mer_plus _ _ _ _ _ (by omega) (by omega) (by omega) (by omega)).mono ?_; rintro e w' ⟨rfl, d, rfl⟩) | (go_at_call 48; refine (mer_minus _ _ _ _ _ (by omega) (by omega) (by omega) (by omega)).mono ?_; rintro e w' ⟨rfl, d, rfl⟩) | (go_at_call 114; refine (mer_rest _ _ _ (by omega) (by omega) (by omega) (by omega)).mono ?_; rintro e w' ⟨rfl, d, rfl⟩))
  exact bodyPost_ret (v := .tuple #[(.agg #[.int .i64 (lsLo (x0 + (5400000 - y1)) (y0 + (5400000 - x1))), .int .i64 (lsHi (x0 + (5400000 - y1)) (y0 + (5400000 - x1)))]), .int .i64 (lsE (x0 + (5400000 - y1)) (y0 + (5400000 - x1)))]) (by simp [results, Tryz.results37, go_sem]) rfl ⟨rfl, lay_ex _ _⟩
end Go.Proofs.YtnnmfdeeicpdlaaGreat
/- MeridianLatitudes: for any arcs, on either side, Latitude and Below return what the reference specifies. No condition. -/
namespace Go.Proofs.YtnnmfdeeicpdlaaGreat
open Go.RowKit

set_option maxHeartbeats 4000000 in
set_option maxRecDepth 100000 in
theorem law33_awake (w : World) :
    Calls Tryz.prog 8 #[] w fun e w' => e = .returned (.bool true) ∧ ∃ d, w' = bw w d := by
  have h1 : lsLo 3000000 3000000 = 3000000 ∧ lsHi 3000000 3000000 = 3000000 ∧ lsE 3000000 3000000 = 0 := by decide
  have h2 : lsLo (-600000) (-600000) = -600000 ∧ lsHi (-600000) (-600000) = -600000 ∧ lsE (-600000) (-600000) = 0 := by decide
  have h3 : lsLo 1200000 1200000 = 1200000 ∧ lsHi 1200000 1200000 = 1200000 ∧ lsE 1200000 1200000 = 0 := by decide
  obtain ⟨a1, a2, a3⟩ := h1
  obtain ⟨b1, b2, b3⟩ := h2
  obtain ⟨c1, c2, c3⟩ := h3
  refine lay_start ?_
  go_enter Tryz.func8, Tryz.ntmps8
  go_wp2_with (go_at_call 36; refine (law33_one _ _).mono ?_; rintro e w' ⟨rfl, d, rfl⟩)
  refine (mer_Latitude_true _ _ _ _ _ (by decide) (by decide)).mono ?_
  rintro e w' ⟨rfl, d, rfl⟩
  go_wp2_with (go_at_call 36; refine (law33_one _ _).mono ?_; rintro e w' ⟨rfl, d, rfl⟩)
  refine (mer_Latitude_false _ _ _ _ _ (by decide) (by decide)).mono ?_
  rintro e w' ⟨rfl, d, rfl⟩
  go_wp2_with (go_at_call 36; refine (law33_one _ _).mono ?_; rintro e w' ⟨rfl, d, rfl⟩)
  refine (mer_Below_false _ _ _ _ _ (by decide) (by decide)).mono ?_
  rintro e w' ⟨rfl, d, rfl⟩
  go_wp2_with fail
  refine region_bw (by kernel_rfl) (by kernel_rfl) ?_
  repeat (go_big_quiet_step ((first | (go_at_call 36; exact bq (law33_one _ _) (fun d => lay_join _ _ _ d)))))
  refine wpQuiet_nil ?_
  rintro w' ⟨d, rfl⟩
  rw [lay_bw]
  go_wp2
  go_ret
  exact ⟨rfl, lay_ex _ _⟩
end Go.Proofs.YtnnmfdeeicpdlaaGreat
/- The law MeridianPolaris. -/
namespace Go.Proofs.YtnnmfdeeicpdlaaGreat
set_option maxHeartbeats 2000000
set_option maxRecDepth 100000
open Go.RowKit

theorem mer_bad (h0 h1 r0 r1 p0 p1 : Int) (w : World) (hb : ¬ (latB h0 h1 = true ∧ validB r0 r1 = true ∧ 0 ≤ p0 ∧ p0 ≤ p1 ∧ p1 ≤ 180000)) :
    Calls Tryz.prog 9 #[(.agg #[.int .i64 (h0), .int .i64 (h1)]), (.agg #[.int .i64 (r0), .int .i64 (r1)]), (.agg #[.int .i64 (p0), .int .i64 (p1)])] w fun e w' => e = .returned (.tuple #[(.agg #[.int .i64 (0), .int .i64 (0)]), .int .i64 1]) ∧ ∃ d, w' = bw w d := by
  have HL := Lib.hid (fun W => mer_latitude h0 h1 W)
  have HV := Lib.hid (fun W => angle_Valid r0 r1 W)
  have HU := Lib.hid (fun W => angle_Valid p0 p1 W)
  have hv : validB p0 p1 = true → p0 ≤ p1 := fun h => (validB_iff.1 h).1
  have hc : (latB h0 h1 = false) ∨ (latB h0 h1 = true ∧ validB r0 r1 = false) ∨ (latB h0 h1 = true ∧ validB r0 r1 = true ∧ validB p0 p1 = false) ∨ (latB h0 h1 = true ∧ validB r0 r1 = true ∧ validB p0 p1 = true ∧ (p0 < 0 ∨ 180000 < p1)) := by
    cases c1 : latB h0 h1
    · simp
    · cases c2 : validB r0 r1
      · simp
      · cases c3 : validB p0 p1
        · simp
        · have := hv c3
          have : ¬ (0 ≤ p0 ∧ p0 ≤ p1 ∧ p1 ≤ 180000) := fun h => hb ⟨c1, c2, h⟩
          simp
          omega
  clear hb hv
  generalize latB h0 h1 = p at *
  generalize validB r0 r1 = q at *
  generalize validB p0 p1 = r at *
  rcases hc with rfl | ⟨rfl, rfl⟩ | ⟨rfl, rfl, rfl⟩ | ⟨rfl, rfl, rfl, hs⟩
  all_goals
    refine lay_start ?_
    go_enter Tryz.func9, Tryz.ntmps9
    go_wp2_with (first | (go_at_call 38; refine (HL.out _).mono ?_; rintro e w' ⟨rfl, d1, rfl⟩; rw [lay_bw]) | (go_at_call 39; first | ((with_reducible refine (HV.out _).mono ?_); rintro e w' ⟨rfl, d2, rfl⟩; rw [lay_bw]) | ((with_reducible refine (HU.out _).mono ?_); rintro e w' ⟨rfl, d3, rfl⟩; rw [lay_bw])))
    all_goals first | exact bodyPost_ret (v := .tuple #[(.agg #[.int .i64 (0), .int .i64 (0)]), .int .i64 1]) (by simp [results, Tryz.results9, go_sem]) rfl ⟨rfl, lay_ex _ _⟩ | (exfalso; omega)
theorem cos_low {p0 p1 : Int} (h0 : 0 ≤ p0) (h : p0 ≤ p1) (h1 : p1 ≤ 180000) : 1000000000 ≤ encL (p0 + 5400000) (p1 + 5400000) := by
  have m1 : metB (p0 + 5400000) (p1 + 5400000) 16200000 = false := by unfold metB; rw [decide_eq_false_iff_not]; omega
  have a := (pol_bd h0 (by omega)).2.2.1
  have b := (pol_bd (show 0 ≤ p1 by omega) h1).2.2.1
  rw [encL_at, m1, if_neg Bool.false_ne_true, mn_eq]
  omega
theorem law33_Polaris {w : World} (h0 h1 : Int) (_ : (Lit.int .i64 h0).wf = true) (_ : (Lit.int .i64 h1).wf = true) (r0 r1 : Int) (_ : (Lit.int .i64 r0).wf = true) (_ : (Lit.int .i64 r1).wf = true) (p0 p1 : Int) (_ : (Lit.int .i64 p0).wf = true) (_ : (Lit.int .i64 p1).wf = true) :
    Calls Tryz.prog 3 #[(.agg #[.int .i64 (h0), .int .i64 (h1)]), (.agg #[.int .i64 (r0), .int .i64 (r1)]), (.agg #[.int .i64 (p0), .int .i64 (p1)])] w fun e' w' => e' = .returned (.bool true) ∧ ∃ d, w' = bw w d := by
  have key : ∃ x0 x1 x : Int, Hid (∀ W, Calls Tryz.prog 9 #[(.agg #[.int .i64 (h0), .int .i64 (h1)]), (.agg #[.int .i64 (r0), .int .i64 (r1)]), (.agg #[.int .i64 (p0), .int .i64 (p1)])] W fun e w' => e = .returned (.tuple #[(.agg #[.int .i64 (x0), .int .i64 (x1)]), .int .i64 x]) ∧ ∃ d, w' = bw W d) ∧ Hid (∀ W, Calls Tryz.prog 10 #[(.agg #[.int .i64 (h0), .int .i64 (h1)]), (.agg #[.int .i64 (r0), .int .i64 (r1)]), (.agg #[.int .i64 (p0), .int .i64 (p1)])] W fun e w' => e = .returned (.tuple #[(.agg #[.int .i64 (x0), .int .i64 (x1)]), .int .i64 x]) ∧ ∃ d, w' = bw W d) := by
    by_cases hb : latB h0 h1 = true ∧ validB r0 r1 = true ∧ 0 ≤ p0 ∧ p0 ≤ p1 ∧ p1 ≤ 180000
    · obtain ⟨lh, vr, p00, p01, p18⟩ := hb
      have vp : validB p0 p1 = true := validB_iff.2 (by omega)
      have cl := cos_low p00 p01 p18
      have fy := unit_fx (mul_unit (@enc_in p0 p1).1 enc_in.2.1 enc_in.2.2 (@enc_in (r0 + 5400000) (r1 + 5400000)).1 enc_in.2.1 enc_in.2.2)
      have hdv : ∀ m0 m1, fxB (divL (pqL h0 h1 m0 m1) (encL (p0 + 5400000) (p1 + 5400000)) (encH (p0 + 5400000) (p1 + 5400000))) (divH (pqH h0 h1 m0 m1) (encL (p0 + 5400000) (p1 + 5400000)) (encH (p0 + 5400000) (p1 + 5400000))) = true :=
        fun m0 m1 => div_fx (pq_in _ _ _ _).1 (pq_in _ _ _ _).2.1 (pq_in _ _ _ _).2.2 cl enc_in.2.1
      exact ⟨_, _, _,
        Lib.hid fun W => mer_PolG h0 h1 r0 r1 p0 p1 _ _ _ _ _ _ _ _ W lh vr p00 p01 p18 fy (unit_fx enc_in) (by omega) hdv
          (Lib.hid fun b W hc => mc_cos b p0 p1 W hc vp) (Lib.hid fun b W hc => mc_sin b p0 p1 W hc vp) (Lib.hid fun b W hc => mc_cos b r0 r1 W hc vr)
          (Lib.hid fun b W hc => mc_mul b _ _ _ _ W hc (unit_fx enc_in) (unit_fx enc_in) fy),
        Lib.hid fun W => r33_PolG h0 h1 r0 r1 p0 p1 _ _ _ _ _ _ _ _ W lh vr p00 p01 p18 fy (unit_fx enc_in) (by omega) hdv
          (Lib.hid fun W => r6_Cos p0 p1 vp W) (Lib.hid fun W => r6_Sin p0 p1 vp W) (Lib.hid fun W => r6_Cos r0 r1 vr W)
          (Lib.hid fun W => r25_Times _ _ _ _ W (unit_fx enc_in) (unit_fx enc_in) fy)⟩
    · exact ⟨0, 0, 1, Lib.hid fun W => mer_bad _ _ _ _ _ _ W hb, Lib.hid fun W => pol_bad _ _ _ _ _ _ W hb⟩
  obtain ⟨x0, x1, x, HA, HR⟩ := key
  have t1 : (x0 == x0) = true := beq_iff_eq.2 rfl
  have t2 : (x1 == x1) = true := beq_iff_eq.2 rfl
  have t3 : (x == x) = true := beq_iff_eq.2 rfl
  refine lay_start ?_
  go_enter Tryz.func3, Tryz.ntmps3
  go_wp2_with (first | (go_at_call 8; refine (law33_awake _).mono ?_; rintro e w' ⟨rfl, dA, rfl⟩; rw [lay_bw]) | (go_at_call 9; refine (HA.out _).mono ?_; rintro e w' ⟨rfl, d1, rfl⟩; rw [lay_bw]) | (go_at_call 10; refine (HR.out _).mono ?_; rintro e w' ⟨rfl, d2, rfl⟩; rw [lay_bw]))
  go_ret
  exact ⟨rfl, lay_ex _ _⟩
end Go.Proofs.YtnnmfdeeicpdlaaGreat
