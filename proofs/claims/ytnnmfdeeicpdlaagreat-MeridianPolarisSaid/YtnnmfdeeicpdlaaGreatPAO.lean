/- Contracts and plain laws, several texts in one: PoA; APlain; Sl; PuS; DgP; DgQ; Dia -/
import Derived.Test.YtnnmfdeeicpdlaaGreatProg
import Derived.WalkKit
import Derived.WalkSpells
import Derived.WalkLawsBesides
import Derived.Lib.Hide
import Derived.BigQuiet
import Derived.Deep.Slices
import Derived.Deep.AppendLies
import Derived.Laws.OwnMore
import Derived.WideShapes
import Derived.Lib.SmallJoins
import Derived.Maps.AppendAt
import Derived.Laws.AppendOwnNone
import Derived.Test.YtnnmfdeeicpdlaaGreatPAA
import Derived.Test.YtnnmfdeeicpdlaaGreatPAE
import Derived.Test.YtnnmfdeeicpdlaaGreatPAF
import Derived.Test.YtnnmfdeeicpdlaaGreatPAG
import Derived.Test.YtnnmfdeeicpdlaaGreatPAN
/- meridian.Polaris at all arguments. -/
namespace Go.Proofs.YtnnmfdeeicpdlaaGreat
open Go.RowKit

noncomputable def polV (h0 h1 c0 c1 m0 m1 : Int) : (Int × Int) × Int :=
  if asE (divL (pqL h0 h1 (sgM m0 m0) (sgM m0 m1)) c0 c1) (divH (pqH h0 h1 (sgM m0 m0) (sgM m0 m1)) c0 c1) = 0 then
    ((lsLo (asL (divL (pqL h0 h1 (sgM m0 m0) (sgM m0 m1)) c0 c1) (divH (pqH h0 h1 (sgM m0 m0) (sgM m0 m1)) c0 c1) - sgM m0 m1) (asH (divL (pqL h0 h1 (sgM m0 m0) (sgM m0 m1)) c0 c1) (divH (pqH h0 h1 (sgM m0 m0) (sgM m0 m1)) c0 c1) - sgM m0 m0),
      lsHi (asL (divL (pqL h0 h1 (sgM m0 m0) (sgM m0 m1)) c0 c1) (divH (pqH h0 h1 (sgM m0 m0) (sgM m0 m1)) c0 c1) - sgM m0 m1) (asH (divL (pqL h0 h1 (sgM m0 m0) (sgM m0 m1)) c0 c1) (divH (pqH h0 h1 (sgM m0 m0) (sgM m0 m1)) c0 c1) - sgM m0 m0)),
      lsE (asL (divL (pqL h0 h1 (sgM m0 m0) (sgM m0 m1)) c0 c1) (divH (pqH h0 h1 (sgM m0 m0) (sgM m0 m1)) c0 c1) - sgM m0 m1) (asH (divL (pqL h0 h1 (sgM m0 m0) (sgM m0 m1)) c0 c1) (divH (pqH h0 h1 (sgM m0 m0) (sgM m0 m1)) c0 c1) - sgM m0 m0))
  else ((0, 0), 12)
theorem asE_val {x y : Int} (h : fxB x y = true) : asE x y = 0 ∨ asE x y = 2 := by
  unfold asE
  have := fxB_iff.1 h
  rw [decide_eq_true (by omega)]
  simp only [Bool.true_eq_false, if_false]
  split
  · exact .inr rfl
  · exact .inl rfl
set_option maxHeartbeats 4000000 in
set_option maxRecDepth 100000 in
theorem mer_PolG (h0 h1 r0 r1 p0 p1 cp0 cp1 sp0 sp1 cr0 cr1 y0 y1 : Int) (w : World) (lh : latB h0 h1 = true) (vr : validB r0 r1 = true) (p00 : 0 ≤ p0) (p01 : p0 ≤ p1) (p18 : p1 ≤ 180000) (fy : fxB y0 y1 = true) (fx : fxB cp0 cp1 = true) (cpp : 0 < cp0) (hdv : ∀ m0 m1, fxB (divL (pqL h0 h1 m0 m1) cp0 cp1) (divH (pqH h0 h1 m0 m1) cp0 cp1) = true)
    (HCp : Hid (∀ b W, ChW b W → Calls Tryz.prog 40 #[.pointer (some ⟨b, 0, none⟩), (.agg #[.int .i64 (p0), .int .i64 (p1)])] W fun e w' => e = .returned (.agg #[.int .i64 (cp0), .int .i64 (cp1)]) ∧ ∃ d, w' = bw W d))
    (HSp : Hid (∀ b W, ChW b W → Calls Tryz.prog 42 #[.pointer (some ⟨b, 0, none⟩), (.agg #[.int .i64 (p0), .int .i64 (p1)])] W fun e w' => e = .returned (.agg #[.int .i64 (sp0), .int .i64 (sp1)]) ∧ ∃ d, w' = bw W d))
    (HCr : Hid (∀ b W, ChW b W → Calls Tryz.prog 40 #[.pointer (some ⟨b, 0, none⟩), (.agg #[.int .i64 (r0), .int .i64 (r1)])] W fun e w' => e = .returned (.agg #[.int .i64 (cr0), .int .i64 (cr1)]) ∧ ∃ d, w' = bw W d))
    (HMy : Hid (∀ b W, ChW b W → Calls Tryz.prog 41 #[.pointer (some ⟨b, 0, none⟩), (.agg #[.int .i64 (sp0), .int .i64 (sp1)]), (.agg #[.int .i64 (cr0), .int .i64 (cr1)])] W fun e w' => e = .returned (.agg #[.int .i64 (y0), .int .i64 (y1)]) ∧ ∃ d, w' = bw W d)) :
    Calls Tryz.prog 9 #[(.agg #[.int .i64 (h0), .int .i64 (h1)]), (.agg #[.int .i64 (r0), .int .i64 (r1)]), (.agg #[.int .i64 (p0), .int .i64 (p1)])] w fun e w' => e = .returned (.tuple #[(.agg #[.int .i64 ((polV h0 h1 cp0 cp1 (brF cp0 cp1 y0 y1).1 (brF cp0 cp1 y0 y1).2).1.1), .int .i64 ((polV h0 h1 cp0 cp1 (brF cp0 cp1 y0 y1).1 (brF cp0 cp1 y0 y1).2).1.2)]), .int .i64 (polV h0 h1 cp0 cp1 (brF cp0 cp1 y0 y1).1 (brF cp0 cp1 y0 y1).2).2]) ∧ ∃ d, w' = bw w d := by
  have a1 : ¬ p0 < 0 := by omega
  have a2 : ¬ 180000 < p1 := by omega
  have HBe := Lib.hid (fun W => ar_BearG y0 y1 cp0 cp1 fy fx W)
  have hbb := brF_bd cp0 cp1 y0 y1
  generalize (brF cp0 cp1 y0 y1).1 = m0 at *
  generalize (brF cp0 cp1 y0 y1).2 = m1 at *
  obtain ⟨PV, hPV⟩ : ∃ PV, polV h0 h1 cp0 cp1 m0 m1 = PV := ⟨_, rfl⟩
  rw [hPV]
  unfold polV at hPV
  have HPV := Lib.hid hPV
  clear hPV
  have HL := Lib.hid (fun W => mer_latitude h0 h1 W)
  have HV1 := Lib.hid (fun W => angle_Valid r0 r1 W)
  have HV2 := Lib.hid (fun W => angle_Valid p0 p1 W)
  rw [lh] at HL
  rw [vr] at HV1
  rw [show validB p0 p1 = true from validB_iff.2 (by omega)] at HV2
  refine lay_start ?_
  go_enter Tryz.func9, Tryz.ntmps9
  go_wp2_with (first | (go_at_call 38; refine (HL.out _).mono ?_; rintro e w' ⟨rfl, d1, rfl⟩; rw [lay_bw]) | (go_at_call 39; first | ((with_reducible refine (HV1.out _).mono ?_); rintro e w' ⟨rfl, d2, rfl⟩; rw [lay_bw]) | ((with_reducible refine (HV2.out _).mono ?_); rintro e w' ⟨rfl, d3, rfl⟩; rw [lay_bw])))
  have hch : ChW (posn w [d3.n, d2.n, d1.n, 1, 1, 1, 1]) (lay w [.inl (.cells #[.int .i64 0] 82 (0, 0)), .inr d3, .inr d2, .inr d1, .inl (.cells #[.int .i64 0, .int .i64 0] 23 (0, 0)), .inl (.cells #[.int .i64 p0, .int .i64 p1] 23 (0, 0)), .inl (.cells #[.int .i64 r0, .int .i64 r1] 23 (0, 0)), .inl (.cells #[.int .i64 h0, .int .i64 h1] 23 (0, 0))]) := chW_new w _ _ _ rfl
  refine (HCp.out _ _ hch).mono ?_
  rintro e w' ⟨rfl, d4, rfl⟩
  rw [lay_bw]
  have hc2 : ChW (posn w [d3.n, d2.n, d1.n, 1, 1, 1, 1]) (lay w [.inl (.cells #[.int .i64 cp0, .int .i64 cp1] 59 (0, 0)), .inr d4, .inl (.cells #[.int .i64 0] 82 (0, 0)), .inr d3, .inr d2, .inr d1, .inl (.cells #[.int .i64 0, .int .i64 0] 23 (0, 0)), .inl (.cells #[.int .i64 p0, .int .i64 p1] 23 (0, 0)), .inl (.cells #[.int .i64 r0, .int .i64 r1] 23 (0, 0)), .inl (.cells #[.int .i64 h0, .int .i64 h1] 23 (0, 0))]) := hch.on [.inl (.cells #[.int .i64 cp0, .int .i64 cp1] 59 (0, 0)), .inr d4]
  have HC := Lib.hid (fun e => hc2.bw e)
  simp only [lay_bw] at HC
  have HCH := Lib.hid hch
  clear hch HCp
  go_wp2_with fail
  refine region_mixW [0, 0, 0, 0, 0, 0, 0, 0, 1, 1] (by kernel_rfl) (by kernel_rfl) (by kernel_rfl) ?_
  repeat (first | (refine wpM_quiet (fun K hK => ?_); go_simp; first | (refine hK _ ?_; clear hK K) | (apply Exists.intro; refine ⟨fun _ => ?_, hK _ ?_⟩; (first | (go_at_call 42; ((with_reducible refine bq (HSp.out _ _ (HC.out _)) ?_); exact (fun d => ⟨d, rfl⟩))) | (go_at_call 40; ((with_reducible refine bq (HCr.out _ _ (HC.out _)) ?_); exact (fun d => ⟨d, rfl⟩))) | (go_at_call 41; ((with_reducible refine bq (HMy.out _ _ (HC.out _)) ?_); exact (fun d => ⟨d, rfl⟩)))); clear hK K)) | (refine wpM_special (fun K hK d => ?_); go_simp; refine hK _ _ (by first | exact lay_in w [_] _ | exact lay_in w [_, _] _ | exact lay_in w [_, _, _] _ | exact lay_in w [_, _, _, _] _ | exact lay_in w [_, _, _, _, _] _ | exact lay_in w [_, _, _, _, _, _] _) ?_; clear hK K))
  refine wpM_nil ?_
  intro d
  rw [lay_bw]
  clear hc2 HC
  rename_i e5 e6
  go_wp2_with fail
  refine (HBe.out _).mono ?_
  rintro e w' ⟨rfl, d6, rfl⟩
  rw [lay_bw]
  obtain ⟨b1, b2, b3⟩ := hbb
  have k1 : IntKind.i64.wrap (m0 - 21600000) = m0 - 21600000 := IntWalk.i64_in _ (by omega)
  have k2 : IntKind.i64.wrap (m1 - 21600000) = m1 - 21600000 := IntWalk.i64_in _ (by omega)
  have va : validB (m0 - 21600000) (m1 - 21600000) = true := validB_iff.2 (by omega)
  have vb : validB m0 m1 = true := validB_iff.2 (by omega)
  clear b1 b2 b3
  by_cases hm : 10800000 ≤ m0
  · have vm := va
    have hc3 : ChW (posn w [d3.n, d2.n, d1.n, 1, 1, 1, 1]) (lay w [.inl (.cells #[.int .i64 (m0 - 21600000), .int .i64 (m1 - 21600000)] 23 (0, 0)), .inr d6, .inr d, .inr e6, .inl (.cells #[.int .i64 y0, .int .i64 y1] 59 (0, 0)), .inr e5, .inl (.cells #[.int .i64 cp0, .int .i64 cp1] 59 (0, 0)), .inr d4, .inl (.cells #[.int .i64 0] 82 (0, 0)), .inr d3, .inr d2, .inr d1, .inl (.cells #[.int .i64 0, .int .i64 0] 23 (0, 0)), .inl (.cells #[.int .i64 p0, .int .i64 p1] 23 (0, 0)), .inl (.cells #[.int .i64 r0, .int .i64 r1] 23 (0, 0)), .inl (.cells #[.int .i64 h0, .int .i64 h1] 23 (0, 0))]) := HCH.out.on [.inl (.cells #[.int .i64 (m0 - 21600000), .int .i64 (m1 - 21600000)] 23 (0, 0)), .inr d6, .inr d, .inr e6, .inl (.cells #[.int .i64 y0, .int .i64 y1] 59 (0, 0)), .inr e5, .inl (.cells #[.int .i64 cp0, .int .i64 cp1] 59 (0, 0)), .inr d4]
    have HC := Lib.hid (fun e => hc3.bw e)
    simp only [lay_bw] at HC
    clear hc3
    have HSh := Lib.hid (fun b W hc => mc_sin b h0 h1 W hc (lat_valid lh))
    have HCm := Lib.hid (fun b W hc => mc_cos b (m0 - 21600000) (m1 - 21600000) W hc vm)
    have HM2 := Lib.hid (fun b W hc => mc_mul b (encL h0 h1) (encH h0 h1) (encL (m0 - 21600000 + 5400000) (m1 - 21600000 + 5400000)) (encH (m0 - 21600000 + 5400000) (m1 - 21600000 + 5400000)) W hc (unit_fx enc_in) (unit_fx enc_in) (unit_fx (mul_unit enc_in.1 enc_in.2.1 enc_in.2.2 enc_in.1 enc_in.2.1 enc_in.2.2)))
    have HD := Lib.hid (fun W => fx_DivP (pqL h0 h1 (m0 - 21600000) (m1 - 21600000)) (pqH h0 h1 (m0 - 21600000) (m1 - 21600000)) cp0 cp1 W (unit_fx (mul_unit enc_in.1 enc_in.2.1 enc_in.2.2 enc_in.1 enc_in.2.1 enc_in.2.2)) fx (by omega))
    rw [hdv (m0 - 21600000) (m1 - 21600000), if_pos rfl, if_pos rfl, if_pos rfl] at HD
    have HK := Lib.hid (fun b W hc => mc_keep b (divL (pqL h0 h1 (m0 - 21600000) (m1 - 21600000)) cp0 cp1) (divH (pqH h0 h1 (m0 - 21600000) (m1 - 21600000)) cp0 cp1) W hc)
    unfold pqL pqH at *
    go_wp2_with fail
    refine region_mixW [0, 0, 0, 0, 0, 0, 0, 0, 0, 0, 0, 0, 0, 0, 1, 1] (by kernel_rfl) (by kernel_rfl) (by kernel_rfl) ?_
    repeat (first | (refine wpM_quiet (fun K hK => ?_); go_simp; first | (refine hK _ ?_; clear hK K) | (apply Exists.intro; refine ⟨fun _ => ?_, hK _ ?_⟩; (first | (go_at_call 42; ((with_reducible refine bq (HSh.out _ _ (HC.out _)) ?_); exact (fun d => ⟨d, rfl⟩))) | (go_at_call 40; ((with_reducible refine bq (HCm.out _ _ (HC.out _)) ?_); exact (fun d => ⟨d, rfl⟩))) | (go_at_call 41; ((with_reducible refine bq (HM2.out _ _ (HC.out _)) ?_); exact (fun d => ⟨d, rfl⟩))) | (go_at_call 45; exact bq (HD.out _) (fun d => ⟨d, rfl⟩)) | (go_at_call 44; ((with_reducible refine bq (HK.out _ _ (HC.out _)) ?_); exact (fun d => ⟨d, rfl⟩)))); clear hK K)) | (refine wpM_special (fun K hK d => ?_); go_simp; refine hK _ _ (by first | exact lay_in w [_] _ | exact lay_in w [_, _] _ | exact lay_in w [_, _, _] _ | exact lay_in w [_, _, _, _] _ | exact lay_in w [_, _, _, _, _] _ | exact lay_in w [_, _, _, _, _, _] _) ?_; clear hK K))
    refine wpM_nil ?_
    intro d
    rw [lay_bw]
    have HA := Lib.hid (fun W => ar_Asin (divL (pqL h0 h1 (m0 - 21600000) (m1 - 21600000)) cp0 cp1) (divH (pqH h0 h1 (m0 - 21600000) (m1 - 21600000)) cp0 cp1) W)
    unfold pqL pqH at HA
    have hq := as_bd (divL (pqL h0 h1 (m0 - 21600000) (m1 - 21600000)) cp0 cp1) (divH (pqH h0 h1 (m0 - 21600000) (m1 - 21600000)) cp0 cp1)
    have hE2 := asE_val (hdv (m0 - 21600000) (m1 - 21600000))
    have s0 : sgM m0 m0 = m0 - 21600000 := by unfold sgM; first | exact if_pos hm | exact if_neg (by omega)
    have s1 : sgM m0 m1 = m1 - 21600000 := by unfold sgM; first | exact if_pos hm | exact if_neg (by omega)
    have hP := HPV.out
    rw [s0, s1] at hP
    unfold pqL pqH at hq
    generalize (divL (mulL (encL h0 h1) (encH h0 h1) (encL (m0 - 21600000 + 5400000) (m1 - 21600000 + 5400000)) (encH (m0 - 21600000 + 5400000) (m1 - 21600000 + 5400000))) cp0 cp1) = D0 at *
    generalize (divH (mulH (encL h0 h1) (encH h0 h1) (encL (m0 - 21600000 + 5400000) (m1 - 21600000 + 5400000)) (encH (m0 - 21600000 + 5400000) (m1 - 21600000 + 5400000))) cp0 cp1) = D1 at *
    have hv := validB_iff.1 vm
    obtain ⟨q1, q2, q3, q4⟩ := hq
    generalize asL D0 D1 = A0 at *
    generalize asH D0 D1 = A1 at *
    obtain ⟨B0, hB0⟩ : ∃ B0, A0 - (m1 - 21600000) = B0 := ⟨_, rfl⟩
    obtain ⟨B1, hB1⟩ : ∃ B1, A1 - (m0 - 21600000) = B1 := ⟨_, rfl⟩
    have HMi := Lib.hid (fun W => mer_minus A0 A1 (m0 - 21600000) (m1 - 21600000) W (by omega) (by omega) (by omega) (by omega))
    rw [hB0, hB1] at HMi hP
    have HLs := Lib.hid (fun W => mer_latitudes B0 B1 W)
    have HPP := Lib.hid hP
    rcases hE2 with hE2 | hE2
    · rw [hE2] at HA
      have HE := Lib.hid hE2
      clear q1 q2 q3 q4 hv hE2 hP hB0 hB1
      go_wp2_with (first | (go_at_call 46; refine (HA.out _).mono ?_; rintro e w' ⟨rfl, d7, rfl⟩; rw [lay_bw]) | (go_at_call 48; refine (HMi.out _).mono ?_; rintro e w' ⟨rfl, d8, rfl⟩; rw [lay_bw]) | (go_at_call 47; refine (HLs.out _).mono ?_; rintro e w' ⟨rfl, d9, rfl⟩; rw [lay_bw]))
      refine bodyPost_ret (v := .tuple #[(.agg #[.int .i64 (lsLo B0 B1), .int .i64 (lsHi B0 B1)]), .int .i64 (lsE B0 B1)]) (by simp [results, Tryz.results9, go_sem]) rfl ⟨?_, lay_ex _ _⟩
      rw [← HPP.out, if_pos HE.out]
    · rw [hE2] at HA
      have HE := Lib.hid hE2
      clear q1 q2 q3 q4 hv hE2 hP hB0 hB1
      go_wp2_with (first | (go_at_call 46; refine (HA.out _).mono ?_; rintro e w' ⟨rfl, d7, rfl⟩; rw [lay_bw]))
      refine bodyPost_ret (v := .tuple #[(.agg #[.int .i64 (0), .int .i64 (0)]), .int .i64 12]) (by simp [results, Tryz.results9, go_sem]) rfl ⟨?_, lay_ex _ _⟩
      rw [← HPP.out, if_neg (by rw [HE.out]; decide)]
  · have vm := vb
    have hc3 : ChW (posn w [d3.n, d2.n, d1.n, 1, 1, 1, 1]) (lay w [.inl (.cells #[.int .i64 (m0), .int .i64 (m1)] 23 (0, 0)), .inr d6, .inr d, .inr e6, .inl (.cells #[.int .i64 y0, .int .i64 y1] 59 (0, 0)), .inr e5, .inl (.cells #[.int .i64 cp0, .int .i64 cp1] 59 (0, 0)), .inr d4, .inl (.cells #[.int .i64 0] 82 (0, 0)), .inr d3, .inr d2, .inr d1, .inl (.cells #[.int .i64 0, .int .i64 0] 23 (0, 0)), .inl (.cells #[.int .i64 p0, .int .i64 p1] 23 (0, 0)), .inl (.cells #[.int .i64 r0, .int .i64 r1] 23 (0, 0)), .inl (.cells #[.int .i64 h0, .int .i64 h1] 23 (0, 0))]) := HCH.out.on [.inl (.cells #[.int .i64 (m0), .int .i64 (m1)] 23 (0, 0)), .inr d6, .inr d, .inr e6, .inl (.cells #[.int .i64 y0, .int .i64 y1] 59 (0, 0)), .inr e5, .inl (.cells #[.int .i64 cp0, .int .i64 cp1] 59 (0, 0)), .inr d4]
    have HC := Lib.hid (fun e => hc3.bw e)
    simp only [lay_bw] at HC
    clear hc3
    have HSh := Lib.hid (fun b W hc => mc_sin b h0 h1 W hc (lat_valid lh))
    have HCm := Lib.hid (fun b W hc => mc_cos b (m0) (m1) W hc vm)
    have HM2 := Lib.hid (fun b W hc => mc_mul b (encL h0 h1) (encH h0 h1) (encL (m0 + 5400000) (m1 + 5400000)) (encH (m0 + 5400000) (m1 + 5400000)) W hc (unit_fx enc_in) (unit_fx enc_in) (unit_fx (mul_unit enc_in.1 enc_in.2.1 enc_in.2.2 enc_in.1 enc_in.2.1 enc_in.2.2)))
    have HD := Lib.hid (fun W => fx_DivP (pqL h0 h1 (m0) (m1)) (pqH h0 h1 (m0) (m1)) cp0 cp1 W (unit_fx (mul_unit enc_in.1 enc_in.2.1 enc_in.2.2 enc_in.1 enc_in.2.1 enc_in.2.2)) fx (by omega))
    rw [hdv (m0) (m1), if_pos rfl, if_pos rfl, if_pos rfl] at HD
    have HK := Lib.hid (fun b W hc => mc_keep b (divL (pqL h0 h1 (m0) (m1)) cp0 cp1) (divH (pqH h0 h1 (m0) (m1)) cp0 cp1) W hc)
    unfold pqL pqH at *
    go_wp2_with fail
    refine region_mixW [0, 0, 0, 0, 0, 0, 0, 0, 0, 0, 0, 0, 0, 0, 1, 1] (by kernel_rfl) (by kernel_rfl) (by kernel_rfl) ?_
    repeat (first | (refine wpM_quiet (fun K hK => ?_); go_simp; first | (refine hK _ ?_; clear hK K) | (apply Exists.intro; refine ⟨fun _ => ?_, hK _ ?_⟩; (first | (go_at_call 42; ((with_reducible refine bq (HSh.out _ _ (HC.out _)) ?_); exact (fun d => ⟨d, rfl⟩))) | (go_at_call 40; ((with_reducible refine bq (HCm.out _ _ (HC.out _)) ?_); exact (fun d => ⟨d, rfl⟩))) | (go_at_call 41; ((with_reducible refine bq (HM2.out _ _ (HC.out _)) ?_); exact (fun d => ⟨d, rfl⟩))) | (go_at_call 45; exact bq (HD.out _) (fun d => ⟨d, rfl⟩)) | (go_at_call 44; ((with_reducible refine bq (HK.out _ _ (HC.out _)) ?_); exact (fun d => ⟨d, rfl⟩)))); clear hK K)) | (refine wpM_special (fun K hK d => ?_); go_simp; refine hK _ _ (by first | exact lay_in w [_] _ | exact lay_in w [_, _] _ | exact lay_in w [_, _, _] _ | exact lay_in w [_, _, _, _] _ | exact lay_in w [_, _, _, _, _] _ | exact lay_in w [_, _, _, _, _, _] _) ?_; clear hK K))
    refine wpM_nil ?_
    intro d
    rw [lay_bw]
    have HA := Lib.hid (fun W => ar_Asin (divL (pqL h0 h1 (m0) (m1)) cp0 cp1) (divH (pqH h0 h1 (m0) (m1)) cp0 cp1) W)
    unfold pqL pqH at HA
    have hq := as_bd (divL (pqL h0 h1 (m0) (m1)) cp0 cp1) (divH (pqH h0 h1 (m0) (m1)) cp0 cp1)
    have hE2 := asE_val (hdv (m0) (m1))
    have s0 : sgM m0 m0 = m0 := by unfold sgM; first | exact if_pos hm | exact if_neg (by omega)
    have s1 : sgM m0 m1 = m1 := by unfold sgM; first | exact if_pos hm | exact if_neg (by omega)
    have hP := HPV.out
    rw [s0, s1] at hP
    unfold pqL pqH at hq
    generalize (divL (mulL (encL h0 h1) (encH h0 h1) (encL (m0 + 5400000) (m1 + 5400000)) (encH (m0 + 5400000) (m1 + 5400000))) cp0 cp1) = D0 at *
    generalize (divH (mulH (encL h0 h1) (encH h0 h1) (encL (m0 + 5400000) (m1 + 5400000)) (encH (m0 + 5400000) (m1 + 5400000))) cp0 cp1) = D1 at *
    have hv := validB_iff.1 vm
    obtain ⟨q1, q2, q3, q4⟩ := hq
    generalize asL D0 D1 = A0 at *
    generalize asH D0 D1 = A1 at *
    obtain ⟨B0, hB0⟩ : ∃ B0, A0 - (m1) = B0 := ⟨_, rfl⟩
    obtain ⟨B1, hB1⟩ : ∃ B1, A1 - (m0) = B1 := ⟨_, rfl⟩
    have HMi := Lib.hid (fun W => mer_minus A0 A1 (m0) (m1) W (by omega) (by omega) (by omega) (by omega))
    rw [hB0, hB1] at HMi hP
    have HLs := Lib.hid (fun W => mer_latitudes B0 B1 W)
    have HPP := Lib.hid hP
    rcases hE2 with hE2 | hE2
    · rw [hE2] at HA
      have HE := Lib.hid hE2
      clear q1 q2 q3 q4 hv hE2 hP hB0 hB1
      go_wp2_with (first | (go_at_call 46; refine (HA.out _).mono ?_; rintro e w' ⟨rfl, d7, rfl⟩; rw [lay_bw]) | (go_at_call 48; refine (HMi.out _).mono ?_; rintro e w' ⟨rfl, d8, rfl⟩; rw [lay_bw]) | (go_at_call 47; refine (HLs.out _).mono ?_; rintro e w' ⟨rfl, d9, rfl⟩; rw [lay_bw]))
      refine bodyPost_ret (v := .tuple #[(.agg #[.int .i64 (lsLo B0 B1), .int .i64 (lsHi B0 B1)]), .int .i64 (lsE B0 B1)]) (by simp [results, Tryz.results9, go_sem]) rfl ⟨?_, lay_ex _ _⟩
      rw [← HPP.out, if_pos HE.out]
    · rw [hE2] at HA
      have HE := Lib.hid hE2
      clear q1 q2 q3 q4 hv hE2 hP hB0 hB1
      go_wp2_with (first | (go_at_call 46; refine (HA.out _).mono ?_; rintro e w' ⟨rfl, d7, rfl⟩; rw [lay_bw]))
      refine bodyPost_ret (v := .tuple #[(.agg #[.int .i64 (0), .int .i64 (0)]), .int .i64 12]) (by simp [results, Tryz.results9, go_sem]) rfl ⟨?_, lay_ex _ _⟩
      rw [← HPP.out, if_neg (by rw [HE.out]; decide)]
end Go.Proofs.YtnnmfdeeicpdlaaGreat
/- Audit, the plain law: steps, differences, possible lists, repairs. No program in sight. -/
namespace Go.Proofs.YtnnmfdeeicpdlaaGreat
open Go.RowKit

def nth (g : List Int) (i : Nat) : Int := g.getD i 0
theorem nth_set (l : List Int) (at_ : Nat) (v : Int) (h : at_ < l.length) (i : Nat) : nth (l.set at_ v) i = if i = at_ then v else nth l i := by
  unfold nth
  by_cases e : i = at_
  · subst e; rw [if_pos rfl]; simp [List.getD, h]
  · rw [if_neg e]
    simp only [List.getD]
    rw [List.getElem?_set_ne (fun h => e h.symm)]
end Go.Proofs.YtnnmfdeeicpdlaaGreat
/- Slices of ints that are read; rows of ints of the call's own; an append to such a row. -/
namespace Go.Proofs.YtnnmfdeeicpdlaaGreat
open Go.RowKit

theorem lay_app (w : World) (A B : List (Obj ⊕ Ext)) : lay w (A ++ B) = lay (lay w B) A := by
  induction A with
  | nil => rfl
  | cons x A ih =>
    cases x with
    | inl o => exact congrArg (fun W => World.alloc W o) ih
    | inr d => exact congrArg (fun W => bw W d) ih
theorem lay_below {w : World} {A B : List (Obj ⊕ Ext)} : Below (lay w B).heap.size (lay w B) (lay w (A ++ B)) := by rw [lay_app]; exact lay_extends _ _
def Sl (w : World) (v : Value) (l : List Int) : Prop :=
  ∃ a cap, v = .slice a l.length cap ∧ (l.length ≤ cap ∧ cap ≤ 9223372036854775807) ∧ (∀ i, i < l.length → (Lit.int .i64 (nth l i)).wf = true) ∧
    (l ≠ [] → ∃ b o, a = some ⟨b, o, none⟩ ∧ b < w.heap.size ∧ ∀ i, i < l.length → w.cell? ⟨b, o + i, none⟩ = some (.int .i64 (nth l i)))
theorem Sl.ext {w w' : World} {v : Value} {l : List Int} (h : Sl w v l) (hb : Below w.heap.size w w') : Sl w' v l := by
  obtain ⟨a, cap, h1, h2, h0, h3⟩ := h
  refine ⟨a, cap, h1, h2, h0, fun hl => ?_⟩
  obtain ⟨b, o, h4, h5, h6⟩ := h3 hl
  exact ⟨b, o, h4, Nat.lt_of_lt_of_le h5 hb.size, fun i hi => (hb.cell (p := ⟨b, o + i, none⟩) h5).trans (h6 i hi)⟩
theorem Sl.bw {w : World} {v : Value} {l : List Int} (h : Sl w v l) (d : Ext) : Sl (bw w d) v l := h.ext (bw_below w d)
theorem Sl.lay {w : World} {v : Value} {l : List Int} (h : Sl w v l) (L : List (Obj ⊕ Ext)) : Sl (lay w L) v l := h.ext (lay_extends w L)
theorem sl_on {w : World} {v : Value} {l : List Int} {A B : List (Obj ⊕ Ext)} (h : Sl (lay w B) v l) : Sl (lay w (A ++ B)) v l := h.ext lay_below
theorem Sl.nil (w : World) : Sl w (.slice none 0 0) [] := ⟨none, 0, rfl, by simp, fun i hi => absurd hi (Nat.not_lt_zero i), fun h => absurd rfl h⟩
theorem Sl.open {w : World} {v : Value} {l : List Int} (h : Sl w v l) (hl : 0 < l.length) :
    ∃ b o cap, v = .slice (some ⟨b, o, none⟩) l.length cap ∧ (l.length ≤ cap ∧ cap ≤ 9223372036854775807) ∧ (∀ i, i < l.length → (Lit.int .i64 (nth l i)).wf = true) ∧ b < w.heap.size ∧ ∀ i, i < l.length → w.cell? ⟨b, o + i, none⟩ = some (.int .i64 (nth l i)) := by
  obtain ⟨a, cap, rfl, h2, h0, h3⟩ := h
  obtain ⟨b, o, rfl, h5, h6⟩ := h3 (by intro e; rw [e] at hl; exact Nat.lt_irrefl 0 hl)
  exact ⟨b, o, cap, rfl, h2, h0, h5, h6⟩
theorem s_add_none1 {a : Addr} (h : a.spot = none) (n : Nat) : a.add n = ⟨a.block, a.off + n, none⟩ := by
  unfold Addr.add
  split
  · rename_i h0
    have : n = 0 := by simpa using h0
    subst this
    cases a; simp_all
  · rfl
section
variable {H : Type} {enc : TypeId × Value → H} {P : Program}
end

def Ow (w : World) (base : Nat) (v : Value) (l : List Int) : Prop :=
  w.ownsRow base 3 1 v l.length (l.map (Value.int .i64)) ∧ ∀ i, i < l.length → (Lit.int .i64 (nth l i)).wf = true
theorem Ow.nil (w : World) (base : Nat) : Ow w base (.slice none 0 0) [] := ⟨World.ownsRow_nil w base _ _, fun i hi => absurd hi (Nat.not_lt_zero i)⟩
theorem Ow.form {w : World} {base : Nat} {v : Value} {l : List Int} (h : Ow w base v l) : ∃ a cap, v = .slice a l.length cap := by
  rcases h.1.2 with ⟨rfl, hz⟩ | ⟨g, cap, cur, rfl, _⟩
  · exact ⟨none, 0, by rw [hz]⟩
  · exact ⟨_, cap, rfl⟩
theorem Ow.form1 {w : World} {base : Nat} {v : Value} {l : List Int} (h : Ow w base v l) (hl : 0 < l.length) : ∃ g cap, v = .slice (some ⟨g, 0, none⟩) l.length cap ∧ base ≤ g ∧ g < w.heap.size ∧ l.length ≤ cap ∧ cap ≤ 9223372036854775807 := by
  rcases h.1.2 with ⟨rfl, hz⟩ | ⟨g, cap, cur, rfl, h1, h2, h3, h4, _⟩
  · omega
  · have hM : maxLen = 9223372036854775807 := by decide
    exact ⟨g, cap, rfl, h1, (Array.getElem?_eq_some_iff.1 h2).1, h3, by omega⟩
theorem nth_getElem? {l : List Int} {i : Nat} (h : i < l.length) : l[i]? = some (nth l i) := by simp [nth, List.getD, h]
theorem Ow.cell {w : World} {base g cap n : Nat} {l : List Int} (h : Ow w base (.slice (some ⟨g, 0, none⟩) n cap) l) {i : Nat} (hi : i < l.length) : w.cell? ⟨g, i, none⟩ = some (.int .i64 (nth l i)) := by
  have h1 := h.1
  have hn : n = l.length := by
    obtain ⟨a, c, e⟩ := h.form
    cases e; rfl
  subst hn
  rw [h1.cellAt i (by omega), List.getElem?_map, nth_getElem? hi]
  rfl
theorem Ow.froz {w : World} {base g cap n : Nat} {l : List Int} (h : Ow w base (.slice (some ⟨g, 0, none⟩) n cap) l) (j : Nat) : w.frozen? ⟨g, j, none⟩ = false := by
  have hn : n = l.length := by
    obtain ⟨a, c, e⟩ := h.form
    cases e; rfl
  subst hn
  exact h.1.frozenAt j
theorem Ow.sl {w : World} {base : Nat} {v : Value} {l : List Int} (h : Ow w base v l) : Sl w v l := by
  by_cases hl : l = []
  · subst hl
    rcases h.1.2 with ⟨rfl, hz⟩ | ⟨g, cap, cur, rfl, _, _, h3, h4, _⟩
    · exact Sl.nil w
    · have hM : maxLen = 9223372036854775807 := by decide
      exact ⟨_, cap, rfl, ⟨h3, by omega⟩, h.2, fun hne => absurd rfl hne⟩
  · have hl' : 0 < l.length := List.length_pos_iff.2 hl
    obtain ⟨g, cap, rfl, h1, h2, h3⟩ := h.form1 hl'
    exact ⟨_, cap, rfl, h3, h.2, fun _ => ⟨g, 0, rfl, h2, fun i hi => by rw [Nat.zero_add]; exact h.cell hi⟩⟩
theorem Ow.ext {w w' : World} {base : Nat} {v : Value} {l : List Int} (h : Ow w base v l) (hb : Below w.heap.size w w') : Ow w' base v l := by
  refine ⟨⟨h.1.1, h.1.2.imp id ?_⟩, h.2⟩
  rintro ⟨g, cap, cur, e, h1, h2, h3⟩
  exact ⟨g, cap, cur, e, h1, (hb.block g (Array.getElem?_eq_some_iff.1 h2).1).trans h2, h3⟩
theorem Ow.lay {w : World} {base : Nat} {v : Value} {l : List Int} (h : Ow w base v l) (L : List (Obj ⊕ Ext)) : Ow (lay w L) base v l := h.ext (lay_extends w L)
theorem Ow.bw {w : World} {base : Nat} {v : Value} {l : List Int} (h : Ow w base v l) (d : Ext) : Ow (bw w d) base v l := h.ext (bw_below w d)
theorem Ow.le {w : World} {base base' : Nat} {v : Value} {l : List Int} (h : Ow w base v l) (hb : base' ≤ base) : Ow w base' v l := ⟨⟨h.1.1, h.1.2.imp id fun ⟨g, cap, cur, e, h1, h2⟩ => ⟨g, cap, cur, e, Nat.le_trans hb h1, h2⟩⟩, h.2⟩
theorem ow_on {w : World} {base : Nat} {v : Value} {l : List Int} {A B : List (Obj ⊕ Ext)} (h : Ow (lay w B) base v l) : Ow (lay w (A ++ B)) base v l := h.ext lay_below
theorem ow_append {l : List Int} {c : Int} (hl : ∀ i, i < l.length → (Lit.int .i64 (nth l i)).wf = true) (hc : (Lit.int .i64 c).wf = true) : ∀ i, i < (l ++ [c]).length → (Lit.int .i64 (nth (l ++ [c]) i)).wf = true := by
  intro i hi
  by_cases h : i < l.length
  · have : nth (l ++ [c]) i = nth l i := by unfold nth; simp [List.getD, List.getElem?_append, h]
    rw [this]; exact hl i h
  · have h2 : i = l.length := by simp at hi; omega
    have : nth (l ++ [c]) i = c := by unfold nth; simp [List.getD, h2]
    rw [this]; exact hc
theorem info_intS : (Tryz.prog.info? 3).map (fun i => (i.zero, i.size, i.bytes)) = some (some (.int .i64 0), 1, 8) := by kernel_rfl
theorem push_int {ops : Array Oper} {rest : List Oper} {o : Oper} {a : Act} {Q : Exit → Act → World → Prop} (hgd : o.guard = none) (s x : Operand)
    (ho : o.op = .call { callee := .builtin .append, args := #[s, x], argTypes := #[112, 112] })
    (W0 : World) (wb : World) (c : Int) (te : TypeId) (xb : Nat) (v : Value) (l : List Int) (hw : Below W0.heap.size W0 wb) (hown : Ow wb W0.heap.size v l)
    (hcell : wb.heap[xb]? = some (.cells #[.int .i64 c] te (0, 0))) (hs : a.eval s = v) (hx : a.eval x = .slice (some ⟨xb, 0, none⟩) 1 1)
    (hn : l.length ≤ 1000000000) (hc : (Lit.int .i64 c).wf = true)
    (h : ∀ v' d, Ow (Go.Proofs.YtnnmfdeeicpdlaaGreat.bw W0 d) W0.heap.size v' (l ++ [c]) → wpList Tryz.prog ops Q rest (a.put o.dst v') (Go.Proofs.YtnnmfdeeicpdlaaGreat.bw W0 d)) :
    wpList Tryz.prog ops Q (o :: rest) a wb := by
  obtain ⟨i, hi, hz0, hz1, hz2⟩ := info_parts info_intS
  have hM : maxLen = 9223372036854775807 := by decide
  refine wpList_append_lies wb hgd s x 112 ho W0.heap.size 3 i (.int .i64 0) 1 8 Tryz.underlying112 hi hz0 hz1 hz2 rfl (by decide) v l.length (l.map (Value.int .i64)) hs hown.1 ⟨xb, 0, none⟩ 1 1 [.int .i64 c] hx rfl (World.news_of_block (cs := #[.int .i64 c]) hcell) (by simp [Value.oneCell']) (by decide) (by omega) (by omega) hw.size wb.heap.size rfl ?_
  intro g cap w' hown' hg hat _
  obtain ⟨d, hd⟩ := bw_of (w := W0) (w' := w') (hw.grown hg hw.size (fun k hk => (hown.1.lt k hk).1))
  subst hd
  exact h _ d ⟨by simpa using hown', ow_append hown.2 hc⟩
theorem ow_store {w : World} {base g cap n : Nat} {l : List Int} (h : Ow w base (.slice (some ⟨g, 0, none⟩) n cap) l) (j : Nat) (x : Int) (hx : (Lit.int .i64 x).wf = true) :
    Ow (w.setCell ⟨g, j, none⟩ (.int .i64 x)) base (.slice (some ⟨g, 0, none⟩) n cap) (l.set j x) := by
  have hn : n = l.length := by
    obtain ⟨a, c, e⟩ := h.form
    cases e; rfl
  subst hn
  refine ⟨by have := (h.1.stored j (.int .i64 x)).1; rw [List.length_set, List.map_set]; exact this, fun i hi => ?_⟩
  have hi' : i < l.length := by simpa using hi
  by_cases hj : j < l.length
  · rw [nth_set l j x hj]
    split
    · exact hx
    · exact h.2 i hi'
  · rw [List.set_eq_of_length_le (by omega)]; exact h.2 i hi'
theorem ow_swap {w : World} {T : List (Obj ⊕ Ext)} {o : Obj} (o' : Obj) {e : Ext} {base : Nat} {v : Value} {l : List Int} (hb : (lay w T).heap.size < base)
    (h : Ow (lay w (.inr e :: .inl o :: T)) base v l) : Ow (lay w (.inr e :: .inl o' :: T)) base v l := by
  refine ⟨⟨h.1.1, h.1.2.imp id fun ⟨g, cap, cur, h1, h2, h3, h4⟩ => ⟨g, cap, cur, h1, h2, ?_, h4⟩⟩, h.2⟩
  rw [← h3]
  show ((Go.Proofs.YtnnmfdeeicpdlaaGreat.lay w T).heap.push o' ++ e.blocks)[g]? = ((Go.Proofs.YtnnmfdeeicpdlaaGreat.lay w T).heap.push o ++ e.blocks)[g]?
  rw [Array.getElem?_append, Array.getElem?_append, Array.size_push, Array.size_push]
  rw [if_neg (by omega), if_neg (by omega)]
theorem lay_lt (w : World) (o : Obj) (T : List (Obj ⊕ Ext)) : (Go.Proofs.YtnnmfdeeicpdlaaGreat.lay w T).heap.size < (Go.Proofs.YtnnmfdeeicpdlaaGreat.lay w (.inl o :: T)).heap.size := by
  show _ < (World.alloc _ o).heap.size
  rw [World.size_alloc]; exact Nat.lt_succ_self _
theorem bw_store {w : World} {d : Ext} {g i : Nat} {v : Value} (hg : w.heap.size ≤ g) : ∃ d', (Go.Proofs.YtnnmfdeeicpdlaaGreat.bw w d).setCell ⟨g, i, none⟩ v = Go.Proofs.YtnnmfdeeicpdlaaGreat.bw w d' := by
  refine bw_of ?_
  have h1 := bw_below w d
  refine ⟨h1.1, h1.2, h1.3, ?_, fun k hk => ?_⟩
  · rw [World.size_setCell]; exact h1.size
  · rw [heap_setCell_other _ ⟨g, i, none⟩ k v (by intro e; have : k = g := by simpa using e
                                                  omega)]
    exact h1.block k hk
end Go.Proofs.YtnnmfdeeicpdlaaGreat
/- An append of a whole slice to a row of the call's own; slices cut (as in XPut, for a seat without audit). -/
namespace Go.Proofs.YtnnmfdeeicpdlaaGreat
open Go.RowKit

theorem wf_append {l m : List Int} (hl : ∀ i, i < l.length → (Lit.int .i64 (nth l i)).wf = true) (hm : ∀ i, i < m.length → (Lit.int .i64 (nth m i)).wf = true) : ∀ i, i < (l ++ m).length → (Lit.int .i64 (nth (l ++ m) i)).wf = true := by
  intro i hi
  by_cases h : i < l.length
  · have : nth (l ++ m) i = nth l i := by unfold nth; simp [List.getD, List.getElem?_append, h]
    rw [this]; exact hl i h
  · have h2 : i - l.length < m.length := by simp at hi; omega
    have : nth (l ++ m) i = nth m (i - l.length) := by unfold nth; simp [List.getD, List.getElem?_append, h]
    rw [this]; exact hm _ h2
theorem map_get {l : List Int} {j : Nat} {u : Value} (h : (l.map (Value.int .i64))[j]? = some u) : j < l.length ∧ u = .int .i64 (nth l j) := by
  rw [List.getElem?_map] at h
  have hj : j < l.length := by
    rcases Nat.lt_or_ge j l.length with h1 | h1
    · exact h1
    · rw [List.getElem?_eq_none h1] at h; cases h
  rw [nth_getElem? hj] at h
  exact ⟨hj, by simpa using h.symm⟩
theorem push_sl {ops : Array Oper} {rest : List Oper} {o : Oper} {a : Act} {Q : Exit → Act → World → Prop} (hgd : o.guard = none) (s x : Operand)
    (ho : o.op = .call { callee := .builtin .append, args := #[s, x], argTypes := #[112, 112] })
    (W0 : World) (wb : World) (v1 : Value) (l1 : List Int) (A : Option Addr) (n c : Nat) (l2 : List Int) (hw : Below W0.heap.size W0 wb) (hown : Ow wb W0.heap.size v1 l1)
    (hsrc : Sl wb (.slice A n c) l2) (hA : A = none → c = 0) (hs : a.eval s = v1) (hx : a.eval x = .slice A n c) (hn : l1.length + l2.length ≤ 1000000000)
    (h : ∀ v' d, Ow (Go.Proofs.YtnnmfdeeicpdlaaGreat.bw W0 d) W0.heap.size v' (l1 ++ l2) → wpList Tryz.prog ops Q rest (a.put o.dst v') (Go.Proofs.YtnnmfdeeicpdlaaGreat.bw W0 d)) :
    wpList Tryz.prog ops Q (o :: rest) a wb := by
  obtain ⟨i, hi, hz0, hz1, hz2⟩ := info_parts info_intS
  have hM : maxLen = 9223372036854775807 := by decide
  obtain ⟨a', cap', he, hcc, hwf, hcell⟩ := hsrc
  simp only [Value.slice.injEq] at he
  obtain ⟨rfl, rfl, rfl⟩ := he
  cases A with
  | none =>
    obtain rfl := hA rfl
    have hl2 : l2 = [] := by
      rcases List.eq_nil_or_concat l2 with h | ⟨_, _, h⟩
      · exact h
      · have : l2 ≠ [] := by rw [h]; simp
        obtain ⟨_, _, h, _⟩ := hcell this
        cases h
    subst hl2
    obtain ⟨d, rfl⟩ := bw_of hw
    refine wpList_append_own_none hgd s x 112 ho W0.heap.size 3 i 1 Tryz.underlying112 hi v1 l1.length (l1.map (Value.int .i64)) hs hown.1 hx ?_
    exact h v1 d (by rw [List.append_nil]; exact hown)
  | some ad =>
    refine wpList_append_own wb hgd s x 112 ho W0.heap.size 3 i (.int .i64 0) 1 8 Tryz.underlying112 hi hz0 hz1 hz2 rfl (by decide) v1 l1.length (l1.map (Value.int .i64)) hs hown.1 ad l2.length c (l2.map (Value.int .i64)) hx (by simp) ?_ ?_ (by omega) (by omega) hw.size ?_
    · intro j u hu
      obtain ⟨hj, rfl⟩ := map_get hu
      obtain ⟨b, o', e, _, hr⟩ := hcell (by intro e; rw [e] at hj; exact absurd hj (Nat.not_lt_zero _))
      cases e
      rw [s_add_none1 rfl]
      exact hr j hj
    · intro u hu
      obtain ⟨y, _, rfl⟩ := List.mem_map.1 hu
      rfl
    · intro v' w' hown' hg _
      obtain ⟨d, hd⟩ := bw_of (w := W0) (w' := w') (hw.grown hg hw.size (fun k hk => (hown.1.lt k hk).1))
      subst hd
      exact h v' d ⟨by rw [List.length_append, List.map_append]; exact hown', wf_append hown.2 hwf⟩
theorem ow_empty {w : World} {L : List (Obj ⊕ Ext)} : Ow (lay w (.inl (.cells #[] 3 (0, 0)) :: L)) (lay w L).heap.size (.slice (some ⟨posn w (shp L), 0, none⟩) 0 0) [] := by
  rw [← lay_size w L]
  exact ⟨World.ownsRow_lit (lay w L) #[] 0 (Nat.le_refl _) (by decide) rfl, fun i hi => absurd hi (Nat.not_lt_zero i)⟩
theorem nth_cut {l : List Int} {f n i : Nat} (h : i < n) : nth ((l.drop f).take n) i = nth l (f + i) := by
  unfold nth; simp [List.getD, h]
theorem sl_cut {w : World} {b o n cap f k c : Nat} {l : List Int} (h : Sl w (.slice (some ⟨b, o, none⟩) n cap) l) (hf : f + k ≤ l.length) (hc : k ≤ c ∧ c ≤ 9223372036854775807) : Sl w (.slice (some ⟨b, o + f, none⟩) k c) ((l.drop f).take k) := by
  have hl : ((l.drop f).take k).length = k := by rw [List.length_take, List.length_drop]; omega
  obtain ⟨a', cap', he, hcc, hwf, hcell⟩ := h
  simp only [Value.slice.injEq] at he
  obtain ⟨he, rfl, rfl⟩ := he
  refine ⟨_, c, by rw [hl], by rw [hl]; exact hc, fun i hi => ?_, fun hne => ⟨b, o + f, rfl, ?_⟩⟩
  · rw [hl] at hi
    rw [nth_cut hi]; exact hwf _ (by omega)
  · have hk : 0 < k := by rw [← hl]; exact List.length_pos_iff.2 hne
    obtain ⟨b', o', e, hb, hr⟩ := hcell (by intro e; rw [e] at hf; simp at hf; omega)
    rw [← he] at e
    cases e
    refine ⟨hb, fun i hi => ?_⟩
    rw [hl] at hi
    rw [nth_cut hi, Nat.add_assoc]
    exact hr _ (by omega)
theorem sl_none {w : World} {a : Option Addr} {c : Nat} (hc : c ≤ 9223372036854775807) : Sl w (.slice a 0 c) [] := ⟨a, c, rfl, ⟨Nat.zero_le _, hc⟩, fun i hi => absurd hi (Nat.not_lt_zero i), fun h => absurd rfl h⟩
def RwO (w : World) (l : List Int) (e : Ending) (w' : World) : Prop := ∃ v d, e = .returned v ∧ w' = bw w d ∧ Ow (bw w d) w.heap.size v l
end Go.Proofs.YtnnmfdeeicpdlaaGreat
/- Lists of digits of 28 bits, the least one first: the plain law. No function of the program. -/
namespace Go.Proofs.YtnnmfdeeicpdlaaGreat

def dB : Int := 268435456
theorem dB_pos : 0 < dB := by decide
def valD : List Int → Int
  | [] => 0
  | d :: l => d + dB * valD l
def Dg (l : List Int) : Prop := ∀ d ∈ l, 0 ≤ d ∧ d < dB
def Can (l : List Int) : Prop := Dg l ∧ l.getLast? ≠ some 0
theorem Dg.nil : Dg [] := fun _ h => absurd h List.not_mem_nil
theorem Can.nil : Can [] := ⟨Dg.nil, by simp⟩
theorem Dg.app {a b : List Int} (ha : Dg a) (hb : Dg b) : Dg (a ++ b) := fun d hd => (List.mem_append.1 hd).elim (ha d) (hb d)
theorem Dg.one {d : Int} (h : 0 ≤ d ∧ d < dB) : Dg [d] := fun x hx => by rw [List.mem_singleton.1 hx]; exact h
theorem Dg.take {l : List Int} (h : Dg l) (k : Nat) : Dg (l.take k) := fun d hd => h d (List.mem_of_mem_take hd)
theorem Dg.drop {l : List Int} (h : Dg l) (k : Nat) : Dg (l.drop k) := fun d hd => h d (List.mem_of_mem_drop hd)
theorem Dg.tail {d : Int} {l : List Int} (h : Dg (d :: l)) : Dg l := fun x hx => h x (List.mem_cons_of_mem _ hx)
theorem Dg.nth {l : List Int} (h : Dg l) (i : Nat) : 0 ≤ nth l i ∧ nth l i < dB := by
  by_cases hi : i < l.length
  · have : Go.Proofs.YtnnmfdeeicpdlaaGreat.nth l i = l[i] := by unfold Go.Proofs.YtnnmfdeeicpdlaaGreat.nth; rw [List.getD_eq_getElem?_getD, List.getElem?_eq_getElem hi]; rfl
    rw [this]; exact h _ (List.getElem_mem hi)
  · have : Go.Proofs.YtnnmfdeeicpdlaaGreat.nth l i = 0 := by unfold Go.Proofs.YtnnmfdeeicpdlaaGreat.nth; rw [List.getD_eq_getElem?_getD, List.getElem?_eq_none (by omega)]; rfl
    rw [this]; exact ⟨Int.le_refl _, dB_pos⟩
theorem valD_app : ∀ (a b : List Int), valD (a ++ b) = valD a + dB ^ a.length * valD b
  | [], b => by simp [valD]
  | d :: a, b => by
    rw [List.cons_append, valD, valD, valD_app a b, List.length_cons, Int.pow_succ, Int.mul_add, Int.add_assoc, Int.mul_comm (dB ^ a.length) dB, Int.mul_assoc]
theorem valD_one (d : Int) : valD [d] = d := by simp [valD]
theorem valD_snoc (l : List Int) (d : Int) : valD (l ++ [d]) = valD l + dB ^ l.length * d := by rw [valD_app, valD_one]
theorem dB_pow_pos (k : Nat) : 0 < dB ^ k := Int.pow_pos dB_pos
theorem valD_bd : ∀ {l : List Int}, Dg l → 0 ≤ valD l ∧ valD l < dB ^ l.length
  | [], _ => by simp [valD]
  | d :: l, h => by
    obtain ⟨h1, h2⟩ := valD_bd h.tail
    obtain ⟨h3, h4⟩ := h d (List.mem_cons_self ..)
    rw [valD, List.length_cons, Int.pow_succ, Int.mul_comm]
    have hp := dB_pos
    have k1 : 0 ≤ valD l * dB := Int.mul_nonneg h1 (Int.le_of_lt hp)
    have k2 : (valD l + 1) * dB ≤ dB ^ l.length * dB := Int.mul_le_mul_of_nonneg_right h2 (Int.le_of_lt hp)
    rw [Int.add_mul, Int.one_mul] at k2
    omega
theorem take_snoc {l : List Int} {i : Nat} (h : i < l.length) : l.take (i + 1) = l.take i ++ [nth l i] := by
  have : nth l i = l[i] := by unfold nth; rw [List.getD_eq_getElem?_getD, List.getElem?_eq_getElem h]; rfl
  rw [List.take_add_one, List.getElem?_eq_getElem h, this]; rfl
theorem valD_take {l : List Int} (i : Nat) : valD (l.take (i + 1)) = valD (l.take i) + dB ^ i * nth l i := by
  by_cases h : i < l.length
  · rw [take_snoc h, valD_snoc, List.length_take, Nat.min_eq_left (by omega)]
  · have : nth l i = 0 := by unfold nth; rw [List.getD_eq_getElem?_getD, List.getElem?_eq_none (by omega)]; rfl
    rw [this, Int.mul_zero, Int.add_zero, List.take_of_length_le (by omega), List.take_of_length_le (by omega)]
theorem Can.last {l : List Int} (h : Can l) (hl : l ≠ []) : 0 < nth l (l.length - 1) := by
  have hp := List.length_pos_iff.2 hl
  have h1 : nth l (l.length - 1) = l.getLast hl := by
    rw [List.getLast_eq_getElem]; unfold nth
    rw [List.getD_eq_getElem?_getD, List.getElem?_eq_getElem (by omega)]; rfl
  have h2 := h.2
  rw [List.getLast?_eq_some_getLast hl] at h2
  have h3 := (h.1.nth (l.length - 1)).1
  rw [h1] at h3 ⊢
  have : l.getLast hl ≠ 0 := fun e => h2 (by rw [e])
  omega
theorem Can.low {l : List Int} (h : Can l) (hl : l ≠ []) : dB ^ (l.length - 1) ≤ valD l := by
  have hp := List.length_pos_iff.2 hl
  have h1 := h.last hl
  have h2 : valD l = valD (l.take (l.length - 1)) + dB ^ (l.length - 1) * nth l (l.length - 1) := by
    have := valD_take (l := l) (l.length - 1)
    rw [Nat.sub_add_cancel hp, List.take_length] at this
    exact this
  have h3 := (valD_bd (h.1.take (l.length - 1))).1
  have h4 : dB ^ (l.length - 1) * 1 ≤ dB ^ (l.length - 1) * nth l (l.length - 1) := Int.mul_le_mul_of_nonneg_left h1 (Int.le_of_lt (dB_pow_pos _))
  rw [Int.mul_one] at h4
  omega
theorem Can.zero {l : List Int} (h : Can l) (hv : valD l = 0) : l = [] := by
  by_cases hl : l = []
  · exact hl
  · have := h.low hl
    have := dB_pow_pos (l.length - 1)
    omega
theorem dB_pow_le {a b : Nat} (h : a ≤ b) : dB ^ a ≤ dB ^ b := by
  obtain ⟨c, rfl⟩ := Nat.le.dest h
  rw [Int.pow_add]
  have := Int.mul_le_mul_of_nonneg_left (show 1 ≤ dB ^ c from dB_pow_pos c) (Int.le_of_lt (dB_pow_pos a))
  rw [Int.mul_one] at this
  exact this
theorem Can.short {a b : List Int} (ha : Dg a) (hb : Can b) (h : a.length < b.length) : valD a < valD b := by
  have h1 := (valD_bd ha).2
  have h2 := hb.low (by rintro rfl; simp at h)
  have h3 := dB_pow_le (a := a.length) (b := b.length - 1) (by omega)
  omega
theorem Can.snoc {l : List Int} {d : Int} (h : Dg l) (hd : 0 < d) (hd2 : d < dB) : Can (l ++ [d]) := by
  refine ⟨h.app (Dg.one ⟨by omega, hd2⟩), ?_⟩
  rw [List.getLast?_append]
  simp; omega
def trimD (l : List Int) : List Int := (l.reverse.dropWhile (· == 0)).reverse
theorem trim_snoc (l : List Int) (d : Int) : trimD (l ++ [d]) = if d = 0 then trimD l else l ++ [d] := by
  unfold trimD
  rw [List.reverse_append, List.reverse_singleton, List.singleton_append, List.dropWhile_cons]
  by_cases h : d = 0
  · subst h; simp
  · simp [h]
theorem trim_nil : trimD [] = [] := rfl
theorem trim_ok : ∀ (n : Nat) (l : List Int), l.length = n → Dg l → Can (trimD l) ∧ valD (trimD l) = valD l
  | 0, l, h, _ => by
    obtain rfl := List.eq_nil_of_length_eq_zero h
    exact ⟨Can.nil, rfl⟩
  | n + 1, l, h, hd => by
    have hl : l ≠ [] := by rintro rfl; simp at h
    obtain ⟨l', d, rfl⟩ : ∃ l' d, l = l' ++ [d] := ⟨l.dropLast, l.getLast hl, (List.dropLast_concat_getLast hl).symm⟩
    have hd' : Dg l' := fun x hx => hd x (List.mem_append_left _ hx)
    have hdd := hd d (List.mem_append_right _ (List.mem_singleton.2 rfl))
    rw [List.length_append, List.length_singleton] at h
    obtain ⟨i1, i2⟩ := trim_ok n l' (by omega) hd'
    rw [trim_snoc]
    by_cases h0 : d = 0
    · rw [if_pos h0, valD_snoc, h0, Int.mul_zero, Int.add_zero]; exact ⟨i1, i2⟩
    · rw [if_neg h0]; exact ⟨Can.snoc hd' (by omega) hdd.2, rfl⟩
theorem trim_len (l : List Int) : (trimD l).length ≤ l.length := by
  unfold trimD
  rw [List.length_reverse]
  have := (List.dropWhile_sublist (p := (· == 0)) (l := l.reverse)).length_le
  rw [List.length_reverse] at this; exact this
end Go.Proofs.YtnnmfdeeicpdlaaGreat
/- Digits: order, sum, difference, product, quotient, step by step. The plain law. No function of the program. -/
namespace Go.Proofs.YtnnmfdeeicpdlaaGreat

theorem nth_out {l : List Int} {i : Nat} (h : l.length ≤ i) : nth l i = 0 := by unfold nth; rw [List.getD_eq_getElem?_getD, List.getElem?_eq_none h]; rfl
theorem nth_in {l : List Int} {i : Nat} (h : i < l.length) : nth l i = l[i] := by unfold nth; rw [List.getD_eq_getElem?_getD, List.getElem?_eq_getElem h]; rfl
theorem valD_split {l : List Int} {i : Nat} (h : i < l.length) : valD l = valD (l.take i) + dB ^ i * nth l i + dB ^ (i + 1) * valD (l.drop (i + 1)) := by
  have e : valD l = valD (l.take (i + 1)) + dB ^ (i + 1) * valD (l.drop (i + 1)) := by
    have := valD_app (l.take (i + 1)) (l.drop (i + 1))
    rw [List.take_append_drop, List.length_take, Nat.min_eq_left (by omega)] at this
    exact this
  rw [e, valD_take]
theorem ord_diff {a b : List Int} (ha : Dg a) (hb : Dg b) (hl : a.length = b.length) {i : Nat} (hi : i < a.length) (hd : a.drop (i + 1) = b.drop (i + 1)) (h : nth a i < nth b i) : valD a < valD b := by
  rw [valD_split hi, valD_split (l := b) (i := i) (by omega), hd]
  have h1 := (valD_bd (ha.take i)).2
  have h2 := (valD_bd (hb.take i)).1
  rw [List.length_take, Nat.min_eq_left (by omega)] at h1
  have hp := dB_pow_pos i
  have h3 := Int.mul_le_mul_of_nonneg_left (show nth a i + 1 ≤ nth b i from h) (Int.le_of_lt hp)
  rw [Int.mul_add, Int.mul_one] at h3
  omega
theorem drop_step {a b : List Int} (hl : a.length = b.length) {i : Nat} (hi : i < a.length) (hd : a.drop (i + 1) = b.drop (i + 1)) (h : nth a i = nth b i) : a.drop i = b.drop i := by
  have hi2 : i < b.length := by omega
  rw [List.drop_eq_getElem_cons hi, List.drop_eq_getElem_cons hi2, hd, ← nth_in hi, ← nth_in hi2, h]
def ordI (x y : Int) : Int := if x < y then -1 else if y < x then 1 else 0
structure SumI (a b : List Int) (i : Nat) (out : List Int) (c : Int) : Prop where
  len : out.length = i
  dg : Dg out
  c0 : 0 ≤ c
  c1 : c ≤ 1
  val : valD out + dB ^ i * c = valD (a.take i) + valD (b.take i)
  can : a.length ≤ i → b.length ≤ i → c = 0 → Can out
theorem SumI.start (a b : List Int) : SumI a b 0 [] 0 := ⟨rfl, Dg.nil, Int.le_refl _, by decide, by simp [valD], fun _ _ _ => Can.nil⟩
theorem SumI.step {a b : List Int} {i : Nat} {out : List Int} {c : Int} (ha : Can a) (hb : Can b) (h : SumI a b i out c) (hgo : i < a.length ∨ i < b.length ∨ 0 < c) : SumI a b (i + 1) (out ++ [(c + nth a i + nth b i) % dB]) ((c + nth a i + nth b i) / dB) := by
  obtain ⟨a0, a1⟩ := ha.1.nth i
  obtain ⟨b0, b1⟩ := hb.1.nth i
  have hc0 := h.c0
  have hc1 := h.c1
  have hB : dB = 268435456 := rfl
  obtain ⟨d, hd⟩ : ∃ d, c + nth a i + nth b i = d := ⟨_, rfl⟩
  rw [hd]
  have m0 : 0 ≤ d % dB := Int.emod_nonneg _ (by omega)
  have m1 : d % dB < dB := Int.emod_lt_of_pos _ (by omega)
  have e1 : d = dB * (d / dB) + d % dB := (Int.mul_ediv_add_emod d dB).symm
  refine ⟨by rw [List.length_append, h.len]; rfl, h.dg.app (Dg.one ⟨m0, m1⟩), ?_, ?_, ?_, fun ka kb k0 => ?_⟩
  · rw [hB]; omega
  · have a2 := a1
    have b2 := b1
    rw [hB] at a2 b2 ⊢
    omega
  · rw [valD_snoc, h.len, valD_take, valD_take, Int.pow_succ, Int.mul_assoc]
    have h1 := h.val
    have h2 : dB ^ i * (d % dB) + dB ^ i * (dB * (d / dB)) = dB ^ i * c + dB ^ i * nth a i + dB ^ i * nth b i := by
      rw [← Int.mul_add, ← Int.mul_add, ← Int.mul_add, hd]
      congr 1; omega
    omega
  · have hlt : d < dB := by
      rw [k0, Int.mul_zero, Int.zero_add] at e1
      exact Int.lt_of_le_of_lt (Int.le_of_eq e1) m1
    have hm : d % dB = d := Int.emod_eq_of_lt (by omega) hlt
    rw [hm]
    refine Can.snoc h.dg ?_ hlt
    rcases hgo with hgo | hgo | hgo
    · have hne : a ≠ [] := by rintro rfl; simp at hgo
      have := ha.last hne
      rw [show a.length - 1 = i by omega] at this
      omega
    · have hne : b ≠ [] := by rintro rfl; simp at hgo
      have := hb.last hne
      rw [show b.length - 1 = i by omega] at this
      omega
    · omega
theorem SumI.done {a b : List Int} {i : Nat} {out : List Int} {c : Int} (h : SumI a b i out c) (h1 : a.length ≤ i) (h2 : b.length ≤ i) (h3 : ¬ 0 < c) : Can out ∧ valD out = valD a + valD b := by
  have hc : c = 0 := by have := h.c0; omega
  have hv := h.val
  rw [hc, Int.mul_zero, List.take_of_length_le h1, List.take_of_length_le h2] at hv
  exact ⟨h.can h1 h2 hc, by omega⟩
structure LesI (a b : List Int) (i : Nat) (out : List Int) (c : Int) : Prop where
  len : out.length = i
  dg : Dg out
  c01 : c = 0 ∨ c = 1
  val : valD out + valD (b.take i) = valD (a.take i) + dB ^ i * c
theorem LesI.start (a b : List Int) : LesI a b 0 [] 0 := ⟨rfl, Dg.nil, Or.inl rfl, by simp [valD]⟩
theorem LesI.step {a b : List Int} {i : Nat} {out : List Int} {c d e f : Int} (ha : Dg a) (hb : Dg b) (h : LesI a b i out c) (hd : d = nth a i - c - nth b i) (he : e = if d < 0 then d + dB else d) (hf : f = if d < 0 then 1 else 0) : LesI a b (i + 1) (out ++ [e]) f := by
  obtain ⟨a0, a1⟩ := ha.nth i
  obtain ⟨b0, b1⟩ := hb.nth i
  have hc := h.c01
  have hB : dB = 268435456 := rfl
  have hE : 0 ≤ e ∧ e < dB ∧ e = nth a i - c - nth b i + dB * f ∧ (f = 0 ∨ f = 1) := by
    by_cases h0 : d < 0
    · rw [if_pos h0] at he hf; rw [hf, Int.mul_one]; omega
    · rw [if_neg h0] at he hf; rw [hf, Int.mul_zero]; omega
  refine ⟨by rw [List.length_append, h.len]; rfl, h.dg.app (Dg.one ⟨hE.1, hE.2.1⟩), hE.2.2.2, ?_⟩
  rw [valD_snoc, h.len, valD_take, valD_take, Int.pow_succ, Int.mul_assoc]
  have h1 := h.val
  have h2 : dB ^ i * e + dB ^ i * nth b i = dB ^ i * nth a i + dB ^ i * (dB * f) - dB ^ i * c := by
    rw [hE.2.2.1, ← Int.mul_add, ← Int.mul_add, ← Int.mul_sub]
    congr 1; omega
  omega
theorem LesI.done {a b : List Int} {i : Nat} {out : List Int} {c : Int} (h : LesI a b i out c) (h1 : a.length = i) (h2 : b.length ≤ i) (hv : valD b ≤ valD a) : valD out = valD a - valD b := by
  have hw := h.val
  rw [List.take_of_length_le (l := a) (by omega), List.take_of_length_le (l := b) h2] at hw
  have h3 := (valD_bd h.dg).2
  rw [h.len] at h3
  have h4 := dB_pow_pos i
  rcases h.c01 with hc | hc
  · rw [hc, Int.mul_zero] at hw; omega
  · rw [hc, Int.mul_one] at hw; omega
theorem valD_set : ∀ {l : List Int} {j : Nat}, j < l.length → ∀ v, valD (l.set j v) = valD l + dB ^ j * (v - nth l j)
  | [], j, h, _ => by simp at h
  | d :: l, 0, _, v => by
    rw [List.set_cons_zero, valD, valD]
    show _ = d + dB * valD l + dB ^ 0 * (v - d)
    rw [Int.pow_zero, Int.one_mul]; omega
  | d :: l, j + 1, h, v => by
    rw [List.set_cons_succ, valD, valD, valD_set (by simpa using h) v]
    show _ = d + dB * valD l + dB ^ (j + 1) * (v - nth l j)
    rw [Int.mul_add, ← Int.mul_assoc, Int.pow_succ, Int.mul_comm (dB ^ j) dB]; omega
theorem Dg.set {l : List Int} (h : Dg l) (j : Nat) {v : Int} (hv : 0 ≤ v ∧ v < dB) : Dg (l.set j v) := fun d hd => by
  rcases List.mem_or_eq_of_mem_set hd with hd | rfl
  · exact h d hd
  · exact hv
theorem valD_zero (n : Nat) : valD (List.replicate n 0) = 0 := by
  induction n with
  | zero => rfl
  | succ n ih => rw [List.replicate_succ, valD, ih]; rfl
end Go.Proofs.YtnnmfdeeicpdlaaGreat
/- The reference's digits: Trim, Order. -/
namespace Go.Proofs.YtnnmfdeeicpdlaaGreat
set_option maxHeartbeats 2000000
set_option maxRecDepth 100000
open Go.RowKit

theorem trim_take {l : List Int} {n : Nat} (h : n < l.length) : trimD (l.take (n + 1)) = if nth l n = 0 then trimD (l.take n) else l.take (n + 1) := by
  rw [take_snoc h, trim_snoc]
theorem sl_take {w : World} {b cap n : Nat} {l : List Int} (k c : Nat) (h : Sl w (.slice (some ⟨b, 0, none⟩) n cap) l) (hk : k ≤ l.length) (hc : k ≤ c ∧ c ≤ 9223372036854775807) : Sl w (.slice (some ⟨b, 0, none⟩) k c) (l.take k) := by
  have := sl_cut (f := 0) (k := k) h (by omega) hc
  rwa [List.drop_zero, Nat.add_zero] at this
theorem dg_Trim (v : Value) (l : List Int) (w : World) (base : Nat) (ho : Ow w base v l) (hn : l.length ≤ 1000000) :
    Calls Tryz.prog 348 #[v] w (RwO w (trimD l)) := by
  have HS := Lib.hid ho.sl
  have HO := Lib.hid ho
  by_cases h0 : l.length = 0
  · obtain rfl : l = [] := List.length_eq_zero_iff.1 h0
    rw [trim_nil]
    rcases ho.1.2 with ⟨rfl, hz⟩ | ⟨g, cap, cur, rfl, h1, h2, h3, h4, h5⟩
    · clear ho HO h0
      refine lay_start ?_
      go_enter Tryz.func348, Tryz.ntmps348
      go_wp2_with fail
      go_loopw [3] (fun v3 wr => v3 = .int .i64 0 ∧ ∃ dd : Ext, wr = lay w [.inr dd]) (fun v3 _ => (intOf v3).toNat)
      case atStart => exact ⟨rfl, noExt _, (bw_noExt _).symm⟩
      case round =>
        obtain ⟨rfl, dd, rfl⟩ := hrel
        go_wp2_with (at_builtin; refine push_sl rfl _ _ rfl (lay w [.inr dd]) _ _ _ _ _ _ [] ?_ (ow_empty (L := [.inr dd])) (HS.out.lay _) (fun _ => rfl) rfl rfl (by simp) ?_; exact lay_below (A := [_]); intro v' d' hv')
        go_ret
        obtain ⟨d3, e3⟩ : ∃ x, lay w [.inr d', .inr dd] = lay w [.inr x] := ⟨_, bw_bw _ _ _⟩
        rw [lay_bw, e3] at hv'
        exact ⟨_, d3, rfl, e3, hv'.le (lay_below (w := w) (A := [.inr dd]) (B := [])).size⟩
    · clear ho HO h0 h1 h2 h3 h4 h5
      refine lay_start ?_
      go_enter Tryz.func348, Tryz.ntmps348
      go_wp2_with fail
      go_loopw [3] (fun v3 wr => v3 = .int .i64 0 ∧ ∃ dd : Ext, wr = lay w [.inr dd]) (fun v3 _ => (intOf v3).toNat)
      case atStart => exact ⟨rfl, noExt _, (bw_noExt _).symm⟩
      case round =>
        obtain ⟨rfl, dd, rfl⟩ := hrel
        go_wp2_with (at_builtin; refine push_sl rfl _ _ rfl (lay w [.inr dd]) _ _ _ _ _ _ [] ?_ (ow_empty (L := [.inr dd])) (HS.out.lay _) (fun h => by cases h) rfl rfl (by simp) ?_; exact lay_below (A := [_]); intro v' d' hv')
        go_ret
        obtain ⟨d3, e3⟩ : ∃ x, lay w [.inr d', .inr dd] = lay w [.inr x] := ⟨_, bw_bw _ _ _⟩
        rw [lay_bw, e3] at hv'
        exact ⟨_, d3, rfl, e3, hv'.le (lay_below (w := w) (A := [.inr dd]) (B := [])).size⟩
  · obtain ⟨g, cap, rfl, hg1, hg2, hcap⟩ := ho.form1 (by omega)
    have HC := Lib.hid (fun j (hj : j < l.length) => ho.cell (i := j) hj)
    obtain ⟨m, hm⟩ : ∃ m, l.length = m := ⟨_, rfl⟩
    rw [hm] at HS HO HC hcap h0 hn ⊢
    have HM := Lib.hid hm
    obtain ⟨T, hT⟩ : ∃ T, trimD l = T := ⟨_, rfl⟩
    rw [hT]
    have HT := Lib.hid hT
    clear hm hT ho
    refine lay_start ?_
    go_enter Tryz.func348, Tryz.ntmps348
    go_wp2_with fail
    go_loopw [3] (fun v3 wr => ∃ (n : Nat) (dd : Ext), n ≤ m ∧ v3 = .int .i64 (n : Int) ∧ wr = lay w [.inr dd] ∧ trimD (l.take n) = T) (fun v3 _ => (intOf v3).toNat)
    case atStart => exact ⟨m, noExt _, Nat.le_refl _, rfl, (bw_noExt _).symm, by rw [← HM.out, List.take_length]; exact HT.out⟩
    case round =>
      obtain ⟨n, dd, hnm, rfl, rfl, hI⟩ := hrel
      have HI := Lib.hid hI
      clear hI
      by_cases hn0 : n = 0
      · subst hn0
        have HR : Hid (T = []) := Lib.hid (by rw [← HI.out, List.take_zero]; rfl)
        have HL := Lib.hid (sl_none (w := lay w [.inl (.cells #[] 3 (0, 0)), .inr dd]) (a := some ⟨g, 0, none⟩) (c := cap) (by omega))
        go_wp2_with (at_builtin; refine push_sl rfl _ _ rfl (lay w [.inr dd]) _ _ _ _ _ _ [] ?_ (ow_empty (L := [.inr dd])) HL.out (fun h => by cases h) rfl rfl (by simp) ?_; exact lay_below (A := [_]); intro v' d' hv')
        go_ret
        obtain ⟨d3, e3⟩ : ∃ x, lay w [.inr d', .inr dd] = lay w [.inr x] := ⟨_, bw_bw _ _ _⟩
        exact ⟨_, d3, rfl, e3, by rw [HR.out]; rw [lay_bw, e3] at hv'; exact hv'.le (lay_below (w := w) (A := [.inr dd]) (B := [])).size⟩
      · obtain ⟨j, hj⟩ : ∃ j, n = j + 1 := ⟨n - 1, by omega⟩
        subst hj
        have e0 := HC.out j (by omega)
        have x1 : (0 : Int) < ((j + 1 : Nat) : Int) := by omega
        have x2 : decide ((0 : Int) < ((j + 1 : Nat) : Int)) = true := decide_eq_true x1
        have x3 : ((j + 1 : Nat) : Int) - 1 = (j : Int) := by omega
        have x4 : (j : Int) < (m : Int) := by omega
        have x5 : IntKind.i64.wrap (j : Int) = (j : Int) := IntWalk.i64_in _ (by omega)
        have HTt := Lib.hid (trim_take (l := l) (n := j) (by rw [HM.out]; omega))
        generalize nth l j = Q at *
        obtain ⟨J, hJ⟩ : ∃ J : Int, ((j + 1 : Nat) : Int) = J := ⟨_, rfl⟩
        rw [hJ] at x1 x2 x3 ⊢
        by_cases hz : Q = 0
        · have z1 : (Q == 0) = true := beq_iff_eq.2 hz
          have HN : Hid (trimD (l.take j) = T) := Lib.hid (by have := HTt.out; rw [if_pos hz] at this; rw [← this]; exact HI.out)
          go_wp2_with fail
          go_roundw
          case rel => exact ⟨j, dd, by omega, rfl, rfl, HN.out⟩
          case measure => simp [intOf]; omega
        · have z1 : (Q == 0) = false := beq_eq_false_iff_ne.2 hz
          have HR : Hid (T = l.take (j + 1)) := Lib.hid (by have := HTt.out; rw [if_neg hz] at this; rw [← this]; exact HI.out.symm)
          have hJ2 : J.toNat = j + 1 := by omega
          have x6 : 0 ≤ J := by omega
          have x7 : J ≤ (cap : Int) := by omega
          have x8 : ¬ (cap : Int) < J := by omega
          have HL := Lib.hid (fun L c (hc : j + 1 ≤ c ∧ c ≤ 9223372036854775807) => sl_take (j + 1) c (HS.out.lay L) (by rw [HM.out]; omega) hc)
          go_wp2_with (at_builtin; refine push_sl rfl _ _ rfl (lay w [.inr dd]) _ _ _ _ _ _ (l.take (j + 1)) ?_ (ow_empty (L := [.inr dd])) (HL.out _ _ (by omega)) (fun h => by cases h) rfl rfl (by rw [List.length_take]; simp; omega) ?_; exact lay_below (A := [_]); intro v' d' hv')
          go_ret
          obtain ⟨d3, e3⟩ : ∃ x, lay w [.inr d', .inr dd] = lay w [.inr x] := ⟨_, bw_bw _ _ _⟩
          exact ⟨_, d3, rfl, e3, by rw [HR.out]; rw [lay_bw, e3] at hv'; exact hv'.le (lay_below (w := w) (A := [.inr dd]) (B := [])).size⟩
theorem drop_none {a : List Int} {n : Nat} (h : a.length ≤ n) : a.drop n = [] := List.drop_eq_nil_of_le h
theorem ord_eq (x : Int) : ordI x x = 0 := by unfold ordI; rw [if_neg (by omega), if_neg (by omega)]
theorem ord_lt {x y : Int} (h : x < y) : ordI x y = -1 := if_pos h
theorem ord_gt {x y : Int} (h : y < x) : ordI x y = 1 := by unfold ordI; rw [if_neg (by omega), if_pos h]
theorem dg_Order (va vb : Value) (a b : List Int) (w : World) (ha : Sl w va a) (hb : Sl w vb b) (ca : Can a) (cb : Can b) :
    Calls Tryz.prog 305 #[va, vb] w fun e w' => e = .returned (.int .i64 (ordI (valD a) (valD b))) ∧ ∃ d, w' = bw w d := by
  obtain ⟨a1, c1, rfl, hc1, hw1, hx1⟩ := ha
  obtain ⟨a2, c2, rfl, hc2, hw2, hx2⟩ := hb
  have HCA := Lib.hid (And.intro ca cb)
  obtain ⟨m, hm⟩ : ∃ m, a.length = m := ⟨_, rfl⟩
  obtain ⟨q, hq⟩ : ∃ q, b.length = q := ⟨_, rfl⟩
  rw [hm] at hc1 ⊢
  rw [hq] at hc2 ⊢
  by_cases e : m = q
  · subst e
    have t1 : ((m : Int) == (m : Int)) = true := beq_iff_eq.2 rfl
    have t2 : ((m : Int) != (m : Int)) = false := by rw [bne, t1]; rfl
    have HE := Lib.hid (And.intro hm hq)
    obtain ⟨R, hR⟩ : ∃ R, ordI (valD a) (valD b) = R := ⟨_, rfl⟩
    rw [hR]
    have HR := Lib.hid hR
    clear hR
    by_cases hm0 : m = 0
    · subst hm0
      have : R = 0 := by rw [← HR.out, List.length_eq_zero_iff.1 hm, List.length_eq_zero_iff.1 hq]; exact ord_eq _
      subst this
      clear hm hq hx1 hx2
      refine lay_start ?_
      go_enter Tryz.func305, Tryz.ntmps305
      go_wp2_with fail
      go_loopw [5] (fun v5 wr => v5 = .int .i64 (-1) ∧ ∃ dd, wr = lay w [.inr dd]) (fun v5 _ => (intOf v5).toNat)
      case atStart => exact ⟨rfl, noExt _, (bw_noExt _).symm⟩
      case round =>
        obtain ⟨rfl, dd, rfl⟩ := hrel
        go_wp2_with fail
        go_ret
        exact ⟨rfl, lay_ex _ _⟩
    · obtain ⟨b1, o1, rfl, hb1, hcell1⟩ := hx1 (by intro h; rw [h] at hm; simp at hm; omega)
      obtain ⟨b2, o2, rfl, hb2, hcell2⟩ := hx2 (by intro h; rw [h] at hq; simp at hq; omega)
      rw [hm] at hcell1
      rw [hq] at hcell2
      have K1 := Lib.hid hcell1
      have K2 := Lib.hid hcell2
      clear hm hq hcell1 hcell2 hw1 hw2
      obtain ⟨M, hM⟩ : ∃ M : Int, (m : Int) - 1 = M := ⟨_, rfl⟩
      have kM : IntKind.i64.wrap M = M := IntWalk.i64_in _ (by omega)
      refine lay_start ?_
      go_enter Tryz.func305, Tryz.ntmps305
      go_wp2_with fail
      go_loopw [5] (fun v5 wr => ∃ (n : Nat) (N : Int) (dd : Ext), n ≤ m ∧ N = (n : Int) - 1 ∧ v5 = .int .i64 N ∧ wr = lay w [.inr dd] ∧ a.drop n = b.drop n) (fun v5 _ => (intOf v5 + 1).toNat)
      case atStart => exact ⟨m, M, noExt _, Nat.le_refl _, hM.symm, rfl, (bw_noExt _).symm, by rw [drop_none (Nat.le_of_eq HE.out.1), drop_none (Nat.le_of_eq HE.out.2)]⟩
      case round =>
        obtain ⟨n, N, dd, hnm, hN, rfl, rfl, hI⟩ := hrel
        have HI := Lib.hid hI
        clear hI
        by_cases hn0 : n = 0
        · subst hn0
          obtain rfl : N = -1 := by omega
          have : R = 0 := by
            have := HI.out
            rw [List.drop_zero, List.drop_zero] at this
            rw [← HR.out, this]; exact ord_eq _
          subst this
          clear hM kM hN
          go_wp2_with fail
          go_ret
          exact ⟨rfl, lay_ex _ _⟩
        · obtain ⟨j, rfl⟩ : ∃ j, n = j + 1 := ⟨n - 1, by omega⟩
          obtain rfl : N = (j : Int) := by omega
          clear hN hM kM
          have e1 := K1.out j (by omega)
          have e2 := K2.out j (by omega)
          have x1 : (0 : Int) ≤ (j : Int) := by omega
          have x2 : (j : Int) < (m : Int) := by omega
          have HJ : Hid (j < a.length ∧ a.length = b.length) := Lib.hid ⟨by rw [HE.out.1]; omega, by rw [HE.out.1, HE.out.2]⟩
          rcases Int.lt_trichotomy (nth a j) (nth b j) with hlt | heq | hgt
          · have : R = -1 := by rw [← HR.out]; exact ord_lt (ord_diff HCA.out.1.1 HCA.out.2.1 HJ.out.2 HJ.out.1 HI.out hlt)
            subst this
            generalize nth a j = A at *
            generalize nth b j = B at *
            go_wp2_with fail
            refine region_bw (by kernel_rfl) (by kernel_rfl) ?_
            repeat (go_big_quiet_step ((first | fail)))
            refine wpQuiet_nil ?_
            rintro w' ⟨d, rfl⟩
            rw [lay_bw]
            go_wp2_with fail
            go_ret
            exact ⟨rfl, lay_ex _ _⟩
          · have HD := Lib.hid (drop_step HJ.out.2 HJ.out.1 HI.out heq)
            have g1 : ¬ nth a j < nth b j := by omega
            have g2 : ¬ nth b j < nth a j := by omega
            obtain ⟨N2, hN2⟩ : ∃ N2 : Int, (j : Int) - 1 = N2 := ⟨_, rfl⟩
            have kN : IntKind.i64.wrap N2 = N2 := IntWalk.i64_in _ (by omega)
            clear heq
            generalize nth a j = A at *
            generalize nth b j = B at *
            go_wp2_with fail
            refine region_bw (by kernel_rfl) (by kernel_rfl) ?_
            repeat (go_big_quiet_step ((first | fail)))
            refine wpQuiet_nil ?_
            rintro w' ⟨r1, rfl⟩
            rw [lay_bw]
            go_wp2_with fail
            refine region_bw (by kernel_rfl) (by kernel_rfl) ?_
            repeat (go_big_quiet_step ((first | fail)))
            refine wpQuiet_nil ?_
            rintro w' ⟨r2, rfl⟩
            rw [lay_bw]
            obtain ⟨d3, e3⟩ : ∃ x, lay w [.inr r2, .inr r1, .inr dd] = lay w [.inr x] := by
              obtain ⟨y, hy⟩ := lay_ex w [.inr r2, .inr r1, .inr dd]
              exact ⟨y, hy⟩
            rw [e3]
            clear e3
            go_wp2_with fail
            go_roundw
            case rel => exact ⟨j, N2, d3, by omega, hN2.symm, rfl, rfl, HD.out⟩
            case measure => simp [intOf]; omega
          · have : R = 1 := by rw [← HR.out]; exact ord_gt (ord_diff HCA.out.2.1 HCA.out.1.1 HJ.out.2.symm (by rw [← HJ.out.2]; exact HJ.out.1) HI.out.symm hgt)
            subst this
            have g1 : ¬ nth a j < nth b j := by omega
            generalize nth a j = A at *
            generalize nth b j = B at *
            go_wp2_with fail
            refine region_bw (by kernel_rfl) (by kernel_rfl) ?_
            repeat (go_big_quiet_step ((first | fail)))
            refine wpQuiet_nil ?_
            rintro w' ⟨d, rfl⟩
            rw [lay_bw]
            go_wp2_with fail
            refine region_bw (by kernel_rfl) (by kernel_rfl) ?_
            repeat (go_big_quiet_step ((first | fail)))
            refine wpQuiet_nil ?_
            rintro w' ⟨d, rfl⟩
            rw [lay_bw]
            go_wp2_with fail
            go_ret
            exact ⟨rfl, lay_ex _ _⟩
  · have t1 : ((m : Int) == (q : Int)) = false := beq_eq_false_iff_ne.2 (by omega)
    have t2 : ((m : Int) != (q : Int)) = true := by rw [bne, t1]; rfl
    by_cases hlt : m < q
    · rw [ord_lt (HCA.out.2.short HCA.out.1.1 (by omega))]
      have x1 : (m : Int) < (q : Int) := by omega
      clear hm hq hx1 hx2
      refine lay_start ?_
      go_enter Tryz.func305, Tryz.ntmps305
      go_wp2_with fail
      go_ret
      exact ⟨rfl, lay_ex _ _⟩
    · rw [ord_gt (HCA.out.1.short HCA.out.2.1 (by omega))]
      have x1 : ¬ (m : Int) < (q : Int) := by omega
      clear hm hq hx1 hx2
      refine lay_start ?_
      go_enter Tryz.func305, Tryz.ntmps305
      go_wp2_with fail
      go_ret
      exact ⟨rfl, lay_ex _ _⟩
end Go.Proofs.YtnnmfdeeicpdlaaGreat
