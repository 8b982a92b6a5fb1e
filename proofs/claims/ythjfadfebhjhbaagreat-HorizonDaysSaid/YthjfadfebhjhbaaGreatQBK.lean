/- Contracts and plain laws, several texts in one: R6H; Hz2 -/
import Derived.Test.YthjfadfebhjhbaaGreatProg
import Derived.WalkKit
import Derived.WalkSpells
import Derived.WalkLawsBesides
import Derived.Lib.Hide
import Derived.BigQuiet
import Derived.Test.YthjfadfebhjhbaaGreatQAA
import Derived.Test.YthjfadfebhjhbaaGreatQAB
import Derived.Test.YthjfadfebhjhbaaGreatQBE
import Derived.Test.YthjfadfebhjhbaaGreatQBF
import Derived.Test.YthjfadfebhjhbaaGreatQBG
import Derived.Test.YthjfadfebhjhbaaGreatQBI
import Derived.Test.YthjfadfebhjhbaaGreatQBJ
/- Haversines over arcs: the reference's. -/
namespace Go.Proofs.YthjfadfebhjhbaaGreat
open Go.RowKit

end Go.Proofs.YthjfadfebhjhbaaGreat
/- The reference's Altitude of a triangle. -/
namespace Go.Proofs.YthjfadfebhjhbaaGreat
open Go.RowKit

set_option maxHeartbeats 4000000 in
set_option maxRecDepth 100000 in
theorem r25_Sine (a0 a1 b0 b1 c0 c1 : Int) (w : World) (va : validB a0 a1 = true) (vb : validB b0 b1 = true) (vc : validB c0 c1 = true) :
    Calls Tryz.prog 97 #[(.agg #[.int .i64 (a0), .int .i64 (a1), .int .i64 (b0), .int .i64 (b1), .int .i64 (c0), .int .i64 (c1)])] w fun e w' => e = .returned (.agg #[.int .i64 (altS0 a0 a1 b0 b1 c0 c1), .int .i64 (altS1 a0 a1 b0 b1 c0 c1)]) ∧ ∃ d, w' = bw w d := by
  have HSa := Lib.hid (fun W => r6_Sin _ _ va W)
  have HSb := Lib.hid (fun W => r6_Sin _ _ vb W)
  have HCa : Hid (∀ W, Calls _ _ #[(.agg #[.int .i64 (a0), .int .i64 (a1)])] W fun e w' => e = .returned (.agg #[.int .i64 (cosL a0 a1), .int .i64 (cosH a0 a1)]) ∧ _) := Lib.hid (fun W => r6_Cos _ _ va W)
  have HCb : Hid (∀ W, Calls _ _ #[(.agg #[.int .i64 (b0), .int .i64 (b1)])] W fun e w' => e = .returned (.agg #[.int .i64 (cosL b0 b1), .int .i64 (cosH b0 b1)]) ∧ _) := Lib.hid (fun W => r6_Cos _ _ vb W)
  have HCc : Hid (∀ W, Calls _ _ #[(.agg #[.int .i64 (c0), .int .i64 (c1)])] W fun e w' => e = .returned (.agg #[.int .i64 (cosL c0 c1), .int .i64 (cosH c0 c1)]) ∧ _) := Lib.hid (fun W => r6_Cos _ _ vc W)
  have HM1 : Hid (∀ W, Calls _ _ #[_, _] W fun e w' => e = .returned (.agg #[.int .i64 (ccL a0 a1 b0 b1), .int .i64 (ccH a0 a1 b0 b1)]) ∧ _) := Lib.hid (fun W => r25_Times (cosL a0 a1) (cosH a0 a1) (cosL b0 b1) (cosH b0 b1) W (unit_fx (cos_in2 _ _)) (unit_fx (cos_in2 _ _)) (unit_fx (cc_in _ _ _ _)))
  have HM2 : Hid (∀ W, Calls _ _ #[_, _] W fun e w' => e = .returned (.agg #[.int .i64 (c3L a0 a1 b0 b1 c0 c1), .int .i64 (c3H a0 a1 b0 b1 c0 c1)]) ∧ _) := Lib.hid (fun W => r25_Times (ccL a0 a1 b0 b1) (ccH a0 a1 b0 b1) (cosL c0 c1) (cosH c0 c1) W (unit_fx (cc_in _ _ _ _)) (unit_fx (cos_in2 _ _)) (unit_fx (c3_in _ _ _ _ _ _)))
  have HM3 : Hid (∀ W, Calls _ _ #[_, _] W fun e w' => e = .returned (.agg #[.int .i64 (ssL a0 a1 b0 b1), .int .i64 (ssH a0 a1 b0 b1)]) ∧ _) := Lib.hid (fun W => r25_Times (encL a0 a1) (encH a0 a1) (encL b0 b1) (encH b0 b1) W (unit_fx enc_in) (unit_fx enc_in) (unit_fx (ss_in _ _ _ _)))
  have HP : Hid (∀ W, Calls _ _ #[_, _] W fun e w' => e = .returned (.agg #[.int .i64 (altS0 a0 a1 b0 b1 c0 c1), .int .i64 (altS1 a0 a1 b0 b1 c0 c1)]) ∧ _) := Lib.hid (fun W => r25_Plus (ssL a0 a1 b0 b1) (ssH a0 a1 b0 b1) (c3L a0 a1 b0 b1 c0 c1) (c3H a0 a1 b0 b1 c0 c1) W (unit_fx (ss_in _ _ _ _)) (unit_fx (c3_in _ _ _ _ _ _)) (alt_fx _ _ _ _ _ _))
  clear va vb vc
  generalize altS0 a0 a1 b0 b1 c0 c1 = n0 at *
  generalize altS1 a0 a1 b0 b1 c0 c1 = n1 at *
  generalize c3L a0 a1 b0 b1 c0 c1 = u0 at *
  generalize c3H a0 a1 b0 b1 c0 c1 = u1 at *
  generalize ccL a0 a1 b0 b1 = m0 at *
  generalize ccH a0 a1 b0 b1 = m1 at *
  generalize ssL a0 a1 b0 b1 = k0 at *
  generalize ssH a0 a1 b0 b1 = k1 at *
  generalize cosL a0 a1 = p0 at *
  generalize cosH a0 a1 = p1 at *
  generalize cosL b0 b1 = q0 at *
  generalize cosH b0 b1 = q1 at *
  generalize cosL c0 c1 = t0 at *
  generalize cosH c0 c1 = t1 at *
  generalize encL a0 a1 = g0 at *
  generalize encH a0 a1 = g1 at *
  generalize encL b0 b1 = h0 at *
  generalize encH b0 b1 = h1 at *
  refine lay_start ?_
  go_enter Tryz.func97, Tryz.ntmps97
  go_wp2_with fail
  refine region_bw_tail 19 (by kernel_rfl) (by kernel_rfl) ?_
  simp only [List.take_succ_cons, List.take_zero, List.drop_succ_cons, List.drop_zero]
  repeat (go_big_quiet_step ((first | (go_at_call 140; first | ((with_reducible refine bq (HSa.out _) ?_); first | exact (fun d => lay_join _ _ _ d) | exact (fun d => ⟨d, rfl⟩)) | ((with_reducible refine bq (HSb.out _) ?_); first | exact (fun d => lay_join _ _ _ d) | exact (fun d => ⟨d, rfl⟩))) | (go_at_call 141; first | ((with_reducible refine bq (HCa.out _) ?_); first | exact (fun d => lay_join _ _ _ d) | exact (fun d => ⟨d, rfl⟩)) | ((with_reducible refine bq (HCb.out _) ?_); first | exact (fun d => lay_join _ _ _ d) | exact (fun d => ⟨d, rfl⟩)) | ((with_reducible refine bq (HCc.out _) ?_); first | exact (fun d => lay_join _ _ _ d) | exact (fun d => ⟨d, rfl⟩))) | (go_at_call 139; first | ((with_reducible refine bq (HM1.out _) ?_); first | exact (fun d => lay_join _ _ _ d) | exact (fun d => ⟨d, rfl⟩)) | ((with_reducible refine bq (HM2.out _) ?_); first | exact (fun d => lay_join _ _ _ d) | exact (fun d => ⟨d, rfl⟩)) | ((with_reducible refine bq (HM3.out _) ?_); first | exact (fun d => lay_join _ _ _ d) | exact (fun d => ⟨d, rfl⟩))) | (go_at_call 138; ((with_reducible refine bq (HP.out _) ?_); first | exact (fun d => lay_join _ _ _ d) | exact (fun d => ⟨d, rfl⟩))))))
  refine wpQuiet_nil ?_
  rintro w' ⟨d, rfl⟩
  rw [lay_bw]
  go_wp2_with fail
  exact bodyPost_ret (v := (.agg #[.int .i64 (n0), .int .i64 (n1)])) (by simp [results, Tryz.results97, go_sem]) rfl ⟨rfl, lay_ex _ _⟩
set_option maxHeartbeats 2000000 in
set_option maxRecDepth 100000 in
theorem r25_Altitude (a0 a1 b0 b1 c0 c1 : Int) (w : World) (va : validB a0 a1 = true) (vb : validB b0 b1 = true) (vc : validB c0 c1 = true) :
    Calls Tryz.prog 46 #[(.agg #[.int .i64 (a0), .int .i64 (a1), .int .i64 (b0), .int .i64 (b1), .int .i64 (c0), .int .i64 (c1)])] w fun e w' => e = .returned (.agg #[.int .i64 (asL (altS0 a0 a1 b0 b1 c0 c1) (altS1 a0 a1 b0 b1 c0 c1)), .int .i64 (asH (altS0 a0 a1 b0 b1 c0 c1) (altS1 a0 a1 b0 b1 c0 c1))]) ∧ ∃ d, w' = bw w d := by
  have HS := Lib.hid (fun W => r25_Sine a0 a1 b0 b1 c0 c1 W va vb vc)
  have HA := Lib.hid (fun W => r7_Asin (altS0 a0 a1 b0 b1 c0 c1) (altS1 a0 a1 b0 b1 c0 c1) W)
  clear va vb vc
  generalize asL (altS0 a0 a1 b0 b1 c0 c1) (altS1 a0 a1 b0 b1 c0 c1) = r0 at *
  generalize asH (altS0 a0 a1 b0 b1 c0 c1) (altS1 a0 a1 b0 b1 c0 c1) = r1 at *
  generalize asE (altS0 a0 a1 b0 b1 c0 c1) (altS1 a0 a1 b0 b1 c0 c1) = re at *
  generalize altS0 a0 a1 b0 b1 c0 c1 = n0 at *
  generalize altS1 a0 a1 b0 b1 c0 c1 = n1 at *
  refine lay_start ?_
  go_enter Tryz.func46, Tryz.ntmps46
  go_wp2_with (first | (go_at_call 97; refine (HS.out _).mono ?_; rintro e w' ⟨rfl, d1, rfl⟩; rw [lay_bw]) | (go_at_call 96; refine (HA.out _).mono ?_; rintro e w' ⟨rfl, d2, rfl⟩; rw [lay_bw]))
  exact bodyPost_ret (v := (.agg #[.int .i64 (r0), .int .i64 (r1)])) (by simp [results, Tryz.results46, go_sem]) rfl ⟨rfl, lay_ex _ _⟩
end Go.Proofs.YthjfadfebhjhbaaGreat
