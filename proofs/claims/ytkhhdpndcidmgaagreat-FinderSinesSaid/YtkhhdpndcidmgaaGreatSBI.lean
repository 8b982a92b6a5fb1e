/- Contracts and plain laws, several texts in one: CoW; Hz3; As7; As8; As9; F4M; F4S; R25; Rw; R6H; Hz2 -/
import Derived.Test.YtkhhdpndcidmgaaGreatProg
import Derived.WalkKit
import Derived.WalkSpells
import Derived.WalkLawsBesides
import Derived.Lib.Hide
import Derived.BigQuiet
import Derived.Test.YtkhhdpndcidmgaaGreatSAC
import Derived.Test.YtkhhdpndcidmgaaGreatSAD
import Derived.Test.YtkhhdpndcidmgaaGreatSAE
import Derived.Test.YtkhhdpndcidmgaaGreatSAU
import Derived.Test.YtkhhdpndcidmgaaGreatSAV
import Derived.Test.YtkhhdpndcidmgaaGreatSAW
import Derived.Test.YtkhhdpndcidmgaaGreatSBB
import Derived.Test.YtkhhdpndcidmgaaGreatSBC
import Derived.Test.YtkhhdpndcidmgaaGreatSBE
import Derived.Test.YtkhhdpndcidmgaaGreatSBF
import Derived.Test.YtkhhdpndcidmgaaGreatSBH
/- cosine.Valid, altitude, Altitude. -/
namespace Go.Proofs.YtkhhdpndcidmgaaGreat
set_option maxRecDepth 100000
open Go.RowKit

theorem cos_latitude (x0 y0 : Int) (w : World) :
    Calls Tryz.prog 70 #[(.agg #[.int .i64 (x0), .int .i64 (y0)])] w fun e w' => e = .returned (.bool (latB x0 y0)) ∧ ∃ d, w' = bw w d := by
  refine lay_start ?_
  go_enter Tryz.func70, Tryz.ntmps70
  go_wp2_with (go_at_call 32; refine (angle_Valid _ _ _).mono ?_; rintro e w' ⟨rfl, d, rfl⟩)
  all_goals go_ret
  all_goals exact ⟨ret_bool (by first | exact lat_w1 ‹_› ‹_› | exact lat_w2 ‹_› | exact lat_w3 ‹_›), lay_ex _ _⟩
def triB (a0 a1 b0 b1 c0 c1 : Int) : Bool := latB a0 a1 && latB b0 b1 && validB c0 c1
theorem cos_Valid (a0 a1 b0 b1 c0 c1 : Int) (w : World) :
    Calls Tryz.prog 27 #[(.agg #[.int .i64 (a0), .int .i64 (a1), .int .i64 (b0), .int .i64 (b1), .int .i64 (c0), .int .i64 (c1)])] w fun e w' => e = .returned (.bool (triB a0 a1 b0 b1 c0 c1)) ∧ ∃ d, w' = bw w d := by
  have HA := Lib.hid (fun W => cos_latitude a0 a1 W)
  have HB := Lib.hid (fun W => cos_latitude b0 b1 W)
  have HC := Lib.hid (fun W => angle_Valid c0 c1 W)
  unfold triB
  generalize latB a0 a1 = p at *
  generalize latB b0 b1 = q at *
  generalize validB c0 c1 = r at *
  refine lay_start ?_
  cases p
  · simp only [Bool.false_and]
    go_enter Tryz.func27, Tryz.ntmps27
    go_wp2_with (first | (go_at_call 70; first | (with_reducible refine (HA.out _).mono ?_; rintro e w' ⟨rfl, d1, rfl⟩; rw [lay_bw]) | (with_reducible refine (HB.out _).mono ?_; rintro e w' ⟨rfl, d2, rfl⟩; rw [lay_bw])) | (go_at_call 32; refine (HC.out _).mono ?_; rintro e w' ⟨rfl, d3, rfl⟩; rw [lay_bw]))
    go_ret
    exact ⟨rfl, lay_ex _ _⟩
  · cases q
    · simp only [Bool.false_and, Bool.and_false]
      go_enter Tryz.func27, Tryz.ntmps27
      go_wp2_with (first | (go_at_call 70; first | (with_reducible refine (HA.out _).mono ?_; rintro e w' ⟨rfl, d1, rfl⟩; rw [lay_bw]) | (with_reducible refine (HB.out _).mono ?_; rintro e w' ⟨rfl, d2, rfl⟩; rw [lay_bw])) | (go_at_call 32; refine (HC.out _).mono ?_; rintro e w' ⟨rfl, d3, rfl⟩; rw [lay_bw]))
      go_ret
      exact ⟨rfl, lay_ex _ _⟩
    · simp only [Bool.true_and]
      go_enter Tryz.func27, Tryz.ntmps27
      go_wp2_with (first | (go_at_call 70; first | (with_reducible refine (HA.out _).mono ?_; rintro e w' ⟨rfl, d1, rfl⟩; rw [lay_bw]) | (with_reducible refine (HB.out _).mono ?_; rintro e w' ⟨rfl, d2, rfl⟩; rw [lay_bw])) | (go_at_call 32; refine (HC.out _).mono ?_; rintro e w' ⟨rfl, d3, rfl⟩; rw [lay_bw]))
      go_ret
      exact ⟨rfl, lay_ex _ _⟩
set_option maxHeartbeats 1000000 in
theorem cos_altitude (a0 a1 b0 b1 c0 c1 : Int) (w : World) (va : validB a0 a1 = true) (vb : validB b0 b1 = true) (vc : validB c0 c1 = true) :
    Calls Tryz.prog 75 #[(.agg #[.int .i64 (a0), .int .i64 (a1), .int .i64 (b0), .int .i64 (b1), .int .i64 (c0), .int .i64 (c1)])] w fun e w' => e = .returned (.tuple #[(.agg #[.int .i64 (asL (altS0 a0 a1 b0 b1 c0 c1) (altS1 a0 a1 b0 b1 c0 c1)), .int .i64 (asH (altS0 a0 a1 b0 b1 c0 c1) (altS1 a0 a1 b0 b1 c0 c1))]), .int .i64 (asE (altS0 a0 a1 b0 b1 c0 c1) (altS1 a0 a1 b0 b1 c0 c1))]) ∧ ∃ d, w' = bw w d := by
  have HO := Lib.hid (fun b W hc => cc_of b a0 a1 b0 b1 c0 c1 W hc va vb vc)
  have HM1 : Hid (∀ b W, ChW b W → Calls _ _ #[_, _, _] W fun e w' => e = .returned (.agg #[.int .i64 (ccL a0 a1 b0 b1), .int .i64 (ccH a0 a1 b0 b1)]) ∧ _) := Lib.hid (fun b W hc => cc_mul b (cosL a0 a1) (cosH a0 a1) (cosL b0 b1) (cosH b0 b1) W hc (unit_fx (cos_in2 _ _)) (unit_fx (cos_in2 _ _)) (unit_fx (cc_in _ _ _ _)))
  have HM2 : Hid (∀ b W, ChW b W → Calls _ _ #[_, _, _] W fun e w' => e = .returned (.agg #[.int .i64 (c3L a0 a1 b0 b1 c0 c1), .int .i64 (c3H a0 a1 b0 b1 c0 c1)]) ∧ _) := Lib.hid (fun b W hc => cc_mul b (ccL a0 a1 b0 b1) (ccH a0 a1 b0 b1) (cosL c0 c1) (cosH c0 c1) W hc (unit_fx (cc_in _ _ _ _)) (unit_fx (cos_in2 _ _)) (unit_fx (c3_in _ _ _ _ _ _)))
  have HM3 : Hid (∀ b W, ChW b W → Calls _ _ #[_, _, _] W fun e w' => e = .returned (.agg #[.int .i64 (ssL a0 a1 b0 b1), .int .i64 (ssH a0 a1 b0 b1)]) ∧ _) := Lib.hid (fun b W hc => cc_mul b (encL a0 a1) (encH a0 a1) (encL b0 b1) (encH b0 b1) W hc (unit_fx enc_in) (unit_fx enc_in) (unit_fx (ss_in _ _ _ _)))
  have HD : Hid (∀ b W, ChW b W → Calls _ _ #[_, _, _] W fun e w' => e = .returned (.agg #[.int .i64 (altS0 a0 a1 b0 b1 c0 c1), .int .i64 (altS1 a0 a1 b0 b1 c0 c1)]) ∧ _) := Lib.hid (fun b W hc => cc_add b (ssL a0 a1 b0 b1) (ssH a0 a1 b0 b1) (c3L a0 a1 b0 b1 c0 c1) (c3H a0 a1 b0 b1 c0 c1) W hc (unit_fx (ss_in _ _ _ _)) (unit_fx (c3_in _ _ _ _ _ _)) (alt_fx _ _ _ _ _ _))
  have HA := Lib.hid (fun W => ar_Asin (altS0 a0 a1 b0 b1 c0 c1) (altS1 a0 a1 b0 b1 c0 c1) W)
  generalize asL (altS0 a0 a1 b0 b1 c0 c1) (altS1 a0 a1 b0 b1 c0 c1) = u at *
  generalize asH (altS0 a0 a1 b0 b1 c0 c1) (altS1 a0 a1 b0 b1 c0 c1) = v at *
  generalize asE (altS0 a0 a1 b0 b1 c0 c1) (altS1 a0 a1 b0 b1 c0 c1) = k at *
  generalize altS0 a0 a1 b0 b1 c0 c1 = x0 at *
  generalize altS1 a0 a1 b0 b1 c0 c1 = x1 at *
  generalize c3L a0 a1 b0 b1 c0 c1 = y0 at *
  generalize c3H a0 a1 b0 b1 c0 c1 = y1 at *
  generalize ccL a0 a1 b0 b1 = z0 at *
  generalize ccH a0 a1 b0 b1 = z1 at *
  generalize ssL a0 a1 b0 b1 = s0 at *
  generalize ssH a0 a1 b0 b1 = s1 at *
  generalize encL a0 a1 = p1 at *
  generalize encH a0 a1 = q1 at *
  generalize encL b0 b1 = p2 at *
  generalize encH b0 b1 = q2 at *
  generalize encL c0 c1 = p3 at *
  generalize encH c0 c1 = q3 at *
  generalize cosL a0 a1 = r1 at *
  generalize cosH a0 a1 = t1 at *
  generalize cosL b0 b1 = r2 at *
  generalize cosH b0 b1 = t2 at *
  generalize cosL c0 c1 = r3 at *
  generalize cosH c0 c1 = t3 at *
  clear va vb vc
  refine lay_start ?_
  go_enter Tryz.func75, Tryz.ntmps75
  go_wp2_with fail
  have hch : ChW (posn w [1, 1]) (lay w [.inl (Obj.cells #[.int .i64 0] 145), .inl (Obj.cells #[.int .i64 0, .int .i64 0] 23), .inl (Obj.cells #[.int .i64 a0, .int .i64 a1, .int .i64 b0, .int .i64 b1, .int .i64 c0, .int .i64 c1] 25)]) := chW_new w _ _ _ rfl
  refine (HO.out _ _ hch).mono ?_
  rintro e w' ⟨rfl, d1, rfl⟩
  rw [lay_bw]
  go_wp2_with fail
  have HC := Lib.hid (fun e : Ext => hch.on [.inr e, .inl (Obj.cells #[.int .i64 p1, .int .i64 q1, .int .i64 r1, .int .i64 t1, .int .i64 p2, .int .i64 q2, .int .i64 r2, .int .i64 t2, .int .i64 p3, .int .i64 q3, .int .i64 r3, .int .i64 t3] 147), .inr d1])
  simp only [List.cons_append, List.nil_append] at HC
  clear hch
  refine region_mixW [0, 0, 0, 0, 0, 0, 0, 0, 0, 0, 0, 0, 0, 0, 0, 0, 0, 0, 1, 1] (by kernel_rfl) (by kernel_rfl) (by kernel_rfl) ?_
  repeat (first | (refine wpM_quiet (fun K hK => ?_); go_simp; first | (refine hK _ ?_; clear hK K) | (apply Exists.intro; refine ⟨fun _ => ?_, hK _ ?_⟩; (first | (go_at_call 111; first | ((with_reducible refine bq (HM1.out _ _ (HC.out _)) ?_); first | exact (fun d => ⟨d, rfl⟩) | exact (fun d => lay_join _ _ _ d)) | ((with_reducible refine bq (HM2.out _ _ (HC.out _)) ?_); first | exact (fun d => ⟨d, rfl⟩) | exact (fun d => lay_join _ _ _ d)) | ((with_reducible refine bq (HM3.out _ _ (HC.out _)) ?_); first | exact (fun d => ⟨d, rfl⟩) | exact (fun d => lay_join _ _ _ d))) | (go_at_call 110; (with_reducible refine bq (HD.out _ _ (HC.out _)) ?_); first | exact (fun d => ⟨d, rfl⟩) | exact (fun d => lay_join _ _ _ d))); clear hK K)) | (refine wpM_special (fun K hK d => ?_); go_simp; refine hK _ _ (by first | exact lay_in w [_] _ | exact lay_in w [_, _] _ | exact lay_in w [_, _, _] _ | exact lay_in w [_, _, _, _] _ | exact lay_in w [_, _, _, _, _] _ | exact lay_in w [_, _, _, _, _, _] _) ?_; clear hK K))
  refine wpM_nil ?_
  intro d
  rw [lay_bw]
  go_wp2_with (go_at_call 112; refine (HA.out _).mono ?_; rintro e w' ⟨rfl, d3, rfl⟩; rw [lay_bw])
  exact bodyPost_ret (v := .tuple #[(.agg #[.int .i64 (u), .int .i64 (v)]), .int .i64 k]) (by simp [results, Tryz.results75, go_sem]) rfl ⟨rfl, lay_ex _ _⟩
theorem cos_Altitude (a0 a1 b0 b1 c0 c1 : Int) (w : World) (h : triB a0 a1 b0 b1 c0 c1 = true) :
    Calls Tryz.prog 34 #[(.agg #[.int .i64 (a0), .int .i64 (a1), .int .i64 (b0), .int .i64 (b1), .int .i64 (c0), .int .i64 (c1)])] w fun e w' => e = .returned (.tuple #[(.agg #[.int .i64 (asL (altS0 a0 a1 b0 b1 c0 c1) (altS1 a0 a1 b0 b1 c0 c1)), .int .i64 (asH (altS0 a0 a1 b0 b1 c0 c1) (altS1 a0 a1 b0 b1 c0 c1))]), .int .i64 (asE (altS0 a0 a1 b0 b1 c0 c1) (altS1 a0 a1 b0 b1 c0 c1))]) ∧ ∃ d, w' = bw w d := by
  have HV := Lib.hid (fun W => cos_Valid a0 a1 b0 b1 c0 c1 W)
  rw [h] at HV
  unfold triB at h
  simp only [Bool.and_eq_true] at h
  have HA := Lib.hid (fun W => cos_altitude a0 a1 b0 b1 c0 c1 W (lat_valid h.1.1) (lat_valid h.1.2) h.2)
  generalize asL (altS0 a0 a1 b0 b1 c0 c1) (altS1 a0 a1 b0 b1 c0 c1) = u at *
  generalize asH (altS0 a0 a1 b0 b1 c0 c1) (altS1 a0 a1 b0 b1 c0 c1) = v at *
  generalize asE (altS0 a0 a1 b0 b1 c0 c1) (altS1 a0 a1 b0 b1 c0 c1) = k at *
  clear h
  refine lay_start ?_
  go_enter Tryz.func34, Tryz.ntmps34
  go_wp2_with (first | (go_at_call 27; refine (HV.out _).mono ?_; rintro e w' ⟨rfl, d1, rfl⟩; rw [lay_bw]) | (go_at_call 75; refine (HA.out _).mono ?_; rintro e w' ⟨rfl, d2, rfl⟩; rw [lay_bw]))
  exact bodyPost_ret (v := .tuple #[(.agg #[.int .i64 (u), .int .i64 (v)]), .int .i64 k]) (by simp [results, Tryz.results34, go_sem]) rfl ⟨rfl, lay_ex _ _⟩
end Go.Proofs.YtkhhdpndcidmgaaGreat
/- Places (package place and the reference), sides, limits. -/
namespace Go.Proofs.YtkhhdpndcidmgaaGreat
set_option maxHeartbeats 1000000
open Go.RowKit

def lonW (x y : Int) : Bool := decide ((x = -10800000 ∧ y = 10800000) ∨ (-10800000 ≤ x ∧ x < 10800000 ∧ x ≤ y ∧ IntKind.i64.wrap (y - x) < 21600000))
def plcW (u v x y : Int) : Bool := latB u v && lonW x y
theorem plc_lat (x0 y0 : Int) (w : World) :
    Calls Tryz.prog 137 #[(.agg #[.int .i64 (x0), .int .i64 (y0)])] w fun e w' => e = .returned (.bool (latB x0 y0)) ∧ ∃ d, w' = bw w d := by
  refine lay_start ?_
  go_enter Tryz.func137, Tryz.ntmps137
  go_wp2
  all_goals go_ret
  all_goals exact ⟨ret_bool (by rw [Bool.eq_iff_iff]; simp [latB]; try omega), lay_ex _ _⟩
theorem plc_every (w : World) :
    Calls Tryz.prog 201 #[] w fun e w' => e = .returned (.agg #[.int .i64 (-10800000), .int .i64 (10800000)]) ∧ ∃ d, w' = bw w d := by
  refine lay_start ?_
  go_enter Tryz.func201, Tryz.ntmps201
  go_wp2
  exact bodyPost_ret (v := (.agg #[.int .i64 (-10800000), .int .i64 (10800000)])) (by simp [results, Tryz.results201, go_sem]) rfl ⟨rfl, lay_ex _ _⟩
theorem plc_all (x0 y0 : Int) (w : World) :
    Calls Tryz.prog 175 #[(.agg #[.int .i64 (x0), .int .i64 (y0)])] w fun e w' => e = .returned (.bool (decide (x0 = -10800000 ∧ y0 = 10800000))) ∧ ∃ d, w' = bw w d := by
  by_cases h1 : x0 = -10800000
  · subst h1
    by_cases h2 : y0 = 10800000
    · subst h2
      refine lay_start ?_
      go_enter Tryz.func175, Tryz.ntmps175
      go_wp2_with fail
      refine region_bw (by kernel_rfl) (by kernel_rfl) ?_
      repeat (go_big_quiet_step ((first | (go_at_call 201; first | exact bq (plc_every _) (fun d => lay_join _ _ _ d) | exact bq (plc_every _) (fun d => ⟨d, rfl⟩)))))
      refine wpQuiet_nil ?_
      rintro w' ⟨d, rfl⟩
      rw [lay_bw]
      go_wp2_with fail
      go_ret
      exact ⟨ret_bool (by simp), lay_ex _ _⟩
    · have e2 : (y0 == 10800000) = false := beq_eq_false_iff_ne.2 h2
      refine lay_start ?_
      go_enter Tryz.func175, Tryz.ntmps175
      go_wp2_with fail
      refine region_bw (by kernel_rfl) (by kernel_rfl) ?_
      repeat (go_big_quiet_step ((first | (go_at_call 201; first | exact bq (plc_every _) (fun d => lay_join _ _ _ d) | exact bq (plc_every _) (fun d => ⟨d, rfl⟩)))))
      refine wpQuiet_nil ?_
      rintro w' ⟨d, rfl⟩
      rw [lay_bw]
      go_wp2_with fail
      go_ret
      exact ⟨ret_bool (by simp [h2]), lay_ex _ _⟩
  · have e1 : (x0 == -10800000) = false := beq_eq_false_iff_ne.2 h1
    refine lay_start ?_
    go_enter Tryz.func175, Tryz.ntmps175
    go_wp2_with fail
    refine region_bw (by kernel_rfl) (by kernel_rfl) ?_
    repeat (go_big_quiet_step ((first | (go_at_call 201; first | exact bq (plc_every _) (fun d => lay_join _ _ _ d) | exact bq (plc_every _) (fun d => ⟨d, rfl⟩)))))
    refine wpQuiet_nil ?_
    rintro w' ⟨d, rfl⟩
    rw [lay_bw]
    go_wp2_with fail
    go_ret
    exact ⟨ret_bool (by simp [h1]), lay_ex _ _⟩
theorem plc_lon (x y : Int) (w : World) :
    Calls Tryz.prog 138 #[(.agg #[.int .i64 (x), .int .i64 (y)])] w fun e w' => e = .returned (.bool (lonW x y)) ∧ ∃ d, w' = bw w d := by
  have HA := Lib.hid (fun W => plc_all x y W)
  by_cases h : x = -10800000 ∧ y = 10800000
  · rw [decide_eq_true h] at HA
    have e : lonW x y = true := decide_eq_true (.inl h)
    rw [e]
    clear e h
    refine lay_start ?_
    go_enter Tryz.func138, Tryz.ntmps138
    go_wp2_with (go_at_call 175; refine (HA.out _).mono ?_; rintro e w' ⟨rfl, d1, rfl⟩; rw [lay_bw])
    all_goals go_ret
    all_goals exact ⟨rfl, lay_ex _ _⟩
  · rw [decide_eq_false h] at HA
    obtain ⟨z, hz⟩ : ∃ z, IntKind.i64.wrap (y - x) = z := ⟨_, rfl⟩
    have e : lonW x y = decide (-10800000 ≤ x ∧ x < 10800000 ∧ x ≤ y ∧ z < 21600000) := by
      unfold lonW
      rw [decide_eq_decide, hz]
      exact ⟨fun g => g.resolve_left h, .inr⟩
    rw [e]
    clear e h
    refine lay_start ?_
    go_enter Tryz.func138, Tryz.ntmps138
    go_wp2_with (go_at_call 175; refine (HA.out _).mono ?_; rintro e w' ⟨rfl, d1, rfl⟩; rw [lay_bw])
    all_goals go_ret
    all_goals exact ⟨ret_bool (by rw [Bool.eq_iff_iff]; simp; try omega), lay_ex _ _⟩
theorem plc_Valid (u v x y : Int) (w : World) :
    Calls Tryz.prog 106 #[(.agg #[.int .i64 (u), .int .i64 (v), .int .i64 (x), .int .i64 (y)])] w fun e w' => e = .returned (.bool (plcW u v x y)) ∧ ∃ d, w' = bw w d := by
  have HA := Lib.hid (fun W => plc_lat u v W)
  have HB := Lib.hid (fun W => plc_lon x y W)
  unfold plcW
  generalize latB u v = p at *
  generalize lonW x y = q at *
  cases p
  all_goals
    refine lay_start ?_
    go_enter Tryz.func106, Tryz.ntmps106
    go_wp2_with (first | (go_at_call 137; refine (HA.out _).mono ?_; rintro e w' ⟨rfl, d1, rfl⟩; rw [lay_bw]) | (go_at_call 138; refine (HB.out _).mono ?_; rintro e w' ⟨rfl, d2, rfl⟩; rw [lay_bw]))
    all_goals go_ret
    all_goals exact ⟨by simp, lay_ex _ _⟩
end Go.Proofs.YtkhhdpndcidmgaaGreat
/- The reference's arcsines: Below, Rough, guess, Floor, Ceil. -/
namespace Go.Proofs.YtkhhdpndcidmgaaGreat
open Go.RowKit

end Go.Proofs.YtkhhdpndcidmgaaGreat
/- The reference's arcsines: Floor. -/
namespace Go.Proofs.YtkhhdpndcidmgaaGreat
open Go.RowKit

end Go.Proofs.YtkhhdpndcidmgaaGreat
/- The reference's arcsines: Valid, Ceil, Asin, Acos, Ahav. -/
namespace Go.Proofs.YtkhhdpndcidmgaaGreat
open Go.RowKit

end Go.Proofs.YtkhhdpndcidmgaaGreat
/- The reference's intervals: Mul, Sub, Add, without average's functions. -/
namespace Go.Proofs.YtkhhdpndcidmgaaGreat
open Go.RowKit

end Go.Proofs.YtkhhdpndcidmgaaGreat
/- The reference's Sub, Add, fit at any ends. -/
namespace Go.Proofs.YtkhhdpndcidmgaaGreat
open Go.RowKit

end Go.Proofs.YtkhhdpndcidmgaaGreat
/- The reference's Times, Plus and Minus. -/
namespace Go.Proofs.YtkhhdpndcidmgaaGreat
open Go.RowKit

end Go.Proofs.YtkhhdpndcidmgaaGreat
/- The reference's sines and cosines over arcs: has, sine, Sin, Cos. -/
namespace Go.Proofs.YtkhhdpndcidmgaaGreat
open Go.RowKit

end Go.Proofs.YtkhhdpndcidmgaaGreat
/- Haversines over arcs: the reference's. -/
namespace Go.Proofs.YtkhhdpndcidmgaaGreat
open Go.RowKit

end Go.Proofs.YtkhhdpndcidmgaaGreat
/- The reference's Altitude of a triangle. -/
namespace Go.Proofs.YtkhhdpndcidmgaaGreat
open Go.RowKit

end Go.Proofs.YtkhhdpndcidmgaaGreat
