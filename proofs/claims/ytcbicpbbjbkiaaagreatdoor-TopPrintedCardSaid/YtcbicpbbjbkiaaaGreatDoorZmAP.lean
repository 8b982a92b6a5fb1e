/- Contracts and plain laws, several texts in one: CoW; Qn7; Qn8; Qn9; QnA; Fa1; Fa2; Fa3; Fa4; Fa5; Fa6; Fa7; FbA; FbB; FbC -/
import Derived.Test.YtcbicpbbjbkiaaaGreatDoorProg
import Derived.WalkKit
import Derived.WalkSpells
import Derived.WalkLawsBesides
import Derived.Lib.Hide
import Derived.BigQuiet
import Derived.Test.YtcbicpbbjbkiaaaGreatDoorZmAA
import Derived.Test.YtcbicpbbjbkiaaaGreatDoorZmAE
import Derived.Test.YtcbicpbbjbkiaaaGreatDoorZmAG
import Derived.Test.YtcbicpbbjbkiaaaGreatDoorZmAH
import Derived.Test.YtcbicpbbjbkiaaaGreatDoorZmAO
namespace Go.Proofs.YtcbicpbbjbkiaaaGreatDoor
set_option maxRecDepth 100000
open Go.RowKit

theorem cos_latitude (x0 y0 : Int) (w : World) :
  Calls Tryz.prog 178 #[(.agg #[.int .i64 (x0), .int .i64 (y0)])] w fun e w' => e = .returned (.bool (latB x0 y0)) ∧ ∃ d, w' = bw w d := by
 refine lay_start ?_
 go_enter Tryz.func178, Tryz.ntmps178
 go_wp2_with (go_at_call 38; refine (angle_Valid _ _ _).mono ?_; rintro e w' ⟨rfl, d, rfl⟩)
 all_goals go_ret
 all_goals exact ⟨ret_bool (by first | exact lat_w1 ‹_› ‹_› | exact lat_w2 ‹_› | exact lat_w3 ‹_›), lay_ex _ _⟩
def triB (a0 a1 b0 b1 c0 c1 : Int) : Bool := latB a0 a1 && latB b0 b1 && validB c0 c1
theorem cos_Valid (a0 a1 b0 b1 c0 c1 : Int) (w : World) :
  Calls Tryz.prog 96 #[(.agg #[.int .i64 (a0), .int .i64 (a1), .int .i64 (b0), .int .i64 (b1), .int .i64 (c0), .int .i64 (c1)])] w fun e w' => e = .returned (.bool (triB a0 a1 b0 b1 c0 c1)) ∧ ∃ d, w' = bw w d := by
 have HA := Lib.hid (fun W => cos_latitude a0 a1 W)
 have HB := Lib.hid (fun W => cos_latitude b0 b1 W)
 have HC := Lib.hid (fun W => angle_Valid c0 c1 W)
 unfold triB
 generalize latB a0 a1 = p at *
 generalize latB b0 b1 = q at *
 generalize validB c0 c1 = r at *
 refine lay_start ?_
 cases p
 ·simp only [Bool.false_and]
  go_enter Tryz.func96, Tryz.ntmps96
  go_wp2_with (first | (go_at_call 178; first | (with_reducible refine (HA.out _).mono ?_; rintro e w' ⟨rfl, d1, rfl⟩; rw [lay_bw]) | (with_reducible refine (HB.out _).mono ?_; rintro e w' ⟨rfl, d2, rfl⟩; rw [lay_bw])) | (go_at_call 38; refine (HC.out _).mono ?_; rintro e w' ⟨rfl, d3, rfl⟩; rw [lay_bw]))
  go_ret
  exact ⟨rfl, lay_ex _ _⟩
 ·cases q
  ·simp only [Bool.false_and, Bool.and_false]
   go_enter Tryz.func96, Tryz.ntmps96
   go_wp2_with (first | (go_at_call 178; first | (with_reducible refine (HA.out _).mono ?_; rintro e w' ⟨rfl, d1, rfl⟩; rw [lay_bw]) | (with_reducible refine (HB.out _).mono ?_; rintro e w' ⟨rfl, d2, rfl⟩; rw [lay_bw])) | (go_at_call 38; refine (HC.out _).mono ?_; rintro e w' ⟨rfl, d3, rfl⟩; rw [lay_bw]))
   go_ret
   exact ⟨rfl, lay_ex _ _⟩
  ·simp only [Bool.true_and]
   go_enter Tryz.func96, Tryz.ntmps96
   go_wp2_with (first | (go_at_call 178; first | (with_reducible refine (HA.out _).mono ?_; rintro e w' ⟨rfl, d1, rfl⟩; rw [lay_bw]) | (with_reducible refine (HB.out _).mono ?_; rintro e w' ⟨rfl, d2, rfl⟩; rw [lay_bw])) | (go_at_call 38; refine (HC.out _).mono ?_; rintro e w' ⟨rfl, d3, rfl⟩; rw [lay_bw]))
   go_ret
   exact ⟨rfl, lay_ex _ _⟩
set_option maxHeartbeats 1000000 in
theorem cos_altitude (a0 a1 b0 b1 c0 c1 : Int) (w : World) (va : validB a0 a1 = true) (vb : validB b0 b1 = true) (vc : validB c0 c1 = true) :
  Calls Tryz.prog 97 #[(.agg #[.int .i64 (a0), .int .i64 (a1), .int .i64 (b0), .int .i64 (b1), .int .i64 (c0), .int .i64 (c1)])] w fun e w' => e = .returned (.tuple #[(.agg #[.int .i64 (asL (altS0 a0 a1 b0 b1 c0 c1) (altS1 a0 a1 b0 b1 c0 c1)), .int .i64 (asH (altS0 a0 a1 b0 b1 c0 c1) (altS1 a0 a1 b0 b1 c0 c1))]), .int .i64 (asE (altS0 a0 a1 b0 b1 c0 c1) (altS1 a0 a1 b0 b1 c0 c1))]) ∧ ∃ d, w' = bw w d := by
 have HO := Lib.hid (fun b W hc => cc_of b a0 a1 b0 b1 c0 c1 W hc va vb vc)
 have HM1 : Hid (∀ b W, ChW b W → Calls _ _ #[_, _, _] W fun e w' => e = .returned (.agg #[.int .i64 (ccL a0 a1 b0 b1), .int .i64 (ccH a0 a1 b0 b1)]) ∧ _) := Lib.hid (fun b W hc => cc_mul b (cosL a0 a1) (cosH a0 a1) (cosL b0 b1) (cosH b0 b1) W hc (unit_fx (cos_in2 _ _)) (unit_fx (cos_in2 _ _)) (unit_fx (cc_in _ _ _ _)))
 have HM2 : Hid (∀ b W, ChW b W → Calls _ _ #[_, _, _] W fun e w' => e = .returned (.agg #[.int .i64 (c3L a0 a1 b0 b1 c0 c1), .int .i64 (c3H a0 a1 b0 b1 c0 c1)]) ∧ _) := Lib.hid (fun b W hc => cc_mul b (ccL a0 a1 b0 b1) (ccH a0 a1 b0 b1) (cosL c0 c1) (cosH c0 c1) W hc (unit_fx (cc_in _ _ _ _)) (unit_fx (cos_in2 _ _)) (unit_fx (c3_in _ _ _ _ _ _)))
 have HM3 : Hid (∀ b W, ChW b W → Calls _ _ #[_, _, _] W fun e w' => e = .returned (.agg #[.int .i64 (ssL a0 a1 b0 b1), .int .i64 (ssH a0 a1 b0 b1)]) ∧ _) := Lib.hid (fun b W hc => cc_mul b (encL a0 a1) (encH a0 a1) (encL b0 b1) (encH b0 b1) W hc (unit_fx enc_in) (unit_fx enc_in) (unit_fx (ss_in _ _ _ _)))
 have HD : Hid (∀ b W, ChW b W → Calls _ _ #[_, _, _] W fun e w' => e = .returned (.agg #[.int .i64 (altS0 a0 a1 b0 b1 c0 c1), .int .i64 (altS1 a0 a1 b0 b1 c0 c1)]) ∧ _) := Lib.hid (fun b W hc => cc_add b (ssL a0 a1 b0 b1) (ssH a0 a1 b0 b1) (c3L a0 a1 b0 b1 c0 c1) (c3H a0 a1 b0 b1 c0 c1) W hc (unit_fx (ss_in _ _ _ _)) (unit_fx (c3_in _ _ _ _ _ _)) (alt_fx _ _ _ _ _ _))
 have HA := Lib.hid (fun W => ar_Asin (altS0 a0 a1 b0 b1 c0 c1) (altS1 a0 a1 b0 b1 c0 c1) W)
 generalize asL (altS0 a0 a1 b0 b1 c0 c1) (altS1 a0 a1 b0 b1 c0 c1) = u at *
 generalize asH (altS0 a0 a1 b0 b1 c0 c1) (altS1 a0 a1 b0 b1 c0 c1) = v at *
 generalize asE (altS0 a0 a1 b0 b1 c0 c1) (altS1 a0 a1 b0 b1 c0 c1) = k at *
 generalize altS0 a0 a1 b0 b1 c0 c1 = x0 at *
 generalize altS1 a0 a1 b0 b1 c0 c1 = x1 at *
 generalize c3L a0 a1 b0 b1 c0 c1 = y0 at *
 generalize c3H a0 a1 b0 b1 c0 c1 = y1 at *
 generalize ccL a0 a1 b0 b1 = z0 at *
 generalize ccH a0 a1 b0 b1 = z1 at *
 generalize ssL a0 a1 b0 b1 = s0 at *
 generalize ssH a0 a1 b0 b1 = s1 at *
 generalize encL a0 a1 = p1 at *
 generalize encH a0 a1 = q1 at *
 generalize encL b0 b1 = p2 at *
 generalize encH b0 b1 = q2 at *
 generalize encL c0 c1 = p3 at *
 generalize encH c0 c1 = q3 at *
 generalize cosL a0 a1 = r1 at *
 generalize cosH a0 a1 = t1 at *
 generalize cosL b0 b1 = r2 at *
 generalize cosH b0 b1 = t2 at *
 generalize cosL c0 c1 = r3 at *
 generalize cosH c0 c1 = t3 at *
 clear va vb vc
 refine lay_start ?_
 go_enter Tryz.func97, Tryz.ntmps97
 go_wp2_with fail
 have hch : ChW (posn w [1, 1]) (lay w [.inl (Obj.cells #[.int .i64 0] 256), .inl (Obj.cells #[.int .i64 0, .int .i64 0] 29), .inl (Obj.cells #[.int .i64 a0, .int .i64 a1, .int .i64 b0, .int .i64 b1, .int .i64 c0, .int .i64 c1] 33)]) := chW_new w _ _ _ rfl
 refine (HO.out _ _ hch).mono ?_
 rintro e w' ⟨rfl, d1, rfl⟩
 rw [lay_bw]
 go_wp2_with fail
 have HC := Lib.hid (fun e : Ext => hch.on [.inr e, .inl (Obj.cells #[.int .i64 p1, .int .i64 q1, .int .i64 r1, .int .i64 t1, .int .i64 p2, .int .i64 q2, .int .i64 r2, .int .i64 t2, .int .i64 p3, .int .i64 q3, .int .i64 r3, .int .i64 t3] 258), .inr d1])
 simp only [List.cons_append, List.nil_append] at HC
 clear hch
 refine region_mixW [0, 0, 0, 0, 0, 0, 0, 0, 0, 0, 0, 0, 0, 0, 0, 0, 0, 0, 1, 1] (by kernel_rfl) (by kernel_rfl) (by kernel_rfl) ?_
 repeat (first | (refine wpM_quiet (fun K hK => ?_); go_simp; first | (refine hK _ ?_; clear hK K) | (apply Exists.intro; refine ⟨fun _ => ?_, hK _ ?_⟩; (first | (go_at_call 181; first | ((with_reducible refine bq (HM1.out _ _ (HC.out _)) ?_); first | exact (fun d => ⟨d, rfl⟩) | exact (fun d => lay_join _ _ _ d)) | ((with_reducible refine bq (HM2.out _ _ (HC.out _)) ?_); first | exact (fun d => ⟨d, rfl⟩) | exact (fun d => lay_join _ _ _ d)) | ((with_reducible refine bq (HM3.out _ _ (HC.out _)) ?_); first | exact (fun d => ⟨d, rfl⟩) | exact (fun d => lay_join _ _ _ d))) | (go_at_call 180; (with_reducible refine bq (HD.out _ _ (HC.out _)) ?_); first | exact (fun d => ⟨d, rfl⟩) | exact (fun d => lay_join _ _ _ d))); clear hK K)) | (refine wpM_special (fun K hK d => ?_); go_simp; refine hK _ _ (by first | exact lay_in w [_] _ | exact lay_in w [_, _] _ | exact lay_in w [_, _, _] _ | exact lay_in w [_, _, _, _] _ | exact lay_in w [_, _, _, _, _] _ | exact lay_in w [_, _, _, _, _, _] _) ?_; clear hK K))
 refine wpM_nil ?_
 intro d
 rw [lay_bw]
 go_wp2_with (go_at_call 182; refine (HA.out _).mono ?_; rintro e w' ⟨rfl, d3, rfl⟩; rw [lay_bw])
 exact bodyPost_ret (v := .tuple #[(.agg #[.int .i64 (u), .int .i64 (v)]), .int .i64 k]) (by simp [results, Tryz.results97, go_sem]) rfl ⟨rfl, lay_ex _ _⟩
theorem cos_Altitude (a0 a1 b0 b1 c0 c1 : Int) (w : World) (h : triB a0 a1 b0 b1 c0 c1 = true) :
  Calls Tryz.prog 34 #[(.agg #[.int .i64 (a0), .int .i64 (a1), .int .i64 (b0), .int .i64 (b1), .int .i64 (c0), .int .i64 (c1)])] w fun e w' => e = .returned (.tuple #[(.agg #[.int .i64 (asL (altS0 a0 a1 b0 b1 c0 c1) (altS1 a0 a1 b0 b1 c0 c1)), .int .i64 (asH (altS0 a0 a1 b0 b1 c0 c1) (altS1 a0 a1 b0 b1 c0 c1))]), .int .i64 (asE (altS0 a0 a1 b0 b1 c0 c1) (altS1 a0 a1 b0 b1 c0 c1))]) ∧ ∃ d, w' = bw w d := by
 have HV := Lib.hid (fun W => cos_Valid a0 a1 b0 b1 c0 c1 W)
 rw [h] at HV
 unfold triB at h
 simp only [Bool.and_eq_true] at h
 have HA := Lib.hid (fun W => cos_altitude a0 a1 b0 b1 c0 c1 W (lat_valid h.1.1) (lat_valid h.1.2) h.2)
 generalize asL (altS0 a0 a1 b0 b1 c0 c1) (altS1 a0 a1 b0 b1 c0 c1) = u at *
 generalize asH (altS0 a0 a1 b0 b1 c0 c1) (altS1 a0 a1 b0 b1 c0 c1) = v at *
 generalize asE (altS0 a0 a1 b0 b1 c0 c1) (altS1 a0 a1 b0 b1 c0 c1) = k at *
 clear h
 refine lay_start ?_
 go_enter Tryz.func34, Tryz.ntmps34
 go_wp2_with (first | (go_at_call 96; refine (HV.out _).mono ?_; rintro e w' ⟨rfl, d1, rfl⟩; rw [lay_bw]) | (go_at_call 97; refine (HA.out _).mono ?_; rintro e w' ⟨rfl, d2, rfl⟩; rw [lay_bw]))
 exact bodyPost_ret (v := .tuple #[(.agg #[.int .i64 (u), .int .i64 (v)]), .int .i64 k]) (by simp [results, Tryz.results34, go_sem]) rfl ⟨rfl, lay_ex _ _⟩
theorem cos_AltitudeBad (a0 a1 b0 b1 c0 c1 : Int) (w : World) (h : triB a0 a1 b0 b1 c0 c1 = false) :
  Calls Tryz.prog 34 #[(.agg #[.int .i64 (a0), .int .i64 (a1), .int .i64 (b0), .int .i64 (b1), .int .i64 (c0), .int .i64 (c1)])] w fun e w' => e = .returned (.tuple #[(.agg #[.int .i64 (0), .int .i64 (0)]), .int .i64 1]) ∧ ∃ d, w' = bw w d := by
 have HV := Lib.hid (fun W => cos_Valid a0 a1 b0 b1 c0 c1 W)
 rw [h] at HV
 clear h
 refine lay_start ?_
 go_enter Tryz.func34, Tryz.ntmps34
 go_wp2_with (first | (go_at_call 96; refine (HV.out _).mono ?_; rintro e w' ⟨rfl, d1, rfl⟩; rw [lay_bw]))
 exact bodyPost_ret (v := .tuple #[(.agg #[.int .i64 (0), .int .i64 (0)]), .int .i64 1]) (by simp [results, Tryz.results34, go_sem]) rfl ⟨rfl, lay_ex _ _⟩
end Go.Proofs.YtcbicpbbjbkiaaaGreatDoor
namespace Go.Proofs.YtcbicpbbjbkiaaaGreatDoor
open Go.RowKit

theorem le_two {a z e : Rat} (h : a ≤ z + e) (hz : z ≤ 1) (he : e ≤ 1) : a ≤ 2 := by grind
theorem eA_one : eA ≤ 1 := by unfold eA; grind
theorem sico_le {k : Nat} (hk : k ≤ 5400000) : siA k ≤ 2 * (m192 : Int) ∧ coA k ≤ 2 * (m192 : Int) := by
 obtain ⟨⟨m1, n1⟩, ⟨m2, n2⟩⟩ := siA_near hk
 have hu := z_unit k
 obtain ⟨b1, b2⟩ := sq_one hu
 have hu2 : zc k * zc k + zs k * zs k = 1 := by rw [← hu]; grind
 obtain ⟨b3, b4⟩ := sq_one hu2
 have hm := m192_rat
 have key : ∀ z : Int, (z : Rat) / (m192 : Rat) ≤ 2 → z ≤ 2 * (m192 : Int) := by
  intro z h
  have h1 : (z : Rat) = ((z : Rat) / (m192 : Rat)) * (m192 : Rat) := by grind
  have h2 := Rat.mul_le_mul_of_nonneg_right h (Rat.le_of_lt hm)
  rw [← h1] at h2
  have h3 : ((2 * (m192 : Int) : Int) : Rat) = 2 * (m192 : Rat) := by
   rw [Rat.intCast_mul]; rfl
  rw [← h3] at h2
  exact Rat.intCast_le_intCast.1 h2
 first | exact ⟨key _ (le_two n1 b2 eA_one), key _ (le_two n2 b4 eA_one)⟩ | exact ⟨key _ (le_two m1 b2 eA_one), key _ (le_two m2 b4 eA_one)⟩
theorem m192_33 : 2 * m192 * 2147483649 < 18446744073709551616 ^ 4 := by decide +kernel
set_option maxHeartbeats 4000000 in
set_option maxRecDepth 100000 in
theorem ar_reaches (u v k : Nat) (hk : k ≤ 5400000) (hu : u ≤ 2147483648) (hv : v ≤ 2147483648) (w : World) :
  Calls Tryz.prog 193 #[.agg #[.int .i64 (u : Int), .int .i64 (v : Int)], .int .i64 (k : Int)] w fun e w' => e = .returned (.bool (rchB u v k)) ∧ ∃ d, w' = bw w d := by
 refine lay_start ?_
 unfold rchB
 by_cases h0 : k = 0
 ·subst h0
  go_enter Tryz.func193, Tryz.ntmps193
  go_wp2_with fail
  exact bodyPost_ret (v := .bool true) (by simp [results, Tryz.results193, go_sem]) rfl ⟨rfl, lay_ex _ _⟩
 rw [if_neg h0]
 by_cases h1 : k = 2700000
 ·subst h1
  go_enter Tryz.func193, Tryz.ntmps193
  go_wp2_with fail
  exact bodyPost_ret (v := .bool (decide (u ≤ v))) (by simp [results, Tryz.results193, go_sem]) rfl ⟨by first | rfl | simp, lay_ex _ _⟩
 rw [if_neg h1]
 have e0 : ¬ (k : Int) = 0 := by omega
 have e1 : ¬ (k : Int) = 2700000 := by omega
 have k1 : IntKind.u64.wrap (u : Int) = (u : Int) := IntWalk.u64_in _ (by omega)
 have k2 : IntKind.u64.wrap (v : Int) = (v : Int) := IntWalk.u64_in _ (by omega)
 have HC := Lib.hid (fun W => ar_circle k hk W)
 obtain ⟨s1, s2⟩ := sico_le hk
 unfold nuV at *
 go_enter Tryz.func193, Tryz.ntmps193
 go_wp2_with fail
 refine (HC.out _).mono ?_
 rintro e w' ⟨s, c, d1, rfl, rfl, hs, hc, hs2, hc2⟩
 rw [lay_bw]
 have HU := Lib.hid (And.intro hs (And.intro hc (And.intro hs2 hc2)))
 have T1 := Lib.hid (fun W => qn_times c v hc (by omega) W)
 have T2 := Lib.hid (fun W => qn_times s u hs (by omega) W)
 have b1 : val4 c ≤ 2 * m192 := by omega
 have b2 : val4 s ≤ 2 * m192 := by omega
 have p1 : v * val4 c < 18446744073709551616 ^ 4 := by
  have h3 := Nat.mul_le_mul hv b1
  have h4 := m192_33
  omega
 have p2 : u * val4 s < 18446744073709551616 ^ 4 := by
  have h3 := Nat.mul_le_mul hu b2
  have h4 := m192_33
  omega
 have HP := Lib.hid (And.intro p1 p2)
 unfold nuV at T1 T2
 clear hs hc hs2 hc2 HC s1 s2 b1 b2 p1 p2
 go_wp2_with fail
 refine region_mixP [(0, 0), (1, 0), (2, 0), (3, 0), (5, 0), (6, 0), (7, 0), (8, 0), (4, 1), (9, 1), (10, 1), (11, 0)] (by kernel_rfl) (by kernel_rfl) (by kernel_rfl) (by kernel_rfl) (by decide) (by kernel_rfl) ?_
 simp only [List.drop_succ_cons, List.drop_zero, List.length_cons, List.length_nil, Nat.reduceAdd]
 iterate 8 (refine wpMP_quiet rfl (fun K hK => ?_); go_simp; refine hK _ ?_; clear hK K)
 refine wpMP_special rfl (fun K hK d0 => ?_)
 rw [lay_bw]
 go_simp
 refine (T1.out _).mono ?_
 rintro e w' ⟨r1, f1, rfl, rfl, hw1, t1, ht1⟩
 have hr1 := times_small ht1 HP.out.1
 have HR1 := Lib.hid (And.intro hw1 hr1)
 clear hw1 ht1 hr1 t1
 refine ⟨_, rfl, ?_⟩
 go_simp
 refine hK _ _ (lay_in w [_, _] _) ?_
 clear hK K
 refine wpMP_special rfl (fun K hK d2 => ?_)
 rw [lay_bw]
 go_simp
 refine (T2.out _).mono ?_
 rintro e w' ⟨r2, f2, rfl, rfl, hw1, t1, ht1⟩
 have hr1 := times_small ht1 HP.out.2
 have HR2 := Lib.hid (And.intro hw1 hr1)
 clear hw1 ht1 hr1 t1
 refine ⟨_, rfl, ?_⟩
 go_simp
 refine hK _ _ (lay_in w [_, _, _, _] _) ?_
 clear hK K
 have HL := Lib.hid (fun W => qn_less r1 r2 HR1.out.1 HR2.out.1 W)
 unfold nuV at HL
 rw [HR1.out.2, HR2.out.2] at HL
 refine wpMP_special rfl (fun K hK d3 => ?_)
 rw [lay_bw]
 go_simp
 refine (HL.out _).mono ?_
 rintro e w' ⟨rfl, f3, rfl⟩
 refine ⟨_, rfl, ?_⟩
 go_simp
 refine hK _ _ (lay_in w [_, _, _, _, _, _] _) ?_
 clear hK K
 iterate 1 (refine wpMP_quiet rfl (fun K hK => ?_); go_simp; refine hK _ ?_; clear hK K)
 refine wpMP_nil ?_
 intro d4
 rw [lay_bw]
 go_wp2_with fail
 refine bodyPost_ret (v := .bool (!decide (v * val4 c < u * val4 s))) (by simp [results, Tryz.results193, go_sem]) rfl ⟨?_, lay_ex _ _⟩
 rw [← HU.out.2.2.1, ← HU.out.2.2.2]
 refine congrArg Ending.returned (congrArg Value.bool ?_)
 have e1 : ((val4 s : Int) * (u : Int) ≤ (val4 c : Int) * (v : Int)) ↔ ¬ (v * val4 c < u * val4 s) := by
  rw [← Int.natCast_mul, ← Int.natCast_mul, Int.ofNat_le, Nat.not_lt, Nat.mul_comm (val4 s), Nat.mul_comm (val4 c)]
 simp only [e1]
 by_cases hh : v * val4 c < u * val4 s <;> simp [hh]
end Go.Proofs.YtcbicpbbjbkiaaaGreatDoor
namespace Go.Proofs.YtcbicpbbjbkiaaaGreatDoor
open Go.RowKit
def befB (a b c d : Int) : Bool := decide (b * c ≤ a * d)
theorem mul_bdQ {a b : Int} (ha : -2147483648 ≤ a) (ha2 : a ≤ 2147483648) (hb : -2147483648 ≤ b) (hb2 : b ≤ 2147483648) : -4611686018427387904 ≤ a * b ∧ a * b ≤ 4611686018427387904 := by
 have h1 : a.natAbs ≤ 2147483648 := by omega
 have h2 : b.natAbs ≤ 2147483648 := by omega
 have h3 := Nat.mul_le_mul h1 h2
 rw [← Int.natAbs_mul] at h3
 omega
def Bd31 (a : Int) : Prop := -2147483648 ≤ a ∧ a ≤ 2147483648
set_option maxRecDepth 100000 in
theorem ar_before (a b c d : Int) (ha : Bd31 a) (hb : Bd31 b) (hc : Bd31 c) (hd : Bd31 d) (w : World) :
  Calls Tryz.prog 107 #[.agg #[.int .i64 a, .int .i64 b], .agg #[.int .i64 c, .int .i64 d]] w fun e w' => e = .returned (.bool (befB a b c d)) ∧ ∃ d, w' = bw w d := by
 obtain ⟨p1, p2⟩ := mul_bdQ ha.1 ha.2 hd.1 hd.2
 obtain ⟨q1, q2⟩ := mul_bdQ hb.1 hb.2 hc.1 hc.2
 have k1 : IntKind.i64.wrap (a * d) = a * d := IntWalk.i64_in _ (by omega)
 have k2 : IntKind.i64.wrap (b * c) = b * c := IntWalk.i64_in _ (by omega)
 clear p1 p2 q1 q2
 unfold befB
 refine lay_start ?_
 go_enter Tryz.func107, Tryz.ntmps107
 go_wp2_with fail
 exact bodyPost_ret (v := .bool (decide (b * c ≤ a * d))) (by simp [results, Tryz.results107, go_sem]) rfl ⟨rfl, lay_ex _ _⟩
def crX (x0 x1 : Int) (j : Nat) : Int := if j < 2 then x0 else x1
def crY (y0 y1 : Int) (j : Nat) : Int := if j = 0 ∨ j = 2 then y0 else y1
def bisF (u v : Int) : Nat → Nat → Nat → Nat
 | 0, l, _ => l
 | f + 1, l, h => if l + 1 < h then (if rchB u v ((l + h) / 2) = true then bisF u v f ((l + h) / 2) h else bisF u v f l ((l + h) / 2)) else l
theorem bisF_end {u v : Int} {f l : Nat} : bisF u v f l (l + 1) = l := by cases f <;> simp [bisF]
theorem bisF_step {u v : Int} {f l h m : Nat} (hm : m = (l + h) / 2) (c : l + 1 < h) (hf : h - l ≤ 2 ^ f) :
  ∃ f', (rchB u v m = false → m - l ≤ 2 ^ f' ∧ bisF u v f' l m = bisF u v f l h) ∧ (rchB u v m = true → h - m ≤ 2 ^ f' ∧ bisF u v f' m h = bisF u v f l h) := by
 cases f with
 | zero => simp at hf; omega
 | succ f =>
  rw [Nat.pow_succ] at hf
  have e : bisF u v (f + 1) l h = if l + 1 < h then (if rchB u v ((l + h) / 2) = true then bisF u v f ((l + h) / 2) h else bisF u v f l ((l + h) / 2)) else l := rfl
  rw [e, if_pos c, ← hm]
  refine ⟨f, fun hr => ⟨by omega, ?_⟩, fun hr => ⟨by omega, ?_⟩⟩
  ·rw [hr, if_neg Bool.false_ne_true]
  ·rw [hr, if_pos rfl]
theorem bisF_lt {u v : Int} : ∀ {f l h : Nat}, l < h → bisF u v f l h < h
 | 0, l, h, c => c
 | f + 1, l, h, c => by
  unfold bisF
  split
  ·split
   ·exact bisF_lt (by omega)
   ·have := bisF_lt (u := u) (v := v) (f := f) (l := l) (h := (l + h) / 2) (by omega)
    omega
  ·exact c
def exF (u v : Int) (k : Nat) : Bool := decide (k = 0 ∧ v = 0) || decide (k = 2700000 ∧ u = v)
structure AngF (u v : Int) (k : Nat) (ex : Bool) : Prop where
 lt : k < 5400000
 fn : k = bisF u v 23 0 5400000
 ex : ex = (decide (k = 0 ∧ v = 0) || decide (k = 2700000 ∧ u = v))
def ang1 (T u v : Int) : Int × Bool := (T + (bisF u v 23 0 5400000 : Nat), exF u v (bisF u v 23 0 5400000))
def angF (X Y : Int) : Int × Bool :=
 if 0 < X ∧ 0 ≤ Y then ang1 0 X Y else if 0 < Y ∧ X ≤ 0 then ang1 5400000 Y (-X) else if X < 0 ∧ Y ≤ 0 then ang1 10800000 (-X) (-Y) else ang1 16200000 (-Y) X
theorem AngF.eq {u v : Int} {k : Nat} {ex : Bool} (h : AngF u v k ex) (T : Int) : ang1 T u v = (T + (k : Int), ex) := by
 unfold ang1 exF
 rw [← h.fn, h.ex]
theorem angF_bd (X Y : Int) : 0 ≤ (angF X Y).1 ∧ (angF X Y).1 < 21600000 := by
 have h : ∀ T u v, (ang1 T u v).1 = T + (bisF u v 23 0 5400000 : Nat) := fun _ _ _ => rfl
 have hb : ∀ u v, bisF u v 23 0 5400000 < 5400000 := fun u v => bisF_lt (by decide)
 unfold angF
 split
 ·rw [h]; have := hb X Y; omega
 ·split
  ·rw [h]; have := hb Y (-X); omega
  ·split
   ·rw [h]; have := hb (-X) (-Y); omega
   ·rw [h]; have := hb (-Y) X; omega
def fstC (x0 x1 y0 y1 : Int) : Nat → Int × Int
 | 0 => (x0, y0)
 | i + 1 => if befB (crX x0 x1 i) (crY y0 y1 i) (fstC x0 x1 y0 y1 i).1 (fstC x0 x1 y0 y1 i).2 = true then (crX x0 x1 i, crY y0 y1 i) else fstC x0 x1 y0 y1 i
def lstC (x0 x1 y0 y1 : Int) : Nat → Int × Int
 | 0 => (x0, y0)
 | i + 1 => if befB (lstC x0 x1 y0 y1 i).1 (lstC x0 x1 y0 y1 i).2 (crX x0 x1 i) (crY y0 y1 i) = true then (crX x0 x1 i, crY y0 y1 i) else lstC x0 x1 y0 y1 i
def oriB (x0 x1 y0 y1 : Int) : Prop := x0 ≤ 0 ∧ 0 ≤ x1 ∧ y0 ≤ 0 ∧ 0 ≤ y1
instance (x0 x1 y0 y1 : Int) : Decidable (oriB x0 x1 y0 y1) := by unfold oriB; infer_instance
def brG (a c : Int × Int) : Int × Int := ((angF a.1 a.2).1, (if (angF c.1 c.2).1 < (angF a.1 a.2).1 then (angF c.1 c.2).1 + 21600000 else (angF c.1 c.2).1) + (if (angF c.1 c.2).2 = true then 0 else 1))
def brF (x0 x1 y0 y1 : Int) : Int × Int := if oriB x0 x1 y0 y1 then (0, 21600000) else brG (fstC x0 x1 y0 y1 4) (lstC x0 x1 y0 y1 4)
theorem brF_bd (x0 x1 y0 y1 : Int) : 0 ≤ (brF x0 x1 y0 y1).1 ∧ (brF x0 x1 y0 y1).1 ≤ (brF x0 x1 y0 y1).2 ∧ (brF x0 x1 y0 y1).2 ≤ 43200000 := by
 unfold brF
 split
 ·exact ⟨by decide, by decide, by decide⟩
 ·unfold brG
  obtain ⟨h0, h1⟩ := angF_bd (fstC x0 x1 y0 y1 4).1 (fstC x0 x1 y0 y1 4).2
  obtain ⟨h2, h3⟩ := angF_bd (lstC x0 x1 y0 y1 4).1 (lstC x0 x1 y0 y1 4).2
  dsimp only
  refine ⟨h0, ?_, ?_⟩ <;> (split <;> split <;> omega)
structure BoxF (x0 x1 y0 y1 : Int) (i : Nat) (a b c d : Int) : Prop where
 i4 : i ≤ 4
 f : fstC x0 x1 y0 y1 i = (a, b)
 l : lstC x0 x1 y0 y1 i = (c, d)
theorem BoxF.start {x0 x1 y0 y1 : Int} : BoxF x0 x1 y0 y1 0 x0 y0 x0 y0 := ⟨by decide, rfl, rfl⟩
theorem BoxF.step {x0 x1 y0 y1 : Int} {i : Nat} {a b c d p q : Int} (h : BoxF x0 x1 y0 y1 i a b c d) (hi : i < 4) (hp : p = crX x0 x1 i) (hq : q = crY y0 y1 i) :
  BoxF x0 x1 y0 y1 (i + 1) (if befB p q a b = true then p else a) (if befB p q a b = true then q else b) (if befB c d p q = true then p else c) (if befB c d p q = true then q else d) := by
 refine ⟨by omega, ?_, ?_⟩
 ·show (if _ then _ else _) = _
  rw [h.f, ← hp, ← hq]
  dsimp only
  split <;> rfl
 ·show (if _ then _ else _) = _
  rw [h.l, ← hp, ← hq]
  dsimp only
  split <;> rfl
theorem fst_cor (x0 x1 y0 y1 : Int) : ∀ i, ∃ j, fstC x0 x1 y0 y1 i = (crX x0 x1 j, crY y0 y1 j)
 | 0 => ⟨0, rfl⟩
 | i + 1 => by
  unfold fstC
  split
  ·exact ⟨i, rfl⟩
  ·exact fst_cor x0 x1 y0 y1 i
theorem lst_cor (x0 x1 y0 y1 : Int) : ∀ i, ∃ j, lstC x0 x1 y0 y1 i = (crX x0 x1 j, crY y0 y1 j)
 | 0 => ⟨0, rfl⟩
 | i + 1 => by
  unfold lstC
  split
  ·exact ⟨i, rfl⟩
  ·exact lst_cor x0 x1 y0 y1 i
theorem crX_bd {x0 x1 : Int} (h0 : Bd31 x0) (h1 : Bd31 x1) (j : Nat) : Bd31 (crX x0 x1 j) := by unfold crX; split <;> assumption
theorem crY_bd {y0 y1 : Int} (h0 : Bd31 y0) (h1 : Bd31 y1) (j : Nat) : Bd31 (crY y0 y1 j) := by unfold crY; split <;> assumption
theorem cor_ne {x0 x1 y0 y1 : Int} (hx : x0 ≤ x1) (hy : y0 ≤ y1) (hn : ¬ oriB x0 x1 y0 y1) (j : Nat) : ¬ (crX x0 x1 j = 0 ∧ crY y0 y1 j = 0) := by
 rintro ⟨h1, h2⟩
 apply hn
 unfold crX at h1
 unfold crY at h2
 unfold oriB
 split at h1 <;> split at h2 <;> omega
theorem BoxF.bds {x0 x1 y0 y1 : Int} {i : Nat} {a b c d : Int} (h : BoxF x0 x1 y0 y1 i a b c d) (hX0 : Bd31 x0) (hX1 : Bd31 x1) (hY0 : Bd31 y0) (hY1 : Bd31 y1) (hn : x0 ≤ x1 ∧ y0 ≤ y1 ∧ ¬ oriB x0 x1 y0 y1) :
  Bd31 a ∧ Bd31 b ∧ Bd31 c ∧ Bd31 d ∧ ¬ (a = 0 ∧ b = 0) ∧ ¬ (c = 0 ∧ d = 0) := by
 obtain ⟨j, hj⟩ := fst_cor x0 x1 y0 y1 i
 obtain ⟨k, hk⟩ := lst_cor x0 x1 y0 y1 i
 rw [h.f, Prod.mk.injEq] at hj
 rw [h.l, Prod.mk.injEq] at hk
 obtain ⟨rfl, rfl⟩ := hj
 obtain ⟨rfl, rfl⟩ := hk
 exact ⟨crX_bd hX0 hX1 _, crY_bd hY0 hY1 _, crX_bd hX0 hX1 _, crY_bd hY0 hY1 _, cor_ne hn.1 hn.2.1 hn.2.2 _, cor_ne hn.1 hn.2.1 hn.2.2 _⟩
theorem BoxF.res {x0 x1 y0 y1 a b c d : Int} (h : BoxF x0 x1 y0 y1 4 a b c d) (hn : x0 ≤ x1 ∧ y0 ≤ y1 ∧ ¬ oriB x0 x1 y0 y1) :
  brF x0 x1 y0 y1 = ((angF a b).1, (if (angF c d).1 < (angF a b).1 then (angF c d).1 + 21600000 else (angF c d).1) + (if (angF c d).2 = true then 0 else 1)) := by
 unfold brF
 rw [if_neg hn.2.2, h.f, h.l]
 rfl
set_option maxHeartbeats 4000000 in
set_option maxRecDepth 100000 in
theorem ar_angF0 (u v : Nat) (hu0 : 0 < u) (hu : u ≤ 2147483648) (hv : v ≤ 2147483648) (w : World) :
  Calls Tryz.prog 108 #[.agg #[.int .i64 (u : Int), .int .i64 (v : Int)]] w fun e w' => ∃ (k : Nat) (ex : Bool) (d : Ext), e = .returned (.tuple #[.int .i64 (k : Int), .bool ex]) ∧ AngF u v k ex ∧ w' = bw w d := by
 have a1 : (0 : Int) < (u : Int) := by omega
 have a2 : (0 : Int) ≤ (v : Int) := by omega
 refine lay_start ?_
 go_enter Tryz.func108, Tryz.ntmps108
 go_wp2_with fail
 go_loopw [4] (fun v4 wr => v4 = .int .i64 0 ∧ wr = lay w [.inl (.cells #[.int .i64 (u : Int), .int .i64 (v : Int)] 186 (0, 0))]) (fun _ _ => 0)
 case atStart => exact ⟨rfl, rfl⟩
 case round =>
  obtain ⟨rfl, rfl⟩ := hrel
  go_wp2_with fail
  go_loopw [5, 6] (fun v5 v6 wr => ∃ (l h : Nat) (dd : Ext), v5 = .int .i64 (l : Int) ∧ v6 = .int .i64 (h : Int) ∧ wr = lay w (.inr dd :: [.inl (.cells #[.int .i64 (u : Int), .int .i64 (v : Int)] 186 (0, 0))]) ∧ l < h ∧ h ≤ 5400000 ∧ ∃ f, h - l ≤ 2 ^ f ∧ bisF (u : Int) (v : Int) f l h = bisF (u : Int) (v : Int) 23 0 5400000) (fun v5 v6 _ => (intOf v6 - intOf v5).toNat)
  case atStart => exact ⟨0, 5400000, noExt _, rfl, rfl, (bw_noExt _).symm, by decide, by decide, 23, by decide, rfl⟩
  case round =>
   obtain ⟨l, h, dd, rfl, rfl, rfl, hlh, hh, f, hA, hB⟩ := hrel
   have HA := Lib.hid hA
   have HB2 := Lib.hid hB
   clear hA hB
   have k1 : IntKind.i64.wrap ((h : Int) - (l : Int)) = (h : Int) - (l : Int) := IntWalk.i64_in _ (by omega)
   by_cases c : (1 : Int) < (h : Int) - (l : Int)
   ·obtain ⟨XQ, hXQ⟩ : ∃ XQ : Int, (l : Int) + (h : Int) = XQ := ⟨_, rfl⟩
    obtain ⟨m, hm⟩ : ∃ m : Nat, XQ.tdiv 2 = (m : Int) := ⟨(XQ.tdiv 2).toNat, by rw [Int.tdiv_eq_ediv_of_nonneg (by omega)]; omega⟩
    have k2 : IntKind.i64.wrap ((l : Int) + (h : Int)) = XQ := by rw [hXQ]; exact IntWalk.i64_in _ (by omega)
    have hmid : m = (l + h) / 2 := by rw [Int.tdiv_eq_ediv_of_nonneg (by omega)] at hm; omega
    obtain ⟨f', hf0, hf1⟩ := bisF_step (u := (u : Int)) (v := (v : Int)) hmid (by omega) HA.out
    rw [HB2.out] at hf0 hf1
    have HF0 := Lib.hid hf0
    have HF1 := Lib.hid hf1
    clear hmid hf0 hf1
    have hml : l < m ∧ m < h := by rw [Int.tdiv_eq_ediv_of_nonneg (by omega)] at hm; omega
    have k3 : IntKind.i64.wrap (m : Int) = (m : Int) := IntWalk.i64_in _ (by omega)
    have HBm := Lib.hid (fun W => ar_reaches u v m (by omega) (by omega) (by omega) W)
    have HLH := Lib.hid (And.intro hlh (And.intro hh hml))
    clear hXQ hlh hh hml
    cases cb : rchB (u : Int) (v : Int) m
    ·rw [cb] at HBm
     have HC := Lib.hid cb
     clear cb
     go_wp2_with (go_at_call 193; refine (HBm.out _).mono ?_; rintro e w' ⟨rfl, d1, rfl⟩; rw [lay_bw])
     obtain ⟨g1, g2, g3, g4⟩ := HLH.out
     obtain ⟨de, hde⟩ := lay_fold w [.inr d1, .inr dd] [.inl (.cells #[.int .i64 (u : Int), .int .i64 (v : Int)] 186 (0, 0))]
     exact ⟨⟨_, _, de, rfl, rfl, hde, by omega, by omega, f', (HF0.out HC.out).1, (HF0.out HC.out).2⟩, by simp only [intOf]; omega⟩
    ·rw [cb] at HBm
     have HC := Lib.hid cb
     clear cb
     go_wp2_with (go_at_call 193; refine (HBm.out _).mono ?_; rintro e w' ⟨rfl, d1, rfl⟩; rw [lay_bw])
     obtain ⟨g1, g2, g3, g4⟩ := HLH.out
     obtain ⟨de, hde⟩ := lay_fold w [.inr d1, .inr dd] [.inl (.cells #[.int .i64 (u : Int), .int .i64 (v : Int)] 186 (0, 0))]
     exact ⟨⟨_, _, de, rfl, rfl, hde, by omega, by omega, f', (HF1.out HC.out).1, (HF1.out HC.out).2⟩, by simp only [intOf]; omega⟩
   ·have hhl : h = l + 1 := by omega
    have kT : IntKind.i64.wrap (0 + (l : Int)) = 0 + (l : Int) := IntWalk.i64_in _ (by omega)
    subst hhl
    have HAng : ∀ ex, ex = (decide (l = 0 ∧ (v : Int) = 0) || decide (l = 2700000 ∧ (u : Int) = (v : Int))) → AngF (u : Int) (v : Int) l ex := fun ex h => ⟨by omega, by have := HB2.out; rw [bisF_end] at this; exact this, h⟩
    have HAng := Lib.hid HAng
    have HL := Lib.hid (And.intro hlh hh)
    clear hlh hh HA HB2
    have kT0 : IntKind.i64.wrap (l : Int) = (l : Int) := by simpa using kT
    by_cases c1 : (l : Int) = 0
    ·have n1 : ¬ (l : Int) = 2700000 := by omega
     have n2 : ¬ l = 2700000 := by omega
     by_cases c2 : (v : Int) = 0
     ·have N : Hid (l = 0 ∧ (v : Int) = 0 ∧ ¬ l = 2700000 ∧ True) := Lib.hid ⟨by omega, c2, n2, trivial⟩
      go_wp2_with fail
      refine region_mixS 22 [(0, 0), (1, 0), (2, 0), (3, 0), (4, 0), (5, 0), (6, 0), (7, 0), (8, 0), (9, 0), (10, 0), (11, 0), (12, 0), (13, 0), (14, 0), (15, 0), (16, 0), (17, 0), (18, 0), (19, 0), (20, 0), (21, 0), (22, 3)] (by kernel_rfl) (by kernel_rfl) (by kernel_rfl) rfl ?_
      iterate 22 (refine wpMS_quiet rfl (fun K hK => ?_); go_simp; refine hK _ ?_; clear hK K)
      refine wpMS_store rfl (fun K hK e1 => ?_)
      rw [lay_bw]
      go_simp
      refine hK _ _ ?_
      clear hK K
      refine wpMS_nil (fun e2 => ?_)
      rw [lay_bw]
      go_wp2_with fail
      refine bodyPost_ret (v := .tuple #[.int .i64 0, .bool true]) (by simp [results, Tryz.results108, go_sem] <;> first | done | decide | exact kT0 | omega | (refine ⟨by first | decide | exact kT0, by omega⟩)) rfl ?_
      exact ⟨l, true, _, by first | rfl | (rw [c1]; done) | (rw [c1]; rfl) | (rw [c1]; simp), HAng.out _ (by have := N.out; simp_all <;> omega), (lay_ex _ _).choose_spec⟩
     ·have c3 : ¬ v = 0 := by omega
      have N : Hid (l = 0 ∧ ¬ (v : Int) = 0 ∧ ¬ l = 2700000 ∧ True) := Lib.hid ⟨by omega, c2, n2, trivial⟩
      go_wp2_with fail
      refine region_mixS 22 [(0, 0), (1, 0), (2, 0), (3, 0), (4, 0), (5, 0), (6, 0), (7, 0), (8, 0), (9, 0), (10, 0), (11, 0), (12, 0), (13, 0), (14, 0), (15, 0), (16, 0), (17, 0), (18, 0), (19, 0), (20, 0), (21, 0), (22, 3)] (by kernel_rfl) (by kernel_rfl) (by kernel_rfl) rfl ?_
      iterate 22 (refine wpMS_quiet rfl (fun K hK => ?_); go_simp; refine hK _ ?_; clear hK K)
      refine wpMS_store rfl (fun K hK e1 => ?_)
      rw [lay_bw]
      go_simp
      refine hK _ _ ?_
      clear hK K
      refine wpMS_nil (fun e2 => ?_)
      rw [lay_bw]
      go_wp2_with fail
      refine bodyPost_ret (v := .tuple #[.int .i64 0, .bool false]) (by simp [results, Tryz.results108, go_sem] <;> first | done | decide | exact kT0 | omega | (refine ⟨by first | decide | exact kT0, by omega⟩)) rfl ?_
      exact ⟨l, false, _, by first | rfl | (rw [c1]; done) | (rw [c1]; rfl) | (rw [c1]; simp), HAng.out _ (by have := N.out; simp_all <;> omega), (lay_ex _ _).choose_spec⟩
    ·have n1 : ¬ l = 0 := by omega
     by_cases c2 : l = 2700000
     ·subst c2
      by_cases c3 : u = v
      ·have c4 : (u : Int) = (v : Int) := by omega
       have N : Hid (True ∧ True ∧ True ∧ (u : Int) = (v : Int)) := Lib.hid ⟨trivial, trivial, trivial, c4⟩
       go_wp2_with fail
       refine region_mixS 22 [(0, 0), (1, 0), (2, 0), (3, 0), (4, 0), (5, 0), (6, 0), (7, 0), (8, 0), (9, 0), (10, 0), (11, 0), (12, 0), (13, 0), (14, 0), (15, 0), (16, 0), (17, 0), (18, 0), (19, 0), (20, 0), (21, 0), (22, 3)] (by kernel_rfl) (by kernel_rfl) (by kernel_rfl) rfl ?_
       iterate 22 (refine wpMS_quiet rfl (fun K hK => ?_); go_simp; refine hK _ ?_; clear hK K)
       refine wpMS_store rfl (fun K hK e1 => ?_)
       rw [lay_bw]
       go_simp
       refine hK _ _ ?_
       clear hK K
       refine wpMS_nil (fun e2 => ?_)
       rw [lay_bw]
       go_wp2_with fail
       refine bodyPost_ret (v := .tuple #[.int .i64 (0 + 2700000), .bool true]) (by simp [results, Tryz.results108, go_sem] <;> first | done | decide | exact kT0 | omega | (refine ⟨by first | decide | exact kT0, by omega⟩)) rfl ?_
       exact ⟨2700000, true, _, by first | rfl | (rw [c1]; done) | (rw [c1]; rfl) | (rw [c1]; simp), HAng.out _ (by have := N.out; simp_all <;> omega), (lay_ex _ _).choose_spec⟩
      ·have c4 : ¬ (u : Int) = (v : Int) := by omega
       have N : Hid (True ∧ True ∧ True ∧ ¬ (u : Int) = (v : Int)) := Lib.hid ⟨trivial, trivial, trivial, c4⟩
       go_wp2_with fail
       refine region_mixS 22 [(0, 0), (1, 0), (2, 0), (3, 0), (4, 0), (5, 0), (6, 0), (7, 0), (8, 0), (9, 0), (10, 0), (11, 0), (12, 0), (13, 0), (14, 0), (15, 0), (16, 0), (17, 0), (18, 0), (19, 0), (20, 0), (21, 0), (22, 3)] (by kernel_rfl) (by kernel_rfl) (by kernel_rfl) rfl ?_
       iterate 22 (refine wpMS_quiet rfl (fun K hK => ?_); go_simp; refine hK _ ?_; clear hK K)
       refine wpMS_store rfl (fun K hK e1 => ?_)
       rw [lay_bw]
       go_simp
       refine hK _ _ ?_
       clear hK K
       refine wpMS_nil (fun e2 => ?_)
       rw [lay_bw]
       go_wp2_with fail
       refine bodyPost_ret (v := .tuple #[.int .i64 (0 + 2700000), .bool false]) (by simp [results, Tryz.results108, go_sem] <;> first | done | decide | exact kT0 | omega | (refine ⟨by first | decide | exact kT0, by omega⟩)) rfl ?_
       exact ⟨2700000, false, _, by first | rfl | (rw [c1]; done) | (rw [c1]; rfl) | (rw [c1]; simp), HAng.out _ (by have := N.out; simp_all <;> omega), (lay_ex _ _).choose_spec⟩
     ·have c3 : ¬ (l : Int) = 2700000 := by omega
      have N : Hid (¬ l = 0 ∧ True ∧ ¬ l = 2700000 ∧ True) := Lib.hid ⟨n1, trivial, c2, trivial⟩
      go_wp2_with fail
      refine region_mixS 22 [(0, 0), (1, 0), (2, 0), (3, 0), (4, 0), (5, 0), (6, 0), (7, 0), (8, 0), (9, 0), (10, 0), (11, 0), (12, 0), (13, 0), (14, 0), (15, 0), (16, 0), (17, 0), (18, 0), (19, 0), (20, 0), (21, 0), (22, 3)] (by kernel_rfl) (by kernel_rfl) (by kernel_rfl) rfl ?_
      iterate 22 (refine wpMS_quiet rfl (fun K hK => ?_); go_simp; refine hK _ ?_; clear hK K)
      refine wpMS_store rfl (fun K hK e1 => ?_)
      rw [lay_bw]
      go_simp
      refine hK _ _ ?_
      clear hK K
      refine wpMS_nil (fun e2 => ?_)
      rw [lay_bw]
      go_wp2_with fail
      refine bodyPost_ret (v := .tuple #[.int .i64 (l : Int), .bool false]) (by simp [results, Tryz.results108, go_sem] <;> first | done | decide | exact kT0 | omega | (refine ⟨by first | decide | exact kT0, by omega⟩)) rfl ?_
      exact ⟨l, false, _, by first | rfl | (rw [c1]; done) | (rw [c1]; rfl) | (rw [c1]; simp), HAng.out _ (by have := N.out; simp_all <;> omega), (lay_ex _ _).choose_spec⟩
set_option maxHeartbeats 4000000 in
set_option maxRecDepth 100000 in
theorem ar_angF1 (u v : Nat) (a : Int) (hu0 : 0 < u) (hu : u ≤ 2147483648) (hv : v ≤ 2147483648) (ha : a = -(v : Int)) (w : World) :
  Calls Tryz.prog 108 #[.agg #[.int .i64 a, .int .i64 (u : Int)]] w fun e w' => ∃ (k : Nat) (ex : Bool) (d : Ext), e = .returned (.tuple #[.int .i64 (5400000 + (k : Int)), .bool ex]) ∧ AngF u v k ex ∧ w' = bw w d := by
 have a4 : ¬ (0 : Int) < a := by omega
 have a5 : (0 : Int) < (u : Int) := by omega
 have a6 : (0 : Int) ≤ (v : Int) := by omega
 have k1 : IntKind.i64.wrap (-a) = (v : Int) := by rw [ha, Int.neg_neg]; exact IntWalk.i64_in _ (by omega)
 have t1 : IntKind.i64.wrap ((0 : Int) + 5400000) = 5400000 := by decide
 clear ha
 refine lay_start ?_
 go_enter Tryz.func108, Tryz.ntmps108
 go_wp2_with fail
 go_loopw [4] (fun v4 wr => (v4 = .int .i64 0 ∧ wr = lay w [.inl (.cells #[.int .i64 a, .int .i64 (u : Int)] 186 (0, 0))]) ∨ (v4 = .int .i64 5400000 ∧ wr = lay w [.inl (.cells #[.int .i64 (u : Int), .int .i64 (v : Int)] 186 (0, 0))])) (fun v4 _ => (21600000 - intOf v4).toNat)
 case atStart => exact .inl ⟨rfl, rfl⟩
 case round =>
  rcases hrel with ⟨rfl, rfl⟩ | ⟨rfl, rfl⟩
  ·go_wp2_with fail
   exact ⟨.inr ⟨by first | rfl | decide, by first | rfl | trivial⟩, by first | decide | (simp only [intOf]; decide)⟩
  ·go_wp2_with fail
   go_loopw [5, 6] (fun v5 v6 wr => ∃ (l h : Nat) (dd : Ext), v5 = .int .i64 (l : Int) ∧ v6 = .int .i64 (h : Int) ∧ wr = lay w (.inr dd :: [.inl (.cells #[.int .i64 (u : Int), .int .i64 (v : Int)] 186 (0, 0))]) ∧ l < h ∧ h ≤ 5400000 ∧ ∃ f, h - l ≤ 2 ^ f ∧ bisF (u : Int) (v : Int) f l h = bisF (u : Int) (v : Int) 23 0 5400000) (fun v5 v6 _ => (intOf v6 - intOf v5).toNat)
   case atStart => exact ⟨0, 5400000, noExt _, rfl, rfl, (bw_noExt _).symm, by decide, by decide, 23, by decide, rfl⟩
   case round =>
    obtain ⟨l, h, dd, rfl, rfl, rfl, hlh, hh, f, hA, hB⟩ := hrel
    have HA := Lib.hid hA
    have HB2 := Lib.hid hB
    clear hA hB
    have k1 : IntKind.i64.wrap ((h : Int) - (l : Int)) = (h : Int) - (l : Int) := IntWalk.i64_in _ (by omega)
    by_cases c : (1 : Int) < (h : Int) - (l : Int)
    ·obtain ⟨XQ, hXQ⟩ : ∃ XQ : Int, (l : Int) + (h : Int) = XQ := ⟨_, rfl⟩
     obtain ⟨m, hm⟩ : ∃ m : Nat, XQ.tdiv 2 = (m : Int) := ⟨(XQ.tdiv 2).toNat, by rw [Int.tdiv_eq_ediv_of_nonneg (by omega)]; omega⟩
     have k2 : IntKind.i64.wrap ((l : Int) + (h : Int)) = XQ := by rw [hXQ]; exact IntWalk.i64_in _ (by omega)
     have hmid : m = (l + h) / 2 := by rw [Int.tdiv_eq_ediv_of_nonneg (by omega)] at hm; omega
     obtain ⟨f', hf0, hf1⟩ := bisF_step (u := (u : Int)) (v := (v : Int)) hmid (by omega) HA.out
     rw [HB2.out] at hf0 hf1
     have HF0 := Lib.hid hf0
     have HF1 := Lib.hid hf1
     clear hmid hf0 hf1
     have hml : l < m ∧ m < h := by rw [Int.tdiv_eq_ediv_of_nonneg (by omega)] at hm; omega
     have k3 : IntKind.i64.wrap (m : Int) = (m : Int) := IntWalk.i64_in _ (by omega)
     have HBm := Lib.hid (fun W => ar_reaches u v m (by omega) (by omega) (by omega) W)
     have HLH := Lib.hid (And.intro hlh (And.intro hh hml))
     clear hXQ hlh hh hml
     cases cb : rchB (u : Int) (v : Int) m
     ·rw [cb] at HBm
      have HC := Lib.hid cb
      clear cb
      go_wp2_with (go_at_call 193; refine (HBm.out _).mono ?_; rintro e w' ⟨rfl, d1, rfl⟩; rw [lay_bw])
      obtain ⟨g1, g2, g3, g4⟩ := HLH.out
      obtain ⟨de, hde⟩ := lay_fold w [.inr d1, .inr dd] [.inl (.cells #[.int .i64 (u : Int), .int .i64 (v : Int)] 186 (0, 0))]
      exact ⟨⟨_, _, de, rfl, rfl, hde, by omega, by omega, f', (HF0.out HC.out).1, (HF0.out HC.out).2⟩, by simp only [intOf]; omega⟩
     ·rw [cb] at HBm
      have HC := Lib.hid cb
      clear cb
      go_wp2_with (go_at_call 193; refine (HBm.out _).mono ?_; rintro e w' ⟨rfl, d1, rfl⟩; rw [lay_bw])
      obtain ⟨g1, g2, g3, g4⟩ := HLH.out
      obtain ⟨de, hde⟩ := lay_fold w [.inr d1, .inr dd] [.inl (.cells #[.int .i64 (u : Int), .int .i64 (v : Int)] 186 (0, 0))]
      exact ⟨⟨_, _, de, rfl, rfl, hde, by omega, by omega, f', (HF1.out HC.out).1, (HF1.out HC.out).2⟩, by simp only [intOf]; omega⟩
    ·have hhl : h = l + 1 := by omega
     have kT : IntKind.i64.wrap (5400000 + (l : Int)) = 5400000 + (l : Int) := IntWalk.i64_in _ (by omega)
     subst hhl
     have HAng : ∀ ex, ex = (decide (l = 0 ∧ (v : Int) = 0) || decide (l = 2700000 ∧ (u : Int) = (v : Int))) → AngF (u : Int) (v : Int) l ex := fun ex h => ⟨by omega, by have := HB2.out; rw [bisF_end] at this; exact this, h⟩
     have HAng := Lib.hid HAng
     have HL := Lib.hid (And.intro hlh hh)
     clear hlh hh HA HB2
     have kT0 : IntKind.i64.wrap (5400000 + (l : Int)) = (5400000 + (l : Int)) := by simpa using kT
     by_cases c1 : (l : Int) = 0
     ·have n1 : ¬ (l : Int) = 2700000 := by omega
      have n2 : ¬ l = 2700000 := by omega
      by_cases c2 : (v : Int) = 0
      ·have N : Hid (l = 0 ∧ (v : Int) = 0 ∧ ¬ l = 2700000 ∧ True) := Lib.hid ⟨by omega, c2, n2, trivial⟩
       go_wp2_with fail
       refine region_mixS 22 [(0, 0), (1, 0), (2, 0), (3, 0), (4, 0), (5, 0), (6, 0), (7, 0), (8, 0), (9, 0), (10, 0), (11, 0), (12, 0), (13, 0), (14, 0), (15, 0), (16, 0), (17, 0), (18, 0), (19, 0), (20, 0), (21, 0), (22, 3)] (by kernel_rfl) (by kernel_rfl) (by kernel_rfl) rfl ?_
       iterate 22 (refine wpMS_quiet rfl (fun K hK => ?_); go_simp; refine hK _ ?_; clear hK K)
       refine wpMS_store rfl (fun K hK e1 => ?_)
       rw [lay_bw]
       go_simp
       refine hK _ _ ?_
       clear hK K
       refine wpMS_nil (fun e2 => ?_)
       rw [lay_bw]
       go_wp2_with fail
       refine bodyPost_ret (v := .tuple #[.int .i64 5400000, .bool true]) (by simp [results, Tryz.results108, go_sem] <;> first | done | decide | exact kT0 | omega | (refine ⟨by first | decide | exact kT0, by omega⟩)) rfl ?_
       exact ⟨l, true, _, by first | rfl | (rw [c1]; done) | (rw [c1]; rfl) | (rw [c1]; simp), HAng.out _ (by have := N.out; simp_all <;> omega), (lay_ex _ _).choose_spec⟩
      ·have c3 : ¬ v = 0 := by omega
       have N : Hid (l = 0 ∧ ¬ (v : Int) = 0 ∧ ¬ l = 2700000 ∧ True) := Lib.hid ⟨by omega, c2, n2, trivial⟩
       go_wp2_with fail
       refine region_mixS 22 [(0, 0), (1, 0), (2, 0), (3, 0), (4, 0), (5, 0), (6, 0), (7, 0), (8, 0), (9, 0), (10, 0), (11, 0), (12, 0), (13, 0), (14, 0), (15, 0), (16, 0), (17, 0), (18, 0), (19, 0), (20, 0), (21, 0), (22, 3)] (by kernel_rfl) (by kernel_rfl) (by kernel_rfl) rfl ?_
       iterate 22 (refine wpMS_quiet rfl (fun K hK => ?_); go_simp; refine hK _ ?_; clear hK K)
       refine wpMS_store rfl (fun K hK e1 => ?_)
       rw [lay_bw]
       go_simp
       refine hK _ _ ?_
       clear hK K
       refine wpMS_nil (fun e2 => ?_)
       rw [lay_bw]
       go_wp2_with fail
       refine bodyPost_ret (v := .tuple #[.int .i64 5400000, .bool false]) (by simp [results, Tryz.results108, go_sem] <;> first | done | decide | exact kT0 | omega | (refine ⟨by first | decide | exact kT0, by omega⟩)) rfl ?_
       exact ⟨l, false, _, by first | rfl | (rw [c1]; done) | (rw [c1]; rfl) | (rw [c1]; simp), HAng.out _ (by have := N.out; simp_all <;> omega), (lay_ex _ _).choose_spec⟩
     ·have n1 : ¬ l = 0 := by omega
      by_cases c2 : l = 2700000
      ·subst c2
       by_cases c3 : u = v
       ·have c4 : (u : Int) = (v : Int) := by omega
        have N : Hid (True ∧ True ∧ True ∧ (u : Int) = (v : Int)) := Lib.hid ⟨trivial, trivial, trivial, c4⟩
        go_wp2_with fail
        refine region_mixS 22 [(0, 0), (1, 0), (2, 0), (3, 0), (4, 0), (5, 0), (6, 0), (7, 0), (8, 0), (9, 0), (10, 0), (11, 0), (12, 0), (13, 0), (14, 0), (15, 0), (16, 0), (17, 0), (18, 0), (19, 0), (20, 0), (21, 0), (22, 3)] (by kernel_rfl) (by kernel_rfl) (by kernel_rfl) rfl ?_
        iterate 22 (refine wpMS_quiet rfl (fun K hK => ?_); go_simp; refine hK _ ?_; clear hK K)
        refine wpMS_store rfl (fun K hK e1 => ?_)
        rw [lay_bw]
        go_simp
        refine hK _ _ ?_
        clear hK K
        refine wpMS_nil (fun e2 => ?_)
        rw [lay_bw]
        go_wp2_with fail
        refine bodyPost_ret (v := .tuple #[.int .i64 (5400000 + 2700000), .bool true]) (by simp [results, Tryz.results108, go_sem] <;> first | done | decide | exact kT0 | omega | (refine ⟨by first | decide | exact kT0, by omega⟩)) rfl ?_
        exact ⟨2700000, true, _, by first | rfl | (rw [c1]; done) | (rw [c1]; rfl) | (rw [c1]; simp), HAng.out _ (by have := N.out; simp_all <;> omega), (lay_ex _ _).choose_spec⟩
       ·have c4 : ¬ (u : Int) = (v : Int) := by omega
        have N : Hid (True ∧ True ∧ True ∧ ¬ (u : Int) = (v : Int)) := Lib.hid ⟨trivial, trivial, trivial, c4⟩
        go_wp2_with fail
        refine region_mixS 22 [(0, 0), (1, 0), (2, 0), (3, 0), (4, 0), (5, 0), (6, 0), (7, 0), (8, 0), (9, 0), (10, 0), (11, 0), (12, 0), (13, 0), (14, 0), (15, 0), (16, 0), (17, 0), (18, 0), (19, 0), (20, 0), (21, 0), (22, 3)] (by kernel_rfl) (by kernel_rfl) (by kernel_rfl) rfl ?_
        iterate 22 (refine wpMS_quiet rfl (fun K hK => ?_); go_simp; refine hK _ ?_; clear hK K)
        refine wpMS_store rfl (fun K hK e1 => ?_)
        rw [lay_bw]
        go_simp
        refine hK _ _ ?_
        clear hK K
        refine wpMS_nil (fun e2 => ?_)
        rw [lay_bw]
        go_wp2_with fail
        refine bodyPost_ret (v := .tuple #[.int .i64 (5400000 + 2700000), .bool false]) (by simp [results, Tryz.results108, go_sem] <;> first | done | decide | exact kT0 | omega | (refine ⟨by first | decide | exact kT0, by omega⟩)) rfl ?_
        exact ⟨2700000, false, _, by first | rfl | (rw [c1]; done) | (rw [c1]; rfl) | (rw [c1]; simp), HAng.out _ (by have := N.out; simp_all <;> omega), (lay_ex _ _).choose_spec⟩
      ·have c3 : ¬ (l : Int) = 2700000 := by omega
       have N : Hid (¬ l = 0 ∧ True ∧ ¬ l = 2700000 ∧ True) := Lib.hid ⟨n1, trivial, c2, trivial⟩
       go_wp2_with fail
       refine region_mixS 22 [(0, 0), (1, 0), (2, 0), (3, 0), (4, 0), (5, 0), (6, 0), (7, 0), (8, 0), (9, 0), (10, 0), (11, 0), (12, 0), (13, 0), (14, 0), (15, 0), (16, 0), (17, 0), (18, 0), (19, 0), (20, 0), (21, 0), (22, 3)] (by kernel_rfl) (by kernel_rfl) (by kernel_rfl) rfl ?_
       iterate 22 (refine wpMS_quiet rfl (fun K hK => ?_); go_simp; refine hK _ ?_; clear hK K)
       refine wpMS_store rfl (fun K hK e1 => ?_)
       rw [lay_bw]
       go_simp
       refine hK _ _ ?_
       clear hK K
       refine wpMS_nil (fun e2 => ?_)
       rw [lay_bw]
       go_wp2_with fail
       refine bodyPost_ret (v := .tuple #[.int .i64 (5400000 + (l : Int)), .bool false]) (by simp [results, Tryz.results108, go_sem] <;> first | done | decide | exact kT0 | omega | (refine ⟨by first | decide | exact kT0, by omega⟩)) rfl ?_
       exact ⟨l, false, _, by first | rfl | (rw [c1]; done) | (rw [c1]; rfl) | (rw [c1]; simp), HAng.out _ (by have := N.out; simp_all <;> omega), (lay_ex _ _).choose_spec⟩
set_option maxHeartbeats 4000000 in
set_option maxRecDepth 100000 in
theorem ar_angF2 (u v : Nat) (a b : Int) (hu0 : 0 < u) (hu : u ≤ 2147483648) (hv : v ≤ 2147483648) (ha : a = -(u : Int)) (hb : b = -(v : Int)) (w : World) :
  Calls Tryz.prog 108 #[.agg #[.int .i64 a, .int .i64 b]] w fun e w' => ∃ (k : Nat) (ex : Bool) (d : Ext), e = .returned (.tuple #[.int .i64 (10800000 + (k : Int)), .bool ex]) ∧ AngF u v k ex ∧ w' = bw w d := by
 have a3 : ¬ (0 : Int) < a := by omega
 have a4 : ¬ (0 : Int) < b := by omega
 have a5 : (0 : Int) < (u : Int) := by omega
 have a6 : (0 : Int) ≤ (v : Int) := by omega
 have k1 : IntKind.i64.wrap (-a) = (u : Int) := by rw [ha, Int.neg_neg]; exact IntWalk.i64_in _ (by omega)
 have k2 : IntKind.i64.wrap (-b) = (v : Int) := by rw [hb, Int.neg_neg]; exact IntWalk.i64_in _ (by omega)
 have t1 : IntKind.i64.wrap ((0 : Int) + 5400000) = 5400000 := by decide
 have t2 : IntKind.i64.wrap ((5400000 : Int) + 5400000) = 10800000 := by decide
 clear ha hb
 refine lay_start ?_
 go_enter Tryz.func108, Tryz.ntmps108
 go_wp2_with fail
 go_loopw [4] (fun v4 wr => (v4 = .int .i64 0 ∧ wr = lay w [.inl (.cells #[.int .i64 a, .int .i64 b] 186 (0, 0))]) ∨ (v4 = .int .i64 5400000 ∧ wr = lay w [.inl (.cells #[.int .i64 b, .int .i64 (u : Int)] 186 (0, 0))]) ∨ (v4 = .int .i64 10800000 ∧ wr = lay w [.inl (.cells #[.int .i64 (u : Int), .int .i64 (v : Int)] 186 (0, 0))])) (fun v4 _ => (21600000 - intOf v4).toNat)
 case atStart => exact .inl ⟨rfl, rfl⟩
 case round =>
  rcases hrel with ⟨rfl, rfl⟩ | ⟨rfl, rfl⟩ | ⟨rfl, rfl⟩
  ·go_wp2_with fail
   exact ⟨.inr (.inl ⟨by first | rfl | decide, by first | rfl | trivial⟩), by first | decide | (simp only [intOf]; decide)⟩
  ·go_wp2_with fail
   exact ⟨.inr (.inr ⟨by first | rfl | decide, by first | rfl | trivial⟩), by first | decide | (simp only [intOf]; decide)⟩
  ·go_wp2_with fail
   go_loopw [5, 6] (fun v5 v6 wr => ∃ (l h : Nat) (dd : Ext), v5 = .int .i64 (l : Int) ∧ v6 = .int .i64 (h : Int) ∧ wr = lay w (.inr dd :: [.inl (.cells #[.int .i64 (u : Int), .int .i64 (v : Int)] 186 (0, 0))]) ∧ l < h ∧ h ≤ 5400000 ∧ ∃ f, h - l ≤ 2 ^ f ∧ bisF (u : Int) (v : Int) f l h = bisF (u : Int) (v : Int) 23 0 5400000) (fun v5 v6 _ => (intOf v6 - intOf v5).toNat)
   case atStart => exact ⟨0, 5400000, noExt _, rfl, rfl, (bw_noExt _).symm, by decide, by decide, 23, by decide, rfl⟩
   case round =>
    obtain ⟨l, h, dd, rfl, rfl, rfl, hlh, hh, f, hA, hB⟩ := hrel
    have HA := Lib.hid hA
    have HB2 := Lib.hid hB
    clear hA hB
    have k1 : IntKind.i64.wrap ((h : Int) - (l : Int)) = (h : Int) - (l : Int) := IntWalk.i64_in _ (by omega)
    by_cases c : (1 : Int) < (h : Int) - (l : Int)
    ·obtain ⟨XQ, hXQ⟩ : ∃ XQ : Int, (l : Int) + (h : Int) = XQ := ⟨_, rfl⟩
     obtain ⟨m, hm⟩ : ∃ m : Nat, XQ.tdiv 2 = (m : Int) := ⟨(XQ.tdiv 2).toNat, by rw [Int.tdiv_eq_ediv_of_nonneg (by omega)]; omega⟩
     have k2 : IntKind.i64.wrap ((l : Int) + (h : Int)) = XQ := by rw [hXQ]; exact IntWalk.i64_in _ (by omega)
     have hmid : m = (l + h) / 2 := by rw [Int.tdiv_eq_ediv_of_nonneg (by omega)] at hm; omega
     obtain ⟨f', hf0, hf1⟩ := bisF_step (u := (u : Int)) (v := (v : Int)) hmid (by omega) HA.out
     rw [HB2.out] at hf0 hf1
     have HF0 := Lib.hid hf0
     have HF1 := Lib.hid hf1
     clear hmid hf0 hf1
     have hml : l < m ∧ m < h := by rw [Int.tdiv_eq_ediv_of_nonneg (by omega)] at hm; omega
     have k3 : IntKind.i64.wrap (m : Int) = (m : Int) := IntWalk.i64_in _ (by omega)
     have HBm := Lib.hid (fun W => ar_reaches u v m (by omega) (by omega) (by omega) W)
     have HLH := Lib.hid (And.intro hlh (And.intro hh hml))
     clear hXQ hlh hh hml
     cases cb : rchB (u : Int) (v : Int) m
     ·rw [cb] at HBm
      have HC := Lib.hid cb
      clear cb
      go_wp2_with (go_at_call 193; refine (HBm.out _).mono ?_; rintro e w' ⟨rfl, d1, rfl⟩; rw [lay_bw])
      obtain ⟨g1, g2, g3, g4⟩ := HLH.out
      obtain ⟨de, hde⟩ := lay_fold w [.inr d1, .inr dd] [.inl (.cells #[.int .i64 (u : Int), .int .i64 (v : Int)] 186 (0, 0))]
      exact ⟨⟨_, _, de, rfl, rfl, hde, by omega, by omega, f', (HF0.out HC.out).1, (HF0.out HC.out).2⟩, by simp only [intOf]; omega⟩
     ·rw [cb] at HBm
      have HC := Lib.hid cb
      clear cb
      go_wp2_with (go_at_call 193; refine (HBm.out _).mono ?_; rintro e w' ⟨rfl, d1, rfl⟩; rw [lay_bw])
      obtain ⟨g1, g2, g3, g4⟩ := HLH.out
      obtain ⟨de, hde⟩ := lay_fold w [.inr d1, .inr dd] [.inl (.cells #[.int .i64 (u : Int), .int .i64 (v : Int)] 186 (0, 0))]
      exact ⟨⟨_, _, de, rfl, rfl, hde, by omega, by omega, f', (HF1.out HC.out).1, (HF1.out HC.out).2⟩, by simp only [intOf]; omega⟩
    ·have hhl : h = l + 1 := by omega
     have kT : IntKind.i64.wrap (10800000 + (l : Int)) = 10800000 + (l : Int) := IntWalk.i64_in _ (by omega)
     subst hhl
     have HAng : ∀ ex, ex = (decide (l = 0 ∧ (v : Int) = 0) || decide (l = 2700000 ∧ (u : Int) = (v : Int))) → AngF (u : Int) (v : Int) l ex := fun ex h => ⟨by omega, by have := HB2.out; rw [bisF_end] at this; exact this, h⟩
     have HAng := Lib.hid HAng
     have HL := Lib.hid (And.intro hlh hh)
     clear hlh hh HA HB2
     have kT0 : IntKind.i64.wrap (10800000 + (l : Int)) = (10800000 + (l : Int)) := by simpa using kT
     by_cases c1 : (l : Int) = 0
     ·have n1 : ¬ (l : Int) = 2700000 := by omega
      have n2 : ¬ l = 2700000 := by omega
      by_cases c2 : (v : Int) = 0
      ·have N : Hid (l = 0 ∧ (v : Int) = 0 ∧ ¬ l = 2700000 ∧ True) := Lib.hid ⟨by omega, c2, n2, trivial⟩
       go_wp2_with fail
       refine region_mixS 22 [(0, 0), (1, 0), (2, 0), (3, 0), (4, 0), (5, 0), (6, 0), (7, 0), (8, 0), (9, 0), (10, 0), (11, 0), (12, 0), (13, 0), (14, 0), (15, 0), (16, 0), (17, 0), (18, 0), (19, 0), (20, 0), (21, 0), (22, 3)] (by kernel_rfl) (by kernel_rfl) (by kernel_rfl) rfl ?_
       iterate 22 (refine wpMS_quiet rfl (fun K hK => ?_); go_simp; refine hK _ ?_; clear hK K)
       refine wpMS_store rfl (fun K hK e1 => ?_)
       rw [lay_bw]
       go_simp
       refine hK _ _ ?_
       clear hK K
       refine wpMS_nil (fun e2 => ?_)
       rw [lay_bw]
       go_wp2_with fail
       refine bodyPost_ret (v := .tuple #[.int .i64 10800000, .bool true]) (by simp [results, Tryz.results108, go_sem] <;> first | done | decide | exact kT0 | omega | (refine ⟨by first | decide | exact kT0, by omega⟩)) rfl ?_
       exact ⟨l, true, _, by first | rfl | (rw [c1]; done) | (rw [c1]; rfl) | (rw [c1]; simp), HAng.out _ (by have := N.out; simp_all <;> omega), (lay_ex _ _).choose_spec⟩
      ·have c3 : ¬ v = 0 := by omega
       have N : Hid (l = 0 ∧ ¬ (v : Int) = 0 ∧ ¬ l = 2700000 ∧ True) := Lib.hid ⟨by omega, c2, n2, trivial⟩
       go_wp2_with fail
       refine region_mixS 22 [(0, 0), (1, 0), (2, 0), (3, 0), (4, 0), (5, 0), (6, 0), (7, 0), (8, 0), (9, 0), (10, 0), (11, 0), (12, 0), (13, 0), (14, 0), (15, 0), (16, 0), (17, 0), (18, 0), (19, 0), (20, 0), (21, 0), (22, 3)] (by kernel_rfl) (by kernel_rfl) (by kernel_rfl) rfl ?_
       iterate 22 (refine wpMS_quiet rfl (fun K hK => ?_); go_simp; refine hK _ ?_; clear hK K)
       refine wpMS_store rfl (fun K hK e1 => ?_)
       rw [lay_bw]
       go_simp
       refine hK _ _ ?_
       clear hK K
       refine wpMS_nil (fun e2 => ?_)
       rw [lay_bw]
       go_wp2_with fail
       refine bodyPost_ret (v := .tuple #[.int .i64 10800000, .bool false]) (by simp [results, Tryz.results108, go_sem] <;> first | done | decide | exact kT0 | omega | (refine ⟨by first | decide | exact kT0, by omega⟩)) rfl ?_
       exact ⟨l, false, _, by first | rfl | (rw [c1]; done) | (rw [c1]; rfl) | (rw [c1]; simp), HAng.out _ (by have := N.out; simp_all <;> omega), (lay_ex _ _).choose_spec⟩
     ·have n1 : ¬ l = 0 := by omega
      by_cases c2 : l = 2700000
      ·subst c2
       by_cases c3 : u = v
       ·have c4 : (u : Int) = (v : Int) := by omega
        have N : Hid (True ∧ True ∧ True ∧ (u : Int) = (v : Int)) := Lib.hid ⟨trivial, trivial, trivial, c4⟩
        go_wp2_with fail
        refine region_mixS 22 [(0, 0), (1, 0), (2, 0), (3, 0), (4, 0), (5, 0), (6, 0), (7, 0), (8, 0), (9, 0), (10, 0), (11, 0), (12, 0), (13, 0), (14, 0), (15, 0), (16, 0), (17, 0), (18, 0), (19, 0), (20, 0), (21, 0), (22, 3)] (by kernel_rfl) (by kernel_rfl) (by kernel_rfl) rfl ?_
        iterate 22 (refine wpMS_quiet rfl (fun K hK => ?_); go_simp; refine hK _ ?_; clear hK K)
        refine wpMS_store rfl (fun K hK e1 => ?_)
        rw [lay_bw]
        go_simp
        refine hK _ _ ?_
        clear hK K
        refine wpMS_nil (fun e2 => ?_)
        rw [lay_bw]
        go_wp2_with fail
        refine bodyPost_ret (v := .tuple #[.int .i64 (10800000 + 2700000), .bool true]) (by simp [results, Tryz.results108, go_sem] <;> first | done | decide | exact kT0 | omega | (refine ⟨by first | decide | exact kT0, by omega⟩)) rfl ?_
        exact ⟨2700000, true, _, by first | rfl | (rw [c1]; done) | (rw [c1]; rfl) | (rw [c1]; simp), HAng.out _ (by have := N.out; simp_all <;> omega), (lay_ex _ _).choose_spec⟩
       ·have c4 : ¬ (u : Int) = (v : Int) := by omega
        have N : Hid (True ∧ True ∧ True ∧ ¬ (u : Int) = (v : Int)) := Lib.hid ⟨trivial, trivial, trivial, c4⟩
        go_wp2_with fail
        refine region_mixS 22 [(0, 0), (1, 0), (2, 0), (3, 0), (4, 0), (5, 0), (6, 0), (7, 0), (8, 0), (9, 0), (10, 0), (11, 0), (12, 0), (13, 0), (14, 0), (15, 0), (16, 0), (17, 0), (18, 0), (19, 0), (20, 0), (21, 0), (22, 3)] (by kernel_rfl) (by kernel_rfl) (by kernel_rfl) rfl ?_
        iterate 22 (refine wpMS_quiet rfl (fun K hK => ?_); go_simp; refine hK _ ?_; clear hK K)
        refine wpMS_store rfl (fun K hK e1 => ?_)
        rw [lay_bw]
        go_simp
        refine hK _ _ ?_
        clear hK K
        refine wpMS_nil (fun e2 => ?_)
        rw [lay_bw]
        go_wp2_with fail
        refine bodyPost_ret (v := .tuple #[.int .i64 (10800000 + 2700000), .bool false]) (by simp [results, Tryz.results108, go_sem] <;> first | done | decide | exact kT0 | omega | (refine ⟨by first | decide | exact kT0, by omega⟩)) rfl ?_
        exact ⟨2700000, false, _, by first | rfl | (rw [c1]; done) | (rw [c1]; rfl) | (rw [c1]; simp), HAng.out _ (by have := N.out; simp_all <;> omega), (lay_ex _ _).choose_spec⟩
      ·have c3 : ¬ (l : Int) = 2700000 := by omega
       have N : Hid (¬ l = 0 ∧ True ∧ ¬ l = 2700000 ∧ True) := Lib.hid ⟨n1, trivial, c2, trivial⟩
       go_wp2_with fail
       refine region_mixS 22 [(0, 0), (1, 0), (2, 0), (3, 0), (4, 0), (5, 0), (6, 0), (7, 0), (8, 0), (9, 0), (10, 0), (11, 0), (12, 0), (13, 0), (14, 0), (15, 0), (16, 0), (17, 0), (18, 0), (19, 0), (20, 0), (21, 0), (22, 3)] (by kernel_rfl) (by kernel_rfl) (by kernel_rfl) rfl ?_
       iterate 22 (refine wpMS_quiet rfl (fun K hK => ?_); go_simp; refine hK _ ?_; clear hK K)
       refine wpMS_store rfl (fun K hK e1 => ?_)
       rw [lay_bw]
       go_simp
       refine hK _ _ ?_
       clear hK K
       refine wpMS_nil (fun e2 => ?_)
       rw [lay_bw]
       go_wp2_with fail
       refine bodyPost_ret (v := .tuple #[.int .i64 (10800000 + (l : Int)), .bool false]) (by simp [results, Tryz.results108, go_sem] <;> first | done | decide | exact kT0 | omega | (refine ⟨by first | decide | exact kT0, by omega⟩)) rfl ?_
       exact ⟨l, false, _, by first | rfl | (rw [c1]; done) | (rw [c1]; rfl) | (rw [c1]; simp), HAng.out _ (by have := N.out; simp_all <;> omega), (lay_ex _ _).choose_spec⟩
end Go.Proofs.YtcbicpbbjbkiaaaGreatDoor
namespace Go.Proofs.YtcbicpbbjbkiaaaGreatDoor
set_option maxHeartbeats 4000000
set_option maxRecDepth 100000
open Go.RowKit

theorem ar_angF3 (u v : Nat) (b c : Int) (hu0 : 0 < u) (hu : u ≤ 2147483648) (hv0 : 0 < v) (hv : v ≤ 2147483648) (hb : b = -(u : Int)) (hc : c = -(v : Int)) (w : World) :
  Calls Tryz.prog 108 #[.agg #[.int .i64 (v : Int), .int .i64 b]] w fun e w' => ∃ (k : Nat) (ex : Bool) (d : Ext), e = .returned (.tuple #[.int .i64 (16200000 + (k : Int)), .bool ex]) ∧ AngF u v k ex ∧ w' = bw w d := by
 have a1 : (0 : Int) < (v : Int) := by omega
 have a2 : ¬ (0 : Int) ≤ b := by omega
 have a3 : ¬ (0 : Int) < b := by omega
 have a4 : ¬ (0 : Int) < c := by omega
 have a5 : (0 : Int) < (u : Int) := by omega
 have a6 : (0 : Int) ≤ (v : Int) := by omega
 have k1 : IntKind.i64.wrap (-(v : Int)) = c := by rw [hc]; exact IntWalk.i64_in _ (by omega)
 have k2 : IntKind.i64.wrap (-b) = (u : Int) := by rw [hb, Int.neg_neg]; exact IntWalk.i64_in _ (by omega)
 have k3 : IntKind.i64.wrap (-c) = (v : Int) := by rw [hc, Int.neg_neg]; exact IntWalk.i64_in _ (by omega)
 have t1 : IntKind.i64.wrap ((0 : Int) + 5400000) = 5400000 := by decide
 have t2 : IntKind.i64.wrap ((5400000 : Int) + 5400000) = 10800000 := by decide
 have t3 : IntKind.i64.wrap ((10800000 : Int) + 5400000) = 16200000 := by decide
 clear hb hc
 refine lay_start ?_
 go_enter Tryz.func108, Tryz.ntmps108
 go_wp2_with fail
 go_loopw [4] (fun v4 wr => (v4 = .int .i64 0 ∧ wr = lay w [.inl (.cells #[.int .i64 (v : Int), .int .i64 b] 186 (0, 0))]) ∨ (v4 = .int .i64 5400000 ∧ wr = lay w [.inl (.cells #[.int .i64 b, .int .i64 c] 186 (0, 0))]) ∨ (v4 = .int .i64 10800000 ∧ wr = lay w [.inl (.cells #[.int .i64 c, .int .i64 (u : Int)] 186 (0, 0))]) ∨ (v4 = .int .i64 16200000 ∧ wr = lay w [.inl (.cells #[.int .i64 (u : Int), .int .i64 (v : Int)] 186 (0, 0))])) (fun v4 _ => (21600000 - intOf v4).toNat)
 case atStart => exact .inl ⟨rfl, rfl⟩
 case round =>
  rcases hrel with ⟨rfl, rfl⟩ | ⟨rfl, rfl⟩ | ⟨rfl, rfl⟩ | ⟨rfl, rfl⟩
  ·go_wp2_with fail
   all_goals first | (exfalso; have hq : (!decide ((0 : Int) ≤ b)) = false := (by assumption); simp at hq; omega) | skip
   exact ⟨.inr (.inl ⟨by first | rfl | decide, by first | rfl | trivial⟩), by first | decide | (simp only [intOf]; decide)⟩
  ·go_wp2_with fail
   exact ⟨.inr (.inr (.inl ⟨by first | rfl | decide, by first | rfl | trivial⟩)), by first | decide | (simp only [intOf]; decide)⟩
  ·go_wp2_with fail
   exact ⟨.inr (.inr (.inr ⟨by first | rfl | decide, by first | rfl | trivial⟩)), by first | decide | (simp only [intOf]; decide)⟩
  ·go_wp2_with fail
   go_loopw [5, 6] (fun v5 v6 wr => ∃ (l h : Nat) (dd : Ext), v5 = .int .i64 (l : Int) ∧ v6 = .int .i64 (h : Int) ∧ wr = lay w (.inr dd :: [.inl (.cells #[.int .i64 (u : Int), .int .i64 (v : Int)] 186 (0, 0))]) ∧ l < h ∧ h ≤ 5400000 ∧ ∃ f, h - l ≤ 2 ^ f ∧ bisF (u : Int) (v : Int) f l h = bisF (u : Int) (v : Int) 23 0 5400000) (fun v5 v6 _ => (intOf v6 - intOf v5).toNat)
   case atStart => exact ⟨0, 5400000, noExt _, rfl, rfl, (bw_noExt _).symm, by decide, by decide, 23, by decide, rfl⟩
   case round =>
    obtain ⟨l, h, dd, rfl, rfl, rfl, hlh, hh, f, hA, hB⟩ := hrel
    have HA := Lib.hid hA
    have HB2 := Lib.hid hB
    clear hA hB
    have k1 : IntKind.i64.wrap ((h : Int) - (l : Int)) = (h : Int) - (l : Int) := IntWalk.i64_in _ (by omega)
    by_cases c : (1 : Int) < (h : Int) - (l : Int)
    ·obtain ⟨XQ, hXQ⟩ : ∃ XQ : Int, (l : Int) + (h : Int) = XQ := ⟨_, rfl⟩
     obtain ⟨m, hm⟩ : ∃ m : Nat, XQ.tdiv 2 = (m : Int) := ⟨(XQ.tdiv 2).toNat, by rw [Int.tdiv_eq_ediv_of_nonneg (by omega)]; omega⟩
     have k2 : IntKind.i64.wrap ((l : Int) + (h : Int)) = XQ := by rw [hXQ]; exact IntWalk.i64_in _ (by omega)
     have hmid : m = (l + h) / 2 := by rw [Int.tdiv_eq_ediv_of_nonneg (by omega)] at hm; omega
     obtain ⟨f', hf0, hf1⟩ := bisF_step (u := (u : Int)) (v := (v : Int)) hmid (by omega) HA.out
     rw [HB2.out] at hf0 hf1
     have HF0 := Lib.hid hf0
     have HF1 := Lib.hid hf1
     clear hmid hf0 hf1
     have hml : l < m ∧ m < h := by rw [Int.tdiv_eq_ediv_of_nonneg (by omega)] at hm; omega
     have k3 : IntKind.i64.wrap (m : Int) = (m : Int) := IntWalk.i64_in _ (by omega)
     have HBm := Lib.hid (fun W => ar_reaches u v m (by omega) (by omega) (by omega) W)
     have HLH := Lib.hid (And.intro hlh (And.intro hh hml))
     clear hXQ hlh hh hml
     cases cb : rchB (u : Int) (v : Int) m
     ·rw [cb] at HBm
      have HC := Lib.hid cb
      clear cb
      go_wp2_with (go_at_call 193; refine (HBm.out _).mono ?_; rintro e w' ⟨rfl, d1, rfl⟩; rw [lay_bw])
      obtain ⟨g1, g2, g3, g4⟩ := HLH.out
      obtain ⟨de, hde⟩ := lay_fold w [.inr d1, .inr dd] [.inl (.cells #[.int .i64 (u : Int), .int .i64 (v : Int)] 186 (0, 0))]
      exact ⟨⟨_, _, de, rfl, rfl, hde, by omega, by omega, f', (HF0.out HC.out).1, (HF0.out HC.out).2⟩, by simp only [intOf]; omega⟩
     ·rw [cb] at HBm
      have HC := Lib.hid cb
      clear cb
      go_wp2_with (go_at_call 193; refine (HBm.out _).mono ?_; rintro e w' ⟨rfl, d1, rfl⟩; rw [lay_bw])
      obtain ⟨g1, g2, g3, g4⟩ := HLH.out
      obtain ⟨de, hde⟩ := lay_fold w [.inr d1, .inr dd] [.inl (.cells #[.int .i64 (u : Int), .int .i64 (v : Int)] 186 (0, 0))]
      exact ⟨⟨_, _, de, rfl, rfl, hde, by omega, by omega, f', (HF1.out HC.out).1, (HF1.out HC.out).2⟩, by simp only [intOf]; omega⟩
    ·have hhl : h = l + 1 := by omega
     have kT : IntKind.i64.wrap (16200000 + (l : Int)) = 16200000 + (l : Int) := IntWalk.i64_in _ (by omega)
     subst hhl
     have HAng : ∀ ex, ex = (decide (l = 0 ∧ (v : Int) = 0) || decide (l = 2700000 ∧ (u : Int) = (v : Int))) → AngF (u : Int) (v : Int) l ex := fun ex h => ⟨by omega, by have := HB2.out; rw [bisF_end] at this; exact this, h⟩
     have HAng := Lib.hid HAng
     have HL := Lib.hid (And.intro hlh hh)
     clear hlh hh HA HB2
     have kT0 : IntKind.i64.wrap (16200000 + (l : Int)) = (16200000 + (l : Int)) := by simpa using kT
     by_cases c1 : (l : Int) = 0
     ·have n1 : ¬ (l : Int) = 2700000 := by omega
      have n2 : ¬ l = 2700000 := by omega
      by_cases c2 : (v : Int) = 0
      ·have N : Hid (l = 0 ∧ (v : Int) = 0 ∧ ¬ l = 2700000 ∧ True) := Lib.hid ⟨by omega, c2, n2, trivial⟩
       go_wp2_with fail
       refine region_mixS 22 [(0, 0), (1, 0), (2, 0), (3, 0), (4, 0), (5, 0), (6, 0), (7, 0), (8, 0), (9, 0), (10, 0), (11, 0), (12, 0), (13, 0), (14, 0), (15, 0), (16, 0), (17, 0), (18, 0), (19, 0), (20, 0), (21, 0), (22, 3)] (by kernel_rfl) (by kernel_rfl) (by kernel_rfl) rfl ?_
       iterate 22 (refine wpMS_quiet rfl (fun K hK => ?_); go_simp; refine hK _ ?_; clear hK K)
       refine wpMS_store rfl (fun K hK e1 => ?_)
       rw [lay_bw]
       go_simp
       refine hK _ _ ?_
       clear hK K
       refine wpMS_nil (fun e2 => ?_)
       rw [lay_bw]
       go_wp2_with fail
       refine bodyPost_ret (v := .tuple #[.int .i64 16200000, .bool true]) (by simp [results, Tryz.results108, go_sem] <;> first | done | decide | exact kT0 | omega | (refine ⟨by first | decide | exact kT0, by omega⟩)) rfl ?_
       exact ⟨l, true, _, by first | rfl | (rw [c1]; done) | (rw [c1]; rfl) | (rw [c1]; simp), HAng.out _ (by have := N.out; simp_all <;> omega), (lay_ex _ _).choose_spec⟩
      ·have c3 : ¬ v = 0 := by omega
       have N : Hid (l = 0 ∧ ¬ (v : Int) = 0 ∧ ¬ l = 2700000 ∧ True) := Lib.hid ⟨by omega, c2, n2, trivial⟩
       go_wp2_with fail
       refine region_mixS 22 [(0, 0), (1, 0), (2, 0), (3, 0), (4, 0), (5, 0), (6, 0), (7, 0), (8, 0), (9, 0), (10, 0), (11, 0), (12, 0), (13, 0), (14, 0), (15, 0), (16, 0), (17, 0), (18, 0), (19, 0), (20, 0), (21, 0), (22, 3)] (by kernel_rfl) (by kernel_rfl) (by kernel_rfl) rfl ?_
       iterate 22 (refine wpMS_quiet rfl (fun K hK => ?_); go_simp; refine hK _ ?_; clear hK K)
       refine wpMS_store rfl (fun K hK e1 => ?_)
       rw [lay_bw]
       go_simp
       refine hK _ _ ?_
       clear hK K
       refine wpMS_nil (fun e2 => ?_)
       rw [lay_bw]
       go_wp2_with fail
       refine bodyPost_ret (v := .tuple #[.int .i64 16200000, .bool false]) (by simp [results, Tryz.results108, go_sem] <;> first | done | decide | exact kT0 | omega | (refine ⟨by first | decide | exact kT0, by omega⟩)) rfl ?_
       exact ⟨l, false, _, by first | rfl | (rw [c1]; done) | (rw [c1]; rfl) | (rw [c1]; simp), HAng.out _ (by have := N.out; simp_all <;> omega), (lay_ex _ _).choose_spec⟩
     ·have n1 : ¬ l = 0 := by omega
      by_cases c2 : l = 2700000
      ·subst c2
       by_cases c3 : u = v
       ·have c4 : (u : Int) = (v : Int) := by omega
        have N : Hid (True ∧ True ∧ True ∧ (u : Int) = (v : Int)) := Lib.hid ⟨trivial, trivial, trivial, c4⟩
        go_wp2_with fail
        refine region_mixS 22 [(0, 0), (1, 0), (2, 0), (3, 0), (4, 0), (5, 0), (6, 0), (7, 0), (8, 0), (9, 0), (10, 0), (11, 0), (12, 0), (13, 0), (14, 0), (15, 0), (16, 0), (17, 0), (18, 0), (19, 0), (20, 0), (21, 0), (22, 3)] (by kernel_rfl) (by kernel_rfl) (by kernel_rfl) rfl ?_
        iterate 22 (refine wpMS_quiet rfl (fun K hK => ?_); go_simp; refine hK _ ?_; clear hK K)
        refine wpMS_store rfl (fun K hK e1 => ?_)
        rw [lay_bw]
        go_simp
        refine hK _ _ ?_
        clear hK K
        refine wpMS_nil (fun e2 => ?_)
        rw [lay_bw]
        go_wp2_with fail
        refine bodyPost_ret (v := .tuple #[.int .i64 (16200000 + 2700000), .bool true]) (by simp [results, Tryz.results108, go_sem] <;> first | done | decide | exact kT0 | omega | (refine ⟨by first | decide | exact kT0, by omega⟩)) rfl ?_
        exact ⟨2700000, true, _, by first | rfl | (rw [c1]; done) | (rw [c1]; rfl) | (rw [c1]; simp), HAng.out _ (by have := N.out; simp_all <;> omega), (lay_ex _ _).choose_spec⟩
       ·have c4 : ¬ (u : Int) = (v : Int) := by omega
        have N : Hid (True ∧ True ∧ True ∧ ¬ (u : Int) = (v : Int)) := Lib.hid ⟨trivial, trivial, trivial, c4⟩
        go_wp2_with fail
        refine region_mixS 22 [(0, 0), (1, 0), (2, 0), (3, 0), (4, 0), (5, 0), (6, 0), (7, 0), (8, 0), (9, 0), (10, 0), (11, 0), (12, 0), (13, 0), (14, 0), (15, 0), (16, 0), (17, 0), (18, 0), (19, 0), (20, 0), (21, 0), (22, 3)] (by kernel_rfl) (by kernel_rfl) (by kernel_rfl) rfl ?_
        iterate 22 (refine wpMS_quiet rfl (fun K hK => ?_); go_simp; refine hK _ ?_; clear hK K)
        refine wpMS_store rfl (fun K hK e1 => ?_)
        rw [lay_bw]
        go_simp
        refine hK _ _ ?_
        clear hK K
        refine wpMS_nil (fun e2 => ?_)
        rw [lay_bw]
        go_wp2_with fail
        refine bodyPost_ret (v := .tuple #[.int .i64 (16200000 + 2700000), .bool false]) (by simp [results, Tryz.results108, go_sem] <;> first | done | decide | exact kT0 | omega | (refine ⟨by first | decide | exact kT0, by omega⟩)) rfl ?_
        exact ⟨2700000, false, _, by first | rfl | (rw [c1]; done) | (rw [c1]; rfl) | (rw [c1]; simp), HAng.out _ (by have := N.out; simp_all <;> omega), (lay_ex _ _).choose_spec⟩
      ·have c3 : ¬ (l : Int) = 2700000 := by omega
       have N : Hid (¬ l = 0 ∧ True ∧ ¬ l = 2700000 ∧ True) := Lib.hid ⟨n1, trivial, c2, trivial⟩
       go_wp2_with fail
       refine region_mixS 22 [(0, 0), (1, 0), (2, 0), (3, 0), (4, 0), (5, 0), (6, 0), (7, 0), (8, 0), (9, 0), (10, 0), (11, 0), (12, 0), (13, 0), (14, 0), (15, 0), (16, 0), (17, 0), (18, 0), (19, 0), (20, 0), (21, 0), (22, 3)] (by kernel_rfl) (by kernel_rfl) (by kernel_rfl) rfl ?_
       iterate 22 (refine wpMS_quiet rfl (fun K hK => ?_); go_simp; refine hK _ ?_; clear hK K)
       refine wpMS_store rfl (fun K hK e1 => ?_)
       rw [lay_bw]
       go_simp
       refine hK _ _ ?_
       clear hK K
       refine wpMS_nil (fun e2 => ?_)
       rw [lay_bw]
       go_wp2_with fail
       refine bodyPost_ret (v := .tuple #[.int .i64 (16200000 + (l : Int)), .bool false]) (by simp [results, Tryz.results108, go_sem] <;> first | done | decide | exact kT0 | omega | (refine ⟨by first | decide | exact kT0, by omega⟩)) rfl ?_
       exact ⟨l, false, _, by first | rfl | (rw [c1]; done) | (rw [c1]; rfl) | (rw [c1]; simp), HAng.out _ (by have := N.out; simp_all <;> omega), (lay_ex _ _).choose_spec⟩
theorem ar_angF3z (u : Nat) (b : Int) (hu0 : 0 < u) (hu : u ≤ 2147483648) (hb : b = -(u : Int)) (w : World) :
  Calls Tryz.prog 108 #[.agg #[.int .i64 ((0 : Nat) : Int), .int .i64 b]] w fun e w' => ∃ (k : Nat) (ex : Bool) (d : Ext), e = .returned (.tuple #[.int .i64 (16200000 + (k : Int)), .bool ex]) ∧ AngF u (0 : Nat) k ex ∧ w' = bw w d := by
 have a3 : ¬ (0 : Int) < b := by omega
 have a5 : (0 : Int) < (u : Int) := by omega
 have k2 : IntKind.i64.wrap (-b) = (u : Int) := by rw [hb, Int.neg_neg]; exact IntWalk.i64_in _ (by omega)
 have t1 : IntKind.i64.wrap ((0 : Int) + 5400000) = 5400000 := by decide
 have t2 : IntKind.i64.wrap ((5400000 : Int) + 5400000) = 10800000 := by decide
 have t3 : IntKind.i64.wrap ((10800000 : Int) + 5400000) = 16200000 := by decide
 have hv : (0 : Nat) ≤ 2147483648 := by decide
 obtain ⟨v, hv0⟩ : ∃ v : Nat, v = 0 := ⟨0, rfl⟩
 rw [← hv0]
 have a1 : ¬ (0 : Int) < (v : Int) := by omega
 have a6 : (0 : Int) ≤ (v : Int) := by omega
 have k1 : IntKind.i64.wrap (-(v : Int)) = (v : Int) := by rw [hv0]; decide
 have hv : v ≤ 2147483648 := by omega
 clear hb hv0
 refine lay_start ?_
 go_enter Tryz.func108, Tryz.ntmps108
 go_wp2_with fail
 go_loopw [4] (fun v4 wr => (v4 = .int .i64 0 ∧ wr = lay w [.inl (.cells #[.int .i64 (v : Int), .int .i64 b] 186 (0, 0))]) ∨ (v4 = .int .i64 5400000 ∧ wr = lay w [.inl (.cells #[.int .i64 b, .int .i64 (v : Int)] 186 (0, 0))]) ∨ (v4 = .int .i64 10800000 ∧ wr = lay w [.inl (.cells #[.int .i64 (v : Int), .int .i64 (u : Int)] 186 (0, 0))]) ∨ (v4 = .int .i64 16200000 ∧ wr = lay w [.inl (.cells #[.int .i64 (u : Int), .int .i64 (v : Int)] 186 (0, 0))])) (fun v4 _ => (21600000 - intOf v4).toNat)
 case atStart => exact .inl ⟨rfl, rfl⟩
 case round =>
  rcases hrel with ⟨rfl, rfl⟩ | ⟨rfl, rfl⟩ | ⟨rfl, rfl⟩ | ⟨rfl, rfl⟩
  ·go_wp2_with fail
   exact ⟨.inr (.inl ⟨by first | rfl | decide, by first | rfl | trivial⟩), by first | decide | (simp only [intOf]; decide)⟩
  ·go_wp2_with fail
   exact ⟨.inr (.inr (.inl ⟨by first | rfl | decide, by first | rfl | trivial⟩)), by first | decide | (simp only [intOf]; decide)⟩
  ·go_wp2_with fail
   exact ⟨.inr (.inr (.inr ⟨by first | rfl | decide, by first | rfl | trivial⟩)), by first | decide | (simp only [intOf]; decide)⟩
  ·go_wp2_with fail
   go_loopw [5, 6] (fun v5 v6 wr => ∃ (l h : Nat) (dd : Ext), v5 = .int .i64 (l : Int) ∧ v6 = .int .i64 (h : Int) ∧ wr = lay w (.inr dd :: [.inl (.cells #[.int .i64 (u : Int), .int .i64 (v : Int)] 186 (0, 0))]) ∧ l < h ∧ h ≤ 5400000 ∧ ∃ f, h - l ≤ 2 ^ f ∧ bisF (u : Int) (v : Int) f l h = bisF (u : Int) (v : Int) 23 0 5400000) (fun v5 v6 _ => (intOf v6 - intOf v5).toNat)
   case atStart => exact ⟨0, 5400000, noExt _, rfl, rfl, (bw_noExt _).symm, by decide, by decide, 23, by decide, rfl⟩
   case round =>
    obtain ⟨l, h, dd, rfl, rfl, rfl, hlh, hh, f, hA, hB⟩ := hrel
    have HA := Lib.hid hA
    have HB2 := Lib.hid hB
    clear hA hB
    have k1 : IntKind.i64.wrap ((h : Int) - (l : Int)) = (h : Int) - (l : Int) := IntWalk.i64_in _ (by omega)
    by_cases c : (1 : Int) < (h : Int) - (l : Int)
    ·obtain ⟨XQ, hXQ⟩ : ∃ XQ : Int, (l : Int) + (h : Int) = XQ := ⟨_, rfl⟩
     obtain ⟨m, hm⟩ : ∃ m : Nat, XQ.tdiv 2 = (m : Int) := ⟨(XQ.tdiv 2).toNat, by rw [Int.tdiv_eq_ediv_of_nonneg (by omega)]; omega⟩
     have k2 : IntKind.i64.wrap ((l : Int) + (h : Int)) = XQ := by rw [hXQ]; exact IntWalk.i64_in _ (by omega)
     have hmid : m = (l + h) / 2 := by rw [Int.tdiv_eq_ediv_of_nonneg (by omega)] at hm; omega
     obtain ⟨f', hf0, hf1⟩ := bisF_step (u := (u : Int)) (v := (v : Int)) hmid (by omega) HA.out
     rw [HB2.out] at hf0 hf1
     have HF0 := Lib.hid hf0
     have HF1 := Lib.hid hf1
     clear hmid hf0 hf1
     have hml : l < m ∧ m < h := by rw [Int.tdiv_eq_ediv_of_nonneg (by omega)] at hm; omega
     have k3 : IntKind.i64.wrap (m : Int) = (m : Int) := IntWalk.i64_in _ (by omega)
     have HBm := Lib.hid (fun W => ar_reaches u v m (by omega) (by omega) (by omega) W)
     have HLH := Lib.hid (And.intro hlh (And.intro hh hml))
     clear hXQ hlh hh hml
     cases cb : rchB (u : Int) (v : Int) m
     ·rw [cb] at HBm
      have HC := Lib.hid cb
      clear cb
      go_wp2_with (go_at_call 193; refine (HBm.out _).mono ?_; rintro e w' ⟨rfl, d1, rfl⟩; rw [lay_bw])
      obtain ⟨g1, g2, g3, g4⟩ := HLH.out
      obtain ⟨de, hde⟩ := lay_fold w [.inr d1, .inr dd] [.inl (.cells #[.int .i64 (u : Int), .int .i64 (v : Int)] 186 (0, 0))]
      exact ⟨⟨_, _, de, rfl, rfl, hde, by omega, by omega, f', (HF0.out HC.out).1, (HF0.out HC.out).2⟩, by simp only [intOf]; omega⟩
     ·rw [cb] at HBm
      have HC := Lib.hid cb
      clear cb
      go_wp2_with (go_at_call 193; refine (HBm.out _).mono ?_; rintro e w' ⟨rfl, d1, rfl⟩; rw [lay_bw])
      obtain ⟨g1, g2, g3, g4⟩ := HLH.out
      obtain ⟨de, hde⟩ := lay_fold w [.inr d1, .inr dd] [.inl (.cells #[.int .i64 (u : Int), .int .i64 (v : Int)] 186 (0, 0))]
      exact ⟨⟨_, _, de, rfl, rfl, hde, by omega, by omega, f', (HF1.out HC.out).1, (HF1.out HC.out).2⟩, by simp only [intOf]; omega⟩
    ·have hhl : h = l + 1 := by omega
     have kT : IntKind.i64.wrap (16200000 + (l : Int)) = 16200000 + (l : Int) := IntWalk.i64_in _ (by omega)
     subst hhl
     have HAng : ∀ ex, ex = (decide (l = 0 ∧ (v : Int) = 0) || decide (l = 2700000 ∧ (u : Int) = (v : Int))) → AngF (u : Int) (v : Int) l ex := fun ex h => ⟨by omega, by have := HB2.out; rw [bisF_end] at this; exact this, h⟩
     have HAng := Lib.hid HAng
     have HL := Lib.hid (And.intro hlh hh)
     clear hlh hh HA HB2
     have kT0 : IntKind.i64.wrap (16200000 + (l : Int)) = (16200000 + (l : Int)) := by simpa using kT
     by_cases c1 : (l : Int) = 0
     ·have n1 : ¬ (l : Int) = 2700000 := by omega
      have n2 : ¬ l = 2700000 := by omega
      by_cases c2 : (v : Int) = 0
      ·have N : Hid (l = 0 ∧ (v : Int) = 0 ∧ ¬ l = 2700000 ∧ True) := Lib.hid ⟨by omega, c2, n2, trivial⟩
       go_wp2_with fail
       refine region_mixS 22 [(0, 0), (1, 0), (2, 0), (3, 0), (4, 0), (5, 0), (6, 0), (7, 0), (8, 0), (9, 0), (10, 0), (11, 0), (12, 0), (13, 0), (14, 0), (15, 0), (16, 0), (17, 0), (18, 0), (19, 0), (20, 0), (21, 0), (22, 3)] (by kernel_rfl) (by kernel_rfl) (by kernel_rfl) rfl ?_
       iterate 22 (refine wpMS_quiet rfl (fun K hK => ?_); go_simp; refine hK _ ?_; clear hK K)
       refine wpMS_store rfl (fun K hK e1 => ?_)
       rw [lay_bw]
       go_simp
       refine hK _ _ ?_
       clear hK K
       refine wpMS_nil (fun e2 => ?_)
       rw [lay_bw]
       go_wp2_with fail
       refine bodyPost_ret (v := .tuple #[.int .i64 16200000, .bool true]) (by simp [results, Tryz.results108, go_sem] <;> first | done | decide | exact kT0 | omega | (refine ⟨by first | decide | exact kT0, by omega⟩)) rfl ?_
       exact ⟨l, true, _, by first | rfl | (rw [c1]; done) | (rw [c1]; rfl) | (rw [c1]; simp), HAng.out _ (by have := N.out; simp_all <;> omega), (lay_ex _ _).choose_spec⟩
      ·have c3 : ¬ v = 0 := by omega
       have N : Hid (l = 0 ∧ ¬ (v : Int) = 0 ∧ ¬ l = 2700000 ∧ True) := Lib.hid ⟨by omega, c2, n2, trivial⟩
       go_wp2_with fail
       refine region_mixS 22 [(0, 0), (1, 0), (2, 0), (3, 0), (4, 0), (5, 0), (6, 0), (7, 0), (8, 0), (9, 0), (10, 0), (11, 0), (12, 0), (13, 0), (14, 0), (15, 0), (16, 0), (17, 0), (18, 0), (19, 0), (20, 0), (21, 0), (22, 3)] (by kernel_rfl) (by kernel_rfl) (by kernel_rfl) rfl ?_
       iterate 22 (refine wpMS_quiet rfl (fun K hK => ?_); go_simp; refine hK _ ?_; clear hK K)
       refine wpMS_store rfl (fun K hK e1 => ?_)
       rw [lay_bw]
       go_simp
       refine hK _ _ ?_
       clear hK K
       refine wpMS_nil (fun e2 => ?_)
       rw [lay_bw]
       go_wp2_with fail
       refine bodyPost_ret (v := .tuple #[.int .i64 16200000, .bool false]) (by simp [results, Tryz.results108, go_sem] <;> first | done | decide | exact kT0 | omega | (refine ⟨by first | decide | exact kT0, by omega⟩)) rfl ?_
       exact ⟨l, false, _, by first | rfl | (rw [c1]; done) | (rw [c1]; rfl) | (rw [c1]; simp), HAng.out _ (by have := N.out; simp_all <;> omega), (lay_ex _ _).choose_spec⟩
     ·have n1 : ¬ l = 0 := by omega
      by_cases c2 : l = 2700000
      ·subst c2
       by_cases c3 : u = v
       ·have c4 : (u : Int) = (v : Int) := by omega
        have N : Hid (True ∧ True ∧ True ∧ (u : Int) = (v : Int)) := Lib.hid ⟨trivial, trivial, trivial, c4⟩
        go_wp2_with fail
        refine region_mixS 22 [(0, 0), (1, 0), (2, 0), (3, 0), (4, 0), (5, 0), (6, 0), (7, 0), (8, 0), (9, 0), (10, 0), (11, 0), (12, 0), (13, 0), (14, 0), (15, 0), (16, 0), (17, 0), (18, 0), (19, 0), (20, 0), (21, 0), (22, 3)] (by kernel_rfl) (by kernel_rfl) (by kernel_rfl) rfl ?_
        iterate 22 (refine wpMS_quiet rfl (fun K hK => ?_); go_simp; refine hK _ ?_; clear hK K)
        refine wpMS_store rfl (fun K hK e1 => ?_)
        rw [lay_bw]
        go_simp
        refine hK _ _ ?_
        clear hK K
        refine wpMS_nil (fun e2 => ?_)
        rw [lay_bw]
        go_wp2_with fail
        refine bodyPost_ret (v := .tuple #[.int .i64 (16200000 + 2700000), .bool true]) (by simp [results, Tryz.results108, go_sem] <;> first | done | decide | exact kT0 | omega | (refine ⟨by first | decide | exact kT0, by omega⟩)) rfl ?_
        exact ⟨2700000, true, _, by first | rfl | (rw [c1]; done) | (rw [c1]; rfl) | (rw [c1]; simp), HAng.out _ (by have := N.out; simp_all <;> omega), (lay_ex _ _).choose_spec⟩
       ·have c4 : ¬ (u : Int) = (v : Int) := by omega
        have N : Hid (True ∧ True ∧ True ∧ ¬ (u : Int) = (v : Int)) := Lib.hid ⟨trivial, trivial, trivial, c4⟩
        go_wp2_with fail
        refine region_mixS 22 [(0, 0), (1, 0), (2, 0), (3, 0), (4, 0), (5, 0), (6, 0), (7, 0), (8, 0), (9, 0), (10, 0), (11, 0), (12, 0), (13, 0), (14, 0), (15, 0), (16, 0), (17, 0), (18, 0), (19, 0), (20, 0), (21, 0), (22, 3)] (by kernel_rfl) (by kernel_rfl) (by kernel_rfl) rfl ?_
        iterate 22 (refine wpMS_quiet rfl (fun K hK => ?_); go_simp; refine hK _ ?_; clear hK K)
        refine wpMS_store rfl (fun K hK e1 => ?_)
        rw [lay_bw]
        go_simp
        refine hK _ _ ?_
        clear hK K
        refine wpMS_nil (fun e2 => ?_)
        rw [lay_bw]
        go_wp2_with fail
        refine bodyPost_ret (v := .tuple #[.int .i64 (16200000 + 2700000), .bool false]) (by simp [results, Tryz.results108, go_sem] <;> first | done | decide | exact kT0 | omega | (refine ⟨by first | decide | exact kT0, by omega⟩)) rfl ?_
        exact ⟨2700000, false, _, by first | rfl | (rw [c1]; done) | (rw [c1]; rfl) | (rw [c1]; simp), HAng.out _ (by have := N.out; simp_all <;> omega), (lay_ex _ _).choose_spec⟩
      ·have c3 : ¬ (l : Int) = 2700000 := by omega
       have N : Hid (¬ l = 0 ∧ True ∧ ¬ l = 2700000 ∧ True) := Lib.hid ⟨n1, trivial, c2, trivial⟩
       go_wp2_with fail
       refine region_mixS 22 [(0, 0), (1, 0), (2, 0), (3, 0), (4, 0), (5, 0), (6, 0), (7, 0), (8, 0), (9, 0), (10, 0), (11, 0), (12, 0), (13, 0), (14, 0), (15, 0), (16, 0), (17, 0), (18, 0), (19, 0), (20, 0), (21, 0), (22, 3)] (by kernel_rfl) (by kernel_rfl) (by kernel_rfl) rfl ?_
       iterate 22 (refine wpMS_quiet rfl (fun K hK => ?_); go_simp; refine hK _ ?_; clear hK K)
       refine wpMS_store rfl (fun K hK e1 => ?_)
       rw [lay_bw]
       go_simp
       refine hK _ _ ?_
       clear hK K
       refine wpMS_nil (fun e2 => ?_)
       rw [lay_bw]
       go_wp2_with fail
       refine bodyPost_ret (v := .tuple #[.int .i64 (16200000 + (l : Int)), .bool false]) (by simp [results, Tryz.results108, go_sem] <;> first | done | decide | exact kT0 | omega | (refine ⟨by first | decide | exact kT0, by omega⟩)) rfl ?_
       exact ⟨l, false, _, by first | rfl | (rw [c1]; done) | (rw [c1]; rfl) | (rw [c1]; simp), HAng.out _ (by have := N.out; simp_all <;> omega), (lay_ex _ _).choose_spec⟩
end Go.Proofs.YtcbicpbbjbkiaaaGreatDoor
namespace Go.Proofs.YtcbicpbbjbkiaaaGreatDoor
open Go.RowKit

theorem ar_angG (X Y : Int) (hn : ¬ (X = 0 ∧ Y = 0)) (bX : Bd31 X) (bY : Bd31 Y) (w : World) :
  Calls Tryz.prog 108 #[.agg #[.int .i64 X, .int .i64 Y]] w fun e w' => e = .returned (.tuple #[.int .i64 (angF X Y).1, .bool (angF X Y).2]) ∧ ∃ d, w' = bw w d := by
 obtain ⟨x0, x1⟩ := bX
 obtain ⟨y0, y1⟩ := bY
 unfold angF
 by_cases c0 : 0 < X ∧ 0 ≤ Y
 ·rw [if_pos c0]
  obtain ⟨u, rfl⟩ : ∃ u : Nat, X = (u : Int) := ⟨X.toNat, by omega⟩
  obtain ⟨v, rfl⟩ : ∃ v : Nat, Y = (v : Int) := ⟨Y.toNat, by omega⟩
  refine (ar_angF0 u v (by omega) (by omega) (by omega) w).mono ?_
  rintro e w' ⟨k, ex, d, rfl, hA, rfl⟩
  rw [hA.eq 0]; exact ⟨by simp, d, rfl⟩
 ·rw [if_neg c0]
  by_cases c1 : 0 < Y ∧ X ≤ 0
  ·rw [if_pos c1]
   obtain ⟨u, rfl⟩ : ∃ u : Nat, Y = (u : Int) := ⟨Y.toNat, by omega⟩
   obtain ⟨v, hv⟩ : ∃ v : Nat, -X = (v : Int) := ⟨(-X).toNat, by omega⟩
   refine (ar_angF1 u v X (by omega) (by omega) (by omega) (by omega) w).mono ?_
   rintro e w' ⟨k, ex, d, rfl, hA, rfl⟩
   rw [hv, hA.eq 5400000]; exact ⟨rfl, d, rfl⟩
  ·rw [if_neg c1]
   by_cases c2 : X < 0 ∧ Y ≤ 0
   ·rw [if_pos c2]
    obtain ⟨u, hu⟩ : ∃ u : Nat, -X = (u : Int) := ⟨(-X).toNat, by omega⟩
    obtain ⟨v, hv⟩ : ∃ v : Nat, -Y = (v : Int) := ⟨(-Y).toNat, by omega⟩
    refine (ar_angF2 u v X Y (by omega) (by omega) (by omega) (by omega) (by omega) w).mono ?_
    rintro e w' ⟨k, ex, d, rfl, hA, rfl⟩
    rw [hu, hv, hA.eq 10800000]; exact ⟨rfl, d, rfl⟩
   ·rw [if_neg c2]
    obtain ⟨u, hu⟩ : ∃ u : Nat, -Y = (u : Int) := ⟨(-Y).toNat, by omega⟩
    obtain ⟨v, rfl⟩ : ∃ v : Nat, X = (v : Int) := ⟨X.toNat, by omega⟩
    by_cases hz : v = 0
    ·subst hz
     refine (ar_angF3z u Y (by omega) (by omega) (by omega) w).mono ?_
     rintro e w' ⟨k, ex, d, rfl, hA, rfl⟩
     rw [hu, hA.eq 16200000]; exact ⟨rfl, d, rfl⟩
    ·refine (ar_angF3 u v Y (-(v : Int)) (by omega) (by omega) (by omega) (by omega) (by omega) rfl w).mono ?_
     rintro e w' ⟨k, ex, d, rfl, hA, rfl⟩
     rw [hu, hA.eq 16200000]; exact ⟨rfl, d, rfl⟩
end Go.Proofs.YtcbicpbbjbkiaaaGreatDoor
namespace Go.Proofs.YtcbicpbbjbkiaaaGreatDoor
set_option maxRecDepth 100000
open Go.RowKit

theorem ixB_0 (x0 x1 y0 y1 : Int) (W : World) : (Instr.index 187 (.agg #[.int .i64 x0, .int .i64 y0, .int .i64 x0, .int .i64 y1, .int .i64 x1, .int .i64 y0, .int .i64 x1, .int .i64 y1]) (.int .i64 0)).run Tryz.prog W = .ok (.agg #[.int .i64 x0, .int .i64 y0]) W := by kernel_rfl
theorem ixB_1 (x0 x1 y0 y1 : Int) (W : World) : (Instr.index 187 (.agg #[.int .i64 x0, .int .i64 y0, .int .i64 x0, .int .i64 y1, .int .i64 x1, .int .i64 y0, .int .i64 x1, .int .i64 y1]) (.int .i64 1)).run Tryz.prog W = .ok (.agg #[.int .i64 x0, .int .i64 y1]) W := by kernel_rfl
theorem ixB_2 (x0 x1 y0 y1 : Int) (W : World) : (Instr.index 187 (.agg #[.int .i64 x0, .int .i64 y0, .int .i64 x0, .int .i64 y1, .int .i64 x1, .int .i64 y0, .int .i64 x1, .int .i64 y1]) (.int .i64 2)).run Tryz.prog W = .ok (.agg #[.int .i64 x1, .int .i64 y0]) W := by kernel_rfl
theorem ixB_3 (x0 x1 y0 y1 : Int) (W : World) : (Instr.index 187 (.agg #[.int .i64 x0, .int .i64 y0, .int .i64 x0, .int .i64 y1, .int .i64 x1, .int .i64 y0, .int .i64 x1, .int .i64 y1]) (.int .i64 3)).run Tryz.prog W = .ok (.agg #[.int .i64 x1, .int .i64 y1]) W := by kernel_rfl
end Go.Proofs.YtcbicpbbjbkiaaaGreatDoor
namespace Go.Proofs.YtcbicpbbjbkiaaaGreatDoor
open Go.RowKit

set_option maxHeartbeats 4000000 in
set_option maxRecDepth 100000 in
theorem ar_BearA (y0 y1 x0 x1 : Int) (hy : fxB y0 y1 = true) (hx : fxB x0 x1 = true) (n1 : ¬ x0 ≤ 0) (w : World) :
  Calls Tryz.prog 47 #[(.agg #[.int .i64 (y0), .int .i64 (y1)]), (.agg #[.int .i64 (x0), .int .i64 (x1)])] w fun e w' => ∃ m0 m1 : Int, e = .returned (.tuple #[(.agg #[.int .i64 (m0), .int .i64 (m1)]), .int .i64 0]) ∧ brF x0 x1 y0 y1 = (m0, m1) ∧ ∃ d, w' = bw w d := by
 have hn : x0 ≤ x1 ∧ y0 ≤ y1 ∧ ¬ oriB x0 x1 y0 y1 := ⟨(fxB_iff.1 hx).1, (fxB_iff.1 hy).1, fun h => n1 h.1⟩
 have HV1 := Lib.hid (fun W => fx_ValidG x0 x1 W)
 have HV2 := Lib.hid (fun W => fx_ValidG y0 y1 W)
 rw [hx] at HV1
 rw [hy] at HV2
 have HN := Lib.hid hn
 clear hn
 obtain ⟨x01, xb0, xb1⟩ := fxB_iff.1 hx
 obtain ⟨y01, yb0, yb1⟩ := fxB_iff.1 hy
 have X0 : Bd31 x0 := ⟨by omega, by omega⟩
 have X1 : Bd31 x1 := ⟨by omega, by omega⟩
 have Y0 : Bd31 y0 := ⟨by omega, by omega⟩
 have Y1 : Bd31 y1 := ⟨by omega, by omega⟩
 refine lay_start ?_
 go_enter Tryz.func47, Tryz.ntmps47
 go_wp2_with (go_at_call 103; first | ((with_reducible refine (HV1.out _).mono ?_); rintro e w' ⟨rfl, d1, rfl⟩; rw [lay_bw]) | ((with_reducible refine (HV2.out _).mono ?_); rintro e w' ⟨rfl, d2, rfl⟩; rw [lay_bw]))
 refine region_mixW [0, 0, 0, 0, 2, 1, 1] (by kernel_rfl) (by kernel_rfl) (by kernel_rfl) ?_
 repeat (refine wpM_quiet (fun K hK => ?_); go_simp; first | (refine hK _ ?_; clear hK K) | (apply Exists.intro; refine ⟨fun _ => ?_, hK _ ?_⟩; (first | fail); clear hK K))
 refine wpM_two (fun J hJ d => ?_) (fun J hJ d => ?_)
 all_goals (go_simp; refine hJ _ _ (by first | exact lay_in w [_] _ | exact lay_in w [_, _] _ | exact lay_in w [_, _, _] _ | exact lay_in w [_, _, _, _] _ | exact lay_in w [_, _, _, _, _] _ | exact lay_in w [_, _, _, _, _, _] _) (fun K hK d => ?_); go_simp; refine hK _ _ (by first | exact lay_in w [_] _ | exact lay_in w [_, _] _ | exact lay_in w [_, _, _] _ | exact lay_in w [_, _, _, _] _ | exact lay_in w [_, _, _, _, _] _ | exact lay_in w [_, _, _, _, _, _] _) ?_; clear hK K hJ J)
 all_goals (repeat (first | (refine wpM_quiet (fun K hK => ?_); go_simp; first | (refine hK _ ?_; clear hK K) | (apply Exists.intro; refine ⟨fun _ => ?_, hK _ ?_⟩; (first | fail); clear hK K)) | (refine wpM_special (fun K hK d => ?_); go_simp; refine hK _ _ (by first | exact lay_in w [_] _ | exact lay_in w [_, _] _ | exact lay_in w [_, _, _] _ | exact lay_in w [_, _, _, _] _ | exact lay_in w [_, _, _, _, _] _ | exact lay_in w [_, _, _, _, _, _] _) ?_; clear hK K)))
 all_goals (refine wpM_nil ?_; intro d; rw [lay_bw])
 ·rename_i e1 e2 e3 e4
  go_wp2_with fail
  obtain ⟨ee, hee⟩ := lay_fold w [.inr d, .inr e4, .inr e3] [.inl (.cells #[.int .i64 x0, .int .i64 y0] 186 (0, 0)), .inr e2, .inl (.cells #[.int .i64 x0, .int .i64 y0] 186 (0, 0)), .inr e1, .inl (.cells #[.int .i64 x0, .int .i64 y0, .int .i64 x0, .int .i64 y1, .int .i64 x1, .int .i64 y0, .int .i64 x1, .int .i64 y1] 187 (0, 0)), .inr d2, .inr d1, .inl (.cells #[.int .i64 0, .int .i64 0] 29 (0, 0)), .inl (.cells #[.int .i64 x0, .int .i64 x1] 46 (0, 0)), .inl (.cells #[.int .i64 y0, .int .i64 y1] 46 (0, 0))]
  change lay w [.inr d, .inr e4, .inr e3, .inl (.cells #[.int .i64 x0, .int .i64 y0] 186 (0, 0)), .inr e2, .inl (.cells #[.int .i64 x0, .int .i64 y0] 186 (0, 0)), .inr e1, .inl (.cells #[.int .i64 x0, .int .i64 y0, .int .i64 x0, .int .i64 y1, .int .i64 x1, .int .i64 y0, .int .i64 x1, .int .i64 y1] 187 (0, 0)), .inr d2, .inr d1, .inl (.cells #[.int .i64 0, .int .i64 0] 29 (0, 0)), .inl (.cells #[.int .i64 x0, .int .i64 x1] 46 (0, 0)), .inl (.cells #[.int .i64 y0, .int .i64 y1] 46 (0, 0))] = _ at hee
  rw [hee]
  clear hee
  go_loopw [69] (fun v69 wr => ∃ (i : Nat) (a b c d : Int) (e : Ext), v69 = .int .i64 (i : Int) ∧ wr = lay w [.inr e, .inl (.cells #[.int .i64 c, .int .i64 d] 186 (0, 0)), .inr e2, .inl (.cells #[.int .i64 a, .int .i64 b] 186 (0, 0)), .inr e1, .inl (.cells #[.int .i64 x0, .int .i64 y0, .int .i64 x0, .int .i64 y1, .int .i64 x1, .int .i64 y0, .int .i64 x1, .int .i64 y1] 187 (0, 0)), .inr d2, .inr d1, .inl (.cells #[.int .i64 0, .int .i64 0] 29 (0, 0)), .inl (.cells #[.int .i64 x0, .int .i64 x1] 46 (0, 0)), .inl (.cells #[.int .i64 y0, .int .i64 y1] 46 (0, 0))] ∧ BoxF x0 x1 y0 y1 i a b c d) (fun v69 _ => 4 - (intOf v69).toNat)
  case atStart => exact ⟨0, x0, y0, x0, y0, ee, rfl, rfl, BoxF.start⟩
  case round =>
   obtain ⟨i, a, b, c, d, e, rfl, rfl, hB⟩ := hrel
   obtain ⟨Ba, Bb, Bc, Bd, na, nc⟩ := hB.bds X0 X1 Y0 Y1 HN.out
   have HB := Lib.hid hB
   have i4 := hB.i4
   clear hB
   rcases (show i = 0 ∨ i = 1 ∨ i = 2 ∨ i = 3 ∨ i = 4 by omega) with rfl | rfl | rfl | rfl | rfl
   ·have HS := Lib.hid (HB.out.step (by decide) (p := x0) (q := y0) rfl rfl)
    have H1 := Lib.hid (fun W => ar_before x0 y0 a b X0 Y0 Ba Bb W)
    have H2 := Lib.hid (fun W => ar_before c d x0 y0 Bc Bd X0 Y0 W)
    have hI := ixB_0 x0 x1 y0 y1
    have kI : IntKind.i64.wrap (0 + 1) = 0 + 1 := by decide
    cases g1 : befB x0 y0 a b <;> cases g2 : befB c d x0 y0
    all_goals rw [g1, g2] at HS
    all_goals rw [g1] at H1
    all_goals rw [g2] at H2
    all_goals simp only [Bool.false_eq_true, ↓reduceIte] at HS
    all_goals clear g1 g2
    all_goals go_wp2_with (go_at_call 107; first | ((with_reducible refine (H1.out _).mono ?_); rintro e' w' ⟨rfl, f1, rfl⟩; rw [lay_bw]) | ((with_reducible refine (H2.out _).mono ?_); rintro e' w' ⟨rfl, f2, rfl⟩; rw [lay_bw]))
    all_goals exact ⟨⟨0 + 1, _, _, _, _, _, rfl, (lay_fold w [_, _, _, _] _).choose_spec, HS.out⟩, by simp only [intOf]; omega⟩
   ·have HS := Lib.hid (HB.out.step (by decide) (p := x0) (q := y1) rfl rfl)
    have H1 := Lib.hid (fun W => ar_before x0 y1 a b X0 Y1 Ba Bb W)
    have H2 := Lib.hid (fun W => ar_before c d x0 y1 Bc Bd X0 Y1 W)
    have hI := ixB_1 x0 x1 y0 y1
    have kI : IntKind.i64.wrap (1 + 1) = 1 + 1 := by decide
    cases g1 : befB x0 y1 a b <;> cases g2 : befB c d x0 y1
    all_goals rw [g1, g2] at HS
    all_goals rw [g1] at H1
    all_goals rw [g2] at H2
    all_goals simp only [Bool.false_eq_true, ↓reduceIte] at HS
    all_goals clear g1 g2
    all_goals go_wp2_with (go_at_call 107; first | ((with_reducible refine (H1.out _).mono ?_); rintro e' w' ⟨rfl, f1, rfl⟩; rw [lay_bw]) | ((with_reducible refine (H2.out _).mono ?_); rintro e' w' ⟨rfl, f2, rfl⟩; rw [lay_bw]))
    all_goals exact ⟨⟨1 + 1, _, _, _, _, _, rfl, (lay_fold w [_, _, _, _] _).choose_spec, HS.out⟩, by simp only [intOf]; omega⟩
   ·have HS := Lib.hid (HB.out.step (by decide) (p := x1) (q := y0) rfl rfl)
    have H1 := Lib.hid (fun W => ar_before x1 y0 a b X1 Y0 Ba Bb W)
    have H2 := Lib.hid (fun W => ar_before c d x1 y0 Bc Bd X1 Y0 W)
    have hI := ixB_2 x0 x1 y0 y1
    have kI : IntKind.i64.wrap (2 + 1) = 2 + 1 := by decide
    cases g1 : befB x1 y0 a b <;> cases g2 : befB c d x1 y0
    all_goals rw [g1, g2] at HS
    all_goals rw [g1] at H1
    all_goals rw [g2] at H2
    all_goals simp only [Bool.false_eq_true, ↓reduceIte] at HS
    all_goals clear g1 g2
    all_goals go_wp2_with (go_at_call 107; first | ((with_reducible refine (H1.out _).mono ?_); rintro e' w' ⟨rfl, f1, rfl⟩; rw [lay_bw]) | ((with_reducible refine (H2.out _).mono ?_); rintro e' w' ⟨rfl, f2, rfl⟩; rw [lay_bw]))
    all_goals exact ⟨⟨2 + 1, _, _, _, _, _, rfl, (lay_fold w [_, _, _, _] _).choose_spec, HS.out⟩, by simp only [intOf]; omega⟩
   ·have HS := Lib.hid (HB.out.step (by decide) (p := x1) (q := y1) rfl rfl)
    have H1 := Lib.hid (fun W => ar_before x1 y1 a b X1 Y1 Ba Bb W)
    have H2 := Lib.hid (fun W => ar_before c d x1 y1 Bc Bd X1 Y1 W)
    have hI := ixB_3 x0 x1 y0 y1
    have kI : IntKind.i64.wrap (3 + 1) = 3 + 1 := by decide
    cases g1 : befB x1 y1 a b <;> cases g2 : befB c d x1 y1
    all_goals rw [g1, g2] at HS
    all_goals rw [g1] at H1
    all_goals rw [g2] at H2
    all_goals simp only [Bool.false_eq_true, ↓reduceIte] at HS
    all_goals clear g1 g2
    all_goals go_wp2_with (go_at_call 107; first | ((with_reducible refine (H1.out _).mono ?_); rintro e' w' ⟨rfl, f1, rfl⟩; rw [lay_bw]) | ((with_reducible refine (H2.out _).mono ?_); rintro e' w' ⟨rfl, f2, rfl⟩; rw [lay_bw]))
    all_goals exact ⟨⟨3 + 1, _, _, _, _, _, rfl, (lay_fold w [_, _, _, _] _).choose_spec, HS.out⟩, by simp only [intOf]; omega⟩
   ·have HA1 := Lib.hid (fun W => ar_angG a b na Ba Bb W)
    have HA2 := Lib.hid (fun W => ar_angG c d nc Bc Bd W)
    have HRes := Lib.hid (HB.out.res HN.out)
    obtain ⟨r0, r1⟩ := angF_bd a b
    obtain ⟨s0, s1⟩ := angF_bd c d
    generalize angF a b = R at *
    generalize angF c d = S at *
    obtain ⟨r, ex1⟩ := R
    obtain ⟨s, ex2⟩ := S
    dsimp only at r0 r1 s0 s1
    go_wp2_with fail
    refine (HA1.out _).mono ?_
    rintro e' w' ⟨rfl, f1, rfl⟩
    dsimp only
    rw [lay_bw]
    go_wp2_with fail
    refine (HA2.out _).mono ?_
    rintro e' w' ⟨rfl, f2, rfl⟩
    dsimp only
    have kt : IntKind.i64.wrap (s + 21600000) = s + 21600000 := IntWalk.i64_in _ (by omega)
    have kt2 : IntKind.i64.wrap (s + 21600000 + 1) = s + 21600000 + 1 := IntWalk.i64_in _ (by omega)
    have kt3 : IntKind.i64.wrap (s + 1) = s + 1 := IntWalk.i64_in _ (by omega)
    rw [lay_bw]
    clear r0 r1 s0 s1 HA1 HA2
    by_cases hlt : s < r
    ·cases ex2
     ·go_wp2_with fail
      exact bodyPost_ret (v := .tuple #[(.agg #[.int .i64 (r), .int .i64 (s + 21600000 + 1)]), .int .i64 0]) (by simp [results, Tryz.results47, go_sem]) rfl ⟨r, s + 21600000 + 1, rfl, by rw [HRes.out]; simp [hlt], lay_ex _ _⟩
     ·go_wp2_with fail
      exact bodyPost_ret (v := .tuple #[(.agg #[.int .i64 (r), .int .i64 (s + 21600000)]), .int .i64 0]) (by simp [results, Tryz.results47, go_sem]) rfl ⟨r, s + 21600000, rfl, by rw [HRes.out]; simp [hlt], lay_ex _ _⟩
    ·cases ex2
     ·go_wp2_with fail
      exact bodyPost_ret (v := .tuple #[(.agg #[.int .i64 (r), .int .i64 (s + 1)]), .int .i64 0]) (by simp [results, Tryz.results47, go_sem]) rfl ⟨r, s + 1, rfl, by rw [HRes.out]; simp [show ¬ s < r by omega], lay_ex _ _⟩
     ·go_wp2_with fail
      exact bodyPost_ret (v := .tuple #[(.agg #[.int .i64 (r), .int .i64 (s)]), .int .i64 0]) (by simp [results, Tryz.results47, go_sem]) rfl ⟨r, s, rfl, by rw [HRes.out]; simp [show ¬ s < r by omega], lay_ex _ _⟩
 ·rename_i e1 e2 e3 e4
  go_wp2_with fail
  obtain ⟨ee, hee⟩ := lay_fold w [.inr d, .inr e4, .inr e3] [.inl (.cells #[.int .i64 x0, .int .i64 y0] 186 (0, 0)), .inr e2, .inl (.cells #[.int .i64 x0, .int .i64 y0] 186 (0, 0)), .inr e1, .inl (.cells #[.int .i64 x0, .int .i64 y0, .int .i64 x0, .int .i64 y1, .int .i64 x1, .int .i64 y0, .int .i64 x1, .int .i64 y1] 187 (0, 0)), .inr d2, .inr d1, .inl (.cells #[.int .i64 0, .int .i64 0] 29 (0, 0)), .inl (.cells #[.int .i64 x0, .int .i64 x1] 46 (0, 0)), .inl (.cells #[.int .i64 y0, .int .i64 y1] 46 (0, 0))]
  change lay w [.inr d, .inr e4, .inr e3, .inl (.cells #[.int .i64 x0, .int .i64 y0] 186 (0, 0)), .inr e2, .inl (.cells #[.int .i64 x0, .int .i64 y0] 186 (0, 0)), .inr e1, .inl (.cells #[.int .i64 x0, .int .i64 y0, .int .i64 x0, .int .i64 y1, .int .i64 x1, .int .i64 y0, .int .i64 x1, .int .i64 y1] 187 (0, 0)), .inr d2, .inr d1, .inl (.cells #[.int .i64 0, .int .i64 0] 29 (0, 0)), .inl (.cells #[.int .i64 x0, .int .i64 x1] 46 (0, 0)), .inl (.cells #[.int .i64 y0, .int .i64 y1] 46 (0, 0))] = _ at hee
  rw [hee]
  clear hee
  go_loopw [69] (fun v69 wr => ∃ (i : Nat) (a b c d : Int) (e : Ext), v69 = .int .i64 (i : Int) ∧ wr = lay w [.inr e, .inl (.cells #[.int .i64 a, .int .i64 b] 186 (0, 0)), .inr e2, .inl (.cells #[.int .i64 c, .int .i64 d] 186 (0, 0)), .inr e1, .inl (.cells #[.int .i64 x0, .int .i64 y0, .int .i64 x0, .int .i64 y1, .int .i64 x1, .int .i64 y0, .int .i64 x1, .int .i64 y1] 187 (0, 0)), .inr d2, .inr d1, .inl (.cells #[.int .i64 0, .int .i64 0] 29 (0, 0)), .inl (.cells #[.int .i64 x0, .int .i64 x1] 46 (0, 0)), .inl (.cells #[.int .i64 y0, .int .i64 y1] 46 (0, 0))] ∧ BoxF x0 x1 y0 y1 i a b c d) (fun v69 _ => 4 - (intOf v69).toNat)
  case atStart => exact ⟨0, x0, y0, x0, y0, ee, rfl, rfl, BoxF.start⟩
  case round =>
   obtain ⟨i, a, b, c, d, e, rfl, rfl, hB⟩ := hrel
   obtain ⟨Ba, Bb, Bc, Bd, na, nc⟩ := hB.bds X0 X1 Y0 Y1 HN.out
   have HB := Lib.hid hB
   have i4 := hB.i4
   clear hB
   rcases (show i = 0 ∨ i = 1 ∨ i = 2 ∨ i = 3 ∨ i = 4 by omega) with rfl | rfl | rfl | rfl | rfl
   ·have HS := Lib.hid (HB.out.step (by decide) (p := x0) (q := y0) rfl rfl)
    have H1 := Lib.hid (fun W => ar_before x0 y0 a b X0 Y0 Ba Bb W)
    have H2 := Lib.hid (fun W => ar_before c d x0 y0 Bc Bd X0 Y0 W)
    have hI := ixB_0 x0 x1 y0 y1
    have kI : IntKind.i64.wrap (0 + 1) = 0 + 1 := by decide
    cases g1 : befB x0 y0 a b <;> cases g2 : befB c d x0 y0
    all_goals rw [g1, g2] at HS
    all_goals rw [g1] at H1
    all_goals rw [g2] at H2
    all_goals simp only [Bool.false_eq_true, ↓reduceIte] at HS
    all_goals clear g1 g2
    all_goals go_wp2_with (go_at_call 107; first | ((with_reducible refine (H1.out _).mono ?_); rintro e' w' ⟨rfl, f1, rfl⟩; rw [lay_bw]) | ((with_reducible refine (H2.out _).mono ?_); rintro e' w' ⟨rfl, f2, rfl⟩; rw [lay_bw]))
    all_goals exact ⟨⟨0 + 1, _, _, _, _, _, rfl, (lay_fold w [_, _, _, _] _).choose_spec, HS.out⟩, by simp only [intOf]; omega⟩
   ·have HS := Lib.hid (HB.out.step (by decide) (p := x0) (q := y1) rfl rfl)
    have H1 := Lib.hid (fun W => ar_before x0 y1 a b X0 Y1 Ba Bb W)
    have H2 := Lib.hid (fun W => ar_before c d x0 y1 Bc Bd X0 Y1 W)
    have hI := ixB_1 x0 x1 y0 y1
    have kI : IntKind.i64.wrap (1 + 1) = 1 + 1 := by decide
    cases g1 : befB x0 y1 a b <;> cases g2 : befB c d x0 y1
    all_goals rw [g1, g2] at HS
    all_goals rw [g1] at H1
    all_goals rw [g2] at H2
    all_goals simp only [Bool.false_eq_true, ↓reduceIte] at HS
    all_goals clear g1 g2
    all_goals go_wp2_with (go_at_call 107; first | ((with_reducible refine (H1.out _).mono ?_); rintro e' w' ⟨rfl, f1, rfl⟩; rw [lay_bw]) | ((with_reducible refine (H2.out _).mono ?_); rintro e' w' ⟨rfl, f2, rfl⟩; rw [lay_bw]))
    all_goals exact ⟨⟨1 + 1, _, _, _, _, _, rfl, (lay_fold w [_, _, _, _] _).choose_spec, HS.out⟩, by simp only [intOf]; omega⟩
   ·have HS := Lib.hid (HB.out.step (by decide) (p := x1) (q := y0) rfl rfl)
    have H1 := Lib.hid (fun W => ar_before x1 y0 a b X1 Y0 Ba Bb W)
    have H2 := Lib.hid (fun W => ar_before c d x1 y0 Bc Bd X1 Y0 W)
    have hI := ixB_2 x0 x1 y0 y1
    have kI : IntKind.i64.wrap (2 + 1) = 2 + 1 := by decide
    cases g1 : befB x1 y0 a b <;> cases g2 : befB c d x1 y0
    all_goals rw [g1, g2] at HS
    all_goals rw [g1] at H1
    all_goals rw [g2] at H2
    all_goals simp only [Bool.false_eq_true, ↓reduceIte] at HS
    all_goals clear g1 g2
    all_goals go_wp2_with (go_at_call 107; first | ((with_reducible refine (H1.out _).mono ?_); rintro e' w' ⟨rfl, f1, rfl⟩; rw [lay_bw]) | ((with_reducible refine (H2.out _).mono ?_); rintro e' w' ⟨rfl, f2, rfl⟩; rw [lay_bw]))
    all_goals exact ⟨⟨2 + 1, _, _, _, _, _, rfl, (lay_fold w [_, _, _, _] _).choose_spec, HS.out⟩, by simp only [intOf]; omega⟩
   ·have HS := Lib.hid (HB.out.step (by decide) (p := x1) (q := y1) rfl rfl)
    have H1 := Lib.hid (fun W => ar_before x1 y1 a b X1 Y1 Ba Bb W)
    have H2 := Lib.hid (fun W => ar_before c d x1 y1 Bc Bd X1 Y1 W)
    have hI := ixB_3 x0 x1 y0 y1
    have kI : IntKind.i64.wrap (3 + 1) = 3 + 1 := by decide
    cases g1 : befB x1 y1 a b <;> cases g2 : befB c d x1 y1
    all_goals rw [g1, g2] at HS
    all_goals rw [g1] at H1
    all_goals rw [g2] at H2
    all_goals simp only [Bool.false_eq_true, ↓reduceIte] at HS
    all_goals clear g1 g2
    all_goals go_wp2_with (go_at_call 107; first | ((with_reducible refine (H1.out _).mono ?_); rintro e' w' ⟨rfl, f1, rfl⟩; rw [lay_bw]) | ((with_reducible refine (H2.out _).mono ?_); rintro e' w' ⟨rfl, f2, rfl⟩; rw [lay_bw]))
    all_goals exact ⟨⟨3 + 1, _, _, _, _, _, rfl, (lay_fold w [_, _, _, _] _).choose_spec, HS.out⟩, by simp only [intOf]; omega⟩
   ·have HA1 := Lib.hid (fun W => ar_angG a b na Ba Bb W)
    have HA2 := Lib.hid (fun W => ar_angG c d nc Bc Bd W)
    have HRes := Lib.hid (HB.out.res HN.out)
    obtain ⟨r0, r1⟩ := angF_bd a b
    obtain ⟨s0, s1⟩ := angF_bd c d
    generalize angF a b = R at *
    generalize angF c d = S at *
    obtain ⟨r, ex1⟩ := R
    obtain ⟨s, ex2⟩ := S
    dsimp only at r0 r1 s0 s1
    go_wp2_with fail
    refine (HA1.out _).mono ?_
    rintro e' w' ⟨rfl, f1, rfl⟩
    dsimp only
    rw [lay_bw]
    go_wp2_with fail
    refine (HA2.out _).mono ?_
    rintro e' w' ⟨rfl, f2, rfl⟩
    dsimp only
    have kt : IntKind.i64.wrap (s + 21600000) = s + 21600000 := IntWalk.i64_in _ (by omega)
    have kt2 : IntKind.i64.wrap (s + 21600000 + 1) = s + 21600000 + 1 := IntWalk.i64_in _ (by omega)
    have kt3 : IntKind.i64.wrap (s + 1) = s + 1 := IntWalk.i64_in _ (by omega)
    rw [lay_bw]
    clear r0 r1 s0 s1 HA1 HA2
    by_cases hlt : s < r
    ·cases ex2
     ·go_wp2_with fail
      exact bodyPost_ret (v := .tuple #[(.agg #[.int .i64 (r), .int .i64 (s + 21600000 + 1)]), .int .i64 0]) (by simp [results, Tryz.results47, go_sem]) rfl ⟨r, s + 21600000 + 1, rfl, by rw [HRes.out]; simp [hlt], lay_ex _ _⟩
     ·go_wp2_with fail
      exact bodyPost_ret (v := .tuple #[(.agg #[.int .i64 (r), .int .i64 (s + 21600000)]), .int .i64 0]) (by simp [results, Tryz.results47, go_sem]) rfl ⟨r, s + 21600000, rfl, by rw [HRes.out]; simp [hlt], lay_ex _ _⟩
    ·cases ex2
     ·go_wp2_with fail
      exact bodyPost_ret (v := .tuple #[(.agg #[.int .i64 (r), .int .i64 (s + 1)]), .int .i64 0]) (by simp [results, Tryz.results47, go_sem]) rfl ⟨r, s + 1, rfl, by rw [HRes.out]; simp [show ¬ s < r by omega], lay_ex _ _⟩
     ·go_wp2_with fail
      exact bodyPost_ret (v := .tuple #[(.agg #[.int .i64 (r), .int .i64 (s)]), .int .i64 0]) (by simp [results, Tryz.results47, go_sem]) rfl ⟨r, s, rfl, by rw [HRes.out]; simp [show ¬ s < r by omega], lay_ex _ _⟩
set_option maxHeartbeats 4000000 in
set_option maxRecDepth 100000 in
theorem ar_BearB (y0 y1 x0 x1 : Int) (hy : fxB y0 y1 = true) (hx : fxB x0 x1 = true) (n1 : x0 ≤ 0) (n2 : ¬ 0 ≤ x1) (w : World) :
  Calls Tryz.prog 47 #[(.agg #[.int .i64 (y0), .int .i64 (y1)]), (.agg #[.int .i64 (x0), .int .i64 (x1)])] w fun e w' => ∃ m0 m1 : Int, e = .returned (.tuple #[(.agg #[.int .i64 (m0), .int .i64 (m1)]), .int .i64 0]) ∧ brF x0 x1 y0 y1 = (m0, m1) ∧ ∃ d, w' = bw w d := by
 have hn : x0 ≤ x1 ∧ y0 ≤ y1 ∧ ¬ oriB x0 x1 y0 y1 := ⟨(fxB_iff.1 hx).1, (fxB_iff.1 hy).1, fun h => n2 h.2.1⟩
 have HV1 := Lib.hid (fun W => fx_ValidG x0 x1 W)
 have HV2 := Lib.hid (fun W => fx_ValidG y0 y1 W)
 rw [hx] at HV1
 rw [hy] at HV2
 have HN := Lib.hid hn
 clear hn
 obtain ⟨x01, xb0, xb1⟩ := fxB_iff.1 hx
 obtain ⟨y01, yb0, yb1⟩ := fxB_iff.1 hy
 have X0 : Bd31 x0 := ⟨by omega, by omega⟩
 have X1 : Bd31 x1 := ⟨by omega, by omega⟩
 have Y0 : Bd31 y0 := ⟨by omega, by omega⟩
 have Y1 : Bd31 y1 := ⟨by omega, by omega⟩
 refine lay_start ?_
 go_enter Tryz.func47, Tryz.ntmps47
 go_wp2_with (go_at_call 103; first | ((with_reducible refine (HV1.out _).mono ?_); rintro e w' ⟨rfl, d1, rfl⟩; rw [lay_bw]) | ((with_reducible refine (HV2.out _).mono ?_); rintro e w' ⟨rfl, d2, rfl⟩; rw [lay_bw]))
 refine region_mixW [0, 0, 0, 0, 2, 1, 1] (by kernel_rfl) (by kernel_rfl) (by kernel_rfl) ?_
 repeat (refine wpM_quiet (fun K hK => ?_); go_simp; first | (refine hK _ ?_; clear hK K) | (apply Exists.intro; refine ⟨fun _ => ?_, hK _ ?_⟩; (first | fail); clear hK K))
 refine wpM_two (fun J hJ d => ?_) (fun J hJ d => ?_)
 all_goals (go_simp; refine hJ _ _ (by first | exact lay_in w [_] _ | exact lay_in w [_, _] _ | exact lay_in w [_, _, _] _ | exact lay_in w [_, _, _, _] _ | exact lay_in w [_, _, _, _, _] _ | exact lay_in w [_, _, _, _, _, _] _) (fun K hK d => ?_); go_simp; refine hK _ _ (by first | exact lay_in w [_] _ | exact lay_in w [_, _] _ | exact lay_in w [_, _, _] _ | exact lay_in w [_, _, _, _] _ | exact lay_in w [_, _, _, _, _] _ | exact lay_in w [_, _, _, _, _, _] _) ?_; clear hK K hJ J)
 all_goals (repeat (first | (refine wpM_quiet (fun K hK => ?_); go_simp; first | (refine hK _ ?_; clear hK K) | (apply Exists.intro; refine ⟨fun _ => ?_, hK _ ?_⟩; (first | fail); clear hK K)) | (refine wpM_special (fun K hK d => ?_); go_simp; refine hK _ _ (by first | exact lay_in w [_] _ | exact lay_in w [_, _] _ | exact lay_in w [_, _, _] _ | exact lay_in w [_, _, _, _] _ | exact lay_in w [_, _, _, _, _] _ | exact lay_in w [_, _, _, _, _, _] _) ?_; clear hK K)))
 all_goals (refine wpM_nil ?_; intro d; rw [lay_bw])
 ·rename_i e1 e2 e3 e4
  go_wp2_with fail
  obtain ⟨ee, hee⟩ := lay_fold w [.inr d, .inr e4, .inr e3] [.inl (.cells #[.int .i64 x0, .int .i64 y0] 186 (0, 0)), .inr e2, .inl (.cells #[.int .i64 x0, .int .i64 y0] 186 (0, 0)), .inr e1, .inl (.cells #[.int .i64 x0, .int .i64 y0, .int .i64 x0, .int .i64 y1, .int .i64 x1, .int .i64 y0, .int .i64 x1, .int .i64 y1] 187 (0, 0)), .inr d2, .inr d1, .inl (.cells #[.int .i64 0, .int .i64 0] 29 (0, 0)), .inl (.cells #[.int .i64 x0, .int .i64 x1] 46 (0, 0)), .inl (.cells #[.int .i64 y0, .int .i64 y1] 46 (0, 0))]
  change lay w [.inr d, .inr e4, .inr e3, .inl (.cells #[.int .i64 x0, .int .i64 y0] 186 (0, 0)), .inr e2, .inl (.cells #[.int .i64 x0, .int .i64 y0] 186 (0, 0)), .inr e1, .inl (.cells #[.int .i64 x0, .int .i64 y0, .int .i64 x0, .int .i64 y1, .int .i64 x1, .int .i64 y0, .int .i64 x1, .int .i64 y1] 187 (0, 0)), .inr d2, .inr d1, .inl (.cells #[.int .i64 0, .int .i64 0] 29 (0, 0)), .inl (.cells #[.int .i64 x0, .int .i64 x1] 46 (0, 0)), .inl (.cells #[.int .i64 y0, .int .i64 y1] 46 (0, 0))] = _ at hee
  rw [hee]
  clear hee
  go_loopw [69] (fun v69 wr => ∃ (i : Nat) (a b c d : Int) (e : Ext), v69 = .int .i64 (i : Int) ∧ wr = lay w [.inr e, .inl (.cells #[.int .i64 c, .int .i64 d] 186 (0, 0)), .inr e2, .inl (.cells #[.int .i64 a, .int .i64 b] 186 (0, 0)), .inr e1, .inl (.cells #[.int .i64 x0, .int .i64 y0, .int .i64 x0, .int .i64 y1, .int .i64 x1, .int .i64 y0, .int .i64 x1, .int .i64 y1] 187 (0, 0)), .inr d2, .inr d1, .inl (.cells #[.int .i64 0, .int .i64 0] 29 (0, 0)), .inl (.cells #[.int .i64 x0, .int .i64 x1] 46 (0, 0)), .inl (.cells #[.int .i64 y0, .int .i64 y1] 46 (0, 0))] ∧ BoxF x0 x1 y0 y1 i a b c d) (fun v69 _ => 4 - (intOf v69).toNat)
  case atStart => exact ⟨0, x0, y0, x0, y0, ee, rfl, rfl, BoxF.start⟩
  case round =>
   obtain ⟨i, a, b, c, d, e, rfl, rfl, hB⟩ := hrel
   obtain ⟨Ba, Bb, Bc, Bd, na, nc⟩ := hB.bds X0 X1 Y0 Y1 HN.out
   have HB := Lib.hid hB
   have i4 := hB.i4
   clear hB
   rcases (show i = 0 ∨ i = 1 ∨ i = 2 ∨ i = 3 ∨ i = 4 by omega) with rfl | rfl | rfl | rfl | rfl
   ·have HS := Lib.hid (HB.out.step (by decide) (p := x0) (q := y0) rfl rfl)
    have H1 := Lib.hid (fun W => ar_before x0 y0 a b X0 Y0 Ba Bb W)
    have H2 := Lib.hid (fun W => ar_before c d x0 y0 Bc Bd X0 Y0 W)
    have hI := ixB_0 x0 x1 y0 y1
    have kI : IntKind.i64.wrap (0 + 1) = 0 + 1 := by decide
    cases g1 : befB x0 y0 a b <;> cases g2 : befB c d x0 y0
    all_goals rw [g1, g2] at HS
    all_goals rw [g1] at H1
    all_goals rw [g2] at H2
    all_goals simp only [Bool.false_eq_true, ↓reduceIte] at HS
    all_goals clear g1 g2
    all_goals go_wp2_with (go_at_call 107; first | ((with_reducible refine (H1.out _).mono ?_); rintro e' w' ⟨rfl, f1, rfl⟩; rw [lay_bw]) | ((with_reducible refine (H2.out _).mono ?_); rintro e' w' ⟨rfl, f2, rfl⟩; rw [lay_bw]))
    all_goals exact ⟨⟨0 + 1, _, _, _, _, _, rfl, (lay_fold w [_, _, _, _] _).choose_spec, HS.out⟩, by simp only [intOf]; omega⟩
   ·have HS := Lib.hid (HB.out.step (by decide) (p := x0) (q := y1) rfl rfl)
    have H1 := Lib.hid (fun W => ar_before x0 y1 a b X0 Y1 Ba Bb W)
    have H2 := Lib.hid (fun W => ar_before c d x0 y1 Bc Bd X0 Y1 W)
    have hI := ixB_1 x0 x1 y0 y1
    have kI : IntKind.i64.wrap (1 + 1) = 1 + 1 := by decide
    cases g1 : befB x0 y1 a b <;> cases g2 : befB c d x0 y1
    all_goals rw [g1, g2] at HS
    all_goals rw [g1] at H1
    all_goals rw [g2] at H2
    all_goals simp only [Bool.false_eq_true, ↓reduceIte] at HS
    all_goals clear g1 g2
    all_goals go_wp2_with (go_at_call 107; first | ((with_reducible refine (H1.out _).mono ?_); rintro e' w' ⟨rfl, f1, rfl⟩; rw [lay_bw]) | ((with_reducible refine (H2.out _).mono ?_); rintro e' w' ⟨rfl, f2, rfl⟩; rw [lay_bw]))
    all_goals exact ⟨⟨1 + 1, _, _, _, _, _, rfl, (lay_fold w [_, _, _, _] _).choose_spec, HS.out⟩, by simp only [intOf]; omega⟩
   ·have HS := Lib.hid (HB.out.step (by decide) (p := x1) (q := y0) rfl rfl)
    have H1 := Lib.hid (fun W => ar_before x1 y0 a b X1 Y0 Ba Bb W)
    have H2 := Lib.hid (fun W => ar_before c d x1 y0 Bc Bd X1 Y0 W)
    have hI := ixB_2 x0 x1 y0 y1
    have kI : IntKind.i64.wrap (2 + 1) = 2 + 1 := by decide
    cases g1 : befB x1 y0 a b <;> cases g2 : befB c d x1 y0
    all_goals rw [g1, g2] at HS
    all_goals rw [g1] at H1
    all_goals rw [g2] at H2
    all_goals simp only [Bool.false_eq_true, ↓reduceIte] at HS
    all_goals clear g1 g2
    all_goals go_wp2_with (go_at_call 107; first | ((with_reducible refine (H1.out _).mono ?_); rintro e' w' ⟨rfl, f1, rfl⟩; rw [lay_bw]) | ((with_reducible refine (H2.out _).mono ?_); rintro e' w' ⟨rfl, f2, rfl⟩; rw [lay_bw]))
    all_goals exact ⟨⟨2 + 1, _, _, _, _, _, rfl, (lay_fold w [_, _, _, _] _).choose_spec, HS.out⟩, by simp only [intOf]; omega⟩
   ·have HS := Lib.hid (HB.out.step (by decide) (p := x1) (q := y1) rfl rfl)
    have H1 := Lib.hid (fun W => ar_before x1 y1 a b X1 Y1 Ba Bb W)
    have H2 := Lib.hid (fun W => ar_before c d x1 y1 Bc Bd X1 Y1 W)
    have hI := ixB_3 x0 x1 y0 y1
    have kI : IntKind.i64.wrap (3 + 1) = 3 + 1 := by decide
    cases g1 : befB x1 y1 a b <;> cases g2 : befB c d x1 y1
    all_goals rw [g1, g2] at HS
    all_goals rw [g1] at H1
    all_goals rw [g2] at H2
    all_goals simp only [Bool.false_eq_true, ↓reduceIte] at HS
    all_goals clear g1 g2
    all_goals go_wp2_with (go_at_call 107; first | ((with_reducible refine (H1.out _).mono ?_); rintro e' w' ⟨rfl, f1, rfl⟩; rw [lay_bw]) | ((with_reducible refine (H2.out _).mono ?_); rintro e' w' ⟨rfl, f2, rfl⟩; rw [lay_bw]))
    all_goals exact ⟨⟨3 + 1, _, _, _, _, _, rfl, (lay_fold w [_, _, _, _] _).choose_spec, HS.out⟩, by simp only [intOf]; omega⟩
   ·have HA1 := Lib.hid (fun W => ar_angG a b na Ba Bb W)
    have HA2 := Lib.hid (fun W => ar_angG c d nc Bc Bd W)
    have HRes := Lib.hid (HB.out.res HN.out)
    obtain ⟨r0, r1⟩ := angF_bd a b
    obtain ⟨s0, s1⟩ := angF_bd c d
    generalize angF a b = R at *
    generalize angF c d = S at *
    obtain ⟨r, ex1⟩ := R
    obtain ⟨s, ex2⟩ := S
    dsimp only at r0 r1 s0 s1
    go_wp2_with fail
    refine (HA1.out _).mono ?_
    rintro e' w' ⟨rfl, f1, rfl⟩
    dsimp only
    rw [lay_bw]
    go_wp2_with fail
    refine (HA2.out _).mono ?_
    rintro e' w' ⟨rfl, f2, rfl⟩
    dsimp only
    have kt : IntKind.i64.wrap (s + 21600000) = s + 21600000 := IntWalk.i64_in _ (by omega)
    have kt2 : IntKind.i64.wrap (s + 21600000 + 1) = s + 21600000 + 1 := IntWalk.i64_in _ (by omega)
    have kt3 : IntKind.i64.wrap (s + 1) = s + 1 := IntWalk.i64_in _ (by omega)
    rw [lay_bw]
    clear r0 r1 s0 s1 HA1 HA2
    by_cases hlt : s < r
    ·cases ex2
     ·go_wp2_with fail
      exact bodyPost_ret (v := .tuple #[(.agg #[.int .i64 (r), .int .i64 (s + 21600000 + 1)]), .int .i64 0]) (by simp [results, Tryz.results47, go_sem]) rfl ⟨r, s + 21600000 + 1, rfl, by rw [HRes.out]; simp [hlt], lay_ex _ _⟩
     ·go_wp2_with fail
      exact bodyPost_ret (v := .tuple #[(.agg #[.int .i64 (r), .int .i64 (s + 21600000)]), .int .i64 0]) (by simp [results, Tryz.results47, go_sem]) rfl ⟨r, s + 21600000, rfl, by rw [HRes.out]; simp [hlt], lay_ex _ _⟩
    ·cases ex2
     ·go_wp2_with fail
      exact bodyPost_ret (v := .tuple #[(.agg #[.int .i64 (r), .int .i64 (s + 1)]), .int .i64 0]) (by simp [results, Tryz.results47, go_sem]) rfl ⟨r, s + 1, rfl, by rw [HRes.out]; simp [show ¬ s < r by omega], lay_ex _ _⟩
     ·go_wp2_with fail
      exact bodyPost_ret (v := .tuple #[(.agg #[.int .i64 (r), .int .i64 (s)]), .int .i64 0]) (by simp [results, Tryz.results47, go_sem]) rfl ⟨r, s, rfl, by rw [HRes.out]; simp [show ¬ s < r by omega], lay_ex _ _⟩
 ·rename_i e1 e2 e3 e4
  go_wp2_with fail
  obtain ⟨ee, hee⟩ := lay_fold w [.inr d, .inr e4, .inr e3] [.inl (.cells #[.int .i64 x0, .int .i64 y0] 186 (0, 0)), .inr e2, .inl (.cells #[.int .i64 x0, .int .i64 y0] 186 (0, 0)), .inr e1, .inl (.cells #[.int .i64 x0, .int .i64 y0, .int .i64 x0, .int .i64 y1, .int .i64 x1, .int .i64 y0, .int .i64 x1, .int .i64 y1] 187 (0, 0)), .inr d2, .inr d1, .inl (.cells #[.int .i64 0, .int .i64 0] 29 (0, 0)), .inl (.cells #[.int .i64 x0, .int .i64 x1] 46 (0, 0)), .inl (.cells #[.int .i64 y0, .int .i64 y1] 46 (0, 0))]
  change lay w [.inr d, .inr e4, .inr e3, .inl (.cells #[.int .i64 x0, .int .i64 y0] 186 (0, 0)), .inr e2, .inl (.cells #[.int .i64 x0, .int .i64 y0] 186 (0, 0)), .inr e1, .inl (.cells #[.int .i64 x0, .int .i64 y0, .int .i64 x0, .int .i64 y1, .int .i64 x1, .int .i64 y0, .int .i64 x1, .int .i64 y1] 187 (0, 0)), .inr d2, .inr d1, .inl (.cells #[.int .i64 0, .int .i64 0] 29 (0, 0)), .inl (.cells #[.int .i64 x0, .int .i64 x1] 46 (0, 0)), .inl (.cells #[.int .i64 y0, .int .i64 y1] 46 (0, 0))] = _ at hee
  rw [hee]
  clear hee
  go_loopw [69] (fun v69 wr => ∃ (i : Nat) (a b c d : Int) (e : Ext), v69 = .int .i64 (i : Int) ∧ wr = lay w [.inr e, .inl (.cells #[.int .i64 a, .int .i64 b] 186 (0, 0)), .inr e2, .inl (.cells #[.int .i64 c, .int .i64 d] 186 (0, 0)), .inr e1, .inl (.cells #[.int .i64 x0, .int .i64 y0, .int .i64 x0, .int .i64 y1, .int .i64 x1, .int .i64 y0, .int .i64 x1, .int .i64 y1] 187 (0, 0)), .inr d2, .inr d1, .inl (.cells #[.int .i64 0, .int .i64 0] 29 (0, 0)), .inl (.cells #[.int .i64 x0, .int .i64 x1] 46 (0, 0)), .inl (.cells #[.int .i64 y0, .int .i64 y1] 46 (0, 0))] ∧ BoxF x0 x1 y0 y1 i a b c d) (fun v69 _ => 4 - (intOf v69).toNat)
  case atStart => exact ⟨0, x0, y0, x0, y0, ee, rfl, rfl, BoxF.start⟩
  case round =>
   obtain ⟨i, a, b, c, d, e, rfl, rfl, hB⟩ := hrel
   obtain ⟨Ba, Bb, Bc, Bd, na, nc⟩ := hB.bds X0 X1 Y0 Y1 HN.out
   have HB := Lib.hid hB
   have i4 := hB.i4
   clear hB
   rcases (show i = 0 ∨ i = 1 ∨ i = 2 ∨ i = 3 ∨ i = 4 by omega) with rfl | rfl | rfl | rfl | rfl
   ·have HS := Lib.hid (HB.out.step (by decide) (p := x0) (q := y0) rfl rfl)
    have H1 := Lib.hid (fun W => ar_before x0 y0 a b X0 Y0 Ba Bb W)
    have H2 := Lib.hid (fun W => ar_before c d x0 y0 Bc Bd X0 Y0 W)
    have hI := ixB_0 x0 x1 y0 y1
    have kI : IntKind.i64.wrap (0 + 1) = 0 + 1 := by decide
    cases g1 : befB x0 y0 a b <;> cases g2 : befB c d x0 y0
    all_goals rw [g1, g2] at HS
    all_goals rw [g1] at H1
    all_goals rw [g2] at H2
    all_goals simp only [Bool.false_eq_true, ↓reduceIte] at HS
    all_goals clear g1 g2
    all_goals go_wp2_with (go_at_call 107; first | ((with_reducible refine (H1.out _).mono ?_); rintro e' w' ⟨rfl, f1, rfl⟩; rw [lay_bw]) | ((with_reducible refine (H2.out _).mono ?_); rintro e' w' ⟨rfl, f2, rfl⟩; rw [lay_bw]))
    all_goals exact ⟨⟨0 + 1, _, _, _, _, _, rfl, (lay_fold w [_, _, _, _] _).choose_spec, HS.out⟩, by simp only [intOf]; omega⟩
   ·have HS := Lib.hid (HB.out.step (by decide) (p := x0) (q := y1) rfl rfl)
    have H1 := Lib.hid (fun W => ar_before x0 y1 a b X0 Y1 Ba Bb W)
    have H2 := Lib.hid (fun W => ar_before c d x0 y1 Bc Bd X0 Y1 W)
    have hI := ixB_1 x0 x1 y0 y1
    have kI : IntKind.i64.wrap (1 + 1) = 1 + 1 := by decide
    cases g1 : befB x0 y1 a b <;> cases g2 : befB c d x0 y1
    all_goals rw [g1, g2] at HS
    all_goals rw [g1] at H1
    all_goals rw [g2] at H2
    all_goals simp only [Bool.false_eq_true, ↓reduceIte] at HS
    all_goals clear g1 g2
    all_goals go_wp2_with (go_at_call 107; first | ((with_reducible refine (H1.out _).mono ?_); rintro e' w' ⟨rfl, f1, rfl⟩; rw [lay_bw]) | ((with_reducible refine (H2.out _).mono ?_); rintro e' w' ⟨rfl, f2, rfl⟩; rw [lay_bw]))
    all_goals exact ⟨⟨1 + 1, _, _, _, _, _, rfl, (lay_fold w [_, _, _, _] _).choose_spec, HS.out⟩, by simp only [intOf]; omega⟩
   ·have HS := Lib.hid (HB.out.step (by decide) (p := x1) (q := y0) rfl rfl)
    have H1 := Lib.hid (fun W => ar_before x1 y0 a b X1 Y0 Ba Bb W)
    have H2 := Lib.hid (fun W => ar_before c d x1 y0 Bc Bd X1 Y0 W)
    have hI := ixB_2 x0 x1 y0 y1
    have kI : IntKind.i64.wrap (2 + 1) = 2 + 1 := by decide
    cases g1 : befB x1 y0 a b <;> cases g2 : befB c d x1 y0
    all_goals rw [g1, g2] at HS
    all_goals rw [g1] at H1
    all_goals rw [g2] at H2
    all_goals simp only [Bool.false_eq_true, ↓reduceIte] at HS
    all_goals clear g1 g2
    all_goals go_wp2_with (go_at_call 107; first | ((with_reducible refine (H1.out _).mono ?_); rintro e' w' ⟨rfl, f1, rfl⟩; rw [lay_bw]) | ((with_reducible refine (H2.out _).mono ?_); rintro e' w' ⟨rfl, f2, rfl⟩; rw [lay_bw]))
    all_goals exact ⟨⟨2 + 1, _, _, _, _, _, rfl, (lay_fold w [_, _, _, _] _).choose_spec, HS.out⟩, by simp only [intOf]; omega⟩
   ·have HS := Lib.hid (HB.out.step (by decide) (p := x1) (q := y1) rfl rfl)
    have H1 := Lib.hid (fun W => ar_before x1 y1 a b X1 Y1 Ba Bb W)
    have H2 := Lib.hid (fun W => ar_before c d x1 y1 Bc Bd X1 Y1 W)
    have hI := ixB_3 x0 x1 y0 y1
    have kI : IntKind.i64.wrap (3 + 1) = 3 + 1 := by decide
    cases g1 : befB x1 y1 a b <;> cases g2 : befB c d x1 y1
    all_goals rw [g1, g2] at HS
    all_goals rw [g1] at H1
    all_goals rw [g2] at H2
    all_goals simp only [Bool.false_eq_true, ↓reduceIte] at HS
    all_goals clear g1 g2
    all_goals go_wp2_with (go_at_call 107; first | ((with_reducible refine (H1.out _).mono ?_); rintro e' w' ⟨rfl, f1, rfl⟩; rw [lay_bw]) | ((with_reducible refine (H2.out _).mono ?_); rintro e' w' ⟨rfl, f2, rfl⟩; rw [lay_bw]))
    all_goals exact ⟨⟨3 + 1, _, _, _, _, _, rfl, (lay_fold w [_, _, _, _] _).choose_spec, HS.out⟩, by simp only [intOf]; omega⟩
   ·have HA1 := Lib.hid (fun W => ar_angG a b na Ba Bb W)
    have HA2 := Lib.hid (fun W => ar_angG c d nc Bc Bd W)
    have HRes := Lib.hid (HB.out.res HN.out)
    obtain ⟨r0, r1⟩ := angF_bd a b
    obtain ⟨s0, s1⟩ := angF_bd c d
    generalize angF a b = R at *
    generalize angF c d = S at *
    obtain ⟨r, ex1⟩ := R
    obtain ⟨s, ex2⟩ := S
    dsimp only at r0 r1 s0 s1
    go_wp2_with fail
    refine (HA1.out _).mono ?_
    rintro e' w' ⟨rfl, f1, rfl⟩
    dsimp only
    rw [lay_bw]
    go_wp2_with fail
    refine (HA2.out _).mono ?_
    rintro e' w' ⟨rfl, f2, rfl⟩
    dsimp only
    have kt : IntKind.i64.wrap (s + 21600000) = s + 21600000 := IntWalk.i64_in _ (by omega)
    have kt2 : IntKind.i64.wrap (s + 21600000 + 1) = s + 21600000 + 1 := IntWalk.i64_in _ (by omega)
    have kt3 : IntKind.i64.wrap (s + 1) = s + 1 := IntWalk.i64_in _ (by omega)
    rw [lay_bw]
    clear r0 r1 s0 s1 HA1 HA2
    by_cases hlt : s < r
    ·cases ex2
     ·go_wp2_with fail
      exact bodyPost_ret (v := .tuple #[(.agg #[.int .i64 (r), .int .i64 (s + 21600000 + 1)]), .int .i64 0]) (by simp [results, Tryz.results47, go_sem]) rfl ⟨r, s + 21600000 + 1, rfl, by rw [HRes.out]; simp [hlt], lay_ex _ _⟩
     ·go_wp2_with fail
      exact bodyPost_ret (v := .tuple #[(.agg #[.int .i64 (r), .int .i64 (s + 21600000)]), .int .i64 0]) (by simp [results, Tryz.results47, go_sem]) rfl ⟨r, s + 21600000, rfl, by rw [HRes.out]; simp [hlt], lay_ex _ _⟩
    ·cases ex2
     ·go_wp2_with fail
      exact bodyPost_ret (v := .tuple #[(.agg #[.int .i64 (r), .int .i64 (s + 1)]), .int .i64 0]) (by simp [results, Tryz.results47, go_sem]) rfl ⟨r, s + 1, rfl, by rw [HRes.out]; simp [show ¬ s < r by omega], lay_ex _ _⟩
     ·go_wp2_with fail
      exact bodyPost_ret (v := .tuple #[(.agg #[.int .i64 (r), .int .i64 (s)]), .int .i64 0]) (by simp [results, Tryz.results47, go_sem]) rfl ⟨r, s, rfl, by rw [HRes.out]; simp [show ¬ s < r by omega], lay_ex _ _⟩
set_option maxHeartbeats 4000000 in
set_option maxRecDepth 100000 in
theorem ar_BearC (y0 y1 x0 x1 : Int) (hy : fxB y0 y1 = true) (hx : fxB x0 x1 = true) (n1 : x0 ≤ 0) (n2 : 0 ≤ x1) (n3 : ¬ y0 ≤ 0) (w : World) :
  Calls Tryz.prog 47 #[(.agg #[.int .i64 (y0), .int .i64 (y1)]), (.agg #[.int .i64 (x0), .int .i64 (x1)])] w fun e w' => ∃ m0 m1 : Int, e = .returned (.tuple #[(.agg #[.int .i64 (m0), .int .i64 (m1)]), .int .i64 0]) ∧ brF x0 x1 y0 y1 = (m0, m1) ∧ ∃ d, w' = bw w d := by
 have hn : x0 ≤ x1 ∧ y0 ≤ y1 ∧ ¬ oriB x0 x1 y0 y1 := ⟨(fxB_iff.1 hx).1, (fxB_iff.1 hy).1, fun h => n3 h.2.2.1⟩
 have HV1 := Lib.hid (fun W => fx_ValidG x0 x1 W)
 have HV2 := Lib.hid (fun W => fx_ValidG y0 y1 W)
 rw [hx] at HV1
 rw [hy] at HV2
 have HN := Lib.hid hn
 clear hn
 obtain ⟨x01, xb0, xb1⟩ := fxB_iff.1 hx
 obtain ⟨y01, yb0, yb1⟩ := fxB_iff.1 hy
 have X0 : Bd31 x0 := ⟨by omega, by omega⟩
 have X1 : Bd31 x1 := ⟨by omega, by omega⟩
 have Y0 : Bd31 y0 := ⟨by omega, by omega⟩
 have Y1 : Bd31 y1 := ⟨by omega, by omega⟩
 refine lay_start ?_
 go_enter Tryz.func47, Tryz.ntmps47
 go_wp2_with (go_at_call 103; first | ((with_reducible refine (HV1.out _).mono ?_); rintro e w' ⟨rfl, d1, rfl⟩; rw [lay_bw]) | ((with_reducible refine (HV2.out _).mono ?_); rintro e w' ⟨rfl, d2, rfl⟩; rw [lay_bw]))
 refine region_mixW [0, 0, 0, 0, 2, 1, 1] (by kernel_rfl) (by kernel_rfl) (by kernel_rfl) ?_
 repeat (refine wpM_quiet (fun K hK => ?_); go_simp; first | (refine hK _ ?_; clear hK K) | (apply Exists.intro; refine ⟨fun _ => ?_, hK _ ?_⟩; (first | fail); clear hK K))
 refine wpM_two (fun J hJ d => ?_) (fun J hJ d => ?_)
 all_goals (go_simp; refine hJ _ _ (by first | exact lay_in w [_] _ | exact lay_in w [_, _] _ | exact lay_in w [_, _, _] _ | exact lay_in w [_, _, _, _] _ | exact lay_in w [_, _, _, _, _] _ | exact lay_in w [_, _, _, _, _, _] _) (fun K hK d => ?_); go_simp; refine hK _ _ (by first | exact lay_in w [_] _ | exact lay_in w [_, _] _ | exact lay_in w [_, _, _] _ | exact lay_in w [_, _, _, _] _ | exact lay_in w [_, _, _, _, _] _ | exact lay_in w [_, _, _, _, _, _] _) ?_; clear hK K hJ J)
 all_goals (repeat (first | (refine wpM_quiet (fun K hK => ?_); go_simp; first | (refine hK _ ?_; clear hK K) | (apply Exists.intro; refine ⟨fun _ => ?_, hK _ ?_⟩; (first | fail); clear hK K)) | (refine wpM_special (fun K hK d => ?_); go_simp; refine hK _ _ (by first | exact lay_in w [_] _ | exact lay_in w [_, _] _ | exact lay_in w [_, _, _] _ | exact lay_in w [_, _, _, _] _ | exact lay_in w [_, _, _, _, _] _ | exact lay_in w [_, _, _, _, _, _] _) ?_; clear hK K)))
 all_goals (refine wpM_nil ?_; intro d; rw [lay_bw])
 ·rename_i e1 e2 e3 e4
  go_wp2_with fail
  obtain ⟨ee, hee⟩ := lay_fold w [.inr d, .inr e4, .inr e3] [.inl (.cells #[.int .i64 x0, .int .i64 y0] 186 (0, 0)), .inr e2, .inl (.cells #[.int .i64 x0, .int .i64 y0] 186 (0, 0)), .inr e1, .inl (.cells #[.int .i64 x0, .int .i64 y0, .int .i64 x0, .int .i64 y1, .int .i64 x1, .int .i64 y0, .int .i64 x1, .int .i64 y1] 187 (0, 0)), .inr d2, .inr d1, .inl (.cells #[.int .i64 0, .int .i64 0] 29 (0, 0)), .inl (.cells #[.int .i64 x0, .int .i64 x1] 46 (0, 0)), .inl (.cells #[.int .i64 y0, .int .i64 y1] 46 (0, 0))]
  change lay w [.inr d, .inr e4, .inr e3, .inl (.cells #[.int .i64 x0, .int .i64 y0] 186 (0, 0)), .inr e2, .inl (.cells #[.int .i64 x0, .int .i64 y0] 186 (0, 0)), .inr e1, .inl (.cells #[.int .i64 x0, .int .i64 y0, .int .i64 x0, .int .i64 y1, .int .i64 x1, .int .i64 y0, .int .i64 x1, .int .i64 y1] 187 (0, 0)), .inr d2, .inr d1, .inl (.cells #[.int .i64 0, .int .i64 0] 29 (0, 0)), .inl (.cells #[.int .i64 x0, .int .i64 x1] 46 (0, 0)), .inl (.cells #[.int .i64 y0, .int .i64 y1] 46 (0, 0))] = _ at hee
  rw [hee]
  clear hee
  go_loopw [69] (fun v69 wr => ∃ (i : Nat) (a b c d : Int) (e : Ext), v69 = .int .i64 (i : Int) ∧ wr = lay w [.inr e, .inl (.cells #[.int .i64 c, .int .i64 d] 186 (0, 0)), .inr e2, .inl (.cells #[.int .i64 a, .int .i64 b] 186 (0, 0)), .inr e1, .inl (.cells #[.int .i64 x0, .int .i64 y0, .int .i64 x0, .int .i64 y1, .int .i64 x1, .int .i64 y0, .int .i64 x1, .int .i64 y1] 187 (0, 0)), .inr d2, .inr d1, .inl (.cells #[.int .i64 0, .int .i64 0] 29 (0, 0)), .inl (.cells #[.int .i64 x0, .int .i64 x1] 46 (0, 0)), .inl (.cells #[.int .i64 y0, .int .i64 y1] 46 (0, 0))] ∧ BoxF x0 x1 y0 y1 i a b c d) (fun v69 _ => 4 - (intOf v69).toNat)
  case atStart => exact ⟨0, x0, y0, x0, y0, ee, rfl, rfl, BoxF.start⟩
  case round =>
   obtain ⟨i, a, b, c, d, e, rfl, rfl, hB⟩ := hrel
   obtain ⟨Ba, Bb, Bc, Bd, na, nc⟩ := hB.bds X0 X1 Y0 Y1 HN.out
   have HB := Lib.hid hB
   have i4 := hB.i4
   clear hB
   rcases (show i = 0 ∨ i = 1 ∨ i = 2 ∨ i = 3 ∨ i = 4 by omega) with rfl | rfl | rfl | rfl | rfl
   ·have HS := Lib.hid (HB.out.step (by decide) (p := x0) (q := y0) rfl rfl)
    have H1 := Lib.hid (fun W => ar_before x0 y0 a b X0 Y0 Ba Bb W)
    have H2 := Lib.hid (fun W => ar_before c d x0 y0 Bc Bd X0 Y0 W)
    have hI := ixB_0 x0 x1 y0 y1
    have kI : IntKind.i64.wrap (0 + 1) = 0 + 1 := by decide
    cases g1 : befB x0 y0 a b <;> cases g2 : befB c d x0 y0
    all_goals rw [g1, g2] at HS
    all_goals rw [g1] at H1
    all_goals rw [g2] at H2
    all_goals simp only [Bool.false_eq_true, ↓reduceIte] at HS
    all_goals clear g1 g2
    all_goals go_wp2_with (go_at_call 107; first | ((with_reducible refine (H1.out _).mono ?_); rintro e' w' ⟨rfl, f1, rfl⟩; rw [lay_bw]) | ((with_reducible refine (H2.out _).mono ?_); rintro e' w' ⟨rfl, f2, rfl⟩; rw [lay_bw]))
    all_goals exact ⟨⟨0 + 1, _, _, _, _, _, rfl, (lay_fold w [_, _, _, _] _).choose_spec, HS.out⟩, by simp only [intOf]; omega⟩
   ·have HS := Lib.hid (HB.out.step (by decide) (p := x0) (q := y1) rfl rfl)
    have H1 := Lib.hid (fun W => ar_before x0 y1 a b X0 Y1 Ba Bb W)
    have H2 := Lib.hid (fun W => ar_before c d x0 y1 Bc Bd X0 Y1 W)
    have hI := ixB_1 x0 x1 y0 y1
    have kI : IntKind.i64.wrap (1 + 1) = 1 + 1 := by decide
    cases g1 : befB x0 y1 a b <;> cases g2 : befB c d x0 y1
    all_goals rw [g1, g2] at HS
    all_goals rw [g1] at H1
    all_goals rw [g2] at H2
    all_goals simp only [Bool.false_eq_true, ↓reduceIte] at HS
    all_goals clear g1 g2
    all_goals go_wp2_with (go_at_call 107; first | ((with_reducible refine (H1.out _).mono ?_); rintro e' w' ⟨rfl, f1, rfl⟩; rw [lay_bw]) | ((with_reducible refine (H2.out _).mono ?_); rintro e' w' ⟨rfl, f2, rfl⟩; rw [lay_bw]))
    all_goals exact ⟨⟨1 + 1, _, _, _, _, _, rfl, (lay_fold w [_, _, _, _] _).choose_spec, HS.out⟩, by simp only [intOf]; omega⟩
   ·have HS := Lib.hid (HB.out.step (by decide) (p := x1) (q := y0) rfl rfl)
    have H1 := Lib.hid (fun W => ar_before x1 y0 a b X1 Y0 Ba Bb W)
    have H2 := Lib.hid (fun W => ar_before c d x1 y0 Bc Bd X1 Y0 W)
    have hI := ixB_2 x0 x1 y0 y1
    have kI : IntKind.i64.wrap (2 + 1) = 2 + 1 := by decide
    cases g1 : befB x1 y0 a b <;> cases g2 : befB c d x1 y0
    all_goals rw [g1, g2] at HS
    all_goals rw [g1] at H1
    all_goals rw [g2] at H2
    all_goals simp only [Bool.false_eq_true, ↓reduceIte] at HS
    all_goals clear g1 g2
    all_goals go_wp2_with (go_at_call 107; first | ((with_reducible refine (H1.out _).mono ?_); rintro e' w' ⟨rfl, f1, rfl⟩; rw [lay_bw]) | ((with_reducible refine (H2.out _).mono ?_); rintro e' w' ⟨rfl, f2, rfl⟩; rw [lay_bw]))
    all_goals exact ⟨⟨2 + 1, _, _, _, _, _, rfl, (lay_fold w [_, _, _, _] _).choose_spec, HS.out⟩, by simp only [intOf]; omega⟩
   ·have HS := Lib.hid (HB.out.step (by decide) (p := x1) (q := y1) rfl rfl)
    have H1 := Lib.hid (fun W => ar_before x1 y1 a b X1 Y1 Ba Bb W)
    have H2 := Lib.hid (fun W => ar_before c d x1 y1 Bc Bd X1 Y1 W)
    have hI := ixB_3 x0 x1 y0 y1
    have kI : IntKind.i64.wrap (3 + 1) = 3 + 1 := by decide
    cases g1 : befB x1 y1 a b <;> cases g2 : befB c d x1 y1
    all_goals rw [g1, g2] at HS
    all_goals rw [g1] at H1
    all_goals rw [g2] at H2
    all_goals simp only [Bool.false_eq_true, ↓reduceIte] at HS
    all_goals clear g1 g2
    all_goals go_wp2_with (go_at_call 107; first | ((with_reducible refine (H1.out _).mono ?_); rintro e' w' ⟨rfl, f1, rfl⟩; rw [lay_bw]) | ((with_reducible refine (H2.out _).mono ?_); rintro e' w' ⟨rfl, f2, rfl⟩; rw [lay_bw]))
    all_goals exact ⟨⟨3 + 1, _, _, _, _, _, rfl, (lay_fold w [_, _, _, _] _).choose_spec, HS.out⟩, by simp only [intOf]; omega⟩
   ·have HA1 := Lib.hid (fun W => ar_angG a b na Ba Bb W)
    have HA2 := Lib.hid (fun W => ar_angG c d nc Bc Bd W)
    have HRes := Lib.hid (HB.out.res HN.out)
    obtain ⟨r0, r1⟩ := angF_bd a b
    obtain ⟨s0, s1⟩ := angF_bd c d
    generalize angF a b = R at *
    generalize angF c d = S at *
    obtain ⟨r, ex1⟩ := R
    obtain ⟨s, ex2⟩ := S
    dsimp only at r0 r1 s0 s1
    go_wp2_with fail
    refine (HA1.out _).mono ?_
    rintro e' w' ⟨rfl, f1, rfl⟩
    dsimp only
    rw [lay_bw]
    go_wp2_with fail
    refine (HA2.out _).mono ?_
    rintro e' w' ⟨rfl, f2, rfl⟩
    dsimp only
    have kt : IntKind.i64.wrap (s + 21600000) = s + 21600000 := IntWalk.i64_in _ (by omega)
    have kt2 : IntKind.i64.wrap (s + 21600000 + 1) = s + 21600000 + 1 := IntWalk.i64_in _ (by omega)
    have kt3 : IntKind.i64.wrap (s + 1) = s + 1 := IntWalk.i64_in _ (by omega)
    rw [lay_bw]
    clear r0 r1 s0 s1 HA1 HA2
    by_cases hlt : s < r
    ·cases ex2
     ·go_wp2_with fail
      exact bodyPost_ret (v := .tuple #[(.agg #[.int .i64 (r), .int .i64 (s + 21600000 + 1)]), .int .i64 0]) (by simp [results, Tryz.results47, go_sem]) rfl ⟨r, s + 21600000 + 1, rfl, by rw [HRes.out]; simp [hlt], lay_ex _ _⟩
     ·go_wp2_with fail
      exact bodyPost_ret (v := .tuple #[(.agg #[.int .i64 (r), .int .i64 (s + 21600000)]), .int .i64 0]) (by simp [results, Tryz.results47, go_sem]) rfl ⟨r, s + 21600000, rfl, by rw [HRes.out]; simp [hlt], lay_ex _ _⟩
    ·cases ex2
     ·go_wp2_with fail
      exact bodyPost_ret (v := .tuple #[(.agg #[.int .i64 (r), .int .i64 (s + 1)]), .int .i64 0]) (by simp [results, Tryz.results47, go_sem]) rfl ⟨r, s + 1, rfl, by rw [HRes.out]; simp [show ¬ s < r by omega], lay_ex _ _⟩
     ·go_wp2_with fail
      exact bodyPost_ret (v := .tuple #[(.agg #[.int .i64 (r), .int .i64 (s)]), .int .i64 0]) (by simp [results, Tryz.results47, go_sem]) rfl ⟨r, s, rfl, by rw [HRes.out]; simp [show ¬ s < r by omega], lay_ex _ _⟩
 ·rename_i e1 e2 e3 e4
  go_wp2_with fail
  obtain ⟨ee, hee⟩ := lay_fold w [.inr d, .inr e4, .inr e3] [.inl (.cells #[.int .i64 x0, .int .i64 y0] 186 (0, 0)), .inr e2, .inl (.cells #[.int .i64 x0, .int .i64 y0] 186 (0, 0)), .inr e1, .inl (.cells #[.int .i64 x0, .int .i64 y0, .int .i64 x0, .int .i64 y1, .int .i64 x1, .int .i64 y0, .int .i64 x1, .int .i64 y1] 187 (0, 0)), .inr d2, .inr d1, .inl (.cells #[.int .i64 0, .int .i64 0] 29 (0, 0)), .inl (.cells #[.int .i64 x0, .int .i64 x1] 46 (0, 0)), .inl (.cells #[.int .i64 y0, .int .i64 y1] 46 (0, 0))]
  change lay w [.inr d, .inr e4, .inr e3, .inl (.cells #[.int .i64 x0, .int .i64 y0] 186 (0, 0)), .inr e2, .inl (.cells #[.int .i64 x0, .int .i64 y0] 186 (0, 0)), .inr e1, .inl (.cells #[.int .i64 x0, .int .i64 y0, .int .i64 x0, .int .i64 y1, .int .i64 x1, .int .i64 y0, .int .i64 x1, .int .i64 y1] 187 (0, 0)), .inr d2, .inr d1, .inl (.cells #[.int .i64 0, .int .i64 0] 29 (0, 0)), .inl (.cells #[.int .i64 x0, .int .i64 x1] 46 (0, 0)), .inl (.cells #[.int .i64 y0, .int .i64 y1] 46 (0, 0))] = _ at hee
  rw [hee]
  clear hee
  go_loopw [69] (fun v69 wr => ∃ (i : Nat) (a b c d : Int) (e : Ext), v69 = .int .i64 (i : Int) ∧ wr = lay w [.inr e, .inl (.cells #[.int .i64 a, .int .i64 b] 186 (0, 0)), .inr e2, .inl (.cells #[.int .i64 c, .int .i64 d] 186 (0, 0)), .inr e1, .inl (.cells #[.int .i64 x0, .int .i64 y0, .int .i64 x0, .int .i64 y1, .int .i64 x1, .int .i64 y0, .int .i64 x1, .int .i64 y1] 187 (0, 0)), .inr d2, .inr d1, .inl (.cells #[.int .i64 0, .int .i64 0] 29 (0, 0)), .inl (.cells #[.int .i64 x0, .int .i64 x1] 46 (0, 0)), .inl (.cells #[.int .i64 y0, .int .i64 y1] 46 (0, 0))] ∧ BoxF x0 x1 y0 y1 i a b c d) (fun v69 _ => 4 - (intOf v69).toNat)
  case atStart => exact ⟨0, x0, y0, x0, y0, ee, rfl, rfl, BoxF.start⟩
  case round =>
   obtain ⟨i, a, b, c, d, e, rfl, rfl, hB⟩ := hrel
   obtain ⟨Ba, Bb, Bc, Bd, na, nc⟩ := hB.bds X0 X1 Y0 Y1 HN.out
   have HB := Lib.hid hB
   have i4 := hB.i4
   clear hB
   rcases (show i = 0 ∨ i = 1 ∨ i = 2 ∨ i = 3 ∨ i = 4 by omega) with rfl | rfl | rfl | rfl | rfl
   ·have HS := Lib.hid (HB.out.step (by decide) (p := x0) (q := y0) rfl rfl)
    have H1 := Lib.hid (fun W => ar_before x0 y0 a b X0 Y0 Ba Bb W)
    have H2 := Lib.hid (fun W => ar_before c d x0 y0 Bc Bd X0 Y0 W)
    have hI := ixB_0 x0 x1 y0 y1
    have kI : IntKind.i64.wrap (0 + 1) = 0 + 1 := by decide
    cases g1 : befB x0 y0 a b <;> cases g2 : befB c d x0 y0
    all_goals rw [g1, g2] at HS
    all_goals rw [g1] at H1
    all_goals rw [g2] at H2
    all_goals simp only [Bool.false_eq_true, ↓reduceIte] at HS
    all_goals clear g1 g2
    all_goals go_wp2_with (go_at_call 107; first | ((with_reducible refine (H1.out _).mono ?_); rintro e' w' ⟨rfl, f1, rfl⟩; rw [lay_bw]) | ((with_reducible refine (H2.out _).mono ?_); rintro e' w' ⟨rfl, f2, rfl⟩; rw [lay_bw]))
    all_goals exact ⟨⟨0 + 1, _, _, _, _, _, rfl, (lay_fold w [_, _, _, _] _).choose_spec, HS.out⟩, by simp only [intOf]; omega⟩
   ·have HS := Lib.hid (HB.out.step (by decide) (p := x0) (q := y1) rfl rfl)
    have H1 := Lib.hid (fun W => ar_before x0 y1 a b X0 Y1 Ba Bb W)
    have H2 := Lib.hid (fun W => ar_before c d x0 y1 Bc Bd X0 Y1 W)
    have hI := ixB_1 x0 x1 y0 y1
    have kI : IntKind.i64.wrap (1 + 1) = 1 + 1 := by decide
    cases g1 : befB x0 y1 a b <;> cases g2 : befB c d x0 y1
    all_goals rw [g1, g2] at HS
    all_goals rw [g1] at H1
    all_goals rw [g2] at H2
    all_goals simp only [Bool.false_eq_true, ↓reduceIte] at HS
    all_goals clear g1 g2
    all_goals go_wp2_with (go_at_call 107; first | ((with_reducible refine (H1.out _).mono ?_); rintro e' w' ⟨rfl, f1, rfl⟩; rw [lay_bw]) | ((with_reducible refine (H2.out _).mono ?_); rintro e' w' ⟨rfl, f2, rfl⟩; rw [lay_bw]))
    all_goals exact ⟨⟨1 + 1, _, _, _, _, _, rfl, (lay_fold w [_, _, _, _] _).choose_spec, HS.out⟩, by simp only [intOf]; omega⟩
   ·have HS := Lib.hid (HB.out.step (by decide) (p := x1) (q := y0) rfl rfl)
    have H1 := Lib.hid (fun W => ar_before x1 y0 a b X1 Y0 Ba Bb W)
    have H2 := Lib.hid (fun W => ar_before c d x1 y0 Bc Bd X1 Y0 W)
    have hI := ixB_2 x0 x1 y0 y1
    have kI : IntKind.i64.wrap (2 + 1) = 2 + 1 := by decide
    cases g1 : befB x1 y0 a b <;> cases g2 : befB c d x1 y0
    all_goals rw [g1, g2] at HS
    all_goals rw [g1] at H1
    all_goals rw [g2] at H2
    all_goals simp only [Bool.false_eq_true, ↓reduceIte] at HS
    all_goals clear g1 g2
    all_goals go_wp2_with (go_at_call 107; first | ((with_reducible refine (H1.out _).mono ?_); rintro e' w' ⟨rfl, f1, rfl⟩; rw [lay_bw]) | ((with_reducible refine (H2.out _).mono ?_); rintro e' w' ⟨rfl, f2, rfl⟩; rw [lay_bw]))
    all_goals exact ⟨⟨2 + 1, _, _, _, _, _, rfl, (lay_fold w [_, _, _, _] _).choose_spec, HS.out⟩, by simp only [intOf]; omega⟩
   ·have HS := Lib.hid (HB.out.step (by decide) (p := x1) (q := y1) rfl rfl)
    have H1 := Lib.hid (fun W => ar_before x1 y1 a b X1 Y1 Ba Bb W)
    have H2 := Lib.hid (fun W => ar_before c d x1 y1 Bc Bd X1 Y1 W)
    have hI := ixB_3 x0 x1 y0 y1
    have kI : IntKind.i64.wrap (3 + 1) = 3 + 1 := by decide
    cases g1 : befB x1 y1 a b <;> cases g2 : befB c d x1 y1
    all_goals rw [g1, g2] at HS
    all_goals rw [g1] at H1
    all_goals rw [g2] at H2
    all_goals simp only [Bool.false_eq_true, ↓reduceIte] at HS
    all_goals clear g1 g2
    all_goals go_wp2_with (go_at_call 107; first | ((with_reducible refine (H1.out _).mono ?_); rintro e' w' ⟨rfl, f1, rfl⟩; rw [lay_bw]) | ((with_reducible refine (H2.out _).mono ?_); rintro e' w' ⟨rfl, f2, rfl⟩; rw [lay_bw]))
    all_goals exact ⟨⟨3 + 1, _, _, _, _, _, rfl, (lay_fold w [_, _, _, _] _).choose_spec, HS.out⟩, by simp only [intOf]; omega⟩
   ·have HA1 := Lib.hid (fun W => ar_angG a b na Ba Bb W)
    have HA2 := Lib.hid (fun W => ar_angG c d nc Bc Bd W)
    have HRes := Lib.hid (HB.out.res HN.out)
    obtain ⟨r0, r1⟩ := angF_bd a b
    obtain ⟨s0, s1⟩ := angF_bd c d
    generalize angF a b = R at *
    generalize angF c d = S at *
    obtain ⟨r, ex1⟩ := R
    obtain ⟨s, ex2⟩ := S
    dsimp only at r0 r1 s0 s1
    go_wp2_with fail
    refine (HA1.out _).mono ?_
    rintro e' w' ⟨rfl, f1, rfl⟩
    dsimp only
    rw [lay_bw]
    go_wp2_with fail
    refine (HA2.out _).mono ?_
    rintro e' w' ⟨rfl, f2, rfl⟩
    dsimp only
    have kt : IntKind.i64.wrap (s + 21600000) = s + 21600000 := IntWalk.i64_in _ (by omega)
    have kt2 : IntKind.i64.wrap (s + 21600000 + 1) = s + 21600000 + 1 := IntWalk.i64_in _ (by omega)
    have kt3 : IntKind.i64.wrap (s + 1) = s + 1 := IntWalk.i64_in _ (by omega)
    rw [lay_bw]
    clear r0 r1 s0 s1 HA1 HA2
    by_cases hlt : s < r
    ·cases ex2
     ·go_wp2_with fail
      exact bodyPost_ret (v := .tuple #[(.agg #[.int .i64 (r), .int .i64 (s + 21600000 + 1)]), .int .i64 0]) (by simp [results, Tryz.results47, go_sem]) rfl ⟨r, s + 21600000 + 1, rfl, by rw [HRes.out]; simp [hlt], lay_ex _ _⟩
     ·go_wp2_with fail
      exact bodyPost_ret (v := .tuple #[(.agg #[.int .i64 (r), .int .i64 (s + 21600000)]), .int .i64 0]) (by simp [results, Tryz.results47, go_sem]) rfl ⟨r, s + 21600000, rfl, by rw [HRes.out]; simp [hlt], lay_ex _ _⟩
    ·cases ex2
     ·go_wp2_with fail
      exact bodyPost_ret (v := .tuple #[(.agg #[.int .i64 (r), .int .i64 (s + 1)]), .int .i64 0]) (by simp [results, Tryz.results47, go_sem]) rfl ⟨r, s + 1, rfl, by rw [HRes.out]; simp [show ¬ s < r by omega], lay_ex _ _⟩
     ·go_wp2_with fail
      exact bodyPost_ret (v := .tuple #[(.agg #[.int .i64 (r), .int .i64 (s)]), .int .i64 0]) (by simp [results, Tryz.results47, go_sem]) rfl ⟨r, s, rfl, by rw [HRes.out]; simp [show ¬ s < r by omega], lay_ex _ _⟩
end Go.Proofs.YtcbicpbbjbkiaaaGreatDoor
