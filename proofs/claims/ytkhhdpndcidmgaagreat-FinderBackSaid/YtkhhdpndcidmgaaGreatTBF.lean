/- Contracts and plain laws, several texts in one: ChC; CoW -/
import Derived.Test.YtkhhdpndcidmgaaGreatProg
import Derived.WalkKit
import Derived.WalkSpells
import Derived.WalkLawsBesides
import Derived.Lib.Hide
import Derived.BigQuiet
import Derived.Test.YtkhhdpndcidmgaaGreatTAE
import Derived.Test.YtkhhdpndcidmgaaGreatTAF
import Derived.Test.YtkhhdpndcidmgaaGreatTAI
import Derived.Test.YtkhhdpndcidmgaaGreatTAR
import Derived.Test.YtkhhdpndcidmgaaGreatTAW
import Derived.Test.YtkhhdpndcidmgaaGreatTBA
import Derived.Test.YtkhhdpndcidmgaaGreatTBE
/- cosine's chain of operations: each gives its enclosure, and no error is kept. -/
namespace Go.Proofs.YtkhhdpndcidmgaaGreat
set_option maxRecDepth 100000
open Go.RowKit

theorem cc_keep (b : Nat) (lo hi : Int) (w : World) (hc : ChW b w) :
    Calls Tryz.prog 144 #[.pointer (some ⟨b, 0, none⟩), (.agg #[.int .i64 (lo), .int .i64 (hi)]), .int .i64 0] w fun e w' => e = .returned (.agg #[.int .i64 (lo), .int .i64 (hi)]) ∧ ∃ d, w' = bw w d := by
  have hb := hc.lt
  have h1 := hc.cell
  have h2 := hc.froz
  have h3 : ∀ L, (lay w L).setCell ⟨b, 0, none⟩ (.int .i64 0) = lay w L := fun L => (hc.lay L).set
  refine lay_start ?_
  go_enter Tryz.func144, Tryz.ntmps144
  go_wp2_with fail
  exact bodyPost_ret (v := (.agg #[.int .i64 (lo), .int .i64 (hi)])) (by simp [results, Tryz.results144, go_sem]) rfl ⟨rfl, lay_ex _ _⟩
theorem cc_cos (b : Nat) (lo hi : Int) (w : World) (hc : ChW b w) (hv : validB lo hi = true) :
    Calls Tryz.prog 143 #[.pointer (some ⟨b, 0, none⟩), (.agg #[.int .i64 (lo), .int .i64 (hi)])] w fun e w' => e = .returned (.agg #[.int .i64 (encL (lo + 5400000) (hi + 5400000)), .int .i64 (encH (lo + 5400000) (hi + 5400000))]) ∧ ∃ d, w' = bw w d := by
  have HK := Lib.hid (fun L => cc_keep b (encL (lo + 5400000) (hi + 5400000)) (encH (lo + 5400000) (hi + 5400000)) (lay w L) (hc.lay L))
  have HT := Lib.hid (fun W => tg_Cos lo hi hv W)
  generalize encL (lo + 5400000) (hi + 5400000) = p at *
  generalize encH (lo + 5400000) (hi + 5400000) = q at *
  clear hc hv
  refine lay_start ?_
  go_enter Tryz.func143, Tryz.ntmps143
  go_wp2_with (first | (go_at_call 14; refine (HT.out _).mono ?_; rintro e w' ⟨rfl, d, rfl⟩; rw [lay_bw]) | (go_at_call 144; refine (HK.out _).mono ?_; rintro e w' ⟨rfl, d2, rfl⟩))
  exact bodyPost_ret (v := (.agg #[.int .i64 (p), .int .i64 (q)])) (by simp [results, Tryz.results143, go_sem]) rfl ⟨rfl, lay_ex _ _⟩
theorem cc_sin (b : Nat) (lo hi : Int) (w : World) (hc : ChW b w) (hv : validB lo hi = true) :
    Calls Tryz.prog 142 #[.pointer (some ⟨b, 0, none⟩), (.agg #[.int .i64 (lo), .int .i64 (hi)])] w fun e w' => e = .returned (.agg #[.int .i64 (encL lo hi), .int .i64 (encH lo hi)]) ∧ ∃ d, w' = bw w d := by
  have HK := Lib.hid (fun L => cc_keep b (encL lo hi) (encH lo hi) (lay w L) (hc.lay L))
  have HT := Lib.hid (fun W => tg_Sin lo hi hv W)
  generalize encL lo hi = p at *
  generalize encH lo hi = q at *
  clear hc hv
  refine lay_start ?_
  go_enter Tryz.func142, Tryz.ntmps142
  go_wp2_with (first | (go_at_call 13; refine (HT.out _).mono ?_; rintro e w' ⟨rfl, d, rfl⟩; rw [lay_bw]) | (go_at_call 144; refine (HK.out _).mono ?_; rintro e w' ⟨rfl, d2, rfl⟩))
  exact bodyPost_ret (v := (.agg #[.int .i64 (p), .int .i64 (q)])) (by simp [results, Tryz.results142, go_sem]) rfl ⟨rfl, lay_ex _ _⟩
theorem cc_mul (b : Nat) (a0 a1 b0 b1 : Int) (w : World) (hc : ChW b w) (ha : fxB a0 a1 = true) (hb : fxB b0 b1 = true) (hm : fxB (mulL a0 a1 b0 b1) (mulH a0 a1 b0 b1) = true) :
    Calls Tryz.prog 111 #[.pointer (some ⟨b, 0, none⟩), (.agg #[.int .i64 (a0), .int .i64 (a1)]), (.agg #[.int .i64 (b0), .int .i64 (b1)])] w fun e w' => e = .returned (.agg #[.int .i64 (mulL a0 a1 b0 b1), .int .i64 (mulH a0 a1 b0 b1)]) ∧ ∃ d, w' = bw w d := by
  have HK := Lib.hid (fun L => cc_keep b (mulL a0 a1 b0 b1) (mulH a0 a1 b0 b1) (lay w L) (hc.lay L))
  have HT := Lib.hid (fun W => fx_MulG a0 a1 b0 b1 W ha hb hm)
  generalize mulL a0 a1 b0 b1 = p at *
  generalize mulH a0 a1 b0 b1 = q at *
  clear hc ha hb hm
  refine lay_start ?_
  go_enter Tryz.func111, Tryz.ntmps111
  go_wp2_with (first | (go_at_call 11; refine (HT.out _).mono ?_; rintro e w' ⟨rfl, d, rfl⟩; rw [lay_bw]) | (go_at_call 144; refine (HK.out _).mono ?_; rintro e w' ⟨rfl, d2, rfl⟩))
  exact bodyPost_ret (v := (.agg #[.int .i64 (p), .int .i64 (q)])) (by simp [results, Tryz.results111, go_sem]) rfl ⟨rfl, lay_ex _ _⟩
theorem cc_add (b : Nat) (a0 a1 b0 b1 : Int) (w : World) (hc : ChW b w) (ha : fxB a0 a1 = true) (hb : fxB b0 b1 = true) (hm : fxB (a0 + b0) (a1 + b1) = true) :
    Calls Tryz.prog 110 #[.pointer (some ⟨b, 0, none⟩), (.agg #[.int .i64 (a0), .int .i64 (a1)]), (.agg #[.int .i64 (b0), .int .i64 (b1)])] w fun e w' => e = .returned (.agg #[.int .i64 (a0 + b0), .int .i64 (a1 + b1)]) ∧ ∃ d, w' = bw w d := by
  have HK := Lib.hid (fun L => cc_keep b (a0 + b0) (a1 + b1) (lay w L) (hc.lay L))
  have HT := Lib.hid (fun W => fx_AddG a0 a1 b0 b1 W ha hb hm)
  generalize a0 + b0 = p at *
  generalize a1 + b1 = q at *
  clear hc ha hb hm
  refine lay_start ?_
  go_enter Tryz.func110, Tryz.ntmps110
  go_wp2_with (first | (go_at_call 145; refine (HT.out _).mono ?_; rintro e w' ⟨rfl, d, rfl⟩; rw [lay_bw]) | (go_at_call 144; refine (HK.out _).mono ?_; rintro e w' ⟨rfl, d2, rfl⟩))
  exact bodyPost_ret (v := (.agg #[.int .i64 (p), .int .i64 (q)])) (by simp [results, Tryz.results110, go_sem]) rfl ⟨rfl, lay_ex _ _⟩
set_option maxHeartbeats 1000000 in
theorem cc_of (b : Nat) (a0 a1 b0 b1 c0 c1 : Int) (w : World) (hc : ChW b w) (va : validB a0 a1 = true) (vb : validB b0 b1 = true) (vc : validB c0 c1 = true) :
    Calls Tryz.prog 109 #[.pointer (some ⟨b, 0, none⟩), (.agg #[.int .i64 (a0), .int .i64 (a1), .int .i64 (b0), .int .i64 (b1), .int .i64 (c0), .int .i64 (c1)])] w fun e w' => e = .returned (.agg #[.int .i64 (encL a0 a1), .int .i64 (encH a0 a1), .int .i64 (cosL a0 a1), .int .i64 (cosH a0 a1), .int .i64 (encL b0 b1), .int .i64 (encH b0 b1), .int .i64 (cosL b0 b1), .int .i64 (cosH b0 b1), .int .i64 (encL c0 c1), .int .i64 (encH c0 c1), .int .i64 (cosL c0 c1), .int .i64 (cosH c0 c1)]) ∧ ∃ d, w' = bw w d := by
  have HS1 := Lib.hid (fun L => cc_sin b a0 a1 (lay w L) (hc.lay L) va)
  have HS2 := Lib.hid (fun L => cc_sin b b0 b1 (lay w L) (hc.lay L) vb)
  have HS3 := Lib.hid (fun L => cc_sin b c0 c1 (lay w L) (hc.lay L) vc)
  have HC1 : Hid (∀ L, Calls _ _ #[_, (.agg #[.int .i64 (a0), .int .i64 (a1)])] _ fun e w' => e = .returned (.agg #[.int .i64 (cosL a0 a1), .int .i64 (cosH a0 a1)]) ∧ _) := Lib.hid (fun L => cc_cos b a0 a1 (lay w L) (hc.lay L) va)
  have HC2 : Hid (∀ L, Calls _ _ #[_, (.agg #[.int .i64 (b0), .int .i64 (b1)])] _ fun e w' => e = .returned (.agg #[.int .i64 (cosL b0 b1), .int .i64 (cosH b0 b1)]) ∧ _) := Lib.hid (fun L => cc_cos b b0 b1 (lay w L) (hc.lay L) vb)
  have HC3 : Hid (∀ L, Calls _ _ #[_, (.agg #[.int .i64 (c0), .int .i64 (c1)])] _ fun e w' => e = .returned (.agg #[.int .i64 (cosL c0 c1), .int .i64 (cosH c0 c1)]) ∧ _) := Lib.hid (fun L => cc_cos b c0 c1 (lay w L) (hc.lay L) vc)
  generalize encL a0 a1 = p1 at *
  generalize encH a0 a1 = q1 at *
  generalize encL b0 b1 = p2 at *
  generalize encH b0 b1 = q2 at *
  generalize encL c0 c1 = p3 at *
  generalize encH c0 c1 = q3 at *
  generalize cosL a0 a1 = r1 at *
  generalize cosH a0 a1 = s1 at *
  generalize cosL b0 b1 = r2 at *
  generalize cosH b0 b1 = s2 at *
  generalize cosL c0 c1 = r3 at *
  generalize cosH c0 c1 = s3 at *
  clear hc va vb vc
  refine lay_start ?_
  go_enter Tryz.func109, Tryz.ntmps109
  go_wp2_with fail
  refine region_bw_tail 25 (by kernel_rfl) (by kernel_rfl) ?_
  simp only [List.take_succ_cons, List.take_zero, List.drop_succ_cons, List.drop_zero]
  repeat (go_big_quiet_step ((first | (go_at_call 142; first | ((with_reducible refine bq (HS1.out _) ?_); first | exact (fun d => lay_join _ _ _ d) | exact (fun d => ⟨d, rfl⟩)) | ((with_reducible refine bq (HS2.out _) ?_); first | exact (fun d => lay_join _ _ _ d) | exact (fun d => ⟨d, rfl⟩)) | ((with_reducible refine bq (HS3.out _) ?_); first | exact (fun d => lay_join _ _ _ d) | exact (fun d => ⟨d, rfl⟩))) | (go_at_call 143; first | ((with_reducible refine bq (HC1.out _) ?_); first | exact (fun d => lay_join _ _ _ d) | exact (fun d => ⟨d, rfl⟩)) | ((with_reducible refine bq (HC2.out _) ?_); first | exact (fun d => lay_join _ _ _ d) | exact (fun d => ⟨d, rfl⟩)) | ((with_reducible refine bq (HC3.out _) ?_); first | exact (fun d => lay_join _ _ _ d) | exact (fun d => ⟨d, rfl⟩))))))
  refine wpQuiet_nil ?_
  rintro w' ⟨d, rfl⟩
  rw [lay_bw]
  go_wp2_with fail
  exact bodyPost_ret (v := (.agg #[.int .i64 (p1), .int .i64 (q1), .int .i64 (r1), .int .i64 (s1), .int .i64 (p2), .int .i64 (q2), .int .i64 (r2), .int .i64 (s2), .int .i64 (p3), .int .i64 (q3), .int .i64 (r3), .int .i64 (s3)])) (by simp [results, Tryz.results109, go_sem]) rfl ⟨rfl, lay_ex _ _⟩
end Go.Proofs.YtkhhdpndcidmgaaGreat
/- cosine.Valid, altitude, Altitude. -/
namespace Go.Proofs.YtkhhdpndcidmgaaGreat
set_option maxRecDepth 100000
open Go.RowKit

theorem cos_latitude (x0 y0 : Int) (w : World) :
    Calls Tryz.prog 70 #[(.agg #[.int .i64 (x0), .int .i64 (y0)])] w fun e w' => e = .returned (.bool (latB x0 y0)) ∧ ∃ d, w' = bw w d := by
  refine lay_start ?_
  go_enter Tryz.func70, Tryz.ntmps70
  go_wp2_with (go_at_call 32; refine (angle_Valid _ _ _).mono ?_; rintro e w' ⟨rfl, d, rfl⟩)
  all_goals go_ret
  all_goals exact ⟨ret_bool (by first | exact lat_w1 ‹_› ‹_› | exact lat_w2 ‹_› | exact lat_w3 ‹_›), lay_ex _ _⟩
def triB (a0 a1 b0 b1 c0 c1 : Int) : Bool := latB a0 a1 && latB b0 b1 && validB c0 c1
theorem cos_Valid (a0 a1 b0 b1 c0 c1 : Int) (w : World) :
    Calls Tryz.prog 27 #[(.agg #[.int .i64 (a0), .int .i64 (a1), .int .i64 (b0), .int .i64 (b1), .int .i64 (c0), .int .i64 (c1)])] w fun e w' => e = .returned (.bool (triB a0 a1 b0 b1 c0 c1)) ∧ ∃ d, w' = bw w d := by
  have HA := Lib.hid (fun W => cos_latitude a0 a1 W)
  have HB := Lib.hid (fun W => cos_latitude b0 b1 W)
  have HC := Lib.hid (fun W => angle_Valid c0 c1 W)
  unfold triB
  generalize latB a0 a1 = p at *
  generalize latB b0 b1 = q at *
  generalize validB c0 c1 = r at *
  refine lay_start ?_
  cases p
  · simp only [Bool.false_and]
    go_enter Tryz.func27, Tryz.ntmps27
    go_wp2_with (first | (go_at_call 70; first | (with_reducible refine (HA.out _).mono ?_; rintro e w' ⟨rfl, d1, rfl⟩; rw [lay_bw]) | (with_reducible refine (HB.out _).mono ?_; rintro e w' ⟨rfl, d2, rfl⟩; rw [lay_bw])) | (go_at_call 32; refine (HC.out _).mono ?_; rintro e w' ⟨rfl, d3, rfl⟩; rw [lay_bw]))
    go_ret
    exact ⟨rfl, lay_ex _ _⟩
  · cases q
    · simp only [Bool.false_and, Bool.and_false]
      go_enter Tryz.func27, Tryz.ntmps27
      go_wp2_with (first | (go_at_call 70; first | (with_reducible refine (HA.out _).mono ?_; rintro e w' ⟨rfl, d1, rfl⟩; rw [lay_bw]) | (with_reducible refine (HB.out _).mono ?_; rintro e w' ⟨rfl, d2, rfl⟩; rw [lay_bw])) | (go_at_call 32; refine (HC.out _).mono ?_; rintro e w' ⟨rfl, d3, rfl⟩; rw [lay_bw]))
      go_ret
      exact ⟨rfl, lay_ex _ _⟩
    · simp only [Bool.true_and]
      go_enter Tryz.func27, Tryz.ntmps27
      go_wp2_with (first | (go_at_call 70; first | (with_reducible refine (HA.out _).mono ?_; rintro e w' ⟨rfl, d1, rfl⟩; rw [lay_bw]) | (with_reducible refine (HB.out _).mono ?_; rintro e w' ⟨rfl, d2, rfl⟩; rw [lay_bw])) | (go_at_call 32; refine (HC.out _).mono ?_; rintro e w' ⟨rfl, d3, rfl⟩; rw [lay_bw]))
      go_ret
      exact ⟨rfl, lay_ex _ _⟩
set_option maxHeartbeats 1000000 in
theorem cos_altitude (a0 a1 b0 b1 c0 c1 : Int) (w : World) (va : validB a0 a1 = true) (vb : validB b0 b1 = true) (vc : validB c0 c1 = true) :
    Calls Tryz.prog 75 #[(.agg #[.int .i64 (a0), .int .i64 (a1), .int .i64 (b0), .int .i64 (b1), .int .i64 (c0), .int .i64 (c1)])] w fun e w' => e = .returned (.tuple #[(.agg #[.int .i64 (asL (altS0 a0 a1 b0 b1 c0 c1) (altS1 a0 a1 b0 b1 c0 c1)), .int .i64 (asH (altS0 a0 a1 b0 b1 c0 c1) (altS1 a0 a1 b0 b1 c0 c1))]), .int .i64 (asE (altS0 a0 a1 b0 b1 c0 c1) (altS1 a0 a1 b0 b1 c0 c1))]) ∧ ∃ d, w' = bw w d := by
  have HO := Lib.hid (fun b W hc => cc_of b a0 a1 b0 b1 c0 c1 W hc va vb vc)
  have HM1 : Hid (∀ b W, ChW b W → Calls _ _ #[_, _, _] W fun e w' => e = .returned (.agg #[.int .i64 (ccL a0 a1 b0 b1), .int .i64 (ccH a0 a1 b0 b1)]) ∧ _) := Lib.hid (fun b W hc => cc_mul b (cosL a0 a1) (cosH a0 a1) (cosL b0 b1) (cosH b0 b1) W hc (unit_fx (cos_in2 _ _)) (unit_fx (cos_in2 _ _)) (unit_fx (cc_in _ _ _ _)))
  have HM2 : Hid (∀ b W, ChW b W → Calls _ _ #[_, _, _] W fun e w' => e = .returned (.agg #[.int .i64 (c3L a0 a1 b0 b1 c0 c1), .int .i64 (c3H a0 a1 b0 b1 c0 c1)]) ∧ _) := Lib.hid (fun b W hc => cc_mul b (ccL a0 a1 b0 b1) (ccH a0 a1 b0 b1) (cosL c0 c1) (cosH c0 c1) W hc (unit_fx (cc_in _ _ _ _)) (unit_fx (cos_in2 _ _)) (unit_fx (c3_in _ _ _ _ _ _)))
  have HM3 : Hid (∀ b W, ChW b W → Calls _ _ #[_, _, _] W fun e w' => e = .returned (.agg #[.int .i64 (ssL a0 a1 b0 b1), .int .i64 (ssH a0 a1 b0 b1)]) ∧ _) := Lib.hid (fun b W hc => cc_mul b (encL a0 a1) (encH a0 a1) (encL b0 b1) (encH b0 b1) W hc (unit_fx enc_in) (unit_fx enc_in) (unit_fx (ss_in _ _ _ _)))
  have HD : Hid (∀ b W, ChW b W → Calls _ _ #[_, _, _] W fun e w' => e = .returned (.agg #[.int .i64 (altS0 a0 a1 b0 b1 c0 c1), .int .i64 (altS1 a0 a1 b0 b1 c0 c1)]) ∧ _) := Lib.hid (fun b W hc => cc_add b (ssL a0 a1 b0 b1) (ssH a0 a1 b0 b1) (c3L a0 a1 b0 b1 c0 c1) (c3H a0 a1 b0 b1 c0 c1) W hc (unit_fx (ss_in _ _ _ _)) (unit_fx (c3_in _ _ _ _ _ _)) (alt_fx _ _ _ _ _ _))
  have HA := Lib.hid (fun W => ar_Asin (altS0 a0 a1 b0 b1 c0 c1) (altS1 a0 a1 b0 b1 c0 c1) W)
  generalize asL (altS0 a0 a1 b0 b1 c0 c1) (altS1 a0 a1 b0 b1 c0 c1) = u at *
  generalize asH (altS0 a0 a1 b0 b1 c0 c1) (altS1 a0 a1 b0 b1 c0 c1) = v at *
  generalize asE (altS0 a0 a1 b0 b1 c0 c1) (altS1 a0 a1 b0 b1 c0 c1) = k at *
  generalize altS0 a0 a1 b0 b1 c0 c1 = x0 at *
  generalize altS1 a0 a1 b0 b1 c0 c1 = x1 at *
  generalize c3L a0 a1 b0 b1 c0 c1 = y0 at *
  generalize c3H a0 a1 b0 b1 c0 c1 = y1 at *
  generalize ccL a0 a1 b0 b1 = z0 at *
  generalize ccH a0 a1 b0 b1 = z1 at *
  generalize ssL a0 a1 b0 b1 = s0 at *
  generalize ssH a0 a1 b0 b1 = s1 at *
  generalize encL a0 a1 = p1 at *
  generalize encH a0 a1 = q1 at *
  generalize encL b0 b1 = p2 at *
  generalize encH b0 b1 = q2 at *
  generalize encL c0 c1 = p3 at *
  generalize encH c0 c1 = q3 at *
  generalize cosL a0 a1 = r1 at *
  generalize cosH a0 a1 = t1 at *
  generalize cosL b0 b1 = r2 at *
  generalize cosH b0 b1 = t2 at *
  generalize cosL c0 c1 = r3 at *
  generalize cosH c0 c1 = t3 at *
  clear va vb vc
  refine lay_start ?_
  go_enter Tryz.func75, Tryz.ntmps75
  go_wp2_with fail
  have hch : ChW (posn w [1, 1]) (lay w [.inl (Obj.cells #[.int .i64 0] 145), .inl (Obj.cells #[.int .i64 0, .int .i64 0] 23), .inl (Obj.cells #[.int .i64 a0, .int .i64 a1, .int .i64 b0, .int .i64 b1, .int .i64 c0, .int .i64 c1] 25)]) := chW_new w _ _ _ rfl
  refine (HO.out _ _ hch).mono ?_
  rintro e w' ⟨rfl, d1, rfl⟩
  rw [lay_bw]
  go_wp2_with fail
  have HC := Lib.hid (fun e : Ext => hch.on [.inr e, .inl (Obj.cells #[.int .i64 p1, .int .i64 q1, .int .i64 r1, .int .i64 t1, .int .i64 p2, .int .i64 q2, .int .i64 r2, .int .i64 t2, .int .i64 p3, .int .i64 q3, .int .i64 r3, .int .i64 t3] 147), .inr d1])
  simp only [List.cons_append, List.nil_append] at HC
  clear hch
  refine region_mixW [0, 0, 0, 0, 0, 0, 0, 0, 0, 0, 0, 0, 0, 0, 0, 0, 0, 0, 1, 1] (by kernel_rfl) (by kernel_rfl) (by kernel_rfl) ?_
  repeat (first | (refine wpM_quiet (fun K hK => ?_); go_simp; first | (refine hK _ ?_; clear hK K) | (apply Exists.intro; refine ⟨fun _ => ?_, hK _ ?_⟩; (first | (go_at_call 111; first | ((with_reducible refine bq (HM1.out _ _ (HC.out _)) ?_); first | exact (fun d => ⟨d, rfl⟩) | exact (fun d => lay_join _ _ _ d)) | ((with_reducible refine bq (HM2.out _ _ (HC.out _)) ?_); first | exact (fun d => ⟨d, rfl⟩) | exact (fun d => lay_join _ _ _ d)) | ((with_reducible refine bq (HM3.out _ _ (HC.out _)) ?_); first | exact (fun d => ⟨d, rfl⟩) | exact (fun d => lay_join _ _ _ d))) | (go_at_call 110; (with_reducible refine bq (HD.out _ _ (HC.out _)) ?_); first | exact (fun d => ⟨d, rfl⟩) | exact (fun d => lay_join _ _ _ d))); clear hK K)) | (refine wpM_special (fun K hK d => ?_); go_simp; refine hK _ _ (by first | exact lay_in w [_] _ | exact lay_in w [_, _] _ | exact lay_in w [_, _, _] _ | exact lay_in w [_, _, _, _] _ | exact lay_in w [_, _, _, _, _] _ | exact lay_in w [_, _, _, _, _, _] _) ?_; clear hK K))
  refine wpM_nil ?_
  intro d
  rw [lay_bw]
  go_wp2_with (go_at_call 112; refine (HA.out _).mono ?_; rintro e w' ⟨rfl, d3, rfl⟩; rw [lay_bw])
  exact bodyPost_ret (v := .tuple #[(.agg #[.int .i64 (u), .int .i64 (v)]), .int .i64 k]) (by simp [results, Tryz.results75, go_sem]) rfl ⟨rfl, lay_ex _ _⟩
theorem cos_Altitude (a0 a1 b0 b1 c0 c1 : Int) (w : World) (h : triB a0 a1 b0 b1 c0 c1 = true) :
    Calls Tryz.prog 34 #[(.agg #[.int .i64 (a0), .int .i64 (a1), .int .i64 (b0), .int .i64 (b1), .int .i64 (c0), .int .i64 (c1)])] w fun e w' => e = .returned (.tuple #[(.agg #[.int .i64 (asL (altS0 a0 a1 b0 b1 c0 c1) (altS1 a0 a1 b0 b1 c0 c1)), .int .i64 (asH (altS0 a0 a1 b0 b1 c0 c1) (altS1 a0 a1 b0 b1 c0 c1))]), .int .i64 (asE (altS0 a0 a1 b0 b1 c0 c1) (altS1 a0 a1 b0 b1 c0 c1))]) ∧ ∃ d, w' = bw w d := by
  have HV := Lib.hid (fun W => cos_Valid a0 a1 b0 b1 c0 c1 W)
  rw [h] at HV
  unfold triB at h
  simp only [Bool.and_eq_true] at h
  have HA := Lib.hid (fun W => cos_altitude a0 a1 b0 b1 c0 c1 W (lat_valid h.1.1) (lat_valid h.1.2) h.2)
  generalize asL (altS0 a0 a1 b0 b1 c0 c1) (altS1 a0 a1 b0 b1 c0 c1) = u at *
  generalize asH (altS0 a0 a1 b0 b1 c0 c1) (altS1 a0 a1 b0 b1 c0 c1) = v at *
  generalize asE (altS0 a0 a1 b0 b1 c0 c1) (altS1 a0 a1 b0 b1 c0 c1) = k at *
  clear h
  refine lay_start ?_
  go_enter Tryz.func34, Tryz.ntmps34
  go_wp2_with (first | (go_at_call 27; refine (HV.out _).mono ?_; rintro e w' ⟨rfl, d1, rfl⟩; rw [lay_bw]) | (go_at_call 75; refine (HA.out _).mono ?_; rintro e w' ⟨rfl, d2, rfl⟩; rw [lay_bw]))
  exact bodyPost_ret (v := .tuple #[(.agg #[.int .i64 (u), .int .i64 (v)]), .int .i64 k]) (by simp [results, Tryz.results34, go_sem]) rfl ⟨rfl, lay_ex _ _⟩
end Go.Proofs.YtkhhdpndcidmgaaGreat
