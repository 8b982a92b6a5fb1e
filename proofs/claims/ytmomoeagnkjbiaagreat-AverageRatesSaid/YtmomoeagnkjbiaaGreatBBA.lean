/- Contracts and plain laws, several texts in one: RtL -/
import Derived.Test.YtmomoeagnkjbiaaGreatProg
import Derived.WalkKit
import Derived.WalkSpells
import Derived.WalkLawsBesides
import Derived.Lib.Hide
import Derived.BigQuiet
import Derived.Test.YtmomoeagnkjbiaaGreatBAA
import Derived.Test.YtmomoeagnkjbiaaGreatBAB
import Derived.Test.YtmomoeagnkjbiaaGreatBAW
import Derived.Test.YtmomoeagnkjbiaaGreatBAX
import Derived.Test.YtmomoeagnkjbiaaGreatBAY
import Derived.Test.YtmomoeagnkjbiaaGreatBAZ
/- The law AverageRates. -/
namespace Go.Proofs.YtmomoeagnkjbiaaGreat
open Go.RowKit

structure RtV (n d : Int) : Prop where
  n1 : -1073741824 ≤ n ∧ n ≤ 1073741824
  d1 : -1073741824 ≤ d ∧ d ≤ 1073741824
theorem RtF.rv {L n d : Int} (h : RtF L n d) : RtV n d := by
  have := fracB_ok h.fr
  exact ⟨⟨this.n1, this.n2⟩, ⟨by have := this.d1; omega, this.d2⟩⟩
theorem cmp_at {L M n d m e : Int} (h : RtF L n d) (g : RtF M m e) (hl : L ≤ M) : ∃ c : Int, c ≤ 0 ∧ Hid (∀ W, Calls Tryz.prog 14 #[(.agg #[.int .i64 (n), .int .i64 (d)]), (.agg #[.int .i64 (m), .int .i64 (e)])] W fun x w' => x = .returned (.int .i64 c) ∧ ∃ d, w' = bw W d) :=
  ⟨cmpF n d m e, (rt_cmp h g hl).1, Lib.hid fun W => r3_Cmp n d m e W h.rv.n1 h.rv.d1 g.rv.n1 g.rv.d1⟩
theorem cmp_ge {L M n d m e : Int} (h : RtF L n d) (g : RtF M m e) (hl : L ≤ M) : ∃ c : Int, 0 ≤ c ∧ Hid (∀ W, Calls Tryz.prog 14 #[(.agg #[.int .i64 (m), .int .i64 (e)]), (.agg #[.int .i64 (n), .int .i64 (d)])] W fun x w' => x = .returned (.int .i64 c) ∧ ∃ d, w' = bw W d) :=
  ⟨cmpF m e n d, (rt_cmp h g hl).2, Lib.hid fun W => r3_Cmp m e n d W g.rv.n1 g.rv.d1 h.rv.n1 h.rv.d1⟩
/-- What the loop asks of each fraction. -/
theorem rt_each {L n d : Int} (h : RtF L n d) (h1 : -250000 ≤ L) (h2 : L ≤ 250000) : Hid (∀ W, Calls Tryz.prog 13 #[(.agg #[.int .i64 (n), .int .i64 (d)])] W fun e w' => e = .returned (.bool true) ∧ ∃ d, w' = bw W d) ∧
    (∃ c : Int, c ≤ 0 ∧ Hid (∀ W, Calls Tryz.prog 14 #[(.agg #[.int .i64 (n), .int .i64 (d)]), (.agg #[.int .i64 (250), .int .i64 (1)])] W fun x w' => x = .returned (.int .i64 c) ∧ ∃ d, w' = bw W d)) ∧
    (∃ c : Int, 0 ≤ c ∧ Hid (∀ W, Calls Tryz.prog 14 #[(.agg #[.int .i64 (n), .int .i64 (d)]), (.agg #[.int .i64 (-250), .int .i64 (1)])] W fun x w' => x = .returned (.int .i64 c) ∧ ∃ d, w' = bw W d)) := by
  refine ⟨Lib.hid fun W => ?_, cmp_at h (whole_rt 250 (by decide)) h2, cmp_ge (whole_rt (-250) (by decide)) h h1⟩
  have := r3_Valid n d W
  rwa [h.fr] at this
set_option maxHeartbeats 4000000 in
set_option maxRecDepth 100000 in
theorem law23_Rates {w : World} (l0 l1 : Int) (_h0 : (Lit.int .i64 l0).wf = true) (_h1 : (Lit.int .i64 l1).wf = true) (z0 z1 : Int) (_g0 : (Lit.int .i64 z0).wf = true) (_g1 : (Lit.int .i64 z1).wf = true) (u : Int) (hu : (Lit.int .u32 u).wf = true) (v : Int) (hv : (Lit.int .u32 v).wf = true) :
    Calls Tryz.prog 4 #[(.agg #[.int .i64 (l0), .int .i64 (l1)]), (.agg #[.int .i64 (z0), .int .i64 (z1)]), .int .u32 u, .int .u32 v] w fun e w' => e = .returned (.bool true) ∧ ∃ d, w' = bw w d := by
  have hub : 0 ≤ u ∧ u < 4294967296 := by
    have h := hu
    simp [Lit.wf, IntKind.min, IntKind.max, IntKind.signed, IntKind.bits] at h
    omega
  have hvb : 0 ≤ v ∧ v < 4294967296 := by
    have h := hv
    simp [Lit.wf, IntKind.min, IntKind.max, IntKind.signed, IntKind.bits] at h
    omega
  have HV1 := Lib.hid (fun W => r8_ValidLat l0 l1 W)
  have HV2 := Lib.hid (fun W => ref05_Valid z0 z1 W)
  cases hl : latB l0 l1
  · rw [hl] at HV1
    refine lay_start ?_
    go_enter Tryz.func4, Tryz.ntmps4
    go_wp2_with (first | (go_at_call 7; refine (law23_awake _).mono ?_; rintro e w' ⟨rfl, dA, rfl⟩) | (go_at_call 10; refine (HV1.out _).mono ?_; rintro e w' ⟨rfl, dd1, rfl⟩))
    go_ret
    exact ⟨rfl, lay_ex _ _⟩
  rw [hl] at HV1
  cases hz : validB z0 z1
  · rw [hz] at HV2
    refine lay_start ?_
    go_enter Tryz.func4, Tryz.ntmps4
    go_wp2_with (first | (go_at_call 7; refine (law23_awake _).mono ?_; rintro e w' ⟨rfl, dA, rfl⟩) | (go_at_call 10; refine (HV1.out _).mono ?_; rintro e w' ⟨rfl, dd1, rfl⟩) | (go_at_call 11; refine (HV2.out _).mono ?_; rintro e w' ⟨rfl, dd2, rfl⟩))
    go_ret
    exact ⟨rfl, lay_ex _ _⟩
  rw [hz] at HV2
  have hlf := latB_iff.1 hl
  have hzf := validB_iff.1 hz
  have HP1 := Lib.hid (fun W => law23_part l0 l1 u v W (by omega) (by omega) (by omega) hub hvb)
  have HP2 := Lib.hid (fun W => law23_part z0 z1 v u W (by omega) (by omega) (by omega) hvb hub)
  have p1 := pt_in (x := l0) (y := l1) (u := u) (v := v) (by omega)
  have p2 := pt_in (x := z0) (y := z1) (u := v) (v := u) (by omega)
  generalize pt0 l0 l1 u = x0 at *
  generalize pt1 l0 l1 u v = x1 at *
  generalize pt0 z0 z1 v = y0 at *
  generalize pt1 z0 z1 v u = y1 at *
  have HA := Lib.hid (fun W => av_SlopeG l0 l1 z0 z1 W hl hz)
  have HB := Lib.hid (fun W => av_SlopeG x0 x1 y0 y1 W (latB_iff.2 ⟨by omega, by omega, by omega⟩) (validB_iff.2 ⟨by omega, by omega, by omega⟩))
  have i1 := slp_in (l0 := l0) (l1 := l1) (z0 := z0) (z1 := z1)
  have i2 := slp_in (l0 := x0) (l1 := x1) (z0 := y0) (z1 := y1)
  obtain ⟨q1, q2⟩ := slp_part (l0 := l0) (l1 := l1) (x0 := x0) (x1 := x1) (z0 := z0) (z1 := z1) (y0 := y0) (y1 := y1) (by omega) (by omega) (by omega) (by omega) (by omega) (by omega)
  have sE : 0 ≤ z0 → z1 ≤ 10800000 → 0 ≤ slpL l0 l1 z0 z1 := fun a b => slp_east hl a hzf.1 b
  have sW : 10800000 ≤ z0 → z1 ≤ 21600000 → slpH l0 l1 z0 z1 ≤ 0 := fun a b => slp_west hl a hzf.1 b
  generalize slpL l0 l1 z0 z1 = L1 at *
  generalize slpH l0 l1 z0 z1 = L2 at *
  generalize slpL x0 x1 y0 y1 = L3 at *
  generalize slpH x0 x1 y0 y1 = L4 at *
  have f1 := (rate_frac (L := L1) (by omega) (by omega)).2
  have f2 := (rate_frac (L := L2) (by omega) (by omega)).2
  have f3 := (rate_frac (L := L3) (by omega) (by omega)).2
  have f4 := (rate_frac (L := L4) (by omega) (by omega)).2
  generalize mkNN L1 1000 = n1 at *
  generalize mkDD L1 1000 = d1 at *
  generalize mkNN L2 1000 = n2 at *
  generalize mkDD L2 1000 = d2 at *
  generalize mkNN L3 1000 = n3 at *
  generalize mkDD L3 1000 = d3 at *
  generalize mkNN L4 1000 = n4 at *
  generalize mkDD L4 1000 = d4 at *
  obtain ⟨cab, hab, Hab⟩ := cmp_at f1 f2 (by omega)
  obtain ⟨cac, hac, Hac⟩ := cmp_at f1 f3 (by omega)
  obtain ⟨cdb, hdb, Hdb⟩ := cmp_at f4 f2 (by omega)
  obtain ⟨E1, ⟨a1, ha1, A1⟩, ⟨b1, hb1, B1⟩⟩ := rt_each f1 (by omega) (by omega)
  obtain ⟨E2, ⟨a2, ha2, A2⟩, ⟨b2, hb2, B2⟩⟩ := rt_each f2 (by omega) (by omega)
  obtain ⟨E3, ⟨a3, ha3, A3⟩, ⟨b3, hb3, B3⟩⟩ := rt_each f3 (by omega) (by omega)
  obtain ⟨E4, ⟨a4, ha4, A4⟩, ⟨b4, hb4, B4⟩⟩ := rt_each f4 (by omega) (by omega)
  have sE2 : 0 ≤ z0 → z1 ≤ 10800000 → 0 ≤ n1 := fun a b => (rt_sign f1).1 (sE a b)
  have sW2 : 10800000 ≤ z0 → z1 ≤ 21600000 → n2 ≤ 0 := fun a b => (rt_sign f2).2 (sW a b)
  have SE := Lib.hid sE2
  have SW := Lib.hid sW2
  clear sE sW sE2 sW2 f1 f2 f3 f4 i1 i2 q1 q2 p1 p2 hlf hzf hl hz hub hvb hu hv _h0 _h1 _g0 _g1
  refine lay_start ?_
  go_enter Tryz.func4, Tryz.ntmps4
  go_wp2_with (first | (go_at_call 7; refine (law23_awake _).mono ?_; rintro e w' ⟨rfl, dA, rfl⟩) | (go_at_call 10; refine (HV1.out _).mono ?_; rintro e w' ⟨rfl, dd1, rfl⟩) | (go_at_call 11; refine (HV2.out _).mono ?_; rintro e w' ⟨rfl, dd2, rfl⟩) | (go_at_call 8; with_reducible refine (HA.out _).mono ?_; rintro e w' ⟨rfl, dd3, rfl⟩))
  refine region_mixW [0, 0, 0, 0, 0, 0, 0, 0, 0, 0, 0, 0, 0, 0, 0, 2, 1, 1, 0] (by kernel_rfl) (by kernel_rfl) (by kernel_rfl) ?_
  repeat (refine wpM_quiet (fun K hK => ?_); go_simp; first | (refine hK _ ?_; clear hK K) | (apply Exists.intro; refine ⟨fun _ => ?_, hK _ ?_⟩; (first | (go_at_call 12; first | ((with_reducible refine bq (HP1.out _) ?_); exact (fun d => ⟨d, rfl⟩)) | ((with_reducible refine bq (HP2.out _) ?_); exact (fun d => ⟨d, rfl⟩))) | (go_at_call 8; with_reducible refine bq (HB.out _) ?_; exact (fun d => ⟨d, rfl⟩))); clear hK K))
  refine wpM_two (fun J hJ d => ?_) (fun J hJ d => ?_)
  all_goals (go_simp; refine hJ _ _ (by first | exact lay_in w [_] _ | exact lay_in w [_, _] _ | exact lay_in w [_, _, _] _ | exact lay_in w [_, _, _, _] _ | exact lay_in w [_, _, _, _, _] _ | exact lay_in w [_, _, _, _, _, _] _) (fun K hK d => ?_); go_simp; refine hK _ _ (by first | exact lay_in w [_] _ | exact lay_in w [_, _] _ | exact lay_in w [_, _, _] _ | exact lay_in w [_, _, _, _] _ | exact lay_in w [_, _, _, _, _] _ | exact lay_in w [_, _, _, _, _, _] _) ?_; clear hK K hJ J)
  all_goals (repeat (first | (refine wpM_quiet (fun K hK => ?_); go_simp; first | (refine hK _ ?_; clear hK K) | (apply Exists.intro; refine ⟨fun _ => ?_, hK _ ?_⟩; (first | (go_at_call 12; first | ((with_reducible refine bq (HP1.out _) ?_); exact (fun d => ⟨d, rfl⟩)) | ((with_reducible refine bq (HP2.out _) ?_); exact (fun d => ⟨d, rfl⟩))) | (go_at_call 8; with_reducible refine bq (HB.out _) ?_; exact (fun d => ⟨d, rfl⟩))); clear hK K)) | (refine wpM_special (fun K hK d => ?_); go_simp; refine hK _ _ (by first | exact lay_in w [_] _ | exact lay_in w [_, _] _ | exact lay_in w [_, _, _] _ | exact lay_in w [_, _, _, _] _ | exact lay_in w [_, _, _, _, _] _ | exact lay_in w [_, _, _, _, _, _] _) ?_; clear hK K)))
  all_goals (refine wpM_nil ?_; intro d; rw [lay_bw])
  · rename_i e3 e2 e1 e0
    go_wp2_with fail
    go_loopw [56] (fun v56 wr => ∃ (k : Nat) (dd : Ext), k ≤ 4 ∧ v56 = .int .i64 (k : Int) ∧ wr = lay w [.inr dd, .inl (.cells #[.int .i64 n1, .int .i64 d1, .int .i64 n2, .int .i64 d2, .int .i64 n3, .int .i64 d3, .int .i64 n4, .int .i64 d4] 26 (0, 0)), .inr d, .inr e0, .inr e1, .inl (.cells #[.int .i64 n4, .int .i64 d4] 26 (0, 0)), .inr e2, .inl (.cells #[.int .i64 n3, .int .i64 d3] 26 (0, 0)), .inr e3, .inl (.cells #[.int .i64 n2, .int .i64 d2] 26 (0, 0)), .inl (.cells #[.int .i64 n1, .int .i64 d1] 26 (0, 0)), .inr dd3, .inr dd2, .inr dd1, .inr dA, .inl (.cells #[.int .i64 z0, .int .i64 z1] 23 (0, 0)), .inl (.cells #[.int .i64 l0, .int .i64 l1] 23 (0, 0))]) (fun v56 _ => 4 - (intOf v56).toNat)
    case atStart => exact ⟨0, noExt _, by decide, rfl, (bw_noExt _).symm⟩
    case round =>
      obtain ⟨k, dd, hk, rfl, rfl⟩ := hrel
      obtain rfl | rfl | rfl | rfl | rfl : k = 0 ∨ k = 1 ∨ k = 2 ∨ k = 3 ∨ k = 4 := by omega
      · have g1 := decide_eq_false (show ¬ 0 < a1 by omega)
        have g2 := decide_eq_false (show ¬ b1 < 0 by omega)
        go_wp2_with fail
        refine region_bw (by kernel_rfl) (by kernel_rfl) ?_
        repeat (go_big_quiet_step ((first | (go_at_call 13; ((with_reducible refine bq (E1.out _) ?_); exact (fun d => lay_join _ _ _ d))) | (go_at_call 15; ((with_reducible refine bq (law23_whole _ _) ?_); exact (fun d => lay_join _ _ _ d))) | (go_at_call 14; first | ((with_reducible refine bq (A1.out _) ?_); exact (fun d => lay_join _ _ _ d)) | ((with_reducible refine bq (B1.out _) ?_); exact (fun d => lay_join _ _ _ d))))))
        refine wpQuiet_nil ?_
        rintro w' ⟨r1, rfl⟩
        rw [lay_bw]
        go_wp2_with fail
        go_roundw
        case rel => exact ⟨1, Classical.choose (lay_fold w [.inr r1, .inl (.cells #[.int .i64 n1, .int .i64 d1] 26 (0, 0)), .inr dd] [.inl (.cells #[.int .i64 n1, .int .i64 d1, .int .i64 n2, .int .i64 d2, .int .i64 n3, .int .i64 d3, .int .i64 n4, .int .i64 d4] 26 (0, 0)), .inr d, .inr e0, .inr e1, .inl (.cells #[.int .i64 n4, .int .i64 d4] 26 (0, 0)), .inr e2, .inl (.cells #[.int .i64 n3, .int .i64 d3] 26 (0, 0)), .inr e3, .inl (.cells #[.int .i64 n2, .int .i64 d2] 26 (0, 0)), .inl (.cells #[.int .i64 n1, .int .i64 d1] 26 (0, 0)), .inr dd3, .inr dd2, .inr dd1, .inr dA, .inl (.cells #[.int .i64 z0, .int .i64 z1] 23 (0, 0)), .inl (.cells #[.int .i64 l0, .int .i64 l1] 23 (0, 0))]), by omega, by go_num, Classical.choose_spec (lay_fold w [.inr r1, .inl (.cells #[.int .i64 n1, .int .i64 d1] 26 (0, 0)), .inr dd] [.inl (.cells #[.int .i64 n1, .int .i64 d1, .int .i64 n2, .int .i64 d2, .int .i64 n3, .int .i64 d3, .int .i64 n4, .int .i64 d4] 26 (0, 0)), .inr d, .inr e0, .inr e1, .inl (.cells #[.int .i64 n4, .int .i64 d4] 26 (0, 0)), .inr e2, .inl (.cells #[.int .i64 n3, .int .i64 d3] 26 (0, 0)), .inr e3, .inl (.cells #[.int .i64 n2, .int .i64 d2] 26 (0, 0)), .inl (.cells #[.int .i64 n1, .int .i64 d1] 26 (0, 0)), .inr dd3, .inr dd2, .inr dd1, .inr dA, .inl (.cells #[.int .i64 z0, .int .i64 z1] 23 (0, 0)), .inl (.cells #[.int .i64 l0, .int .i64 l1] 23 (0, 0))])⟩
        case measure => simp [intOf]
      · have g1 := decide_eq_false (show ¬ 0 < a2 by omega)
        have g2 := decide_eq_false (show ¬ b2 < 0 by omega)
        go_wp2_with fail
        refine region_bw (by kernel_rfl) (by kernel_rfl) ?_
        repeat (go_big_quiet_step ((first | (go_at_call 13; ((with_reducible refine bq (E2.out _) ?_); exact (fun d => lay_join _ _ _ d))) | (go_at_call 15; ((with_reducible refine bq (law23_whole _ _) ?_); exact (fun d => lay_join _ _ _ d))) | (go_at_call 14; first | ((with_reducible refine bq (A2.out _) ?_); exact (fun d => lay_join _ _ _ d)) | ((with_reducible refine bq (B2.out _) ?_); exact (fun d => lay_join _ _ _ d))))))
        refine wpQuiet_nil ?_
        rintro w' ⟨r1, rfl⟩
        rw [lay_bw]
        go_wp2_with fail
        go_roundw
        case rel => exact ⟨2, Classical.choose (lay_fold w [.inr r1, .inl (.cells #[.int .i64 n2, .int .i64 d2] 26 (0, 0)), .inr dd] [.inl (.cells #[.int .i64 n1, .int .i64 d1, .int .i64 n2, .int .i64 d2, .int .i64 n3, .int .i64 d3, .int .i64 n4, .int .i64 d4] 26 (0, 0)), .inr d, .inr e0, .inr e1, .inl (.cells #[.int .i64 n4, .int .i64 d4] 26 (0, 0)), .inr e2, .inl (.cells #[.int .i64 n3, .int .i64 d3] 26 (0, 0)), .inr e3, .inl (.cells #[.int .i64 n2, .int .i64 d2] 26 (0, 0)), .inl (.cells #[.int .i64 n1, .int .i64 d1] 26 (0, 0)), .inr dd3, .inr dd2, .inr dd1, .inr dA, .inl (.cells #[.int .i64 z0, .int .i64 z1] 23 (0, 0)), .inl (.cells #[.int .i64 l0, .int .i64 l1] 23 (0, 0))]), by omega, by go_num, Classical.choose_spec (lay_fold w [.inr r1, .inl (.cells #[.int .i64 n2, .int .i64 d2] 26 (0, 0)), .inr dd] [.inl (.cells #[.int .i64 n1, .int .i64 d1, .int .i64 n2, .int .i64 d2, .int .i64 n3, .int .i64 d3, .int .i64 n4, .int .i64 d4] 26 (0, 0)), .inr d, .inr e0, .inr e1, .inl (.cells #[.int .i64 n4, .int .i64 d4] 26 (0, 0)), .inr e2, .inl (.cells #[.int .i64 n3, .int .i64 d3] 26 (0, 0)), .inr e3, .inl (.cells #[.int .i64 n2, .int .i64 d2] 26 (0, 0)), .inl (.cells #[.int .i64 n1, .int .i64 d1] 26 (0, 0)), .inr dd3, .inr dd2, .inr dd1, .inr dA, .inl (.cells #[.int .i64 z0, .int .i64 z1] 23 (0, 0)), .inl (.cells #[.int .i64 l0, .int .i64 l1] 23 (0, 0))])⟩
        case measure => simp [intOf]
      · have g1 := decide_eq_false (show ¬ 0 < a3 by omega)
        have g2 := decide_eq_false (show ¬ b3 < 0 by omega)
        go_wp2_with fail
        refine region_bw (by kernel_rfl) (by kernel_rfl) ?_
        repeat (go_big_quiet_step ((first | (go_at_call 13; ((with_reducible refine bq (E3.out _) ?_); exact (fun d => lay_join _ _ _ d))) | (go_at_call 15; ((with_reducible refine bq (law23_whole _ _) ?_); exact (fun d => lay_join _ _ _ d))) | (go_at_call 14; first | ((with_reducible refine bq (A3.out _) ?_); exact (fun d => lay_join _ _ _ d)) | ((with_reducible refine bq (B3.out _) ?_); exact (fun d => lay_join _ _ _ d))))))
        refine wpQuiet_nil ?_
        rintro w' ⟨r1, rfl⟩
        rw [lay_bw]
        go_wp2_with fail
        go_roundw
        case rel => exact ⟨3, Classical.choose (lay_fold w [.inr r1, .inl (.cells #[.int .i64 n3, .int .i64 d3] 26 (0, 0)), .inr dd] [.inl (.cells #[.int .i64 n1, .int .i64 d1, .int .i64 n2, .int .i64 d2, .int .i64 n3, .int .i64 d3, .int .i64 n4, .int .i64 d4] 26 (0, 0)), .inr d, .inr e0, .inr e1, .inl (.cells #[.int .i64 n4, .int .i64 d4] 26 (0, 0)), .inr e2, .inl (.cells #[.int .i64 n3, .int .i64 d3] 26 (0, 0)), .inr e3, .inl (.cells #[.int .i64 n2, .int .i64 d2] 26 (0, 0)), .inl (.cells #[.int .i64 n1, .int .i64 d1] 26 (0, 0)), .inr dd3, .inr dd2, .inr dd1, .inr dA, .inl (.cells #[.int .i64 z0, .int .i64 z1] 23 (0, 0)), .inl (.cells #[.int .i64 l0, .int .i64 l1] 23 (0, 0))]), by omega, by go_num, Classical.choose_spec (lay_fold w [.inr r1, .inl (.cells #[.int .i64 n3, .int .i64 d3] 26 (0, 0)), .inr dd] [.inl (.cells #[.int .i64 n1, .int .i64 d1, .int .i64 n2, .int .i64 d2, .int .i64 n3, .int .i64 d3, .int .i64 n4, .int .i64 d4] 26 (0, 0)), .inr d, .inr e0, .inr e1, .inl (.cells #[.int .i64 n4, .int .i64 d4] 26 (0, 0)), .inr e2, .inl (.cells #[.int .i64 n3, .int .i64 d3] 26 (0, 0)), .inr e3, .inl (.cells #[.int .i64 n2, .int .i64 d2] 26 (0, 0)), .inl (.cells #[.int .i64 n1, .int .i64 d1] 26 (0, 0)), .inr dd3, .inr dd2, .inr dd1, .inr dA, .inl (.cells #[.int .i64 z0, .int .i64 z1] 23 (0, 0)), .inl (.cells #[.int .i64 l0, .int .i64 l1] 23 (0, 0))])⟩
        case measure => simp [intOf]
      · have g1 := decide_eq_false (show ¬ 0 < a4 by omega)
        have g2 := decide_eq_false (show ¬ b4 < 0 by omega)
        go_wp2_with fail
        refine region_bw (by kernel_rfl) (by kernel_rfl) ?_
        repeat (go_big_quiet_step ((first | (go_at_call 13; ((with_reducible refine bq (E4.out _) ?_); exact (fun d => lay_join _ _ _ d))) | (go_at_call 15; ((with_reducible refine bq (law23_whole _ _) ?_); exact (fun d => lay_join _ _ _ d))) | (go_at_call 14; first | ((with_reducible refine bq (A4.out _) ?_); exact (fun d => lay_join _ _ _ d)) | ((with_reducible refine bq (B4.out _) ?_); exact (fun d => lay_join _ _ _ d))))))
        refine wpQuiet_nil ?_
        rintro w' ⟨r1, rfl⟩
        rw [lay_bw]
        go_wp2_with fail
        go_roundw
        case rel => exact ⟨4, Classical.choose (lay_fold w [.inr r1, .inl (.cells #[.int .i64 n4, .int .i64 d4] 26 (0, 0)), .inr dd] [.inl (.cells #[.int .i64 n1, .int .i64 d1, .int .i64 n2, .int .i64 d2, .int .i64 n3, .int .i64 d3, .int .i64 n4, .int .i64 d4] 26 (0, 0)), .inr d, .inr e0, .inr e1, .inl (.cells #[.int .i64 n4, .int .i64 d4] 26 (0, 0)), .inr e2, .inl (.cells #[.int .i64 n3, .int .i64 d3] 26 (0, 0)), .inr e3, .inl (.cells #[.int .i64 n2, .int .i64 d2] 26 (0, 0)), .inl (.cells #[.int .i64 n1, .int .i64 d1] 26 (0, 0)), .inr dd3, .inr dd2, .inr dd1, .inr dA, .inl (.cells #[.int .i64 z0, .int .i64 z1] 23 (0, 0)), .inl (.cells #[.int .i64 l0, .int .i64 l1] 23 (0, 0))]), by omega, by go_num, Classical.choose_spec (lay_fold w [.inr r1, .inl (.cells #[.int .i64 n4, .int .i64 d4] 26 (0, 0)), .inr dd] [.inl (.cells #[.int .i64 n1, .int .i64 d1, .int .i64 n2, .int .i64 d2, .int .i64 n3, .int .i64 d3, .int .i64 n4, .int .i64 d4] 26 (0, 0)), .inr d, .inr e0, .inr e1, .inl (.cells #[.int .i64 n4, .int .i64 d4] 26 (0, 0)), .inr e2, .inl (.cells #[.int .i64 n3, .int .i64 d3] 26 (0, 0)), .inr e3, .inl (.cells #[.int .i64 n2, .int .i64 d2] 26 (0, 0)), .inl (.cells #[.int .i64 n1, .int .i64 d1] 26 (0, 0)), .inr dd3, .inr dd2, .inr dd1, .inr dA, .inl (.cells #[.int .i64 z0, .int .i64 z1] 23 (0, 0)), .inl (.cells #[.int .i64 l0, .int .i64 l1] 23 (0, 0))])⟩
        case measure => simp [intOf]
      · have g1 := decide_eq_false (show ¬ 0 < cab by omega)
        have g2 := decide_eq_false (show ¬ 0 < cac by omega)
        have g3 := decide_eq_false (show ¬ 0 < cdb by omega)
        clear hab hac hdb ha1 ha2 ha3 ha4 hb1 hb2 hb3 hb4
        by_cases c1 : 0 ≤ z0
        · by_cases c2 : z1 ≤ 10800000
          · have s1 := SE.out c1 c2
            have s1' : ¬ n1 < 0 := by omega
            by_cases c3 : 10800000 ≤ z0
            · have s2 := SW.out c3 (by omega)
              have s2' := decide_eq_false (show ¬ 0 < n2 by omega)
              have c4 : z1 ≤ 21600000 := by omega
              go_wp2_with (first | (go_at_call 14; first | ((with_reducible refine (Hab.out _).mono ?_); rintro e w' ⟨rfl, r1, rfl⟩) | ((with_reducible refine (Hac.out _).mono ?_); rintro e w' ⟨rfl, r2, rfl⟩) | ((with_reducible refine (Hdb.out _).mono ?_); rintro e w' ⟨rfl, r3, rfl⟩)))
              go_ret
              exact ⟨rfl, lay_ex _ _⟩
            · go_wp2_with (first | (go_at_call 14; first | ((with_reducible refine (Hab.out _).mono ?_); rintro e w' ⟨rfl, r1, rfl⟩) | ((with_reducible refine (Hac.out _).mono ?_); rintro e w' ⟨rfl, r2, rfl⟩) | ((with_reducible refine (Hdb.out _).mono ?_); rintro e w' ⟨rfl, r3, rfl⟩)))
              go_ret
              exact ⟨rfl, lay_ex _ _⟩
          · by_cases c3 : 10800000 ≤ z0
            · by_cases c4 : z1 ≤ 21600000
              · have s2 := SW.out c3 c4
                have s2' := decide_eq_false (show ¬ 0 < n2 by omega)
                go_wp2_with (first | (go_at_call 14; first | ((with_reducible refine (Hab.out _).mono ?_); rintro e w' ⟨rfl, r1, rfl⟩) | ((with_reducible refine (Hac.out _).mono ?_); rintro e w' ⟨rfl, r2, rfl⟩) | ((with_reducible refine (Hdb.out _).mono ?_); rintro e w' ⟨rfl, r3, rfl⟩)))
                go_ret
                exact ⟨rfl, lay_ex _ _⟩
              · go_wp2_with (first | (go_at_call 14; first | ((with_reducible refine (Hab.out _).mono ?_); rintro e w' ⟨rfl, r1, rfl⟩) | ((with_reducible refine (Hac.out _).mono ?_); rintro e w' ⟨rfl, r2, rfl⟩) | ((with_reducible refine (Hdb.out _).mono ?_); rintro e w' ⟨rfl, r3, rfl⟩)))
                go_ret
                exact ⟨rfl, lay_ex _ _⟩
            · go_wp2_with (first | (go_at_call 14; first | ((with_reducible refine (Hab.out _).mono ?_); rintro e w' ⟨rfl, r1, rfl⟩) | ((with_reducible refine (Hac.out _).mono ?_); rintro e w' ⟨rfl, r2, rfl⟩) | ((with_reducible refine (Hdb.out _).mono ?_); rintro e w' ⟨rfl, r3, rfl⟩)))
              go_ret
              exact ⟨rfl, lay_ex _ _⟩
        · have c3 : ¬ 10800000 ≤ z0 := by omega
          go_wp2_with (first | (go_at_call 14; first | ((with_reducible refine (Hab.out _).mono ?_); rintro e w' ⟨rfl, r1, rfl⟩) | ((with_reducible refine (Hac.out _).mono ?_); rintro e w' ⟨rfl, r2, rfl⟩) | ((with_reducible refine (Hdb.out _).mono ?_); rintro e w' ⟨rfl, r3, rfl⟩)))
          go_ret
          exact ⟨rfl, lay_ex _ _⟩
  · rename_i e3 e2 e1 e0
    go_wp2_with fail
    go_loopw [56] (fun v56 wr => ∃ (k : Nat) (dd : Ext), k ≤ 4 ∧ v56 = .int .i64 (k : Int) ∧ wr = lay w [.inr dd, .inl (.cells #[.int .i64 n1, .int .i64 d1, .int .i64 n2, .int .i64 d2, .int .i64 n3, .int .i64 d3, .int .i64 n4, .int .i64 d4] 26 (0, 0)), .inr d, .inr e0, .inr e1, .inl (.cells #[.int .i64 n3, .int .i64 d3] 26 (0, 0)), .inr e2, .inl (.cells #[.int .i64 n4, .int .i64 d4] 26 (0, 0)), .inr e3, .inl (.cells #[.int .i64 n2, .int .i64 d2] 26 (0, 0)), .inl (.cells #[.int .i64 n1, .int .i64 d1] 26 (0, 0)), .inr dd3, .inr dd2, .inr dd1, .inr dA, .inl (.cells #[.int .i64 z0, .int .i64 z1] 23 (0, 0)), .inl (.cells #[.int .i64 l0, .int .i64 l1] 23 (0, 0))]) (fun v56 _ => 4 - (intOf v56).toNat)
    case atStart => exact ⟨0, noExt _, by decide, rfl, (bw_noExt _).symm⟩
    case round =>
      obtain ⟨k, dd, hk, rfl, rfl⟩ := hrel
      obtain rfl | rfl | rfl | rfl | rfl : k = 0 ∨ k = 1 ∨ k = 2 ∨ k = 3 ∨ k = 4 := by omega
      · have g1 := decide_eq_false (show ¬ 0 < a1 by omega)
        have g2 := decide_eq_false (show ¬ b1 < 0 by omega)
        go_wp2_with fail
        refine region_bw (by kernel_rfl) (by kernel_rfl) ?_
        repeat (go_big_quiet_step ((first | (go_at_call 13; ((with_reducible refine bq (E1.out _) ?_); exact (fun d => lay_join _ _ _ d))) | (go_at_call 15; ((with_reducible refine bq (law23_whole _ _) ?_); exact (fun d => lay_join _ _ _ d))) | (go_at_call 14; first | ((with_reducible refine bq (A1.out _) ?_); exact (fun d => lay_join _ _ _ d)) | ((with_reducible refine bq (B1.out _) ?_); exact (fun d => lay_join _ _ _ d))))))
        refine wpQuiet_nil ?_
        rintro w' ⟨r1, rfl⟩
        rw [lay_bw]
        go_wp2_with fail
        go_roundw
        case rel => exact ⟨1, Classical.choose (lay_fold w [.inr r1, .inl (.cells #[.int .i64 n1, .int .i64 d1] 26 (0, 0)), .inr dd] [.inl (.cells #[.int .i64 n1, .int .i64 d1, .int .i64 n2, .int .i64 d2, .int .i64 n3, .int .i64 d3, .int .i64 n4, .int .i64 d4] 26 (0, 0)), .inr d, .inr e0, .inr e1, .inl (.cells #[.int .i64 n3, .int .i64 d3] 26 (0, 0)), .inr e2, .inl (.cells #[.int .i64 n4, .int .i64 d4] 26 (0, 0)), .inr e3, .inl (.cells #[.int .i64 n2, .int .i64 d2] 26 (0, 0)), .inl (.cells #[.int .i64 n1, .int .i64 d1] 26 (0, 0)), .inr dd3, .inr dd2, .inr dd1, .inr dA, .inl (.cells #[.int .i64 z0, .int .i64 z1] 23 (0, 0)), .inl (.cells #[.int .i64 l0, .int .i64 l1] 23 (0, 0))]), by omega, by go_num, Classical.choose_spec (lay_fold w [.inr r1, .inl (.cells #[.int .i64 n1, .int .i64 d1] 26 (0, 0)), .inr dd] [.inl (.cells #[.int .i64 n1, .int .i64 d1, .int .i64 n2, .int .i64 d2, .int .i64 n3, .int .i64 d3, .int .i64 n4, .int .i64 d4] 26 (0, 0)), .inr d, .inr e0, .inr e1, .inl (.cells #[.int .i64 n3, .int .i64 d3] 26 (0, 0)), .inr e2, .inl (.cells #[.int .i64 n4, .int .i64 d4] 26 (0, 0)), .inr e3, .inl (.cells #[.int .i64 n2, .int .i64 d2] 26 (0, 0)), .inl (.cells #[.int .i64 n1, .int .i64 d1] 26 (0, 0)), .inr dd3, .inr dd2, .inr dd1, .inr dA, .inl (.cells #[.int .i64 z0, .int .i64 z1] 23 (0, 0)), .inl (.cells #[.int .i64 l0, .int .i64 l1] 23 (0, 0))])⟩
        case measure => simp [intOf]
      · have g1 := decide_eq_false (show ¬ 0 < a2 by omega)
        have g2 := decide_eq_false (show ¬ b2 < 0 by omega)
        go_wp2_with fail
        refine region_bw (by kernel_rfl) (by kernel_rfl) ?_
        repeat (go_big_quiet_step ((first | (go_at_call 13; ((with_reducible refine bq (E2.out _) ?_); exact (fun d => lay_join _ _ _ d))) | (go_at_call 15; ((with_reducible refine bq (law23_whole _ _) ?_); exact (fun d => lay_join _ _ _ d))) | (go_at_call 14; first | ((with_reducible refine bq (A2.out _) ?_); exact (fun d => lay_join _ _ _ d)) | ((with_reducible refine bq (B2.out _) ?_); exact (fun d => lay_join _ _ _ d))))))
        refine wpQuiet_nil ?_
        rintro w' ⟨r1, rfl⟩
        rw [lay_bw]
        go_wp2_with fail
        go_roundw
        case rel => exact ⟨2, Classical.choose (lay_fold w [.inr r1, .inl (.cells #[.int .i64 n2, .int .i64 d2] 26 (0, 0)), .inr dd] [.inl (.cells #[.int .i64 n1, .int .i64 d1, .int .i64 n2, .int .i64 d2, .int .i64 n3, .int .i64 d3, .int .i64 n4, .int .i64 d4] 26 (0, 0)), .inr d, .inr e0, .inr e1, .inl (.cells #[.int .i64 n3, .int .i64 d3] 26 (0, 0)), .inr e2, .inl (.cells #[.int .i64 n4, .int .i64 d4] 26 (0, 0)), .inr e3, .inl (.cells #[.int .i64 n2, .int .i64 d2] 26 (0, 0)), .inl (.cells #[.int .i64 n1, .int .i64 d1] 26 (0, 0)), .inr dd3, .inr dd2, .inr dd1, .inr dA, .inl (.cells #[.int .i64 z0, .int .i64 z1] 23 (0, 0)), .inl (.cells #[.int .i64 l0, .int .i64 l1] 23 (0, 0))]), by omega, by go_num, Classical.choose_spec (lay_fold w [.inr r1, .inl (.cells #[.int .i64 n2, .int .i64 d2] 26 (0, 0)), .inr dd] [.inl (.cells #[.int .i64 n1, .int .i64 d1, .int .i64 n2, .int .i64 d2, .int .i64 n3, .int .i64 d3, .int .i64 n4, .int .i64 d4] 26 (0, 0)), .inr d, .inr e0, .inr e1, .inl (.cells #[.int .i64 n3, .int .i64 d3] 26 (0, 0)), .inr e2, .inl (.cells #[.int .i64 n4, .int .i64 d4] 26 (0, 0)), .inr e3, .inl (.cells #[.int .i64 n2, .int .i64 d2] 26 (0, 0)), .inl (.cells #[.int .i64 n1, .int .i64 d1] 26 (0, 0)), .inr dd3, .inr dd2, .inr dd1, .inr dA, .inl (.cells #[.int .i64 z0, .int .i64 z1] 23 (0, 0)), .inl (.cells #[.int .i64 l0, .int .i64 l1] 23 (0, 0))])⟩
        case measure => simp [intOf]
      · have g1 := decide_eq_false (show ¬ 0 < a3 by omega)
        have g2 := decide_eq_false (show ¬ b3 < 0 by omega)
        go_wp2_with fail
        refine region_bw (by kernel_rfl) (by kernel_rfl) ?_
        repeat (go_big_quiet_step ((first | (go_at_call 13; ((with_reducible refine bq (E3.out _) ?_); exact (fun d => lay_join _ _ _ d))) | (go_at_call 15; ((with_reducible refine bq (law23_whole _ _) ?_); exact (fun d => lay_join _ _ _ d))) | (go_at_call 14; first | ((with_reducible refine bq (A3.out _) ?_); exact (fun d => lay_join _ _ _ d)) | ((with_reducible refine bq (B3.out _) ?_); exact (fun d => lay_join _ _ _ d))))))
        refine wpQuiet_nil ?_
        rintro w' ⟨r1, rfl⟩
        rw [lay_bw]
        go_wp2_with fail
        go_roundw
        case rel => exact ⟨3, Classical.choose (lay_fold w [.inr r1, .inl (.cells #[.int .i64 n3, .int .i64 d3] 26 (0, 0)), .inr dd] [.inl (.cells #[.int .i64 n1, .int .i64 d1, .int .i64 n2, .int .i64 d2, .int .i64 n3, .int .i64 d3, .int .i64 n4, .int .i64 d4] 26 (0, 0)), .inr d, .inr e0, .inr e1, .inl (.cells #[.int .i64 n3, .int .i64 d3] 26 (0, 0)), .inr e2, .inl (.cells #[.int .i64 n4, .int .i64 d4] 26 (0, 0)), .inr e3, .inl (.cells #[.int .i64 n2, .int .i64 d2] 26 (0, 0)), .inl (.cells #[.int .i64 n1, .int .i64 d1] 26 (0, 0)), .inr dd3, .inr dd2, .inr dd1, .inr dA, .inl (.cells #[.int .i64 z0, .int .i64 z1] 23 (0, 0)), .inl (.cells #[.int .i64 l0, .int .i64 l1] 23 (0, 0))]), by omega, by go_num, Classical.choose_spec (lay_fold w [.inr r1, .inl (.cells #[.int .i64 n3, .int .i64 d3] 26 (0, 0)), .inr dd] [.inl (.cells #[.int .i64 n1, .int .i64 d1, .int .i64 n2, .int .i64 d2, .int .i64 n3, .int .i64 d3, .int .i64 n4, .int .i64 d4] 26 (0, 0)), .inr d, .inr e0, .inr e1, .inl (.cells #[.int .i64 n3, .int .i64 d3] 26 (0, 0)), .inr e2, .inl (.cells #[.int .i64 n4, .int .i64 d4] 26 (0, 0)), .inr e3, .inl (.cells #[.int .i64 n2, .int .i64 d2] 26 (0, 0)), .inl (.cells #[.int .i64 n1, .int .i64 d1] 26 (0, 0)), .inr dd3, .inr dd2, .inr dd1, .inr dA, .inl (.cells #[.int .i64 z0, .int .i64 z1] 23 (0, 0)), .inl (.cells #[.int .i64 l0, .int .i64 l1] 23 (0, 0))])⟩
        case measure => simp [intOf]
      · have g1 := decide_eq_false (show ¬ 0 < a4 by omega)
        have g2 := decide_eq_false (show ¬ b4 < 0 by omega)
        go_wp2_with fail
        refine region_bw (by kernel_rfl) (by kernel_rfl) ?_
        repeat (go_big_quiet_step ((first | (go_at_call 13; ((with_reducible refine bq (E4.out _) ?_); exact (fun d => lay_join _ _ _ d))) | (go_at_call 15; ((with_reducible refine bq (law23_whole _ _) ?_); exact (fun d => lay_join _ _ _ d))) | (go_at_call 14; first | ((with_reducible refine bq (A4.out _) ?_); exact (fun d => lay_join _ _ _ d)) | ((with_reducible refine bq (B4.out _) ?_); exact (fun d => lay_join _ _ _ d))))))
        refine wpQuiet_nil ?_
        rintro w' ⟨r1, rfl⟩
        rw [lay_bw]
        go_wp2_with fail
        go_roundw
        case rel => exact ⟨4, Classical.choose (lay_fold w [.inr r1, .inl (.cells #[.int .i64 n4, .int .i64 d4] 26 (0, 0)), .inr dd] [.inl (.cells #[.int .i64 n1, .int .i64 d1, .int .i64 n2, .int .i64 d2, .int .i64 n3, .int .i64 d3, .int .i64 n4, .int .i64 d4] 26 (0, 0)), .inr d, .inr e0, .inr e1, .inl (.cells #[.int .i64 n3, .int .i64 d3] 26 (0, 0)), .inr e2, .inl (.cells #[.int .i64 n4, .int .i64 d4] 26 (0, 0)), .inr e3, .inl (.cells #[.int .i64 n2, .int .i64 d2] 26 (0, 0)), .inl (.cells #[.int .i64 n1, .int .i64 d1] 26 (0, 0)), .inr dd3, .inr dd2, .inr dd1, .inr dA, .inl (.cells #[.int .i64 z0, .int .i64 z1] 23 (0, 0)), .inl (.cells #[.int .i64 l0, .int .i64 l1] 23 (0, 0))]), by omega, by go_num, Classical.choose_spec (lay_fold w [.inr r1, .inl (.cells #[.int .i64 n4, .int .i64 d4] 26 (0, 0)), .inr dd] [.inl (.cells #[.int .i64 n1, .int .i64 d1, .int .i64 n2, .int .i64 d2, .int .i64 n3, .int .i64 d3, .int .i64 n4, .int .i64 d4] 26 (0, 0)), .inr d, .inr e0, .inr e1, .inl (.cells #[.int .i64 n3, .int .i64 d3] 26 (0, 0)), .inr e2, .inl (.cells #[.int .i64 n4, .int .i64 d4] 26 (0, 0)), .inr e3, .inl (.cells #[.int .i64 n2, .int .i64 d2] 26 (0, 0)), .inl (.cells #[.int .i64 n1, .int .i64 d1] 26 (0, 0)), .inr dd3, .inr dd2, .inr dd1, .inr dA, .inl (.cells #[.int .i64 z0, .int .i64 z1] 23 (0, 0)), .inl (.cells #[.int .i64 l0, .int .i64 l1] 23 (0, 0))])⟩
        case measure => simp [intOf]
      · have g1 := decide_eq_false (show ¬ 0 < cab by omega)
        have g2 := decide_eq_false (show ¬ 0 < cac by omega)
        have g3 := decide_eq_false (show ¬ 0 < cdb by omega)
        clear hab hac hdb ha1 ha2 ha3 ha4 hb1 hb2 hb3 hb4
        by_cases c1 : 0 ≤ z0
        · by_cases c2 : z1 ≤ 10800000
          · have s1 := SE.out c1 c2
            have s1' : ¬ n1 < 0 := by omega
            by_cases c3 : 10800000 ≤ z0
            · have s2 := SW.out c3 (by omega)
              have s2' := decide_eq_false (show ¬ 0 < n2 by omega)
              have c4 : z1 ≤ 21600000 := by omega
              go_wp2_with (first | (go_at_call 14; first | ((with_reducible refine (Hab.out _).mono ?_); rintro e w' ⟨rfl, r1, rfl⟩) | ((with_reducible refine (Hac.out _).mono ?_); rintro e w' ⟨rfl, r2, rfl⟩) | ((with_reducible refine (Hdb.out _).mono ?_); rintro e w' ⟨rfl, r3, rfl⟩)))
              go_ret
              exact ⟨rfl, lay_ex _ _⟩
            · go_wp2_with (first | (go_at_call 14; first | ((with_reducible refine (Hab.out _).mono ?_); rintro e w' ⟨rfl, r1, rfl⟩) | ((with_reducible refine (Hac.out _).mono ?_); rintro e w' ⟨rfl, r2, rfl⟩) | ((with_reducible refine (Hdb.out _).mono ?_); rintro e w' ⟨rfl, r3, rfl⟩)))
              go_ret
              exact ⟨rfl, lay_ex _ _⟩
          · by_cases c3 : 10800000 ≤ z0
            · by_cases c4 : z1 ≤ 21600000
              · have s2 := SW.out c3 c4
                have s2' := decide_eq_false (show ¬ 0 < n2 by omega)
                go_wp2_with (first | (go_at_call 14; first | ((with_reducible refine (Hab.out _).mono ?_); rintro e w' ⟨rfl, r1, rfl⟩) | ((with_reducible refine (Hac.out _).mono ?_); rintro e w' ⟨rfl, r2, rfl⟩) | ((with_reducible refine (Hdb.out _).mono ?_); rintro e w' ⟨rfl, r3, rfl⟩)))
                go_ret
                exact ⟨rfl, lay_ex _ _⟩
              · go_wp2_with (first | (go_at_call 14; first | ((with_reducible refine (Hab.out _).mono ?_); rintro e w' ⟨rfl, r1, rfl⟩) | ((with_reducible refine (Hac.out _).mono ?_); rintro e w' ⟨rfl, r2, rfl⟩) | ((with_reducible refine (Hdb.out _).mono ?_); rintro e w' ⟨rfl, r3, rfl⟩)))
                go_ret
                exact ⟨rfl, lay_ex _ _⟩
            · go_wp2_with (first | (go_at_call 14; first | ((with_reducible refine (Hab.out _).mono ?_); rintro e w' ⟨rfl, r1, rfl⟩) | ((with_reducible refine (Hac.out _).mono ?_); rintro e w' ⟨rfl, r2, rfl⟩) | ((with_reducible refine (Hdb.out _).mono ?_); rintro e w' ⟨rfl, r3, rfl⟩)))
              go_ret
              exact ⟨rfl, lay_ex _ _⟩
        · have c3 : ¬ 10800000 ≤ z0 := by omega
          go_wp2_with (first | (go_at_call 14; first | ((with_reducible refine (Hab.out _).mono ?_); rintro e w' ⟨rfl, r1, rfl⟩) | ((with_reducible refine (Hac.out _).mono ?_); rintro e w' ⟨rfl, r2, rfl⟩) | ((with_reducible refine (Hdb.out _).mono ?_); rintro e w' ⟨rfl, r3, rfl⟩)))
          go_ret
          exact ⟨rfl, lay_ex _ _⟩
end Go.Proofs.YtmomoeagnkjbiaaGreat
