/- Contracts and plain laws, several texts in one: FeU; FeA -/
import Derived.Test.YtjfpgpipbooilaaGreatProg
import Derived.WalkKit
import Derived.WalkSpells
import Derived.WalkLawsBesides
import Derived.Lib.Hide
import Derived.BigQuiet
import Derived.Test.YtjfpgpipbooilaaGreatWAA
import Derived.Test.YtjfpgpipbooilaaGreatWAB
import Derived.Test.YtjfpgpipbooilaaGreatWBU
import Derived.Test.YtjfpgpipbooilaaGreatWBV
import Derived.Test.YtjfpgpipbooilaaGreatWBW
/- finder: Unknown, as a function. -/
namespace Go.Proofs.YtjfpgpipbooilaaGreat
open Go.RowKit Go.Shelf

set_option maxHeartbeats 4000000 in
set_option maxRecDepth 100000 in
theorem fn_Unknown (a0 a1 b0 b1 c0 c1 g0 g1 l0 l1 z0 z1 p0 p1 q0 q1 : Int) (w : World) (h : triB a0 a1 b0 b1 c0 c1 = true) (hg : validB g0 g1 = true) (hl : validB l0 l1 = true) (hz : azF a0 a1 b0 b1 c0 c1 = (z0, z1))
    (hp : p0 = z0 + -(turnHi l0 l1) ∧ p1 = z1 + -(turnLo l0 l1)) (hq : q0 = p0 + -(turnHi g0 g1) ∧ q1 = p1 + -(turnLo g0 g1)) :
    Calls Tryz.prog 22 #[(.agg #[.int .i64 (a0), .int .i64 (a1)]), (.agg #[.int .i64 (b0), .int .i64 (b1)]), (.agg #[.int .i64 (c0), .int .i64 (c1)]), (.agg #[.int .i64 (g0), .int .i64 (g1)]), (.agg #[.int .i64 (l0), .int .i64 (l1)])] w fun e w' => e = .returned (.tuple #[(.agg #[.int .i64 (turnLo q0 q1), .int .i64 (turnHi q0 q1)]), (.agg #[.int .i64 (alL a0 a1 b0 b1 c0 c1), .int .i64 (alH a0 a1 b0 b1 c0 c1)]), .int .i64 0]) ∧ ∃ d, w' = bw w d := by
  have HS := Lib.hid (fun W => cos_Solve a0 a1 b0 b1 c0 c1 W h)
  have hb := brF_bd (azX a0 a1 b0 b1 c0 c1).1 (azX a0 a1 b0 b1 c0 c1).2 (azY b0 b1 c0 c1).1 (azY b0 b1 c0 c1).2
  change 0 ≤ (azF a0 a1 b0 b1 c0 c1).1 ∧ (azF a0 a1 b0 b1 c0 c1).1 ≤ (azF a0 a1 b0 b1 c0 c1).2 ∧ (azF a0 a1 b0 b1 c0 c1).2 ≤ 43200000 at hb
  rw [hz] at HS hb
  dsimp only at HS hb
  unfold triB at h
  simp only [Bool.and_eq_true] at h
  have HL1 := Lib.hid (fun W => fn_latitude a0 a1 W)
  have HL2 := Lib.hid (fun W => fn_latitude b0 b1 W)
  have HV1 := Lib.hid (fun W => angle_Valid c0 c1 W)
  have HV2 := Lib.hid (fun W => angle_Valid g0 g1 W)
  have HV3 := Lib.hid (fun W => angle_Valid l0 l1 W)
  rw [h.1.1] at HL1
  rw [h.1.2] at HL2
  rw [h.2] at HV1
  rw [hg] at HV2
  rw [hl] at HV3
  have tl := turn_bd (validB_iff.1 hl).1
  have tg := turn_bd (validB_iff.1 hg).1
  have vp : validB p0 p1 = true := validB_iff.2 (by omega)
  have vq : validB q0 q1 = true := validB_iff.2 (by omega)
  have vz : validB z0 z1 = true := validB_iff.2 (by omega)
  have HT1 := Lib.hid (fun W => angle_Turn l0 l1 W hl)
  have HT2 := Lib.hid (fun W => angle_Turn g0 g1 W hg)
  have HT3 := Lib.hid (fun W => angle_Turn q0 q1 W vq)
  have HS1 : Hid (∀ W, Calls _ _ #[_, _] W fun e w' => e = .returned (.tuple #[(.agg #[.int .i64 (p0), .int .i64 (p1)]), .int .i64 0]) ∧ _) := Lib.hid (fun W => by
    have := angle_Sub z0 z1 (turnLo l0 l1) (turnHi l0 l1) W vz (turn_valid (validB_iff.1 hl).1) (by rw [← hp.1, ← hp.2]; exact vp)
    rw [← hp.1, ← hp.2] at this
    exact this)
  have HS2 : Hid (∀ W, Calls _ _ #[_, _] W fun e w' => e = .returned (.tuple #[(.agg #[.int .i64 (q0), .int .i64 (q1)]), .int .i64 0]) ∧ _) := Lib.hid (fun W => by
    have := angle_Sub p0 p1 (turnLo g0 g1) (turnHi g0 g1) W vp (turn_valid (validB_iff.1 hg).1) (by rw [← hq.1, ← hq.2]; exact vq)
    rw [← hq.1, ← hq.2] at this
    exact this)
  clear h hg hl hz hp hq hb tl tg vp vq vz
  generalize alL a0 a1 b0 b1 c0 c1 = x0 at *
  generalize alH a0 a1 b0 b1 c0 c1 = x1 at *
  generalize turnLo q0 q1 = r0 at *
  generalize turnHi q0 q1 = r1 at *
  generalize turnLo l0 l1 = s0 at *
  generalize turnHi l0 l1 = s1 at *
  generalize turnLo g0 g1 = t0 at *
  generalize turnHi g0 g1 = t1 at *
  refine lay_start ?_
  go_enter Tryz.func22, Tryz.ntmps22
  go_wp2_with (first | (go_at_call 29; first | ((with_reducible refine (HL1.out _).mono ?_); rintro e w' ⟨rfl, dq, rfl⟩; rw [lay_bw]) | ((with_reducible refine (HL2.out _).mono ?_); rintro e w' ⟨rfl, dq, rfl⟩; rw [lay_bw])) | (go_at_call 30; first | ((with_reducible refine (HV1.out _).mono ?_); rintro e w' ⟨rfl, dq, rfl⟩; rw [lay_bw]) | ((with_reducible refine (HV2.out _).mono ?_); rintro e w' ⟨rfl, dq, rfl⟩; rw [lay_bw]) | ((with_reducible refine (HV3.out _).mono ?_); rintro e w' ⟨rfl, dq, rfl⟩; rw [lay_bw])) | (go_at_call 20; refine (HS.out _).mono ?_; rintro e w' ⟨rfl, dq, rfl⟩; rw [lay_bw]))
  refine wp_loop_rounds 3 ?_
  rw [rounds_succ]
  go_wp2_with (first | (go_at_call 37; refine (HT1.out _).mono ?_; rintro e w' ⟨rfl, dq, rfl⟩; rw [lay_bw]) | (go_at_call 53; refine (HS1.out _).mono ?_; rintro e w' ⟨rfl, dq, rfl⟩; rw [lay_bw]))
  rw [rounds_succ]
  go_wp2_with (first | (go_at_call 37; refine (HT2.out _).mono ?_; rintro e w' ⟨rfl, dq, rfl⟩; rw [lay_bw]) | (go_at_call 53; refine (HS2.out _).mono ?_; rintro e w' ⟨rfl, dq, rfl⟩; rw [lay_bw]))
  rw [rounds_succ]
  go_wp2_with (first | (go_at_call 37; refine (HT3.out _).mono ?_; rintro e w' ⟨rfl, dq, rfl⟩; rw [lay_bw]))
  go_region
  go_wp2_with fail
  refine bodyPost_ret (v := .tuple #[(.agg #[.int .i64 (r0), .int .i64 (r1)]), (.agg #[.int .i64 (x0), .int .i64 (x1)]), .int .i64 0]) (by simp [results, Tryz.results22, go_sem]) rfl ⟨rfl, ?_⟩
  rw [bw_drewExt, lay_bw]
  exact lay_ex _ _
end Go.Proofs.YtjfpgpipbooilaaGreat
/- The example of chapter 51 (awake). -/
namespace Go.Proofs.YtjfpgpipbooilaaGreat
open Go.RowKit Go.Shelf

theorem pgsD_nilQ {P : Nat → Prop} {w : World} : PgsD P w (.slice none 0 0) [] := ⟨[], SlG.nil pgR w, (fun b o n c e _ => by cases e), rfl, fun i x p h => by simp at h⟩
theorem law51_point (n : Int) (w : World) : Calls Tryz.prog 18 #[.int .i64 n] w fun e w' => e = .returned (.agg #[.int .i64 (n), .int .i64 (n)]) ∧ ∃ d, w' = bw w d := by
  refine lay_start ?_
  go_enter Tryz.func18, Tryz.ntmps18
  go_wp2
  exact bodyPost_ret (v := (.agg #[.int .i64 (n), .int .i64 (n)])) (by simp [results, Tryz.results18, go_sem]) rfl ⟨rfl, lay_ex _ _⟩
theorem eg_Parallactic (w : World) : Calls Tryz.prog 21 #[(.agg #[.int .i64 (0), .int .i64 (0), .int .i64 (0), .int .i64 (0), .int .i64 (3600000), .int .i64 (3600000)])] w fun e w' => e = .returned (.tuple #[(.agg #[.int .i64 (5400000), .int .i64 (5400000)]), .int .i64 0]) ∧ ∃ d, w' = bw w d := by
  have := fn_Parallactic 0 0 0 0 3600000 3600000 w (by decide)
  rw [pa_eg] at this
  exact this
theorem eg_Unknown (w : World) : Calls Tryz.prog 22 #[(.agg #[.int .i64 (0), .int .i64 (0)]), (.agg #[.int .i64 (1800000), .int .i64 (1800000)]), (.agg #[.int .i64 (16200000), .int .i64 (16200000)]), (.agg #[.int .i64 (1200000), .int .i64 (1200000)]), (.agg #[.int .i64 (0), .int .i64 (0)])] w fun e w' => e = .returned (.tuple #[(.agg #[.int .i64 (2399999), .int .i64 (2400001)]), (.agg #[.int .i64 (0), .int .i64 (0)]), .int .i64 0]) ∧ ∃ d, w' = bw w d := by
  have := fn_Unknown 0 0 1800000 1800000 16200000 16200000 1200000 1200000 0 0 3599999 3600001 3599999 3600001 2399999 2400001 w (by decide) (by decide) (by decide) az_eg (by decide) (by decide)
  rw [al_eg.1, al_eg.2, show turnLo 2399999 2400001 = 2399999 by decide, show turnHi 2399999 2400001 = 2400001 by decide] at this
  exact this
set_option maxHeartbeats 4000000 in
set_option maxRecDepth 100000 in
theorem law51_awake (w : World) : Calls Tryz.prog 5 #[] w fun e w' => e = .returned (.bool true) ∧ ∃ d, w' = bw w d := by
  have HP := Lib.hid (fun n W => law51_point n W)
  have HA := Lib.hid (fun W => eg_Parallactic W)
  have HU := Lib.hid (fun W => eg_Unknown W)
  refine lay_start ?_
  go_enter Tryz.func5, Tryz.ntmps5
  go_wp2_with fail
  refine (HP.out _ _).mono ?_
  rintro e w' ⟨rfl, p1, rfl⟩
  rw [lay_bw]
  go_wp2_with fail
  refine (HA.out _).mono ?_
  rintro e w' ⟨rfl, dA, rfl⟩
  rw [lay_bw]
  go_wp2_with fail
  refine (HP.out _ _).mono ?_
  rintro e w' ⟨rfl, p2, rfl⟩
  rw [lay_bw]
  go_wp2_with fail
  refine (HP.out _ _).mono ?_
  rintro e w' ⟨rfl, p3, rfl⟩
  rw [lay_bw]
  go_wp2_with fail
  refine (HP.out _ _).mono ?_
  rintro e w' ⟨rfl, p4, rfl⟩
  rw [lay_bw]
  go_wp2_with fail
  refine (HP.out _ _).mono ?_
  rintro e w' ⟨rfl, p5, rfl⟩
  rw [lay_bw]
  go_wp2_with fail
  refine (HP.out _ _).mono ?_
  rintro e w' ⟨rfl, p6, rfl⟩
  rw [lay_bw]
  go_wp2_with fail
  refine (HU.out _).mono ?_
  rintro e w' ⟨rfl, dU, rfl⟩
  rw [lay_bw]
  go_wp2_with fail
  refine (alm_New_yes (P := fun _ => False) (.slice none 0 0) _ [] [vegaV] _ pgsD_nilQ (fun _ h => h.elim) (vega_lit w [.inl (.cells #[.int .i64 0, .int .i64 0] 26 (0, 0)), .inl (.cells #[.int .i64 2399999, .int .i64 2400001] 26 (0, 0)), .inr dU, .inr p6, .inr p5, .inr p4, .inr p3, .inr p2, .inl (.cells #[.int .i64 5400000, .int .i64 5400000] 26 (0, 0)), .inr dA, .inr p1]) vega_new).mono ?_
  rintro e w' ⟨bk, d1, rfl, rfl, hB⟩
  rw [lay_bw] at hB ⊢
  have HSk := fn_SkyB hB vega_ok (a := 0) (b := 0) (u := 0) (v := 0) (x := 0) (y := 0) (by decide) (by decide) (by decide)
  obtain ⟨z, hz, hzs⟩ := vega_sky
  have HS := Lib.hid (fun W' hW => HSk.out W' (-5400000) hW (by decide) (by decide))
  rw [hz] at HS
  have HZ := Lib.hid hzs
  clear hB HSk hz hzs
  go_wp2_with fail
  refine region_bw (by kernel_rfl) (by kernel_rfl) ?_
  repeat (go_big_quiet_step ((first | (go_at_call 18; first | exact bq (HP.out _ _) (fun d => ⟨d, rfl⟩) | exact bq (HP.out _ _) (fun d => lay_join _ _ _ d)))))
  refine wpQuiet_nil ?_
  rintro w' ⟨d, rfl⟩
  rw [lay_bw]
  go_wp2_with fail
  refine (HS.out _ (lay_belowG (A := [_]))).mono ?_
  rintro e w' ⟨vs, d2, rfl, rfl, hO⟩
  rw [lay_bw] at hO ⊢
  simp only [List.cons_append, List.nil_append] at hO ⊢
  obtain ⟨g, c, rfl, -, -, -⟩ := hO.form1 (by simp)
  have hc := hO.cell seenOk (i := 0) (x := z) rfl (j := 0) (u := .string z.s) rfl
  rw [HZ.out] at hc
  have e0 : 0 * seenR.k + 0 = 0 := by simp
  rw [e0] at hc
  simp only [List.length_cons, List.length_nil, Nat.zero_add]
  go_wp2_with fail
  go_ret
  exact ⟨by simp [vega_list], lay_ex _ _⟩
end Go.Proofs.YtjfpgpipbooilaaGreat
