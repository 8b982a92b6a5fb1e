/- Contracts and plain laws, several texts in one: FbD; FbE -/
import Derived.Test.YtcbicpbbjbkiaaaGreatDoorProg
import Derived.WalkKit
import Derived.WalkSpells
import Derived.WalkLawsBesides
import Derived.Lib.Hide
import Derived.BigQuiet
import Derived.Test.YtcbicpbbjbkiaaaGreatDoorZmAA
import Derived.Test.YtcbicpbbjbkiaaaGreatDoorZmAP
namespace Go.Proofs.YtcbicpbbjbkiaaaGreatDoor
open Go.RowKit

set_option maxHeartbeats 4000000 in
set_option maxRecDepth 100000 in
theorem ar_BearD (y0 y1 x0 x1 : Int) (hy : fxB y0 y1 = true) (hx : fxB x0 x1 = true) (n1 : x0 ≤ 0) (n2 : 0 ≤ x1) (n3 : y0 ≤ 0) (n4 : ¬ 0 ≤ y1) (w : World) :
  Calls Tryz.prog 47 #[(.agg #[.int .i64 (y0), .int .i64 (y1)]), (.agg #[.int .i64 (x0), .int .i64 (x1)])] w fun e w' => ∃ m0 m1 : Int, e = .returned (.tuple #[(.agg #[.int .i64 (m0), .int .i64 (m1)]), .int .i64 0]) ∧ brF x0 x1 y0 y1 = (m0, m1) ∧ ∃ d, w' = bw w d := by
 have hn : x0 ≤ x1 ∧ y0 ≤ y1 ∧ ¬ oriB x0 x1 y0 y1 := ⟨(fxB_iff.1 hx).1, (fxB_iff.1 hy).1, fun h => n4 h.2.2.2⟩
 have HV1 := Lib.hid (fun W => fx_ValidG x0 x1 W)
 have HV2 := Lib.hid (fun W => fx_ValidG y0 y1 W)
 rw [hx] at HV1
 rw [hy] at HV2
 have HN := Lib.hid hn
 clear hn
 obtain ⟨x01, xb0, xb1⟩ := fxB_iff.1 hx
 obtain ⟨y01, yb0, yb1⟩ := fxB_iff.1 hy
 have X0 : Bd31 x0 := ⟨by omega, by omega⟩
 have X1 : Bd31 x1 := ⟨by omega, by omega⟩
 have Y0 : Bd31 y0 := ⟨by omega, by omega⟩
 have Y1 : Bd31 y1 := ⟨by omega, by omega⟩
 refine lay_start ?_
 go_enter Tryz.func47, Tryz.ntmps47
 go_wp2_with (go_at_call 103; first | ((with_reducible refine (HV1.out _).mono ?_); rintro e w' ⟨rfl, d1, rfl⟩; rw [lay_bw]) | ((with_reducible refine (HV2.out _).mono ?_); rintro e w' ⟨rfl, d2, rfl⟩; rw [lay_bw]))
 refine region_mixW [0, 0, 0, 0, 2, 1, 1] (by kernel_rfl) (by kernel_rfl) (by kernel_rfl) ?_
 repeat (refine wpM_quiet (fun K hK => ?_); go_simp; first | (refine hK _ ?_; clear hK K) | (apply Exists.intro; refine ⟨fun _ => ?_, hK _ ?_⟩; (first | fail); clear hK K))
 refine wpM_two (fun J hJ d => ?_) (fun J hJ d => ?_)
 all_goals (go_simp; refine hJ _ _ (by first | exact lay_in w [_] _ | exact lay_in w [_, _] _ | exact lay_in w [_, _, _] _ | exact lay_in w [_, _, _, _] _ | exact lay_in w [_, _, _, _, _] _ | exact lay_in w [_, _, _, _, _, _] _) (fun K hK d => ?_); go_simp; refine hK _ _ (by first | exact lay_in w [_] _ | exact lay_in w [_, _] _ | exact lay_in w [_, _, _] _ | exact lay_in w [_, _, _, _] _ | exact lay_in w [_, _, _, _, _] _ | exact lay_in w [_, _, _, _, _, _] _) ?_; clear hK K hJ J)
 all_goals (repeat (first | (refine wpM_quiet (fun K hK => ?_); go_simp; first | (refine hK _ ?_; clear hK K) | (apply Exists.intro; refine ⟨fun _ => ?_, hK _ ?_⟩; (first | fail); clear hK K)) | (refine wpM_special (fun K hK d => ?_); go_simp; refine hK _ _ (by first | exact lay_in w [_] _ | exact lay_in w [_, _] _ | exact lay_in w [_, _, _] _ | exact lay_in w [_, _, _, _] _ | exact lay_in w [_, _, _, _, _] _ | exact lay_in w [_, _, _, _, _, _] _) ?_; clear hK K)))
 all_goals (refine wpM_nil ?_; intro d; rw [lay_bw])
 ·rename_i e1 e2 e3 e4
  go_wp2_with fail
  obtain ⟨ee, hee⟩ := lay_fold w [.inr d, .inr e4, .inr e3] [.inl (.cells #[.int .i64 x0, .int .i64 y0] 186 (0, 0)), .inr e2, .inl (.cells #[.int .i64 x0, .int .i64 y0] 186 (0, 0)), .inr e1, .inl (.cells #[.int .i64 x0, .int .i64 y0, .int .i64 x0, .int .i64 y1, .int .i64 x1, .int .i64 y0, .int .i64 x1, .int .i64 y1] 187 (0, 0)), .inr d2, .inr d1, .inl (.cells #[.int .i64 0, .int .i64 0] 29 (0, 0)), .inl (.cells #[.int .i64 x0, .int .i64 x1] 46 (0, 0)), .inl (.cells #[.int .i64 y0, .int .i64 y1] 46 (0, 0))]
  change lay w [.inr d, .inr e4, .inr e3, .inl (.cells #[.int .i64 x0, .int .i64 y0] 186 (0, 0)), .inr e2, .inl (.cells #[.int .i64 x0, .int .i64 y0] 186 (0, 0)), .inr e1, .inl (.cells #[.int .i64 x0, .int .i64 y0, .int .i64 x0, .int .i64 y1, .int .i64 x1, .int .i64 y0, .int .i64 x1, .int .i64 y1] 187 (0, 0)), .inr d2, .inr d1, .inl (.cells #[.int .i64 0, .int .i64 0] 29 (0, 0)), .inl (.cells #[.int .i64 x0, .int .i64 x1] 46 (0, 0)), .inl (.cells #[.int .i64 y0, .int .i64 y1] 46 (0, 0))] = _ at hee
  rw [hee]
  clear hee
  go_loopw [69] (fun v69 wr => ∃ (i : Nat) (a b c d : Int) (e : Ext), v69 = .int .i64 (i : Int) ∧ wr = lay w [.inr e, .inl (.cells #[.int .i64 c, .int .i64 d] 186 (0, 0)), .inr e2, .inl (.cells #[.int .i64 a, .int .i64 b] 186 (0, 0)), .inr e1, .inl (.cells #[.int .i64 x0, .int .i64 y0, .int .i64 x0, .int .i64 y1, .int .i64 x1, .int .i64 y0, .int .i64 x1, .int .i64 y1] 187 (0, 0)), .inr d2, .inr d1, .inl (.cells #[.int .i64 0, .int .i64 0] 29 (0, 0)), .inl (.cells #[.int .i64 x0, .int .i64 x1] 46 (0, 0)), .inl (.cells #[.int .i64 y0, .int .i64 y1] 46 (0, 0))] ∧ BoxF x0 x1 y0 y1 i a b c d) (fun v69 _ => 4 - (intOf v69).toNat)
  case atStart => exact ⟨0, x0, y0, x0, y0, ee, rfl, rfl, BoxF.start⟩
  case round =>
   obtain ⟨i, a, b, c, d, e, rfl, rfl, hB⟩ := hrel
   obtain ⟨Ba, Bb, Bc, Bd, na, nc⟩ := hB.bds X0 X1 Y0 Y1 HN.out
   have HB := Lib.hid hB
   have i4 := hB.i4
   clear hB
   rcases (show i = 0 ∨ i = 1 ∨ i = 2 ∨ i = 3 ∨ i = 4 by omega) with rfl | rfl | rfl | rfl | rfl
   ·have HS := Lib.hid (HB.out.step (by decide) (p := x0) (q := y0) rfl rfl)
    have H1 := Lib.hid (fun W => ar_before x0 y0 a b X0 Y0 Ba Bb W)
    have H2 := Lib.hid (fun W => ar_before c d x0 y0 Bc Bd X0 Y0 W)
    have hI := ixB_0 x0 x1 y0 y1
    have kI : IntKind.i64.wrap (0 + 1) = 0 + 1 := by decide
    cases g1 : befB x0 y0 a b <;> cases g2 : befB c d x0 y0
    all_goals rw [g1, g2] at HS
    all_goals rw [g1] at H1
    all_goals rw [g2] at H2
    all_goals simp only [Bool.false_eq_true, ↓reduceIte] at HS
    all_goals clear g1 g2
    all_goals go_wp2_with (go_at_call 107; first | ((with_reducible refine (H1.out _).mono ?_); rintro e' w' ⟨rfl, f1, rfl⟩; rw [lay_bw]) | ((with_reducible refine (H2.out _).mono ?_); rintro e' w' ⟨rfl, f2, rfl⟩; rw [lay_bw]))
    all_goals exact ⟨⟨0 + 1, _, _, _, _, _, rfl, (lay_fold w [_, _, _, _] _).choose_spec, HS.out⟩, by simp only [intOf]; omega⟩
   ·have HS := Lib.hid (HB.out.step (by decide) (p := x0) (q := y1) rfl rfl)
    have H1 := Lib.hid (fun W => ar_before x0 y1 a b X0 Y1 Ba Bb W)
    have H2 := Lib.hid (fun W => ar_before c d x0 y1 Bc Bd X0 Y1 W)
    have hI := ixB_1 x0 x1 y0 y1
    have kI : IntKind.i64.wrap (1 + 1) = 1 + 1 := by decide
    cases g1 : befB x0 y1 a b <;> cases g2 : befB c d x0 y1
    all_goals rw [g1, g2] at HS
    all_goals rw [g1] at H1
    all_goals rw [g2] at H2
    all_goals simp only [Bool.false_eq_true, ↓reduceIte] at HS
    all_goals clear g1 g2
    all_goals go_wp2_with (go_at_call 107; first | ((with_reducible refine (H1.out _).mono ?_); rintro e' w' ⟨rfl, f1, rfl⟩; rw [lay_bw]) | ((with_reducible refine (H2.out _).mono ?_); rintro e' w' ⟨rfl, f2, rfl⟩; rw [lay_bw]))
    all_goals exact ⟨⟨1 + 1, _, _, _, _, _, rfl, (lay_fold w [_, _, _, _] _).choose_spec, HS.out⟩, by simp only [intOf]; omega⟩
   ·have HS := Lib.hid (HB.out.step (by decide) (p := x1) (q := y0) rfl rfl)
    have H1 := Lib.hid (fun W => ar_before x1 y0 a b X1 Y0 Ba Bb W)
    have H2 := Lib.hid (fun W => ar_before c d x1 y0 Bc Bd X1 Y0 W)
    have hI := ixB_2 x0 x1 y0 y1
    have kI : IntKind.i64.wrap (2 + 1) = 2 + 1 := by decide
    cases g1 : befB x1 y0 a b <;> cases g2 : befB c d x1 y0
    all_goals rw [g1, g2] at HS
    all_goals rw [g1] at H1
    all_goals rw [g2] at H2
    all_goals simp only [Bool.false_eq_true, ↓reduceIte] at HS
    all_goals clear g1 g2
    all_goals go_wp2_with (go_at_call 107; first | ((with_reducible refine (H1.out _).mono ?_); rintro e' w' ⟨rfl, f1, rfl⟩; rw [lay_bw]) | ((with_reducible refine (H2.out _).mono ?_); rintro e' w' ⟨rfl, f2, rfl⟩; rw [lay_bw]))
    all_goals exact ⟨⟨2 + 1, _, _, _, _, _, rfl, (lay_fold w [_, _, _, _] _).choose_spec, HS.out⟩, by simp only [intOf]; omega⟩
   ·have HS := Lib.hid (HB.out.step (by decide) (p := x1) (q := y1) rfl rfl)
    have H1 := Lib.hid (fun W => ar_before x1 y1 a b X1 Y1 Ba Bb W)
    have H2 := Lib.hid (fun W => ar_before c d x1 y1 Bc Bd X1 Y1 W)
    have hI := ixB_3 x0 x1 y0 y1
    have kI : IntKind.i64.wrap (3 + 1) = 3 + 1 := by decide
    cases g1 : befB x1 y1 a b <;> cases g2 : befB c d x1 y1
    all_goals rw [g1, g2] at HS
    all_goals rw [g1] at H1
    all_goals rw [g2] at H2
    all_goals simp only [Bool.false_eq_true, ↓reduceIte] at HS
    all_goals clear g1 g2
    all_goals go_wp2_with (go_at_call 107; first | ((with_reducible refine (H1.out _).mono ?_); rintro e' w' ⟨rfl, f1, rfl⟩; rw [lay_bw]) | ((with_reducible refine (H2.out _).mono ?_); rintro e' w' ⟨rfl, f2, rfl⟩; rw [lay_bw]))
    all_goals exact ⟨⟨3 + 1, _, _, _, _, _, rfl, (lay_fold w [_, _, _, _] _).choose_spec, HS.out⟩, by simp only [intOf]; omega⟩
   ·have HA1 := Lib.hid (fun W => ar_angG a b na Ba Bb W)
    have HA2 := Lib.hid (fun W => ar_angG c d nc Bc Bd W)
    have HRes := Lib.hid (HB.out.res HN.out)
    obtain ⟨r0, r1⟩ := angF_bd a b
    obtain ⟨s0, s1⟩ := angF_bd c d
    generalize angF a b = R at *
    generalize angF c d = S at *
    obtain ⟨r, ex1⟩ := R
    obtain ⟨s, ex2⟩ := S
    dsimp only at r0 r1 s0 s1
    go_wp2_with fail
    refine (HA1.out _).mono ?_
    rintro e' w' ⟨rfl, f1, rfl⟩
    dsimp only
    rw [lay_bw]
    go_wp2_with fail
    refine (HA2.out _).mono ?_
    rintro e' w' ⟨rfl, f2, rfl⟩
    dsimp only
    have kt : IntKind.i64.wrap (s + 21600000) = s + 21600000 := IntWalk.i64_in _ (by omega)
    have kt2 : IntKind.i64.wrap (s + 21600000 + 1) = s + 21600000 + 1 := IntWalk.i64_in _ (by omega)
    have kt3 : IntKind.i64.wrap (s + 1) = s + 1 := IntWalk.i64_in _ (by omega)
    rw [lay_bw]
    clear r0 r1 s0 s1 HA1 HA2
    by_cases hlt : s < r
    ·cases ex2
     ·go_wp2_with fail
      exact bodyPost_ret (v := .tuple #[(.agg #[.int .i64 (r), .int .i64 (s + 21600000 + 1)]), .int .i64 0]) (by simp [results, Tryz.results47, go_sem]) rfl ⟨r, s + 21600000 + 1, rfl, by rw [HRes.out]; simp [hlt], lay_ex _ _⟩
     ·go_wp2_with fail
      exact bodyPost_ret (v := .tuple #[(.agg #[.int .i64 (r), .int .i64 (s + 21600000)]), .int .i64 0]) (by simp [results, Tryz.results47, go_sem]) rfl ⟨r, s + 21600000, rfl, by rw [HRes.out]; simp [hlt], lay_ex _ _⟩
    ·cases ex2
     ·go_wp2_with fail
      exact bodyPost_ret (v := .tuple #[(.agg #[.int .i64 (r), .int .i64 (s + 1)]), .int .i64 0]) (by simp [results, Tryz.results47, go_sem]) rfl ⟨r, s + 1, rfl, by rw [HRes.out]; simp [show ¬ s < r by omega], lay_ex _ _⟩
     ·go_wp2_with fail
      exact bodyPost_ret (v := .tuple #[(.agg #[.int .i64 (r), .int .i64 (s)]), .int .i64 0]) (by simp [results, Tryz.results47, go_sem]) rfl ⟨r, s, rfl, by rw [HRes.out]; simp [show ¬ s < r by omega], lay_ex _ _⟩
 ·rename_i e1 e2 e3 e4
  go_wp2_with fail
  obtain ⟨ee, hee⟩ := lay_fold w [.inr d, .inr e4, .inr e3] [.inl (.cells #[.int .i64 x0, .int .i64 y0] 186 (0, 0)), .inr e2, .inl (.cells #[.int .i64 x0, .int .i64 y0] 186 (0, 0)), .inr e1, .inl (.cells #[.int .i64 x0, .int .i64 y0, .int .i64 x0, .int .i64 y1, .int .i64 x1, .int .i64 y0, .int .i64 x1, .int .i64 y1] 187 (0, 0)), .inr d2, .inr d1, .inl (.cells #[.int .i64 0, .int .i64 0] 29 (0, 0)), .inl (.cells #[.int .i64 x0, .int .i64 x1] 46 (0, 0)), .inl (.cells #[.int .i64 y0, .int .i64 y1] 46 (0, 0))]
  change lay w [.inr d, .inr e4, .inr e3, .inl (.cells #[.int .i64 x0, .int .i64 y0] 186 (0, 0)), .inr e2, .inl (.cells #[.int .i64 x0, .int .i64 y0] 186 (0, 0)), .inr e1, .inl (.cells #[.int .i64 x0, .int .i64 y0, .int .i64 x0, .int .i64 y1, .int .i64 x1, .int .i64 y0, .int .i64 x1, .int .i64 y1] 187 (0, 0)), .inr d2, .inr d1, .inl (.cells #[.int .i64 0, .int .i64 0] 29 (0, 0)), .inl (.cells #[.int .i64 x0, .int .i64 x1] 46 (0, 0)), .inl (.cells #[.int .i64 y0, .int .i64 y1] 46 (0, 0))] = _ at hee
  rw [hee]
  clear hee
  go_loopw [69] (fun v69 wr => ∃ (i : Nat) (a b c d : Int) (e : Ext), v69 = .int .i64 (i : Int) ∧ wr = lay w [.inr e, .inl (.cells #[.int .i64 a, .int .i64 b] 186 (0, 0)), .inr e2, .inl (.cells #[.int .i64 c, .int .i64 d] 186 (0, 0)), .inr e1, .inl (.cells #[.int .i64 x0, .int .i64 y0, .int .i64 x0, .int .i64 y1, .int .i64 x1, .int .i64 y0, .int .i64 x1, .int .i64 y1] 187 (0, 0)), .inr d2, .inr d1, .inl (.cells #[.int .i64 0, .int .i64 0] 29 (0, 0)), .inl (.cells #[.int .i64 x0, .int .i64 x1] 46 (0, 0)), .inl (.cells #[.int .i64 y0, .int .i64 y1] 46 (0, 0))] ∧ BoxF x0 x1 y0 y1 i a b c d) (fun v69 _ => 4 - (intOf v69).toNat)
  case atStart => exact ⟨0, x0, y0, x0, y0, ee, rfl, rfl, BoxF.start⟩
  case round =>
   obtain ⟨i, a, b, c, d, e, rfl, rfl, hB⟩ := hrel
   obtain ⟨Ba, Bb, Bc, Bd, na, nc⟩ := hB.bds X0 X1 Y0 Y1 HN.out
   have HB := Lib.hid hB
   have i4 := hB.i4
   clear hB
   rcases (show i = 0 ∨ i = 1 ∨ i = 2 ∨ i = 3 ∨ i = 4 by omega) with rfl | rfl | rfl | rfl | rfl
   ·have HS := Lib.hid (HB.out.step (by decide) (p := x0) (q := y0) rfl rfl)
    have H1 := Lib.hid (fun W => ar_before x0 y0 a b X0 Y0 Ba Bb W)
    have H2 := Lib.hid (fun W => ar_before c d x0 y0 Bc Bd X0 Y0 W)
    have hI := ixB_0 x0 x1 y0 y1
    have kI : IntKind.i64.wrap (0 + 1) = 0 + 1 := by decide
    cases g1 : befB x0 y0 a b <;> cases g2 : befB c d x0 y0
    all_goals rw [g1, g2] at HS
    all_goals rw [g1] at H1
    all_goals rw [g2] at H2
    all_goals simp only [Bool.false_eq_true, ↓reduceIte] at HS
    all_goals clear g1 g2
    all_goals go_wp2_with (go_at_call 107; first | ((with_reducible refine (H1.out _).mono ?_); rintro e' w' ⟨rfl, f1, rfl⟩; rw [lay_bw]) | ((with_reducible refine (H2.out _).mono ?_); rintro e' w' ⟨rfl, f2, rfl⟩; rw [lay_bw]))
    all_goals exact ⟨⟨0 + 1, _, _, _, _, _, rfl, (lay_fold w [_, _, _, _] _).choose_spec, HS.out⟩, by simp only [intOf]; omega⟩
   ·have HS := Lib.hid (HB.out.step (by decide) (p := x0) (q := y1) rfl rfl)
    have H1 := Lib.hid (fun W => ar_before x0 y1 a b X0 Y1 Ba Bb W)
    have H2 := Lib.hid (fun W => ar_before c d x0 y1 Bc Bd X0 Y1 W)
    have hI := ixB_1 x0 x1 y0 y1
    have kI : IntKind.i64.wrap (1 + 1) = 1 + 1 := by decide
    cases g1 : befB x0 y1 a b <;> cases g2 : befB c d x0 y1
    all_goals rw [g1, g2] at HS
    all_goals rw [g1] at H1
    all_goals rw [g2] at H2
    all_goals simp only [Bool.false_eq_true, ↓reduceIte] at HS
    all_goals clear g1 g2
    all_goals go_wp2_with (go_at_call 107; first | ((with_reducible refine (H1.out _).mono ?_); rintro e' w' ⟨rfl, f1, rfl⟩; rw [lay_bw]) | ((with_reducible refine (H2.out _).mono ?_); rintro e' w' ⟨rfl, f2, rfl⟩; rw [lay_bw]))
    all_goals exact ⟨⟨1 + 1, _, _, _, _, _, rfl, (lay_fold w [_, _, _, _] _).choose_spec, HS.out⟩, by simp only [intOf]; omega⟩
   ·have HS := Lib.hid (HB.out.step (by decide) (p := x1) (q := y0) rfl rfl)
    have H1 := Lib.hid (fun W => ar_before x1 y0 a b X1 Y0 Ba Bb W)
    have H2 := Lib.hid (fun W => ar_before c d x1 y0 Bc Bd X1 Y0 W)
    have hI := ixB_2 x0 x1 y0 y1
    have kI : IntKind.i64.wrap (2 + 1) = 2 + 1 := by decide
    cases g1 : befB x1 y0 a b <;> cases g2 : befB c d x1 y0
    all_goals rw [g1, g2] at HS
    all_goals rw [g1] at H1
    all_goals rw [g2] at H2
    all_goals simp only [Bool.false_eq_true, ↓reduceIte] at HS
    all_goals clear g1 g2
    all_goals go_wp2_with (go_at_call 107; first | ((with_reducible refine (H1.out _).mono ?_); rintro e' w' ⟨rfl, f1, rfl⟩; rw [lay_bw]) | ((with_reducible refine (H2.out _).mono ?_); rintro e' w' ⟨rfl, f2, rfl⟩; rw [lay_bw]))
    all_goals exact ⟨⟨2 + 1, _, _, _, _, _, rfl, (lay_fold w [_, _, _, _] _).choose_spec, HS.out⟩, by simp only [intOf]; omega⟩
   ·have HS := Lib.hid (HB.out.step (by decide) (p := x1) (q := y1) rfl rfl)
    have H1 := Lib.hid (fun W => ar_before x1 y1 a b X1 Y1 Ba Bb W)
    have H2 := Lib.hid (fun W => ar_before c d x1 y1 Bc Bd X1 Y1 W)
    have hI := ixB_3 x0 x1 y0 y1
    have kI : IntKind.i64.wrap (3 + 1) = 3 + 1 := by decide
    cases g1 : befB x1 y1 a b <;> cases g2 : befB c d x1 y1
    all_goals rw [g1, g2] at HS
    all_goals rw [g1] at H1
    all_goals rw [g2] at H2
    all_goals simp only [Bool.false_eq_true, ↓reduceIte] at HS
    all_goals clear g1 g2
    all_goals go_wp2_with (go_at_call 107; first | ((with_reducible refine (H1.out _).mono ?_); rintro e' w' ⟨rfl, f1, rfl⟩; rw [lay_bw]) | ((with_reducible refine (H2.out _).mono ?_); rintro e' w' ⟨rfl, f2, rfl⟩; rw [lay_bw]))
    all_goals exact ⟨⟨3 + 1, _, _, _, _, _, rfl, (lay_fold w [_, _, _, _] _).choose_spec, HS.out⟩, by simp only [intOf]; omega⟩
   ·have HA1 := Lib.hid (fun W => ar_angG a b na Ba Bb W)
    have HA2 := Lib.hid (fun W => ar_angG c d nc Bc Bd W)
    have HRes := Lib.hid (HB.out.res HN.out)
    obtain ⟨r0, r1⟩ := angF_bd a b
    obtain ⟨s0, s1⟩ := angF_bd c d
    generalize angF a b = R at *
    generalize angF c d = S at *
    obtain ⟨r, ex1⟩ := R
    obtain ⟨s, ex2⟩ := S
    dsimp only at r0 r1 s0 s1
    go_wp2_with fail
    refine (HA1.out _).mono ?_
    rintro e' w' ⟨rfl, f1, rfl⟩
    dsimp only
    rw [lay_bw]
    go_wp2_with fail
    refine (HA2.out _).mono ?_
    rintro e' w' ⟨rfl, f2, rfl⟩
    dsimp only
    have kt : IntKind.i64.wrap (s + 21600000) = s + 21600000 := IntWalk.i64_in _ (by omega)
    have kt2 : IntKind.i64.wrap (s + 21600000 + 1) = s + 21600000 + 1 := IntWalk.i64_in _ (by omega)
    have kt3 : IntKind.i64.wrap (s + 1) = s + 1 := IntWalk.i64_in _ (by omega)
    rw [lay_bw]
    clear r0 r1 s0 s1 HA1 HA2
    by_cases hlt : s < r
    ·cases ex2
     ·go_wp2_with fail
      exact bodyPost_ret (v := .tuple #[(.agg #[.int .i64 (r), .int .i64 (s + 21600000 + 1)]), .int .i64 0]) (by simp [results, Tryz.results47, go_sem]) rfl ⟨r, s + 21600000 + 1, rfl, by rw [HRes.out]; simp [hlt], lay_ex _ _⟩
     ·go_wp2_with fail
      exact bodyPost_ret (v := .tuple #[(.agg #[.int .i64 (r), .int .i64 (s + 21600000)]), .int .i64 0]) (by simp [results, Tryz.results47, go_sem]) rfl ⟨r, s + 21600000, rfl, by rw [HRes.out]; simp [hlt], lay_ex _ _⟩
    ·cases ex2
     ·go_wp2_with fail
      exact bodyPost_ret (v := .tuple #[(.agg #[.int .i64 (r), .int .i64 (s + 1)]), .int .i64 0]) (by simp [results, Tryz.results47, go_sem]) rfl ⟨r, s + 1, rfl, by rw [HRes.out]; simp [show ¬ s < r by omega], lay_ex _ _⟩
     ·go_wp2_with fail
      exact bodyPost_ret (v := .tuple #[(.agg #[.int .i64 (r), .int .i64 (s)]), .int .i64 0]) (by simp [results, Tryz.results47, go_sem]) rfl ⟨r, s, rfl, by rw [HRes.out]; simp [show ¬ s < r by omega], lay_ex _ _⟩
set_option maxHeartbeats 4000000 in
set_option maxRecDepth 100000 in
theorem ar_BearO (y0 y1 x0 x1 : Int) (hy : fxB y0 y1 = true) (hx : fxB x0 x1 = true) (n1 : x0 ≤ 0) (n2 : 0 ≤ x1) (n3 : y0 ≤ 0) (n4 : 0 ≤ y1) (w : World) :
  Calls Tryz.prog 47 #[(.agg #[.int .i64 (y0), .int .i64 (y1)]), (.agg #[.int .i64 (x0), .int .i64 (x1)])] w fun e w' => e = .returned (.tuple #[(.agg #[.int .i64 (0), .int .i64 (21600000)]), .int .i64 0]) ∧ ∃ d, w' = bw w d := by
 have HV1 := Lib.hid (fun W => fx_ValidG x0 x1 W)
 have HV2 := Lib.hid (fun W => fx_ValidG y0 y1 W)
 rw [hx] at HV1
 rw [hy] at HV2
 clear hx hy
 refine lay_start ?_
 go_enter Tryz.func47, Tryz.ntmps47
 go_wp2_with (go_at_call 103; first | ((with_reducible refine (HV1.out _).mono ?_); rintro e w' ⟨rfl, d1, rfl⟩; rw [lay_bw]) | ((with_reducible refine (HV2.out _).mono ?_); rintro e w' ⟨rfl, d2, rfl⟩; rw [lay_bw]))
 exact bodyPost_ret (v := .tuple #[(.agg #[.int .i64 (0), .int .i64 (21600000)]), .int .i64 0]) (by simp [results, Tryz.results47, go_sem]) rfl ⟨rfl, lay_ex _ _⟩
theorem ar_BearG (y0 y1 x0 x1 : Int) (hy : fxB y0 y1 = true) (hx : fxB x0 x1 = true) (w : World) :
  Calls Tryz.prog 47 #[(.agg #[.int .i64 (y0), .int .i64 (y1)]), (.agg #[.int .i64 (x0), .int .i64 (x1)])] w fun e w' => e = .returned (.tuple #[(.agg #[.int .i64 ((brF x0 x1 y0 y1).1), .int .i64 ((brF x0 x1 y0 y1).2)]), .int .i64 0]) ∧ ∃ d, w' = bw w d := by
 by_cases n1 : x0 ≤ 0
 ·by_cases n2 : 0 ≤ x1
  ·by_cases n3 : y0 ≤ 0
   ·by_cases n4 : 0 ≤ y1
    ·have e : brF x0 x1 y0 y1 = (0, 21600000) := if_pos ⟨n1, n2, n3, n4⟩
     rw [e]
     exact ar_BearO y0 y1 x0 x1 hy hx n1 n2 n3 n4 w
    ·refine (ar_BearD y0 y1 x0 x1 hy hx n1 n2 n3 n4 w).mono ?_
     rintro e w' ⟨m0, m1, rfl, h, d⟩; rw [h]; exact ⟨rfl, d⟩
   ·refine (ar_BearC y0 y1 x0 x1 hy hx n1 n2 n3 w).mono ?_
    rintro e w' ⟨m0, m1, rfl, h, d⟩; rw [h]; exact ⟨rfl, d⟩
  ·refine (ar_BearB y0 y1 x0 x1 hy hx n1 n2 w).mono ?_
   rintro e w' ⟨m0, m1, rfl, h, d⟩; rw [h]; exact ⟨rfl, d⟩
 ·refine (ar_BearA y0 y1 x0 x1 hy hx n1 w).mono ?_
  rintro e w' ⟨m0, m1, rfl, h, d⟩; rw [h]; exact ⟨rfl, d⟩
end Go.Proofs.YtcbicpbbjbkiaaaGreatDoor
