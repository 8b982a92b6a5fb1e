/- Contracts and plain laws, several texts in one: Ne6; F4M; F4S; F4D; R25; Rw -/
import Derived.Test.YtnnmfdeeicpdlaaGreatProg
import Derived.WalkKit
import Derived.WalkSpells
import Derived.WalkLawsBesides
import Derived.Lib.Hide
import Derived.BigQuiet
import Derived.Test.YtnnmfdeeicpdlaaGreatPAA
import Derived.Test.YtnnmfdeeicpdlaaGreatPAB
import Derived.Test.YtnnmfdeeicpdlaaGreatPAD
import Derived.Test.YtnnmfdeeicpdlaaGreatPAR
import Derived.Test.YtnnmfdeeicpdlaaGreatPBL
/- The reference's Origin and Bearing. -/
namespace Go.Proofs.YtnnmfdeeicpdlaaGreat
set_option maxHeartbeats 4000000
open Go.RowKit

theorem r7_Origin (y0 y1 x0 x1 : Int) (w : World) :
    Calls Tryz.prog 124 #[(.agg #[.int .i64 (y0), .int .i64 (y1)]), (.agg #[.int .i64 (x0), .int .i64 (x1)])] w fun e w' => e = .returned (.bool (decide (oriB x0 x1 y0 y1))) ∧ ∃ d, w' = bw w d := by
  by_cases h : oriB x0 x1 y0 y1
  · rw [decide_eq_true h]
    obtain ⟨a, b, c, d⟩ := h
    have t1 : decide (y0 ≤ 0) = true := decide_eq_true c
    have t2 : decide (0 ≤ y1) = true := decide_eq_true d
    have t3 : decide (x0 ≤ 0) = true := decide_eq_true a
    have t4 : decide (0 ≤ x1) = true := decide_eq_true b
    clear a b c d
    refine lay_start ?_
    go_enter Tryz.func124, Tryz.ntmps124
    go_wp2
    go_ret
    exact ⟨rfl, lay_ex _ _⟩
  · rw [decide_eq_false h]
    unfold oriB at h
    refine lay_start ?_
    go_enter Tryz.func124, Tryz.ntmps124
    go_wp2
    all_goals first | (exfalso; omega) | (go_ret; exact ⟨rfl, lay_ex _ _⟩) | (go_ret; exact ⟨by simp; omega, lay_ex _ _⟩)
theorem lay_join3 {w : World} {T : List (Obj ⊕ Ext)} (a b c : Ext) : ∃ z, Go.Proofs.YtnnmfdeeicpdlaaGreat.lay w (.inr a :: .inr b :: .inr c :: T) = Go.Proofs.YtnnmfdeeicpdlaaGreat.lay w (.inr z :: T) := by
  obtain ⟨z1, h1⟩ : ∃ z, Go.Proofs.YtnnmfdeeicpdlaaGreat.lay w (.inr b :: .inr c :: T) = Go.Proofs.YtnnmfdeeicpdlaaGreat.lay w (.inr z :: T) := ⟨_, bw_bw _ _ _⟩
  exact ⟨_, (congrArg (fun W => bw W a) h1).trans (bw_bw _ _ _)⟩
theorem fstS_bd {x0 x1 y0 y1 : Int} (X0 : Bd31 x0) (X1 : Bd31 x1) (Y0 : Bd31 y0) (Y1 : Bd31 y1) (hx : x0 ≤ x1) (hy : y0 ≤ y1) (hn : ¬ oriB x0 x1 y0 y1) {i : Nat} {a b : Int} (e : fstS x0 x1 y0 y1 i = (a, b)) : Bd31 a ∧ Bd31 b ∧ ¬ (a = 0 ∧ b = 0) := by
  obtain ⟨j, -, hj⟩ := fstS_cor x0 x1 y0 y1 i
  rw [e, Prod.mk.injEq] at hj
  obtain ⟨rfl, rfl⟩ := hj
  exact ⟨crX_bd X0 X1 _, crY_bd Y0 Y1 _, cor_ne hx hy hn _⟩
theorem lstS_bd {x0 x1 y0 y1 : Int} (X0 : Bd31 x0) (X1 : Bd31 x1) (Y0 : Bd31 y0) (Y1 : Bd31 y1) (hx : x0 ≤ x1) (hy : y0 ≤ y1) (hn : ¬ oriB x0 x1 y0 y1) {i : Nat} {a b : Int} (e : lstS x0 x1 y0 y1 i = (a, b)) : Bd31 a ∧ Bd31 b ∧ ¬ (a = 0 ∧ b = 0) := by
  obtain ⟨j, -, hj⟩ := lstS_cor x0 x1 y0 y1 i
  rw [e, Prod.mk.injEq] at hj
  obtain ⟨rfl, rfl⟩ := hj
  exact ⟨crX_bd X0 X1 _, crY_bd Y0 Y1 _, cor_ne hx hy hn _⟩
theorem fstS_next {x0 x1 y0 y1 : Int} {i : Nat} {a b : Int} (p q : Int) (e : fstS x0 x1 y0 y1 i = (a, b)) (hp : crX x0 x1 (i + 1) = p) (hq : crY y0 y1 (i + 1) = q) : fstS x0 x1 y0 y1 (i + 1) = if befR p q a b = true then (p, q) else (a, b) := by
  show (if befR (crX x0 x1 (i + 1)) (crY y0 y1 (i + 1)) (fstS x0 x1 y0 y1 i).1 (fstS x0 x1 y0 y1 i).2 = true then (crX x0 x1 (i + 1), crY y0 y1 (i + 1)) else fstS x0 x1 y0 y1 i) = _
  rw [e, hp, hq]
theorem lstS_next {x0 x1 y0 y1 : Int} {i : Nat} {a b : Int} (p q : Int) (e : lstS x0 x1 y0 y1 i = (a, b)) (hp : crX x0 x1 (i + 1) = p) (hq : crY y0 y1 (i + 1) = q) : lstS x0 x1 y0 y1 (i + 1) = if befR a b p q = true then (p, q) else (a, b) := by
  show (if befR (lstS x0 x1 y0 y1 i).1 (lstS x0 x1 y0 y1 i).2 (crX x0 x1 (i + 1)) (crY y0 y1 (i + 1)) = true then (crX x0 x1 (i + 1), crY y0 y1 (i + 1)) else lstS x0 x1 y0 y1 i) = _
  rw [e, hp, hq]
set_option maxRecDepth 100000 in
theorem r7_BearG (y0 y1 x0 x1 : Int) (hy : fxB y0 y1 = true) (hx : fxB x0 x1 = true) (w : World) :
    Calls Tryz.prog 52 #[(.agg #[.int .i64 (y0), .int .i64 (y1)]), (.agg #[.int .i64 (x0), .int .i64 (x1)])] w fun e w' => e = .returned (.tuple #[(.agg #[.int .i64 ((brF x0 x1 y0 y1).1), .int .i64 ((brF x0 x1 y0 y1).2)]), .int .i64 0]) ∧ ∃ d, w' = bw w d := by
  have HV1 := Lib.hid (fun W => r7_Valid y0 y1 W)
  have HV2 := Lib.hid (fun W => r7_Valid x0 x1 W)
  rw [hy] at HV1
  rw [hx] at HV2
  have HO := Lib.hid (fun W => r7_Origin y0 y1 x0 x1 W)
  obtain ⟨x01, xb0, xb1⟩ := fxB_iff.1 hx
  obtain ⟨y01, yb0, yb1⟩ := fxB_iff.1 hy
  by_cases h : oriB x0 x1 y0 y1
  · rw [decide_eq_true h] at HO
    rw [show brF x0 x1 y0 y1 = (0, 21600000) from if_pos h]
    clear h xb0 xb1 yb0 yb1 x01 y01 hx hy
    refine lay_start ?_
    go_enter Tryz.func52, Tryz.ntmps52
    go_wp2_with (first | (go_at_call 123; first | ((with_reducible refine (HV1.out _).mono ?_); rintro e w' ⟨rfl, d1, rfl⟩; rw [lay_bw]) | ((with_reducible refine (HV2.out _).mono ?_); rintro e w' ⟨rfl, d2, rfl⟩; rw [lay_bw])) | (go_at_call 124; refine (HO.out _).mono ?_; rintro e w' ⟨rfl, d3, rfl⟩; rw [lay_bw]))
    exact bodyPost_ret (v := .tuple #[(.agg #[.int .i64 (0), .int .i64 (21600000)]), .int .i64 0]) (by simp [results, Tryz.results52, go_sem]) rfl ⟨rfl, lay_ex _ _⟩
  · rw [decide_eq_false h] at HO
    rw [← ref_br x01 y01 h]
    have X0 : Bd31 x0 := ⟨by omega, by omega⟩
    have X1 : Bd31 x1 := ⟨by omega, by omega⟩
    have Y0 : Bd31 y0 := ⟨by omega, by omega⟩
    have Y1 : Bd31 y1 := ⟨by omega, by omega⟩
    have HBef := Lib.hid (fun a b c d W ha hb hc hd => r7_before a b c d W ha hb hc hd)
    have HAn := Lib.hid (fun X Y W hX hY hn => r7_Angle X Y W hX hY hn)
    have HFb := Lib.hid (fun i a b (e : fstS x0 x1 y0 y1 i = (a, b)) => fstS_bd X0 X1 Y0 Y1 x01 y01 h e)
    have HLb := Lib.hid (fun i a b (e : lstS x0 x1 y0 y1 i = (a, b)) => lstS_bd X0 X1 Y0 Y1 x01 y01 h e)
    have HXY := Lib.hid (And.intro X0 (And.intro X1 (And.intro Y0 Y1)))
    obtain ⟨RB, hRB⟩ : ∃ RB, refB (fstS x0 x1 y0 y1 3) (lstS x0 x1 y0 y1 3) = RB := ⟨_, rfl⟩
    rw [hRB]
    have HRB := Lib.hid hRB
    clear hRB X0 X1 Y0 Y1 h xb0 xb1 yb0 yb1 x01 y01 hx hy
    refine lay_start ?_
    go_enter Tryz.func52, Tryz.ntmps52
    go_wp2_with (first | (go_at_call 123; first | ((with_reducible refine (HV1.out _).mono ?_); rintro e w' ⟨rfl, d1, rfl⟩; rw [lay_bw]) | ((with_reducible refine (HV2.out _).mono ?_); rintro e w' ⟨rfl, d2, rfl⟩; rw [lay_bw])) | (go_at_call 124; refine (HO.out _).mono ?_; rintro e w' ⟨rfl, d3, rfl⟩; rw [lay_bw]))
    go_loopw [9] (fun v9 wr => ∃ (i : Nat) (a b c g : Int) (dd : Ext), i ≤ 3 ∧ v9 = .int .i64 ((i + 1 : Nat) : Int) ∧ fstS x0 x1 y0 y1 i = (a, b) ∧ lstS x0 x1 y0 y1 i = (c, g) ∧ wr = lay w [.inr dd, .inl (.cells #[.int .i64 c, .int .i64 g] 172 (0, 0)), .inl (.cells #[.int .i64 a, .int .i64 b] 172 (0, 0)), .inl (.cells #[.int .i64 x0, .int .i64 y0, .int .i64 x0, .int .i64 y1, .int .i64 x1, .int .i64 y0, .int .i64 x1, .int .i64 y1] 172 (0, 0)), .inr d3, .inr d2, .inr d1, .inl (.cells #[.int .i64 0, .int .i64 0] 23 (0, 0)), .inl (.cells #[.int .i64 x0, .int .i64 x1] 59 (0, 0)), .inl (.cells #[.int .i64 y0, .int .i64 y1] 59 (0, 0))]) (fun v9 _ => (5 - intOf v9).toNat)
    case atStart => exact ⟨0, x0, y0, x0, y0, noExt _, by decide, rfl, rfl, rfl, (bw_noExt _).symm⟩
    case round =>
      obtain ⟨i, a, b, c, g, dd, hi, rfl, hf, hl, rfl⟩ := hrel
      obtain ⟨A0, B0, -⟩ := HFb.out i a b hf
      obtain ⟨C0, D0, -⟩ := HLb.out i c g hl
      obtain ⟨X0, X1, Y0, Y1⟩ := HXY.out
      have hi4 : i = 0 ∨ i = 1 ∨ i = 2 ∨ i = 3 := by omega
      rcases hi4 with rfl | rfl | rfl | rfl
      · have hf2 := fstS_next x0 y1 hf rfl rfl
        have hl2 := lstS_next x0 y1 hl rfl rfl
        have HB1 := Lib.hid (fun W => HBef.out x0 y1 a b W X0 Y1 A0 B0)
        have HB2 := Lib.hid (fun W => HBef.out c g x0 y1 W C0 D0 X0 Y1)
        clear A0 B0 C0 D0 X0 X1 Y0 Y1 hi hf hl
        cases h1 : befR x0 y1 a b
        · rw [h1, if_neg Bool.false_ne_true] at hf2
          rw [h1] at HB1
          cases h2 : befR c g x0 y1
          · rw [h2, if_neg Bool.false_ne_true] at hl2
            rw [h2] at HB2
            have HF2 := Lib.hid (And.intro hf2 hl2)
            clear hf2 hl2 h1 h2
            go_wp2_with fail
            refine region_bw (by kernel_rfl) (by kernel_rfl) ?_
            repeat (go_big_quiet_step ((first | (go_at_call 125; first | (with_reducible refine bq (HB1.out _) ?_; exact (fun d => lay_join _ _ _ d)) | (with_reducible refine bq (HB1.out _) ?_; exact (fun d => ⟨d, rfl⟩))))))
            refine wpQuiet_nil ?_
            rintro w' ⟨d, rfl⟩
            rw [lay_bw]
            go_wp2_with fail
            refine region_bw (by kernel_rfl) (by kernel_rfl) ?_
            repeat (go_big_quiet_step ((first | (go_at_call 125; first | (with_reducible refine bq (HB2.out _) ?_; exact (fun d => lay_join _ _ _ d)) | (with_reducible refine bq (HB2.out _) ?_; exact (fun d => ⟨d, rfl⟩))))))
            refine wpQuiet_nil ?_
            rintro w' ⟨d, rfl⟩
            rw [lay_bw]
            go_wp2_with fail
            go_roundw
            case rel => exact ⟨1, a, b, c, g, _, by decide, rfl, HF2.out.1, HF2.out.2, (lay_join3 _ _ _).choose_spec⟩
            case measure => simp [intOf]
          · rw [h2, if_pos rfl] at hl2
            rw [h2] at HB2
            have HF2 := Lib.hid (And.intro hf2 hl2)
            clear hf2 hl2 h1 h2
            go_wp2_with fail
            refine region_bw (by kernel_rfl) (by kernel_rfl) ?_
            repeat (go_big_quiet_step ((first | (go_at_call 125; first | (with_reducible refine bq (HB1.out _) ?_; exact (fun d => lay_join _ _ _ d)) | (with_reducible refine bq (HB1.out _) ?_; exact (fun d => ⟨d, rfl⟩))))))
            refine wpQuiet_nil ?_
            rintro w' ⟨d, rfl⟩
            rw [lay_bw]
            go_wp2_with fail
            refine region_bw (by kernel_rfl) (by kernel_rfl) ?_
            repeat (go_big_quiet_step ((first | (go_at_call 125; first | (with_reducible refine bq (HB2.out _) ?_; exact (fun d => lay_join _ _ _ d)) | (with_reducible refine bq (HB2.out _) ?_; exact (fun d => ⟨d, rfl⟩))))))
            refine wpQuiet_nil ?_
            rintro w' ⟨d, rfl⟩
            rw [lay_bw]
            go_wp2_with fail
            go_roundw
            case rel => exact ⟨1, a, b, x0, y1, _, by decide, rfl, HF2.out.1, HF2.out.2, (lay_join3 _ _ _).choose_spec⟩
            case measure => simp [intOf]
        · rw [h1, if_pos rfl] at hf2
          rw [h1] at HB1
          cases h2 : befR c g x0 y1
          · rw [h2, if_neg Bool.false_ne_true] at hl2
            rw [h2] at HB2
            have HF2 := Lib.hid (And.intro hf2 hl2)
            clear hf2 hl2 h1 h2
            go_wp2_with fail
            refine region_bw (by kernel_rfl) (by kernel_rfl) ?_
            repeat (go_big_quiet_step ((first | (go_at_call 125; first | (with_reducible refine bq (HB1.out _) ?_; exact (fun d => lay_join _ _ _ d)) | (with_reducible refine bq (HB1.out _) ?_; exact (fun d => ⟨d, rfl⟩))))))
            refine wpQuiet_nil ?_
            rintro w' ⟨d, rfl⟩
            rw [lay_bw]
            go_wp2_with fail
            refine region_bw (by kernel_rfl) (by kernel_rfl) ?_
            repeat (go_big_quiet_step ((first | (go_at_call 125; first | (with_reducible refine bq (HB2.out _) ?_; exact (fun d => lay_join _ _ _ d)) | (with_reducible refine bq (HB2.out _) ?_; exact (fun d => ⟨d, rfl⟩))))))
            refine wpQuiet_nil ?_
            rintro w' ⟨d, rfl⟩
            rw [lay_bw]
            go_wp2_with fail
            go_roundw
            case rel => exact ⟨1, x0, y1, c, g, _, by decide, rfl, HF2.out.1, HF2.out.2, (lay_join3 _ _ _).choose_spec⟩
            case measure => simp [intOf]
          · rw [h2, if_pos rfl] at hl2
            rw [h2] at HB2
            have HF2 := Lib.hid (And.intro hf2 hl2)
            clear hf2 hl2 h1 h2
            go_wp2_with fail
            refine region_bw (by kernel_rfl) (by kernel_rfl) ?_
            repeat (go_big_quiet_step ((first | (go_at_call 125; first | (with_reducible refine bq (HB1.out _) ?_; exact (fun d => lay_join _ _ _ d)) | (with_reducible refine bq (HB1.out _) ?_; exact (fun d => ⟨d, rfl⟩))))))
            refine wpQuiet_nil ?_
            rintro w' ⟨d, rfl⟩
            rw [lay_bw]
            go_wp2_with fail
            refine region_bw (by kernel_rfl) (by kernel_rfl) ?_
            repeat (go_big_quiet_step ((first | (go_at_call 125; first | (with_reducible refine bq (HB2.out _) ?_; exact (fun d => lay_join _ _ _ d)) | (with_reducible refine bq (HB2.out _) ?_; exact (fun d => ⟨d, rfl⟩))))))
            refine wpQuiet_nil ?_
            rintro w' ⟨d, rfl⟩
            rw [lay_bw]
            go_wp2_with fail
            go_roundw
            case rel => exact ⟨1, x0, y1, x0, y1, _, by decide, rfl, HF2.out.1, HF2.out.2, (lay_join3 _ _ _).choose_spec⟩
            case measure => simp [intOf]
      · have hf2 := fstS_next x1 y0 hf rfl rfl
        have hl2 := lstS_next x1 y0 hl rfl rfl
        have HB1 := Lib.hid (fun W => HBef.out x1 y0 a b W X1 Y0 A0 B0)
        have HB2 := Lib.hid (fun W => HBef.out c g x1 y0 W C0 D0 X1 Y0)
        clear A0 B0 C0 D0 X0 X1 Y0 Y1 hi hf hl
        cases h1 : befR x1 y0 a b
        · rw [h1, if_neg Bool.false_ne_true] at hf2
          rw [h1] at HB1
          cases h2 : befR c g x1 y0
          · rw [h2, if_neg Bool.false_ne_true] at hl2
            rw [h2] at HB2
            have HF2 := Lib.hid (And.intro hf2 hl2)
            clear hf2 hl2 h1 h2
            go_wp2_with fail
            refine region_bw (by kernel_rfl) (by kernel_rfl) ?_
            repeat (go_big_quiet_step ((first | (go_at_call 125; first | (with_reducible refine bq (HB1.out _) ?_; exact (fun d => lay_join _ _ _ d)) | (with_reducible refine bq (HB1.out _) ?_; exact (fun d => ⟨d, rfl⟩))))))
            refine wpQuiet_nil ?_
            rintro w' ⟨d, rfl⟩
            rw [lay_bw]
            go_wp2_with fail
            refine region_bw (by kernel_rfl) (by kernel_rfl) ?_
            repeat (go_big_quiet_step ((first | (go_at_call 125; first | (with_reducible refine bq (HB2.out _) ?_; exact (fun d => lay_join _ _ _ d)) | (with_reducible refine bq (HB2.out _) ?_; exact (fun d => ⟨d, rfl⟩))))))
            refine wpQuiet_nil ?_
            rintro w' ⟨d, rfl⟩
            rw [lay_bw]
            go_wp2_with fail
            go_roundw
            case rel => exact ⟨2, a, b, c, g, _, by decide, rfl, HF2.out.1, HF2.out.2, (lay_join3 _ _ _).choose_spec⟩
            case measure => simp [intOf]
          · rw [h2, if_pos rfl] at hl2
            rw [h2] at HB2
            have HF2 := Lib.hid (And.intro hf2 hl2)
            clear hf2 hl2 h1 h2
            go_wp2_with fail
            refine region_bw (by kernel_rfl) (by kernel_rfl) ?_
            repeat (go_big_quiet_step ((first | (go_at_call 125; first | (with_reducible refine bq (HB1.out _) ?_; exact (fun d => lay_join _ _ _ d)) | (with_reducible refine bq (HB1.out _) ?_; exact (fun d => ⟨d, rfl⟩))))))
            refine wpQuiet_nil ?_
            rintro w' ⟨d, rfl⟩
            rw [lay_bw]
            go_wp2_with fail
            refine region_bw (by kernel_rfl) (by kernel_rfl) ?_
            repeat (go_big_quiet_step ((first | (go_at_call 125; first | (with_reducible refine bq (HB2.out _) ?_; exact (fun d => lay_join _ _ _ d)) | (with_reducible refine bq (HB2.out _) ?_; exact (fun d => ⟨d, rfl⟩))))))
            refine wpQuiet_nil ?_
            rintro w' ⟨d, rfl⟩
            rw [lay_bw]
            go_wp2_with fail
            go_roundw
            case rel => exact ⟨2, a, b, x1, y0, _, by decide, rfl, HF2.out.1, HF2.out.2, (lay_join3 _ _ _).choose_spec⟩
            case measure => simp [intOf]
        · rw [h1, if_pos rfl] at hf2
          rw [h1] at HB1
          cases h2 : befR c g x1 y0
          · rw [h2, if_neg Bool.false_ne_true] at hl2
            rw [h2] at HB2
            have HF2 := Lib.hid (And.intro hf2 hl2)
            clear hf2 hl2 h1 h2
            go_wp2_with fail
            refine region_bw (by kernel_rfl) (by kernel_rfl) ?_
            repeat (go_big_quiet_step ((first | (go_at_call 125; first | (with_reducible refine bq (HB1.out _) ?_; exact (fun d => lay_join _ _ _ d)) | (with_reducible refine bq (HB1.out _) ?_; exact (fun d => ⟨d, rfl⟩))))))
            refine wpQuiet_nil ?_
            rintro w' ⟨d, rfl⟩
            rw [lay_bw]
            go_wp2_with fail
            refine region_bw (by kernel_rfl) (by kernel_rfl) ?_
            repeat (go_big_quiet_step ((first | (go_at_call 125; first | (with_reducible refine bq (HB2.out _) ?_; exact (fun d => lay_join _ _ _ d)) | (with_reducible refine bq (HB2.out _) ?_; exact (fun d => ⟨d, rfl⟩))))))
            refine wpQuiet_nil ?_
            rintro w' ⟨d, rfl⟩
            rw [lay_bw]
            go_wp2_with fail
            go_roundw
            case rel => exact ⟨2, x1, y0, c, g, _, by decide, rfl, HF2.out.1, HF2.out.2, (lay_join3 _ _ _).choose_spec⟩
            case measure => simp [intOf]
          · rw [h2, if_pos rfl] at hl2
            rw [h2] at HB2
            have HF2 := Lib.hid (And.intro hf2 hl2)
            clear hf2 hl2 h1 h2
            go_wp2_with fail
            refine region_bw (by kernel_rfl) (by kernel_rfl) ?_
            repeat (go_big_quiet_step ((first | (go_at_call 125; first | (with_reducible refine bq (HB1.out _) ?_; exact (fun d => lay_join _ _ _ d)) | (with_reducible refine bq (HB1.out _) ?_; exact (fun d => ⟨d, rfl⟩))))))
            refine wpQuiet_nil ?_
            rintro w' ⟨d, rfl⟩
            rw [lay_bw]
            go_wp2_with fail
            refine region_bw (by kernel_rfl) (by kernel_rfl) ?_
            repeat (go_big_quiet_step ((first | (go_at_call 125; first | (with_reducible refine bq (HB2.out _) ?_; exact (fun d => lay_join _ _ _ d)) | (with_reducible refine bq (HB2.out _) ?_; exact (fun d => ⟨d, rfl⟩))))))
            refine wpQuiet_nil ?_
            rintro w' ⟨d, rfl⟩
            rw [lay_bw]
            go_wp2_with fail
            go_roundw
            case rel => exact ⟨2, x1, y0, x1, y0, _, by decide, rfl, HF2.out.1, HF2.out.2, (lay_join3 _ _ _).choose_spec⟩
            case measure => simp [intOf]
      · have hf2 := fstS_next x1 y1 hf rfl rfl
        have hl2 := lstS_next x1 y1 hl rfl rfl
        have HB1 := Lib.hid (fun W => HBef.out x1 y1 a b W X1 Y1 A0 B0)
        have HB2 := Lib.hid (fun W => HBef.out c g x1 y1 W C0 D0 X1 Y1)
        clear A0 B0 C0 D0 X0 X1 Y0 Y1 hi hf hl
        cases h1 : befR x1 y1 a b
        · rw [h1, if_neg Bool.false_ne_true] at hf2
          rw [h1] at HB1
          cases h2 : befR c g x1 y1
          · rw [h2, if_neg Bool.false_ne_true] at hl2
            rw [h2] at HB2
            have HF2 := Lib.hid (And.intro hf2 hl2)
            clear hf2 hl2 h1 h2
            go_wp2_with fail
            refine region_bw (by kernel_rfl) (by kernel_rfl) ?_
            repeat (go_big_quiet_step ((first | (go_at_call 125; first | (with_reducible refine bq (HB1.out _) ?_; exact (fun d => lay_join _ _ _ d)) | (with_reducible refine bq (HB1.out _) ?_; exact (fun d => ⟨d, rfl⟩))))))
            refine wpQuiet_nil ?_
            rintro w' ⟨d, rfl⟩
            rw [lay_bw]
            go_wp2_with fail
            refine region_bw (by kernel_rfl) (by kernel_rfl) ?_
            repeat (go_big_quiet_step ((first | (go_at_call 125; first | (with_reducible refine bq (HB2.out _) ?_; exact (fun d => lay_join _ _ _ d)) | (with_reducible refine bq (HB2.out _) ?_; exact (fun d => ⟨d, rfl⟩))))))
            refine wpQuiet_nil ?_
            rintro w' ⟨d, rfl⟩
            rw [lay_bw]
            go_wp2_with fail
            go_roundw
            case rel => exact ⟨3, a, b, c, g, _, by decide, rfl, HF2.out.1, HF2.out.2, (lay_join3 _ _ _).choose_spec⟩
            case measure => simp [intOf]
          · rw [h2, if_pos rfl] at hl2
            rw [h2] at HB2
            have HF2 := Lib.hid (And.intro hf2 hl2)
            clear hf2 hl2 h1 h2
            go_wp2_with fail
            refine region_bw (by kernel_rfl) (by kernel_rfl) ?_
            repeat (go_big_quiet_step ((first | (go_at_call 125; first | (with_reducible refine bq (HB1.out _) ?_; exact (fun d => lay_join _ _ _ d)) | (with_reducible refine bq (HB1.out _) ?_; exact (fun d => ⟨d, rfl⟩))))))
            refine wpQuiet_nil ?_
            rintro w' ⟨d, rfl⟩
            rw [lay_bw]
            go_wp2_with fail
            refine region_bw (by kernel_rfl) (by kernel_rfl) ?_
            repeat (go_big_quiet_step ((first | (go_at_call 125; first | (with_reducible refine bq (HB2.out _) ?_; exact (fun d => lay_join _ _ _ d)) | (with_reducible refine bq (HB2.out _) ?_; exact (fun d => ⟨d, rfl⟩))))))
            refine wpQuiet_nil ?_
            rintro w' ⟨d, rfl⟩
            rw [lay_bw]
            go_wp2_with fail
            go_roundw
            case rel => exact ⟨3, a, b, x1, y1, _, by decide, rfl, HF2.out.1, HF2.out.2, (lay_join3 _ _ _).choose_spec⟩
            case measure => simp [intOf]
        · rw [h1, if_pos rfl] at hf2
          rw [h1] at HB1
          cases h2 : befR c g x1 y1
          · rw [h2, if_neg Bool.false_ne_true] at hl2
            rw [h2] at HB2
            have HF2 := Lib.hid (And.intro hf2 hl2)
            clear hf2 hl2 h1 h2
            go_wp2_with fail
            refine region_bw (by kernel_rfl) (by kernel_rfl) ?_
            repeat (go_big_quiet_step ((first | (go_at_call 125; first | (with_reducible refine bq (HB1.out _) ?_; exact (fun d => lay_join _ _ _ d)) | (with_reducible refine bq (HB1.out _) ?_; exact (fun d => ⟨d, rfl⟩))))))
            refine wpQuiet_nil ?_
            rintro w' ⟨d, rfl⟩
            rw [lay_bw]
            go_wp2_with fail
            refine region_bw (by kernel_rfl) (by kernel_rfl) ?_
            repeat (go_big_quiet_step ((first | (go_at_call 125; first | (with_reducible refine bq (HB2.out _) ?_; exact (fun d => lay_join _ _ _ d)) | (with_reducible refine bq (HB2.out _) ?_; exact (fun d => ⟨d, rfl⟩))))))
            refine wpQuiet_nil ?_
            rintro w' ⟨d, rfl⟩
            rw [lay_bw]
            go_wp2_with fail
            go_roundw
            case rel => exact ⟨3, x1, y1, c, g, _, by decide, rfl, HF2.out.1, HF2.out.2, (lay_join3 _ _ _).choose_spec⟩
            case measure => simp [intOf]
          · rw [h2, if_pos rfl] at hl2
            rw [h2] at HB2
            have HF2 := Lib.hid (And.intro hf2 hl2)
            clear hf2 hl2 h1 h2
            go_wp2_with fail
            refine region_bw (by kernel_rfl) (by kernel_rfl) ?_
            repeat (go_big_quiet_step ((first | (go_at_call 125; first | (with_reducible refine bq (HB1.out _) ?_; exact (fun d => lay_join _ _ _ d)) | (with_reducible refine bq (HB1.out _) ?_; exact (fun d => ⟨d, rfl⟩))))))
            refine wpQuiet_nil ?_
            rintro w' ⟨d, rfl⟩
            rw [lay_bw]
            go_wp2_with fail
            refine region_bw (by kernel_rfl) (by kernel_rfl) ?_
            repeat (go_big_quiet_step ((first | (go_at_call 125; first | (with_reducible refine bq (HB2.out _) ?_; exact (fun d => lay_join _ _ _ d)) | (with_reducible refine bq (HB2.out _) ?_; exact (fun d => ⟨d, rfl⟩))))))
            refine wpQuiet_nil ?_
            rintro w' ⟨d, rfl⟩
            rw [lay_bw]
            go_wp2_with fail
            go_roundw
            case rel => exact ⟨3, x1, y1, x1, y1, _, by decide, rfl, HF2.out.1, HF2.out.2, (lay_join3 _ _ _).choose_spec⟩
            case measure => simp [intOf]
      · have HA1 := Lib.hid (fun W => HAn.out a b W A0 B0 (HFb.out 3 a b hf).2.2)
        have HA2 := Lib.hid (fun W => HAn.out c g W C0 D0 (HLb.out 3 c g hl).2.2)
        have hb1 := angF_bd a b
        have hb2 := angF_bd c g
        have hr := HRB.out
        rw [hf, hl] at hr
        unfold refB at hr
        dsimp only at hr
        generalize (angF a b).1 = m at *
        generalize (angF a b).2 = ea at *
        generalize (angF c g).1 = s at *
        generalize (angF c g).2 = ex at *
        obtain ⟨S1, hS1⟩ : ∃ S1 : Int, s + 1 = S1 := ⟨_, rfl⟩
        obtain ⟨S2, hS2⟩ : ∃ S2 : Int, s + 21600000 = S2 := ⟨_, rfl⟩
        obtain ⟨S3, hS3⟩ : ∃ S3 : Int, S1 + 21600000 = S3 := ⟨_, rfl⟩
        have k1 : IntKind.i64.wrap S1 = S1 := IntWalk.i64_in _ (by omega)
        have k2 : IntKind.i64.wrap S2 = S2 := IntWalk.i64_in _ (by omega)
        have k3 : IntKind.i64.wrap S3 = S3 := IntWalk.i64_in _ (by omega)
        clear A0 B0 C0 D0 X0 X1 Y0 Y1 hi hf hl hb1 hb2
        cases ex
        · rw [if_neg Bool.false_ne_true, hS1, hS3] at hr
          by_cases cs : S1 < m
          · rw [if_pos cs] at hr
            have HRR := Lib.hid hr
            clear hr
            go_wp2_with (go_at_call 126; first | ((with_reducible refine (HA1.out _).mono ?_); rintro e w' ⟨rfl, d5, rfl⟩; rw [lay_bw]) | ((with_reducible refine (HA2.out _).mono ?_); rintro e w' ⟨rfl, d6, rfl⟩; rw [lay_bw]))
            refine bodyPost_ret (v := .tuple #[(.agg #[.int .i64 (m), .int .i64 (S3)]), .int .i64 0]) (by simp [results, Tryz.results52, go_sem]) rfl ⟨by rw [← HRR.out], lay_ex _ _⟩
          · rw [if_neg cs] at hr
            have HRR := Lib.hid hr
            clear hr
            go_wp2_with (go_at_call 126; first | ((with_reducible refine (HA1.out _).mono ?_); rintro e w' ⟨rfl, d5, rfl⟩; rw [lay_bw]) | ((with_reducible refine (HA2.out _).mono ?_); rintro e w' ⟨rfl, d6, rfl⟩; rw [lay_bw]))
            refine bodyPost_ret (v := .tuple #[(.agg #[.int .i64 (m), .int .i64 (S1)]), .int .i64 0]) (by simp [results, Tryz.results52, go_sem]) rfl ⟨by rw [← HRR.out], lay_ex _ _⟩
        · rw [if_pos rfl, Int.add_zero, hS2] at hr
          by_cases cs : s < m
          · rw [if_pos cs] at hr
            have HRR := Lib.hid hr
            clear hr
            go_wp2_with (go_at_call 126; first | ((with_reducible refine (HA1.out _).mono ?_); rintro e w' ⟨rfl, d5, rfl⟩; rw [lay_bw]) | ((with_reducible refine (HA2.out _).mono ?_); rintro e w' ⟨rfl, d6, rfl⟩; rw [lay_bw]))
            refine bodyPost_ret (v := .tuple #[(.agg #[.int .i64 (m), .int .i64 (S2)]), .int .i64 0]) (by simp [results, Tryz.results52, go_sem]) rfl ⟨by rw [← HRR.out], lay_ex _ _⟩
          · rw [if_neg cs] at hr
            have HRR := Lib.hid hr
            clear hr
            go_wp2_with (go_at_call 126; first | ((with_reducible refine (HA1.out _).mono ?_); rintro e w' ⟨rfl, d5, rfl⟩; rw [lay_bw]) | ((with_reducible refine (HA2.out _).mono ?_); rintro e w' ⟨rfl, d6, rfl⟩; rw [lay_bw]))
            refine bodyPost_ret (v := .tuple #[(.agg #[.int .i64 (m), .int .i64 (s)]), .int .i64 0]) (by simp [results, Tryz.results52, go_sem]) rfl ⟨by rw [← HRR.out], lay_ex _ _⟩
end Go.Proofs.YtnnmfdeeicpdlaaGreat
/- The reference's intervals: Mul, Sub, Add, without average's functions. -/
namespace Go.Proofs.YtnnmfdeeicpdlaaGreat
set_option maxHeartbeats 1000000
set_option maxRecDepth 100000
open Go.RowKit

theorem r4_Least (a b : Int) (w : World) :
    Calls Tryz.prog 130 #[.int .i64 a, .int .i64 b] w fun e w' => e = .returned (.int .i64 (mn a b)) ∧ ∃ d, w' = bw w d := by
  refine lay_start ?_
  rw [show mn a b = if b < a then b else a from rfl]
  by_cases h : b < a
  · rw [if_pos h]
    go_enter Tryz.func130, Tryz.ntmps130
    go_wp2_with fail
    go_ret
    exact ⟨rfl, lay_ex _ _⟩
  · rw [if_neg h]
    go_enter Tryz.func130, Tryz.ntmps130
    go_wp2_with fail
    go_ret
    exact ⟨rfl, lay_ex _ _⟩
theorem r4_Most (a b : Int) (w : World) :
    Calls Tryz.prog 132 #[.int .i64 a, .int .i64 b] w fun e w' => e = .returned (.int .i64 (mx a b)) ∧ ∃ d, w' = bw w d := by
  refine lay_start ?_
  rw [show mx a b = if a < b then b else a from rfl]
  by_cases h : a < b
  · rw [if_pos h]
    go_enter Tryz.func132, Tryz.ntmps132
    go_wp2_with fail
    go_ret
    exact ⟨rfl, lay_ex _ _⟩
  · rw [if_neg h]
    go_enter Tryz.func132, Tryz.ntmps132
    go_wp2_with fail
    go_ret
    exact ⟨rfl, lay_ex _ _⟩
theorem r4_Floor (a b : Int) (w : World) (hb : 1 ≤ b) (h1 : -9223372036854775807 ≤ a) (h2 : a ≤ 9223372036854775807) :
    Calls Tryz.prog 131 #[.int .i64 a, .int .i64 b] w fun e w' => e = .returned (.int .i64 (a / b)) ∧ ∃ d, w' = bw w d := by
  refine lay_start ?_
  go_enter Tryz.func131, Tryz.ntmps131
  go_wp2
  · go_ret
    refine ⟨congrArg (fun x => Ending.returned (.int .i64 x)) ?_, lay_ex _ _⟩
    rw [IntWalk.wrap64_in]
    · exact floor_neg hb ‹_›
    · rw [floor_neg hb ‹_›]; have := ediv_bd hb 9223372036854775807 (by decide) h1 h2; omega
  · go_ret
    exact ⟨congrArg (fun x => Ending.returned (.int .i64 x)) (floor_pos hb ‹_›), lay_ex _ _⟩
theorem r4_Ceil (a b : Int) (w : World) (hb : 1 ≤ b) (h1 : -9223372036854775807 ≤ a) (h2 : a ≤ 9223372036854775807) :
    Calls Tryz.prog 133 #[.int .i64 a, .int .i64 b] w fun e w' => e = .returned (.int .i64 (-((-a) / b))) ∧ ∃ d, w' = bw w d := by
  have HF := Lib.hid (fun W => r4_Floor (-a) b W hb (by omega) (by omega))
  have k1 : IntKind.i64.wrap (-a) = -a := IntWalk.i64_in _ (by omega)
  have hbd := ediv_bd hb 9223372036854775807 (by decide) (show -9223372036854775807 ≤ -a by omega) (by omega)
  have k2 : IntKind.i64.wrap (-((-a) / b)) = -((-a) / b) := IntWalk.i64_in _ (by omega)
  obtain ⟨m, hm⟩ : ∃ m, -a = m := ⟨_, rfl⟩
  rw [hm] at HF k1 k2 hbd ⊢
  obtain ⟨q, hq⟩ : ∃ q, m / b = q := ⟨_, rfl⟩
  rw [hq] at HF k2 hbd ⊢
  obtain ⟨r, hr⟩ : ∃ r, -q = r := ⟨_, rfl⟩
  rw [hr] at k2 ⊢
  clear hbd hq h1 h2
  refine lay_start ?_
  go_enter Tryz.func133, Tryz.ntmps133
  go_wp2_with (go_at_call 131; refine (HF.out _).mono ?_; rintro e w' ⟨rfl, d, rfl⟩)
  go_ret
  exact ⟨rfl, lay_ex _ _⟩
theorem r4_fit (lo hi : Int) (w : World) (h : fxB lo hi = true) :
    Calls Tryz.prog 134 #[.int .i64 lo, .int .i64 hi] w fun e w' => e = .returned (.tuple #[(.agg #[.int .i64 (lo), .int .i64 (hi)]), .int .i64 0]) ∧ ∃ d, w' = bw w d := by
  have hf := fxB_iff.1 h
  have g1 : ¬ lo < -2147483648 := by omega
  have g2 : ¬ 2147483648 < hi := by omega
  clear hf h
  refine lay_start ?_
  go_enter Tryz.func134, Tryz.ntmps134
  go_wp2_with fail
  exact bodyPost_ret (v := .tuple #[(.agg #[.int .i64 (lo), .int .i64 (hi)]), .int .i64 0]) (by simp [results, Tryz.results134, go_sem]) rfl ⟨rfl, lay_ex _ _⟩
theorem mn_tree (x y z u : Int) : mn (mn x y) (mn z u) = mn (mn (mn x y) z) u := by simp only [mn_eq]; omega
theorem mx_tree (x y z u : Int) : mx (mx x y) (mx z u) = mx (mx (mx x y) z) u := by simp only [mx_eq]; omega
theorem r4_Mul (a0 a1 b0 b1 : Int) (w : World) (ha : fxB a0 a1 = true) (hb : fxB b0 b1 = true) (hm : fxB (mulL a0 a1 b0 b1) (mulH a0 a1 b0 b1) = true) :
    Calls Tryz.prog 127 #[(.agg #[.int .i64 (a0), .int .i64 (a1)]), (.agg #[.int .i64 (b0), .int .i64 (b1)])] w fun e w' => e = .returned (.tuple #[(.agg #[.int .i64 (mulL a0 a1 b0 b1), .int .i64 (mulH a0 a1 b0 b1)]), .int .i64 0]) ∧ ∃ d, w' = bw w d := by
  have hfa := fxB_iff.1 ha
  have hfb := fxB_iff.1 hb
  have hbx := box_in (X := 2147483648) (by decide) (a0 := a0) (a1 := a1) (b0 := b0) (b1 := b1) ⟨by omega, by omega⟩ ⟨by omega, by omega⟩ ⟨by omega, by omega⟩ ⟨by omega, by omega⟩
  have p1 := prod_in (X := 2147483648) (x := a0) (k := b0) (by decide) ⟨by omega, by omega⟩ ⟨by omega, by omega⟩
  have p2 := prod_in (X := 2147483648) (x := a0) (k := b1) (by decide) ⟨by omega, by omega⟩ ⟨by omega, by omega⟩
  have p3 := prod_in (X := 2147483648) (x := a1) (k := b0) (by decide) ⟨by omega, by omega⟩ ⟨by omega, by omega⟩
  have p4 := prod_in (X := 2147483648) (x := a1) (k := b1) (by decide) ⟨by omega, by omega⟩ ⟨by omega, by omega⟩
  have HT := Lib.hid (fun W => r4_fit _ _ W hm)
  have HF := Lib.hid (fun W => r4_Floor (m4 a0 a1 b0 b1) 1073741824 W (by decide) (by omega) (by omega))
  have HC := Lib.hid (fun W => r4_Ceil (x4 a0 a1 b0 b1) 1073741824 W (by decide) (by omega) (by omega))
  rw [show m4 a0 a1 b0 b1 / 1073741824 = mulL a0 a1 b0 b1 from rfl] at HF
  rw [show -((-(x4 a0 a1 b0 b1)) / 1073741824) = mulH a0 a1 b0 b1 from rfl] at HC
  generalize mulL a0 a1 b0 b1 = Q at *
  generalize mulH a0 a1 b0 b1 = U at *
  have e1 : mn (mn (a0 * b0) (a0 * b1)) (mn (a1 * b0) (a1 * b1)) = m4 a0 a1 b0 b1 := mn_tree _ _ _ _
  have e2 : mx (mx (a0 * b0) (a0 * b1)) (mx (a1 * b0) (a1 * b1)) = x4 a0 a1 b0 b1 := mx_tree _ _ _ _
  generalize m4 a0 a1 b0 b1 = M at *
  generalize x4 a0 a1 b0 b1 = X at *
  have k1 : IntKind.i64.wrap (a0 * b0) = a0 * b0 := IntWalk.i64_in _ (by omega)
  have k2 : IntKind.i64.wrap (a0 * b1) = a0 * b1 := IntWalk.i64_in _ (by omega)
  have k3 : IntKind.i64.wrap (a1 * b0) = a1 * b0 := IntWalk.i64_in _ (by omega)
  have k4 : IntKind.i64.wrap (a1 * b1) = a1 * b1 := IntWalk.i64_in _ (by omega)
  clear hbx p1 p2 p3 p4 hfa hfb ha hb hm
  refine lay_start ?_
  go_enter Tryz.func127, Tryz.ntmps127
  go_wp2_with fail
  refine region_bw (by kernel_rfl) (by kernel_rfl) ?_
  repeat (go_big_quiet_step ((first | fail)))
  refine wpQuiet_nil ?_
  rintro w' ⟨d, rfl⟩
  rw [lay_bw]
  go_wp2_with (first | (go_at_call 130; refine (r4_Least _ _ _).mono ?_; rintro e w' ⟨rfl, d1, rfl⟩) | (go_at_call 132; refine (r4_Most _ _ _).mono ?_; rintro e w' ⟨rfl, d2, rfl⟩) | (go_at_call 131; refine (HF.out _).mono ?_; rintro e w' ⟨rfl, d3, rfl⟩) | (go_at_call 133; refine (HC.out _).mono ?_; rintro e w' ⟨rfl, d4, rfl⟩) | (go_at_call 134; refine (HT.out _).mono ?_; rintro e w' ⟨rfl, d5, rfl⟩))
  exact bodyPost_ret (v := .tuple #[(.agg #[.int .i64 (Q), .int .i64 (U)]), .int .i64 0]) (by simp [results, Tryz.results127, go_sem]) rfl ⟨rfl, lay_ex _ _⟩
end Go.Proofs.YtnnmfdeeicpdlaaGreat
/- The reference's Sub, Add, fit at any ends. -/
namespace Go.Proofs.YtnnmfdeeicpdlaaGreat
open Go.RowKit

set_option maxRecDepth 100000 in
theorem r4_fitX (lo hi : Int) (hle : lo ≤ hi) (w : World) :
    Calls Tryz.prog 134 #[.int .i64 lo, .int .i64 hi] w fun e w' => e = .returned (.tuple #[(.agg #[.int .i64 (if fxB lo hi then lo else 0), .int .i64 (if fxB lo hi then hi else 0)]), .int .i64 (if fxB lo hi then 0 else 5)]) ∧ ∃ d, w' = bw w d := by
  cases h : fxB lo hi
  · have hn : ¬ (lo ≤ hi ∧ -2147483648 ≤ lo ∧ hi ≤ 2147483648) := fun g => by rw [fxB_iff.2 g] at h; cases h
    by_cases g1 : lo < -2147483648
    · clear h hn hle
      refine lay_start ?_
      go_enter Tryz.func134, Tryz.ntmps134
      go_wp2_with fail
      exact bodyPost_ret (v := .tuple #[(.agg #[.int .i64 (0), .int .i64 (0)]), .int .i64 5]) (by simp [results, Tryz.results134, go_sem]) rfl ⟨rfl, lay_ex _ _⟩
    · have g2 : 2147483648 < hi := by omega
      clear h hn hle
      refine lay_start ?_
      go_enter Tryz.func134, Tryz.ntmps134
      go_wp2_with fail
      exact bodyPost_ret (v := .tuple #[(.agg #[.int .i64 (0), .int .i64 (0)]), .int .i64 5]) (by simp [results, Tryz.results134, go_sem]) rfl ⟨rfl, lay_ex _ _⟩
  · exact r4_fit lo hi w h
end Go.Proofs.YtnnmfdeeicpdlaaGreat
/- The reference's Div by a positive divisor. -/
namespace Go.Proofs.YtnnmfdeeicpdlaaGreat
set_option maxRecDepth 100000
open Go.RowKit

theorem r4_zeroP (b0 b1 : Int) (w : World) (h : 1 ≤ b0) :
    Calls Tryz.prog 128 #[(.agg #[.int .i64 (b0), .int .i64 (b1)])] w fun e w' => e = .returned (.bool false) ∧ ∃ d, w' = bw w d := by
  have h1 : ¬ b0 ≤ 0 := by omega
  clear h
  refine lay_start ?_
  go_enter Tryz.func128, Tryz.ntmps128
  go_wp2
  go_ret
  exact ⟨rfl, lay_ex _ _⟩
theorem r4_turnedP (a0 a1 b0 b1 : Int) (w : World) (h : 1 ≤ b0) :
    Calls Tryz.prog 129 #[(.agg #[.int .i64 (a0), .int .i64 (a1)]), (.agg #[.int .i64 (b0), .int .i64 (b1)])] w fun e w' => e = .returned (.tuple #[(.agg #[.int .i64 (a0), .int .i64 (a1)]), (.agg #[.int .i64 (b0), .int .i64 (b1)])]) ∧ ∃ d, w' = bw w d := by
  have h1 : ¬ b0 < 0 := by omega
  clear h
  refine lay_start ?_
  go_enter Tryz.func129, Tryz.ntmps129
  go_wp2_with fail
  go_region
  go_wp2_with fail
  exact bodyPost_ret (v := .tuple #[(.agg #[.int .i64 (a0), .int .i64 (a1)]), (.agg #[.int .i64 (b0), .int .i64 (b1)])]) (by simp [results, Tryz.results129, go_sem]) rfl ⟨rfl, by rw [bw_drewExt, lay_bw]; exact lay_ex _ _⟩
set_option maxHeartbeats 1000000 in
theorem r4_DivP (a0 a1 b0 b1 : Int) (w : World) (ha : fxB a0 a1 = true) (hb : fxB b0 b1 = true) (h1 : 1 ≤ b0) :
    Calls Tryz.prog 55 #[(.agg #[.int .i64 (a0), .int .i64 (a1)]), (.agg #[.int .i64 (b0), .int .i64 (b1)])] w fun e w' => e = .returned (.tuple #[(.agg #[.int .i64 (if fxB (divL a0 b0 b1) (divH a1 b0 b1) then divL a0 b0 b1 else 0), .int .i64 (if fxB (divL a0 b0 b1) (divH a1 b0 b1) then divH a1 b0 b1 else 0)]), .int .i64 (if fxB (divL a0 b0 b1) (divH a1 b0 b1) then 0 else 5)]) ∧ ∃ d, w' = bw w d := by
  have HZ := Lib.hid (fun W => r4_zeroP b0 b1 W h1)
  have HT := Lib.hid (fun W => r4_turnedP a0 a1 b0 b1 W h1)
  have ga := fxB_iff.1 ha
  have gb := fxB_iff.1 hb
  have HF := Lib.hid (fun W => r4_fitX (divL a0 b0 b1) (divH a1 b0 b1) (div_le ga.1 (by omega)) W)
  generalize (if fxB (divL a0 b0 b1) (divH a1 b0 b1) then divL a0 b0 b1 else 0) = r0 at *
  generalize (if fxB (divL a0 b0 b1) (divH a1 b0 b1) then divH a1 b0 b1 else 0) = r1 at *
  generalize (if fxB (divL a0 b0 b1) (divH a1 b0 b1) then (0 : Int) else 5) = re at *
  unfold divL divH at HF
  have F00 := Lib.hid (fun W => r4_Floor (a0 * 1073741824) b0 W h1 (by omega) (by omega))
  have F01 := Lib.hid (fun W => r4_Floor (a0 * 1073741824) b1 W (by omega) (by omega) (by omega))
  have C10 := Lib.hid (fun W => r4_Ceil (a1 * 1073741824) b0 W h1 (by omega) (by omega))
  have C11 := Lib.hid (fun W => r4_Ceil (a1 * 1073741824) b1 W (by omega) (by omega) (by omega))
  have kx : IntKind.i64.wrap (a0 * 1073741824) = a0 * 1073741824 := IntWalk.i64_in _ (by omega)
  have ky : IntKind.i64.wrap (a1 * 1073741824) = a1 * 1073741824 := IntWalk.i64_in _ (by omega)
  obtain ⟨X, hX⟩ : ∃ X, a0 * 1073741824 = X := ⟨_, rfl⟩
  obtain ⟨Y, hY⟩ : ∃ Y, a1 * 1073741824 = Y := ⟨_, rfl⟩
  have k1 : IntKind.i64.wrap (a0 * 1073741824) = X := kx.trans hX
  have k2 : IntKind.i64.wrap (a1 * 1073741824) = Y := ky.trans hY
  simp only [hX, hY] at F00 F01 C10 C11 HF
  clear kx ky hX hY ga gb ha hb h1
  generalize X / b0 = q00 at *
  generalize X / b1 = q01 at *
  generalize -(-Y / b0) = c10 at *
  generalize -(-Y / b1) = c11 at *
  have HL := Lib.hid (fun W => r4_Least q00 q01 W)
  have HM := Lib.hid (fun W => r4_Most c10 c11 W)
  generalize mn q00 q01 = x0 at *
  generalize mx c10 c11 = x1 at *
  refine lay_start ?_
  go_enter Tryz.func55, Tryz.ntmps55
  go_wp2_with (first | (go_at_call 128; refine (HZ.out _).mono ?_; rintro e w' ⟨rfl, d1, rfl⟩; rw [lay_bw]) | (go_at_call 129; refine (HT.out _).mono ?_; rintro e w' ⟨rfl, d2, rfl⟩; rw [lay_bw]))
  refine region_bw (by kernel_rfl) (by kernel_rfl) ?_
  repeat (go_big_quiet_step ((first | (go_at_call 131; first | ((with_reducible refine bq (F00.out _) ?_); first | exact (fun d => lay_join _ _ _ d) | exact (fun d => ⟨d, rfl⟩)) | ((with_reducible refine bq (F01.out _) ?_); first | exact (fun d => lay_join _ _ _ d) | exact (fun d => ⟨d, rfl⟩))) | (go_at_call 130; (with_reducible refine bq (HL.out _) ?_); first | exact (fun d => lay_join _ _ _ d) | exact (fun d => ⟨d, rfl⟩)))))
  refine wpQuiet_nil ?_
  rintro w' ⟨d, rfl⟩
  rw [lay_bw]
  go_wp2_with fail
  refine region_bw (by kernel_rfl) (by kernel_rfl) ?_
  repeat (go_big_quiet_step ((first | (go_at_call 133; first | ((with_reducible refine bq (C10.out _) ?_); first | exact (fun d => lay_join _ _ _ d) | exact (fun d => ⟨d, rfl⟩)) | ((with_reducible refine bq (C11.out _) ?_); first | exact (fun d => lay_join _ _ _ d) | exact (fun d => ⟨d, rfl⟩))) | (go_at_call 132; (with_reducible refine bq (HM.out _) ?_); first | exact (fun d => lay_join _ _ _ d) | exact (fun d => ⟨d, rfl⟩)))))
  refine wpQuiet_nil ?_
  rintro w' ⟨d, rfl⟩
  rw [lay_bw]
  go_wp2_with (first | (go_at_call 134; refine (HF.out _).mono ?_; rintro e w' ⟨rfl, d3, rfl⟩; rw [lay_bw]))
  exact bodyPost_ret (v := .tuple #[(.agg #[.int .i64 (r0), .int .i64 (r1)]), .int .i64 re]) (by simp [results, Tryz.results55, go_sem]) rfl ⟨rfl, lay_ex _ _⟩
end Go.Proofs.YtnnmfdeeicpdlaaGreat
/- The reference's Times, Plus and Minus. -/
namespace Go.Proofs.YtnnmfdeeicpdlaaGreat
open Go.RowKit

set_option maxRecDepth 100000 in
theorem r25_Times (a0 a1 b0 b1 : Int) (w : World) (ha : fxB a0 a1 = true) (hb : fxB b0 b1 = true) (hm : fxB (mulL a0 a1 b0 b1) (mulH a0 a1 b0 b1) = true) :
    Calls Tryz.prog 53 #[(.agg #[.int .i64 (a0), .int .i64 (a1)]), (.agg #[.int .i64 (b0), .int .i64 (b1)])] w fun e w' => e = .returned (.agg #[.int .i64 (mulL a0 a1 b0 b1), .int .i64 (mulH a0 a1 b0 b1)]) ∧ ∃ d, w' = bw w d := by
  have HT := Lib.hid (fun W => r4_Mul a0 a1 b0 b1 W ha hb hm)
  generalize mulL a0 a1 b0 b1 = p at *
  generalize mulH a0 a1 b0 b1 = q at *
  clear ha hb hm
  refine lay_start ?_
  go_enter Tryz.func53, Tryz.ntmps53
  go_wp2_with (go_at_call 127; refine (HT.out _).mono ?_; rintro e w' ⟨rfl, d, rfl⟩; rw [lay_bw])
  exact bodyPost_ret (v := (.agg #[.int .i64 (p), .int .i64 (q)])) (by simp [results, Tryz.results53, go_sem]) rfl ⟨rfl, lay_ex _ _⟩
end Go.Proofs.YtnnmfdeeicpdlaaGreat
/- The reference's sines and cosines over arcs: has, sine, Sin, Cos. -/
namespace Go.Proofs.YtnnmfdeeicpdlaaGreat
set_option maxHeartbeats 1000000
set_option maxRecDepth 100000
open Go.RowKit

theorem met_turn (lo hi : Int) : metB lo hi (-5400000) = metB lo hi 16200000 := by
  unfold metB
  rw [show ((-5400000 : Int) - lo) % 21600000 = (16200000 - lo) % 21600000 by omega]
theorem r6_has (lo hi n : Int) (h1 : -2199023255552 ≤ lo) (h2 : lo ≤ hi) (h3 : hi ≤ 2199023255552) (h4 : -21600000 ≤ n) (h5 : n ≤ 21600000) (w : World) :
    Calls Tryz.prog 198 #[(.agg #[.int .i64 (lo), .int .i64 (hi)]), .int .i64 n] w fun e w' => e = .returned (.bool (metB lo hi n)) ∧ ∃ d, w' = bw w d := by
  refine lay_start ?_
  obtain ⟨D, hD⟩ : ∃ D : Int, n - lo = D := ⟨_, rfl⟩
  have kD : IntKind.i64.wrap D = D := IntWalk.i64_in _ (by omega)
  have hc := tmod_turn D
  obtain ⟨t, ht⟩ : ∃ t, D.tmod 21600000 = t := ⟨_, rfl⟩
  rw [ht] at hc
  obtain ⟨q, hq⟩ : ∃ q, D % 21600000 = q := ⟨_, rfl⟩
  rw [hq] at hc
  have hq2 : 0 ≤ q ∧ q < 21600000 := by omega
  have kt : IntKind.i64.wrap t = t := IntWalk.i64_in _ (by omega)
  have kq : IntKind.i64.wrap q = q := IntWalk.i64_in _ (by omega)
  obtain ⟨E, hE⟩ : ∃ E : Int, lo + q = E := ⟨_, rfl⟩
  have kE : IntKind.i64.wrap E = E := IntWalk.i64_in _ (by omega)
  rw [show metB lo hi n = decide (E ≤ hi) by unfold metB; rw [hD, hq]; exact decide_eq_decide.2 (by omega)]
  have hst : t = q ∧ ¬ t < 0 ∨ t < 0 ∧ t + 21600000 = q := by omega
  clear hc hq2 h1 h2 h3 h4 h5 hq
  rcases hst with ⟨rfl, hs⟩ | ⟨hs, hs2⟩
  all_goals
    go_enter Tryz.func198, Tryz.ntmps198
    go_wp2_with fail
    go_ret
    exact ⟨rfl, lay_ex _ _⟩
theorem r6_sine (lo hi : Int) (h1 : -2199023255552 ≤ lo) (h2 : lo ≤ hi) (h3 : hi ≤ 2199023255552) (w : World) :
    Calls Tryz.prog 122 #[(.agg #[.int .i64 (lo), .int .i64 (hi)])] w fun e w' => e = .returned (.agg #[.int .i64 (encL lo hi), .int .i64 (encH lo hi)]) ∧ ∃ d, w' = bw w d := by
  refine lay_start ?_
  have HB1 := Lib.hid (fun W => r6_ends lo W)
  have HB2 := Lib.hid (fun W => r6_ends hi W)
  have HM1 := Lib.hid (fun W => r6_has lo hi 5400000 h1 h2 h3 (by decide) (by decide) W)
  have HM2 := Lib.hid (fun W => r6_has lo hi (-5400000) h1 h2 h3 (by decide) (by decide) W)
  rw [met_turn] at HM2
  rw [encL_at, encH_at]
  generalize bLo lo = p at *
  generalize bLo hi = q at *
  generalize bHi lo = r at *
  generalize bHi hi = s at *
  clear h1 h2 h3
  cases hm1 : metB lo hi 5400000 <;> cases hm2 : metB lo hi 16200000
  all_goals
    rw [hm1] at HM1
    rw [hm2] at HM2
    clear hm1 hm2
    simp only [Bool.false_eq_true, if_true, if_false]
    go_enter Tryz.func122, Tryz.ntmps122
    go_wp2_with (first | (go_at_call 197; first | (with_reducible refine (HB1.out _).mono ?_; rintro e w' ⟨rfl, d1, rfl⟩) | (with_reducible refine (HB2.out _).mono ?_; rintro e w' ⟨rfl, d2, rfl⟩)) | (go_at_call 198; first | (with_reducible refine (HM1.out _).mono ?_; rintro e w' ⟨rfl, d3, rfl⟩) | (with_reducible refine (HM2.out _).mono ?_; rintro e w' ⟨rfl, d4, rfl⟩)))
  · exact bodyPost_ret (v := (.agg #[.int .i64 (mn p q), .int .i64 (mx r s)])) (by simp [results, Tryz.results122, go_sem]) rfl ⟨rfl, lay_ex _ _⟩
  · exact bodyPost_ret (v := (.agg #[.int .i64 (-1073741824), .int .i64 (mx r s)])) (by simp [results, Tryz.results122, go_sem]) rfl ⟨rfl, lay_ex _ _⟩
  · exact bodyPost_ret (v := (.agg #[.int .i64 (mn p q), .int .i64 (1073741824)])) (by simp [results, Tryz.results122, go_sem]) rfl ⟨rfl, lay_ex _ _⟩
  · exact bodyPost_ret (v := (.agg #[.int .i64 (-1073741824), .int .i64 (1073741824)])) (by simp [results, Tryz.results122, go_sem]) rfl ⟨rfl, lay_ex _ _⟩
theorem r6_Sin (lo hi : Int) (hv : validB lo hi = true) (w : World) :
    Calls Tryz.prog 54 #[(.agg #[.int .i64 (lo), .int .i64 (hi)])] w fun e w' => e = .returned (.agg #[.int .i64 (encL lo hi), .int .i64 (encH lo hi)]) ∧ ∃ d, w' = bw w d := by
  refine lay_start ?_
  have h := validB_iff.1 hv
  have HE := Lib.hid (fun W => r6_sine lo hi (by omega) h.1 (by omega) W)
  clear h hv
  generalize encL lo hi = p at *
  generalize encH lo hi = q at *
  go_enter Tryz.func54, Tryz.ntmps54
  go_wp2_with (first | (go_at_call 122; refine (HE.out _).mono ?_; rintro e w' ⟨rfl, d, rfl⟩))
  exact bodyPost_ret (v := (.agg #[.int .i64 (p), .int .i64 (q)])) (by simp [results, Tryz.results54, go_sem]) rfl ⟨rfl, lay_ex _ _⟩
theorem r6_Cos (lo hi : Int) (hv : validB lo hi = true) (w : World) :
    Calls Tryz.prog 51 #[(.agg #[.int .i64 (lo), .int .i64 (hi)])] w fun e w' => e = .returned (.agg #[.int .i64 (encL (lo + 5400000) (hi + 5400000)), .int .i64 (encH (lo + 5400000) (hi + 5400000))]) ∧ ∃ d, w' = bw w d := by
  refine lay_start ?_
  have h := validB_iff.1 hv
  have HE := Lib.hid (fun W => r6_sine (lo + 5400000) (hi + 5400000) (by omega) (by omega) (by omega) W)
  have k1 : IntKind.i64.wrap (lo + 5400000) = lo + 5400000 := IntWalk.i64_in _ (by omega)
  have k2 : IntKind.i64.wrap (hi + 5400000) = hi + 5400000 := IntWalk.i64_in _ (by omega)
  clear h hv
  generalize encL (lo + 5400000) (hi + 5400000) = p at *
  generalize encH (lo + 5400000) (hi + 5400000) = q at *
  go_enter Tryz.func51, Tryz.ntmps51
  go_wp2_with (first | (go_at_call 122; refine (HE.out _).mono ?_; rintro e w' ⟨rfl, d, rfl⟩))
  exact bodyPost_ret (v := (.agg #[.int .i64 (p), .int .i64 (q)])) (by simp [results, Tryz.results51, go_sem]) rfl ⟨rfl, lay_ex _ _⟩
end Go.Proofs.YtnnmfdeeicpdlaaGreat
