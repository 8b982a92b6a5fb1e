/- CompassBetween, walked. -/
import Derived.Test.YtjfkaogjlfgelaaProg
import Derived.Test.YtjfkaogjlfgelaaLay
import Derived.Test.YtjfkaogjlfgelaaRegion
import Derived.WalkKit
import Derived.WalkSpells
import Derived.WalkLawsBesides
import Derived.Lib.Hide
import Derived.BigQuiet
import Derived.BigRegion
import Derived.Test.YtjfkaogjlfgelaaPlain
import Derived.Test.YtjfkaogjlfgelaaAngle
import Derived.Test.YtjfkaogjlfgelaaCompPlain
import Derived.Test.YtjfkaogjlfgelaaCompPlain2
import Derived.Test.YtjfkaogjlfgelaaTabs
import Derived.Test.YtjfkaogjlfgelaaComp1
import Derived.Test.YtjfkaogjlfgelaaComp3
import Derived.Test.YtjfkaogjlfgelaaComp4
import Derived.Test.YtjfkaogjlfgelaaComp5
import Derived.Test.YtjfkaogjlfgelaaComp6
namespace Go.Proofs.Ytjfkaogjlfgelaa
open Go.RowKit

/-- What the law asks of the deviation at a part of the arc. -/
theorem between_part {l : Tl} (T : Tab l) {h0 h1 f t : Int} (hf : h0 ≤ f) (hf' : f ≤ h1) (ht : h0 ≤ t) (ht' : t ≤ h1) : inside2B (oL l (mn f t) (mx f t)) (oH l (mn f t) (mx f t)) (oL l h0 h1) (oH l h0 h1) = true := by
  have c : h0 ≤ mn f t ∧ mn f t ≤ mx f t ∧ mx f t ≤ h1 := by unfold mn mx; split <;> split <;> omega
  have a := o_mono T c.1 c.2.1 c.2.2
  have b := o_wide T c.2.1
  have d := o_wide T (show h0 ≤ h1 by omega)
  rw [inside2B_iff, validB_iff, validB_iff]; omega
theorem part_bd {a h0 h1 : Int} (h : h0 ≤ h1) : 0 ≤ a % (h1 - h0 + 1) ∧ a % (h1 - h0 + 1) ≤ h1 - h0 := by
  have := Int.emod_nonneg a (show h1 - h0 + 1 ≠ 0 by omega)
  have := Int.emod_lt_of_pos a (show 0 < h1 - h0 + 1 by omega)
  omega
theorem wf_u32 {a : Int} (h : (Lit.int .u32 a).wf = true) : 0 ≤ a ∧ a ≤ 4294967295 := by simpa [Lit.wf, IntKind.min, IntKind.max, IntKind.bits, IntKind.signed] using h
theorem wf_u8 {a : Int} (h : (Lit.int .u8 a).wf = true) : 0 ≤ a ∧ a ≤ 255 := by simpa [Lit.wf, IntKind.min, IntKind.max, IntKind.bits, IntKind.signed] using h
set_option maxHeartbeats 8000000 in
set_option maxRecDepth 100000 in
theorem law34_Between_main (v : Value) (l : Tl) (h0 h1 a b k : Int) (w : World) (hv : Tabs w v l) (hV : vB l = true) (hh : validB h0 h1 = true) (hl : 0 < l.length)
    (a0 : 0 ≤ a) (a1 : a ≤ 4294967295) (b0 : 0 ≤ b) (b1 : b ≤ 4294967295) (k0 : 0 ≤ k) (k1 : k ≤ 255) :
    Calls Try.prog 3 #[v, (.agg #[.int .i64 (h0), .int .i64 (h1)]), .int .u32 a, .int .u32 b, .int .u8 k] w fun e w' => e = .returned (.bool true) ∧ ∃ d, w' = bw w d := by
  obtain ⟨g0, g1, g2⟩ := validB_iff.1 hh
  have T := vB_iff.1 hV
  have DV := fun (x y : Int) (L : List (Obj ⊕ Ext)) (hxy : validB x y = true) => comp_Deviation_ok v l x y (lay w L) (tabs_lay hv L) hV hxy
  obtain ⟨n, rfl⟩ := Int.eq_ofNat_of_zero_le k0
  have hi : n % l.length < l.length := Nat.mod_lt _ hl
  have bi := (T.e1 (n % l.length) hi).bd
  have DI := fun (L : List (Obj ⊕ Ext)) => comp_Deviation_ok v l (hd l (n % l.length)) (hd l (n % l.length)) (lay w L) (tabs_lay hv L) hV (validB_iff.2 (by omega))
  rw [(o_entry T hi).1, (o_entry T hi).2] at DI
  have pa := part_bd (a := a) g0
  have pb := part_bd (a := b) g0
  have pv : validB (mn (h0 + a % (h1 - h0 + 1)) (h0 + b % (h1 - h0 + 1))) (mx (h0 + a % (h1 - h0 + 1)) (h0 + b % (h1 - h0 + 1))) = true := by
    rw [validB_iff]; unfold mn mx; split <;> split <;> omega
  have IN := between_part T (h0 := h0) (h1 := h1) (f := h0 + a % (h1 - h0 + 1)) (t := h0 + b % (h1 - h0 + 1)) (by omega) (by omega) (by omega) (by omega)
  have SH := o_shift l h0 h1
  have OW := o_wide T g0
  have HB := Lib.hid (fun (X Y : Int) (h : ∀ i, i < l.length → X ≤ dv l i ∧ dv l i ≤ Y) => o_bounds T hl g0 h)
  obtain ⟨ad, cap, rfl, q1, k2⟩ := hv
  obtain ⟨bb, o, rfl, s1, r1⟩ := k2 (by intro h; subst h; simp at hl)
  obtain ⟨m, hm⟩ : ∃ m, m = l.length := ⟨_, rfl⟩
  have h72 : l.length ≤ 72 := T.len
  rw [← hm] at h72 r1 hl hi DV DI HB q1 bi
  rw [← hm]
  have hmz : (m : Int) ≠ 0 := by omega
  have hmz2 : m ≠ 0 := by omega
  have HR := Lib.hid r1
  have HT := Lib.hid T
  have HM := Lib.hid hm
  have HDV := Lib.hid DV
  have HDI := Lib.hid DI
  have HPV := Lib.hid pv
  have HIN := Lib.hid IN
  have HSH := Lib.hid SH
  obtain ⟨pa0, pa1⟩ := pa
  obtain ⟨pb0, pb1⟩ := pb
  obtain ⟨ow0, ow1, ow2⟩ := OW
  clear r1 T hm DV DI pv IN SH hV k2 q1
  obtain ⟨f1, f2, x1, x2⟩ := HR.out 0 hl
  obtain ⟨f3, f4, x3, x4⟩ := HR.out (n % m) hi
  simp only [Nat.zero_mul, Nat.add_zero] at f1 f2
  refine lay_start ?_
  go_enter Try.func3, Try.ntmps3
  go_wp2_with (first | (go_at_call 9; refine (law_awake _).mono ?_; rintro e w' ⟨rfl, d, rfl⟩) | (go_at_call 10; refine (HDV.out _ _ _ hh).mono ?_; rintro e w' ⟨rfl, d, rfl⟩))
  refine region_bw (by kernel_rfl) (by kernel_rfl) ?_
  repeat (go_big_quiet_step ((first | fail)))
  refine wpQuiet_nil ?_
  rintro w' ⟨d, rfl⟩
  rw [lay_bw]
  go_wp2_with fail
  rename_i e1 e2 _ _ _
  go_loopw [13, 14, 56] (fun v1 v2 vi wr => ∃ (k : Nat) (e : Ext) (lo hi : Int), k ≤ m ∧ vi = .int .i64 k ∧ v1 = .int .i64 lo ∧ v2 = .int .i64 hi ∧ lo ≤ dv l 0 ∧ dv l 0 ≤ hi ∧ (∀ j, j < k → lo ≤ dv l j ∧ dv l j ≤ hi) ∧ wr = lay w (.inr e :: [.inl (.cells #[.int .i64 (oL l h0 h1), .int .i64 (oH l h0 h1)] 24), .inr e2, .inr e1, .inl (.cells #[.int .i64 h0, .int .i64 h1] 24)])) (fun _ _ i _ => m - (intOf i).toNat)
  case atStart => exact ⟨0, _, _, _, by omega, rfl, rfl, rfl, by omega, by omega, fun j hj => by omega, rfl⟩
  case round =>
    obtain ⟨k, e, lo, hi', hk, rfl, rfl, rfl, hlo, hhi, hall, rfl⟩ := hrel
    have HALL := Lib.hid hall
    clear hall
    by_cases hlt : k < m
    · obtain ⟨p1, p2, y1, y2⟩ := HR.out k hlt
      go_wp2_with fail
      refine region_bw (by kernel_rfl) (by kernel_rfl) ?_
      repeat (go_big_quiet_step ((first | fail)))
      refine wpQuiet_nil ?_
      rintro w' ⟨d, rfl⟩
      rw [lay_bw]
      go_wp2_with fail
      go_roundw
      case rel => exact ⟨k + 1, _, _, _, by omega, by go_num, rfl, rfl, by unfold mn; split <;> omega, by unfold mx; split <;> omega, fun j hj => by
        by_cases ej : j = k
        · subst ej; unfold mn mx; split <;> split <;> omega
        · have := HALL.out j (by omega); unfold mn mx; split <;> split <;> omega, Classical.choose_spec (lay_fold w [_, _, _] _)⟩
      case measure => simp [intOf]; omega
    · obtain rfl : k = m := by omega
      have D := HB.out lo hi' HALL.out
      obtain ⟨D1, D2⟩ := D
      have D3 : decide (oL l h0 h1 < lo) = false := decide_eq_false (by omega)
      have D4 : decide (hi' < oH l h0 h1) = false := decide_eq_false (by omega)
      clear hlt
      go_wp2_with (first | (go_at_call 11; refine (law_at _ _).mono ?_; rintro e w' ⟨rfl, d, rfl⟩))
      refine (HDI.out _).mono ?_
      rintro e w' ⟨rfl, d, rfl⟩
      go_wp2_with fail
      have ta : a.tmod (h1 - h0 + 1) = a % (h1 - h0 + 1) := Int.tmod_eq_emod_of_nonneg a0
      have tb : b.tmod (h1 - h0 + 1) = b % (h1 - h0 + 1) := Int.tmod_eq_emod_of_nonneg b0
      have wa : IntKind.i64.wrap (h0 + a % (h1 - h0 + 1)) = h0 + a % (h1 - h0 + 1) := IntWalk.i64_in _ (by omega)
      have wb : IntKind.i64.wrap (h0 + b % (h1 - h0 + 1)) = h0 + b % (h1 - h0 + 1) := IntWalk.i64_in _ (by omega)
      refine region_bw (by kernel_rfl) (by kernel_rfl) ?_
      repeat (go_big_quiet_step ((first | fail)))
      refine wpQuiet_nil ?_
      rintro w' ⟨d, rfl⟩
      rw [lay_bw]
      clear ta tb wa wb
      go_wp2_with (first | (go_at_call 10; refine (HDV.out _ _ _ HPV.out).mono ?_; rintro e w' ⟨rfl, d, rfl⟩))
      have IN := HIN.out
      refine region_bw (by kernel_rfl) (by kernel_rfl) ?_
      repeat (go_big_quiet_step ((first | (go_at_call 11; exact bq (law_at _ _) (fun d => lay_join _ _ _ d)) | (go_at_call 11; exact bq (law_at _ _) (fun d => ⟨d, rfl⟩)) | (go_at_call 12; exact bq (angle_Inside _ _ _ _ _) (fun d => lay_join _ _ _ d)) | (go_at_call 12; exact bq (angle_Inside _ _ _ _ _) (fun d => ⟨d, rfl⟩)))))
      refine wpQuiet_nil ?_
      rintro w' ⟨d, rfl⟩
      rw [lay_bw]
      clear IN D3 D4
      by_cases hM : 1099490027776 < h1
      · go_wp2
        go_ret
        exact ⟨rfl, lay_ex _ _⟩
      · have vs : validB (h0 + 21600000) (h1 + 21600000) = true := by rw [validB_iff]; omega
        go_wp2_with fail
        refine (HDV.out _ _ _ vs).mono ?_
        rw [HSH.out.1, HSH.out.2]
        rintro e w' ⟨rfl, d, rfl⟩
        go_wp2
        go_ret
        exact ⟨rfl, lay_ex _ _⟩
set_option maxHeartbeats 2000000 in
set_option maxRecDepth 100000 in
theorem law34_Between {w : World} (v : Value) (l : Tl) (hv : Tabs w v l) (h0 h1 : Int) (_ : (Lit.int .i64 h0).wf = true) (_ : (Lit.int .i64 h1).wf = true)
    (a : Int) (wa : (Lit.int .u32 a).wf = true) (b : Int) (wb : (Lit.int .u32 b).wf = true) (k : Int) (wk : (Lit.int .u8 k).wf = true) :
    Calls Try.prog 3 #[v, (.agg #[.int .i64 (h0), .int .i64 (h1)]), .int .u32 a, .int .u32 b, .int .u8 k] w fun e w' => e = .returned (.bool true) ∧ ∃ d, w' = bw w d := by
  have ba := wf_u32 wa
  have bb := wf_u32 wb
  have bk := wf_u8 wk
  cases hok : (vB l && validB h0 h1)
  · have HV := Lib.hid hv
    have HO := Lib.hid hok
    clear hv hok wa wb wk
    refine lay_start ?_
    go_enter Try.func3, Try.ntmps3
    go_wp2_with (first | (go_at_call 9; refine (law_awake _).mono ?_; rintro e w' ⟨rfl, d, rfl⟩) | (go_at_call 10; refine (comp_Deviation_bad _ l _ _ _ (tabs_lay HV.out _) HO.out).mono ?_; rintro e w' ⟨rfl, d, rfl⟩))
    go_ret
    exact ⟨rfl, lay_ex _ _⟩
  · rw [Bool.and_eq_true] at hok
    obtain ⟨hV, hh⟩ := hok
    by_cases hl : 0 < l.length
    · exact law34_Between_main v l h0 h1 a b k w hv hV hh hl ba.1 ba.2 bb.1 bb.2 bk.1 bk.2
    · obtain rfl : l = [] := List.eq_nil_of_length_eq_zero (by omega)
      have D := fun (L : List (Obj ⊕ Ext)) => comp_Deviation_ok v [] h0 h1 (lay w L) (tabs_lay hv L) hV hh
      rw [(o_nil h0 h1 (validB_iff.1 hh).1).1, (o_nil h0 h1 (validB_iff.1 hh).1).2] at D
      obtain ⟨ad, cap, rfl, -, -⟩ := hv
      have HD := Lib.hid D
      clear D hV hh hl wa wb wk
      refine lay_start ?_
      go_enter Try.func3, Try.ntmps3
      go_wp2_with (first | (go_at_call 9; refine (law_awake _).mono ?_; rintro e w' ⟨rfl, d, rfl⟩) | (go_at_call 10; refine (HD.out _).mono ?_; rintro e w' ⟨rfl, d, rfl⟩))
      go_ret
      exact ⟨rfl, lay_ex _ _⟩
end Go.Proofs.Ytjfkaogjlfgelaa
