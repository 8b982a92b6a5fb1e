/- The reference's Compass. -/
import Derived.Test.YtjfkaogjlfgelaaProg
import Derived.Test.YtjfkaogjlfgelaaLay
import Derived.Test.YtjfkaogjlfgelaaRegion
import Derived.Test.YtjfkaogjlfgelaaMix
import Derived.WalkKit
import Derived.WalkSpells
import Derived.WalkLawsBesides
import Derived.Lib.Hide
import Derived.BigQuiet
import Derived.BigRegion
import Derived.Test.YtjfkaogjlfgelaaPlain
import Derived.Test.YtjfkaogjlfgelaaAngle
import Derived.Test.YtjfkaogjlfgelaaCompPlain
import Derived.Test.YtjfkaogjlfgelaaCompPlain2
import Derived.Test.YtjfkaogjlfgelaaTabs
import Derived.Test.YtjfkaogjlfgelaaComp1
import Derived.Test.YtjfkaogjlfgelaaComp3
import Derived.Test.YtjfkaogjlfgelaaComp4
import Derived.Test.YtjfkaogjlfgelaaComp5
import Derived.Test.YtjfkaogjlfgelaaComp6
import Derived.Test.YtjfkaogjlfgelaaComp8
import Derived.Test.YtjfkaogjlfgelaaComp9
import Derived.Test.YtjfkaogjlfgelaaComp11
import Derived.Test.YtjfkaogjlfgelaaComp12
import Derived.Test.YtjfkaogjlfgelaaComp13
import Derived.Test.YtjfkaogjlfgelaaComp14
namespace Go.Proofs.Ytjfkaogjlfgelaa
open Go.RowKit


set_option maxHeartbeats 8000000 in
set_option maxRecDepth 100000 in
theorem ref34_Compass (v : Value) (l : Tl) (c0 c1 v0 v1 : Int) (w : World) (hv : Tabs w v l) (h : givE l c0 c1 v0 v1 = 0) :
    Calls Try.prog 20 #[v, (.agg #[.int .i64 (c0), .int .i64 (c1)]), (.agg #[.int .i64 (v0), .int .i64 (v1)])] w fun e w' => e = .returned (.agg #[.int .i64 (cmL l c0 c1 v0 v1), .int .i64 (cmH l c0 c1 v0 v1)]) ∧ ∃ d, w' = bw w d := by
  obtain ⟨g1, g2, g3, g4, g5, g6, g7⟩ := givE_ok h
  have T := vB_iff.1 g1
  obtain ⟨k1, k2, k3⟩ := validB_iff.1 g2
  obtain ⟨k4, k5, k6⟩ := validB_iff.1 g3
  have IT := Lib.hid (itC_ok T (show c0 - v1 ≤ c1 - v0 by omega))
  have OW := Lib.hid (fun x y (hxy : x ≤ y) => o_wide T hxy)
  have HO := Lib.hid (fun x y W (hW : Tabs W v l) (hxy : validB x y = true) => ref34_Over v l x y W hW T hxy)
  have DK := Lib.hid (fun k (hk : k ≤ l.length) => dK_bd (l := l) (X := -1800000) (Y := 1800000) (by decide) (by decide) k (fun i hi => ⟨T.d0 i (by omega), T.d1 i (by omega)⟩))
  have HT := Lib.hid T
  have HV := Lib.hid hv
  obtain ⟨a, cap, rfl, q1, r1⟩ := hv
  obtain ⟨m, hm⟩ : ∃ m, m = l.length := ⟨_, rfl⟩
  have h72 : l.length ≤ 72 := T.len
  rw [← hm] at h72 r1 HO q1 DK HV
  rw [← hm]
  have HM := Lib.hid hm
  have HR := Lib.hid r1
  clear hm h T g1 g2 g3 r1
  refine lay_start ?_
  go_enter Try.func20, Try.ntmps20
  go_wp2_with (go_at_call 40; refine (ref05_Sub _ _ _ _ _ (by omega) (by omega) (by omega) (by omega)).mono ?_; rintro e w' ⟨rfl, d1, rfl⟩)
  go_loopw [9] (fun i wr => ∃ (k : Nat) (e : Ext) (x y : Int), k ≤ m ∧ i = .int .i64 k ∧ dK l k = (x, y) ∧ wr = lay w (.inr e :: .inl (.cells #[.int .i64 x, .int .i64 y] 24) :: [.inl (.cells #[.int .i64 (c0 - v1), .int .i64 (c1 - v0)] 24), .inr d1, .inl (.cells #[.int .i64 0, .int .i64 0] 24), .inl (.cells #[.int .i64 v0, .int .i64 v1] 24), .inl (.cells #[.int .i64 c0, .int .i64 c1] 24)])) (fun i _ => m - (intOf i).toNat)
  case atStart => exact ⟨0, _, _, _, by omega, rfl, rfl, Classical.choose_spec (lay_fold w [] _)⟩
  case round =>
    obtain ⟨k, e, x, y, hk, rfl, hxy, rfl⟩ := hrel
    have HX := Lib.hid hxy
    by_cases hlt : k < m
    · obtain ⟨b, o, rfl, s1, r1⟩ := HR.out (by intro hl; rw [HM.out, hl] at hlt; simp at hlt)
      obtain ⟨p1, p2, y1, y2⟩ := r1 k hlt
      clear r1 hxy
      by_cases hk0 : k = 0
      · subst hk0
        simp only [Nat.zero_mul, Nat.add_zero] at p1 p2
        go_wp2_with fail
        refine region_mixW [0, 0, 0, 0, 0, 0, 0, 0, 0, 0, 0, 1, 1] (by kernel_rfl) (by kernel_rfl) (by kernel_rfl) ?_
        repeat (first | (refine wpM_quiet (fun K hK => ?_); go_simp; first | (refine hK _ ?_; clear hK K) | (apply Exists.intro; refine ⟨fun _ => ?_, hK _ ?_⟩; (first | fail); clear hK K)) | (refine wpM_special (fun K hK d => ?_); go_simp; refine hK _ _ (by first | exact lay_in w [_] _ | exact lay_in w [_, _] _ | exact lay_in w [_, _, _] _ | exact lay_in w [_, _, _, _] _ | exact lay_in w [_, _, _, _, _] _ | exact lay_in w [_, _, _, _, _, _] _) ?_; clear hK K))
        refine wpM_nil ?_
        intro d
        rw [lay_bw]
        go_wp2_with (go_at_call 41; refine (ref05_Hull _ _ _ _ _).mono ?_; rintro e w' ⟨rfl, d, rfl⟩)
        go_roundw
        case rel => exact ⟨0 + 1, _, _, _, by omega, by go_num, dK_one l, Classical.choose_spec (lay_fold w [_, _, _, _, _, _] _)⟩
        case measure => simp [intOf]; omega
      · have hkz : ((k : Int) == 0) = false := beq_eq_false_iff_ne.2 (by omega)
        go_wp2_with fail
        refine region_mixW [0, 0, 0, 0, 0, 0, 0, 0, 0, 0, 0, 1, 1] (by kernel_rfl) (by kernel_rfl) (by kernel_rfl) ?_
        repeat (first | (refine wpM_quiet (fun K hK => ?_); go_simp; first | (refine hK _ ?_; clear hK K) | (apply Exists.intro; refine ⟨fun _ => ?_, hK _ ?_⟩; (first | fail); clear hK K)) | (refine wpM_special (fun K hK d => ?_); go_simp; refine hK _ _ (by first | exact lay_in w [_] _ | exact lay_in w [_, _] _ | exact lay_in w [_, _, _] _ | exact lay_in w [_, _, _, _] _ | exact lay_in w [_, _, _, _, _] _ | exact lay_in w [_, _, _, _, _, _] _) ?_; clear hK K))
        refine wpM_nil ?_
        intro d
        rw [lay_bw]
        go_wp2_with (go_at_call 41; refine (ref05_Hull _ _ _ _ _).mono ?_; rintro e w' ⟨rfl, d, rfl⟩)
        go_roundw
        case rel => exact ⟨k + 1, _, _, _, by omega, by go_num, dK_more hk0 HX.out, Classical.choose_spec (lay_fold w [_, _, _, _, _, _] _)⟩
        case measure => simp [intOf]; omega
    · obtain rfl : k = m := by omega
      have bd := DK.out k (Nat.le_refl _)
      rw [HX.out] at bd
      simp only at bd
      obtain ⟨bd1, bd2, bd3, bd4⟩ := bd
      have hit : itC l (c0 - v1) (c1 - v0) 0 = (c0 - v1 - y, c1 - v0 - x) := by
        show (_ - (dK l l.length).2, _ - (dK l l.length).1) = _
        rw [← HM.out, HX.out]
      have HI := Lib.hid hit
      clear hxy hit DK HX hlt
      go_wp2_with (go_at_call 40; refine (ref05_Sub _ _ _ _ _ (by omega) (by omega) (by omega) (by omega)).mono ?_; rintro e w' ⟨rfl, d2, rfl⟩)
      go_loopw [12] (fun i wr => ∃ (j : Nat) (e2 : Ext) (p q : Int), j ≤ 8 ∧ i = .int .i64 j ∧ itC l (c0 - v1) (c1 - v0) j = (p, q) ∧ wr = lay w (.inr e2 :: .inl (.cells #[.int .i64 p, .int .i64 q] 24) :: [.inr d2, .inr e, .inl (.cells #[.int .i64 x, .int .i64 y] 24), .inl (.cells #[.int .i64 (c0 - v1), .int .i64 (c1 - v0)] 24), .inr d1, .inl (.cells #[.int .i64 0, .int .i64 0] 24), .inl (.cells #[.int .i64 v0, .int .i64 v1] 24), .inl (.cells #[.int .i64 c0, .int .i64 c1] 24)])) (fun i _ => 8 - (intOf i).toNat)
      case atStart => exact ⟨0, _, _, _, by omega, rfl, HI.out, Classical.choose_spec (lay_fold w [] _)⟩
      case round =>
        obtain ⟨j, e2, p, q, hj, rfl, hpq, rfl⟩ := hrel
        have HQ := Lib.hid hpq
        have b1 := IT.out j
        rw [hpq] at b1
        clear hpq
        simp only at b1
        obtain ⟨b11, b12, b13⟩ := b1
        have V := Lib.hid (validB_iff.2 (show p ≤ q ∧ -1099511627776 ≤ p ∧ q ≤ 1099511627776 by omega))
        by_cases hlt : j < 8
        · have ow := OW.out p q b12
          obtain ⟨ow1, ow2, ow3⟩ := ow
          have HS := Lib.hid (itC_step HQ.out)
          have SB := Lib.hid (fun W => ref05_Sub (c0 - v1) (c1 - v0) (oL l p q) (oH l p q) W (by omega) (by omega) (by omega) (by omega))
          go_wp2_with fail
          refine region_mixW [0, 0, 0, 0, 0, 1, 1] (by kernel_rfl) (by kernel_rfl) (by kernel_rfl) ?_
          repeat (first | (refine wpM_quiet (fun K hK => ?_); go_simp; first | (refine hK _ ?_; clear hK K) | (apply Exists.intro; refine ⟨fun _ => ?_, hK _ ?_⟩; (first | (go_at_call 39; exact bq (HO.out _ _ _ (tabs_lay HV.out _) V.out) (fun d => ⟨d, rfl⟩)) | (go_at_call 40; exact bq (SB.out _) (fun d => ⟨d, rfl⟩))); clear hK K)) | (refine wpM_special (fun K hK d => ?_); go_simp; refine hK _ _ (by first | exact lay_in w [_] _ | exact lay_in w [_, _] _ | exact lay_in w [_, _, _] _ | exact lay_in w [_, _, _, _] _ | exact lay_in w [_, _, _, _, _] _ | exact lay_in w [_, _, _, _, _, _] _) ?_; clear hK K))
          refine wpM_nil ?_
          intro d
          rw [lay_bw]
          go_wp2_with fail
          go_roundw
          case rel => exact ⟨j + 1, _, _, _, by omega, by go_num, HS.out, Classical.choose_spec (lay_fold w [_, _, _, _, _] _)⟩
          case measure => simp [intOf]; omega
        · obtain rfl : j = 8 := by omega
          have TU := fun W => ref05_Turn p q W (by omega) b12 (by omega)
          have e1 : turnLo p q = cmL l c0 c1 v0 v1 := by unfold cmL; rw [HQ.out]
          have e2' : turnHi p q = cmH l c0 c1 v0 v1 := by unfold cmH; rw [HQ.out]
          rw [e1, e2'] at TU
          have HTU := Lib.hid TU
          clear TU e1 e2' hlt
          go_wp2_with (go_at_call 37; refine (HTU.out _).mono ?_; rintro e w' ⟨rfl, d, rfl⟩)
          exact bodyPost_ret (v := (.agg #[.int .i64 (cmL l c0 c1 v0 v1), .int .i64 (cmH l c0 c1 v0 v1)])) (by simp [results, Try.results20, go_sem]) rfl ⟨rfl, lay_ex _ _⟩
end Go.Proofs.Ytjfkaogjlfgelaa
