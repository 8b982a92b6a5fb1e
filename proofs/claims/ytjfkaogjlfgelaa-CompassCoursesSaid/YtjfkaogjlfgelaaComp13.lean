/- The reference's Over. -/
import Derived.Test.YtjfkaogjlfgelaaProg
import Derived.Test.YtjfkaogjlfgelaaLay
import Derived.Test.YtjfkaogjlfgelaaRegion
import Derived.Test.YtjfkaogjlfgelaaMix
import Derived.WalkKit
import Derived.WalkSpells
import Derived.WalkLawsBesides
import Derived.Lib.Hide
import Derived.BigQuiet
import Derived.BigRegion
import Derived.Test.YtjfkaogjlfgelaaPlain
import Derived.Test.YtjfkaogjlfgelaaAngle
import Derived.Test.YtjfkaogjlfgelaaCompPlain
import Derived.Test.YtjfkaogjlfgelaaCompPlain2
import Derived.Test.YtjfkaogjlfgelaaTabs
import Derived.Test.YtjfkaogjlfgelaaComp1
import Derived.Test.YtjfkaogjlfgelaaComp3
import Derived.Test.YtjfkaogjlfgelaaComp4
import Derived.Test.YtjfkaogjlfgelaaComp5
import Derived.Test.YtjfkaogjlfgelaaComp12
namespace Go.Proofs.Ytjfkaogjlfgelaa
open Go.RowKit

theorem ovK_wide {l : Tl} (T : Tab l) (lo hi : Int) : ∀ k, k ≤ l.length → -1800000 ≤ (ovK l lo hi k).1 ∧ (ovK l lo hi k).1 ≤ (ovK l lo hi k).2 ∧ (ovK l lo hi k).2 ≤ 1800000
  | 0, _ => by
    have a := at_wide T lo; have b := at_wide T hi; have c := at_le T lo; have d := at_le T hi
    show _ ≤ mn' (atLo l lo) (atLo l hi) ∧ mn' (atLo l lo) (atLo l hi) ≤ mx' (atHi l lo) (atHi l hi) ∧ mx' (atHi l lo) (atHi l hi) ≤ 1800000
    unfold mn' mx'; split <;> split <;> omega
  | k + 1, hk => by
    have ih := ovK_wide T lo hi k (by omega)
    have a := T.d0 k (by omega); have b := T.d1 k (by omega)
    have step : ∀ (n : Int) (c : Int × Int), (-1800000 ≤ c.1 ∧ c.1 ≤ c.2 ∧ c.2 ≤ 1800000) → (-1800000 ≤ (st1 lo hi n (dv l k) c).1 ∧ (st1 lo hi n (dv l k) c).1 ≤ (st1 lo hi n (dv l k) c).2 ∧ (st1 lo hi n (dv l k) c).2 ≤ 1800000) := fun n c hc => by
      unfold st1 hl mn' mx'
      split
      · simp only; split <;> split <;> omega
      · exact hc
    exact step _ _ (step _ _ ih)
set_option maxHeartbeats 8000000 in
set_option maxRecDepth 100000 in
theorem ref34_Over (v : Value) (l : Tl) (x0 y0 : Int) (w : World) (hv : Tabs w v l) (T : Tab l) (hV : validB x0 y0 = true) :
    Calls Try.prog 39 #[v, (.agg #[.int .i64 (x0), .int .i64 (y0)])] w fun e w' => e = .returned (.agg #[.int .i64 (oL l x0 y0), .int .i64 (oH l x0 y0)]) ∧ ∃ d, w' = bw w d := by
  obtain ⟨p1, p2, p3⟩ := validB_iff.1 hV
  have TB := turn_bd p1
  have TL : turnLo x0 y0 < 21600000 := by unfold turnLo; split <;> omega
  obtain ⟨lo, hlo⟩ : ∃ lo, lo = turnLo x0 y0 := ⟨_, rfl⟩
  obtain ⟨hi, hhi⟩ : ∃ hi, hi = turnHi x0 y0 := ⟨_, rfl⟩
  have TU := fun W => ref05_Turn x0 y0 W (by omega) p1 (by omega)
  have eo : oL l x0 y0 = ovLo l lo hi ∧ oH l x0 y0 = ovHi l lo hi := by rw [hlo, hhi]; exact ⟨rfl, rfl⟩
  rw [← hlo, ← hhi] at TU TB
  rw [← hlo] at TL
  rw [eo.1, eo.2]
  have AT := fun n L => ref34_At v l n (lay w L) (tabs_lay hv L) T
  have HTU := Lib.hid TU
  have HT := Lib.hid T
  have OW := Lib.hid (ovK_wide T lo hi)
  obtain ⟨a, cap, rfl, g1, k1⟩ := hv
  have h72 : l.length ≤ 72 := T.len
  obtain ⟨m, hm⟩ : ∃ m, m = l.length := ⟨_, rfl⟩
  rw [← hm] at h72 AT k1 g1 OW
  rw [← hm]
  have HM := Lib.hid hm
  have HK := Lib.hid k1
  have HAT := Lib.hid AT
  obtain ⟨tb1, tb2, tb3⟩ := TB
  have V1 := validB_iff.2 (show atLo l lo ≤ atHi l lo ∧ -1099511627776 ≤ atLo l lo ∧ atHi l lo ≤ 1099511627776 by have := at_wide T lo; have := at_le T lo; omega)
  have V2 := validB_iff.2 (show atLo l hi ≤ atHi l hi ∧ -1099511627776 ≤ atLo l hi ∧ atHi l hi ≤ 1099511627776 by have := at_wide T hi; have := at_le T hi; omega)
  have HV1 := Lib.hid V1
  have HV2 := Lib.hid V2
  clear k1 hlo hhi T hm hV AT TU eo V1 V2 HV1 HV2
  refine lay_start ?_
  go_enter Try.func39, Try.ntmps39
  go_wp2_with (go_at_call 37; refine (HTU.out _).mono ?_; rintro e w' ⟨rfl, d, rfl⟩)
  refine region_mixW [0, 0, 0, 0, 0, 0, 0, 0, 0, 1, 1] (by kernel_rfl) (by kernel_rfl) (by kernel_rfl) ?_
  repeat (first | (refine wpM_quiet (fun K hK => ?_); go_simp; first | (refine hK _ ?_; clear hK K) | (apply Exists.intro; refine ⟨fun _ => ?_, hK _ ?_⟩; (first | (go_at_call 60; exact bq (HAT.out _ _) (fun d => ⟨d, rfl⟩)) | (go_at_call 41; exact bq (ref05_Hull _ _ _ _ _) (fun d => ⟨d, rfl⟩))); clear hK K)) | (refine wpM_special (fun K hK d => ?_); go_simp; refine hK _ _ (by first | exact lay_in w [_] _ | exact lay_in w [_, _] _ | exact lay_in w [_, _, _] _ | exact lay_in w [_, _, _, _] _ | exact lay_in w [_, _, _, _, _] _ | exact lay_in w [_, _, _, _, _, _] _) ?_; clear hK K))
  refine wpM_nil ?_
  intro d
  rw [lay_bw]
  go_wp2_with fail
  rename_i eT eA eS K hK
  go_loopw [7] (fun i wr => ∃ (k : Nat) (e : Ext) (c1 c2 : Int), k ≤ m ∧ i = .int .i64 k ∧ ovK l lo hi k = (c1, c2) ∧ wr = lay w (.inr e :: .inl (.cells #[.int .i64 c1, .int .i64 c2] 24) :: [.inr eA, .inl (.cells #[.int .i64 lo, .int .i64 hi] 24), .inr eT, .inl (.cells #[.int .i64 0, .int .i64 0] 24), .inl (.cells #[.int .i64 x0, .int .i64 y0] 24)])) (fun i _ => m - (intOf i).toNat)
  case atStart => exact ⟨0, _, _, _, by omega, rfl, rfl, Classical.choose_spec (lay_fold w [_, _] _)⟩
  case round =>
    obtain ⟨k, e, c1, c2, hk, rfl, hc, rfl⟩ := hrel
    by_cases hlt : k < m
    · obtain ⟨b, o, rfl, s1, r1⟩ := HK.out (by rintro rfl; rw [HM.out] at hlt; simp at hlt)
      obtain ⟨q1, q2, x1, x2⟩ := r1 k hlt
      have bb := (HT.out.e1 k (by rw [← HM.out]; omega)).bd
      have ow := OW.out k hk
      rw [hc] at ow
      simp only at ow
      have A1 := fun L => HAT.out (hd l k) L
      have A2 := fun L => HAT.out (hd l k + 21600000) L
      have E1 := at_entry HT.out (i := k) (by rw [← HM.out]; exact hlt) (hd l k) (by omega)
      have E2 := at_entry HT.out (i := k) (by rw [← HM.out]; exact hlt) (hd l k + 21600000) (by omega)
      rw [E1.1, E1.2] at A1
      rw [E2.1, E2.2] at A2
      have HA1 := Lib.hid A1
      have HA2 := Lib.hid A2
      have HC := Lib.hid hc
      obtain ⟨bb1, bb2, bb3, bb4⟩ := bb
      clear r1 A1 A2 E1 E2 hc ow HAT
      by_cases t1 : hd l k ≤ hi
      · by_cases t2 : lo ≤ hd l k
        · by_cases t3 : hd l k + 21600000 ≤ hi
          · have HS := Lib.hid (ov_step HC.out ⟨⟨t2, t1⟩, by omega, t3⟩)
            go_wp2_with fail
            refine wp_loop_rounds 3 ?_
            rw [rounds_succ]
            go_wp2_with fail
            refine region_bw_tail 5 (by kernel_rfl) (by kernel_rfl) ?_
            simp only [List.take_succ_cons, List.take_zero, List.drop_succ_cons, List.drop_zero]
            repeat (go_big_quiet_step ((first | (go_at_call 60; exact bq (HA1.out _) (fun d => lay_join _ _ _ d)) | (go_at_call 60; exact bq (HA1.out _) (fun d => ⟨d, rfl⟩)) | (go_at_call 41; exact bq (ref05_Hull _ _ _ _ _) (fun d => lay_join _ _ _ d)) | (go_at_call 41; exact bq (ref05_Hull _ _ _ _ _) (fun d => ⟨d, rfl⟩)))))
            refine wpQuiet_nil ?_
            rintro w' ⟨d, rfl⟩
            rw [lay_bw]
            go_wp2_with fail
            rw [rounds_succ]
            go_wp2_with fail
            refine region_bw_tail 5 (by kernel_rfl) (by kernel_rfl) ?_
            simp only [List.take_succ_cons, List.take_zero, List.drop_succ_cons, List.drop_zero]
            repeat (go_big_quiet_step ((first | (go_at_call 60; exact bq (HA2.out _) (fun d => lay_join _ _ _ d)) | (go_at_call 60; exact bq (HA2.out _) (fun d => ⟨d, rfl⟩)) | (go_at_call 41; exact bq (ref05_Hull _ _ _ _ _) (fun d => lay_join _ _ _ d)) | (go_at_call 41; exact bq (ref05_Hull _ _ _ _ _) (fun d => ⟨d, rfl⟩)))))
            refine wpQuiet_nil ?_
            rintro w' ⟨d, rfl⟩
            rw [lay_bw]
            go_wp2_with fail
            rw [rounds_succ]
            go_wp2_with fail
            go_roundw
            case rel => exact ⟨k + 1, _, _, _, by omega, by go_num, HS.out, Classical.choose_spec (lay_fold w [_, _, _] _)⟩
            case measure => simp [intOf]; omega
          · have HS := Lib.hid (ov_step1 HC.out ⟨t2, t1⟩ (by omega))
            go_wp2_with fail
            refine wp_loop_rounds 3 ?_
            rw [rounds_succ]
            go_wp2_with fail
            refine region_bw_tail 5 (by kernel_rfl) (by kernel_rfl) ?_
            simp only [List.take_succ_cons, List.take_zero, List.drop_succ_cons, List.drop_zero]
            repeat (go_big_quiet_step ((first | (go_at_call 60; exact bq (HA1.out _) (fun d => lay_join _ _ _ d)) | (go_at_call 60; exact bq (HA1.out _) (fun d => ⟨d, rfl⟩)) | (go_at_call 41; exact bq (ref05_Hull _ _ _ _ _) (fun d => lay_join _ _ _ d)) | (go_at_call 41; exact bq (ref05_Hull _ _ _ _ _) (fun d => ⟨d, rfl⟩)))))
            refine wpQuiet_nil ?_
            rintro w' ⟨d, rfl⟩
            rw [lay_bw]
            go_wp2_with fail
            rw [rounds_succ]
            go_wp2_with fail
            go_roundw
            case rel => exact ⟨k + 1, _, _, _, by omega, by go_num, HS.out, Classical.choose_spec (lay_fold w [_, _] _)⟩
            case measure => simp [intOf]; omega
        · by_cases t3 : hd l k + 21600000 ≤ hi
          · have HS := Lib.hid (ov_step2 HC.out (by omega) ⟨by omega, t3⟩)
            go_wp2_with fail
            refine wp_loop_rounds 3 ?_
            rw [rounds_succ]
            go_wp2_with fail
            rw [rounds_succ]
            go_wp2_with fail
            refine region_bw_tail 5 (by kernel_rfl) (by kernel_rfl) ?_
            simp only [List.take_succ_cons, List.take_zero, List.drop_succ_cons, List.drop_zero]
            repeat (go_big_quiet_step ((first | (go_at_call 60; exact bq (HA2.out _) (fun d => lay_join _ _ _ d)) | (go_at_call 60; exact bq (HA2.out _) (fun d => ⟨d, rfl⟩)) | (go_at_call 41; exact bq (ref05_Hull _ _ _ _ _) (fun d => lay_join _ _ _ d)) | (go_at_call 41; exact bq (ref05_Hull _ _ _ _ _) (fun d => ⟨d, rfl⟩)))))
            refine wpQuiet_nil ?_
            rintro w' ⟨d, rfl⟩
            rw [lay_bw]
            go_wp2_with fail
            rw [rounds_succ]
            go_wp2_with fail
            go_roundw
            case rel => exact ⟨k + 1, _, _, _, by omega, by go_num, HS.out, Classical.choose_spec (lay_fold w [_, _] _)⟩
            case measure => simp [intOf]; omega
          · have HS := Lib.hid (ov_step0 HC.out (by omega) (by omega))
            go_wp2_with fail
            refine wp_loop_rounds 3 ?_
            rw [rounds_succ]
            go_wp2_with fail
            rw [rounds_succ]
            go_wp2_with fail
            go_roundw
            case rel => exact ⟨k + 1, _, _, _, by omega, by go_num, HS.out, rfl⟩
            case measure => simp [intOf]; omega
      · have HS := Lib.hid (ov_step0 HC.out (by omega) (by omega))
        go_wp2_with fail
        refine wp_loop_rounds 3 ?_
        rw [rounds_succ]
        go_wp2_with fail
        go_roundw
        case rel => exact ⟨k + 1, _, _, _, by omega, by go_num, HS.out, rfl⟩
        case measure => simp [intOf]; omega
    · obtain rfl : k = m := by omega
      have hh : ovLo l lo hi = c1 ∧ ovHi l lo hi = c2 := by
        unfold ovLo ovHi
        rw [← HM.out, hc]
        exact ⟨rfl, rfl⟩
      have HH := Lib.hid hh
      clear hh hc
      go_wp2
      exact bodyPost_ret (v := (.agg #[.int .i64 (c1), .int .i64 (c2)])) (by simp [results, Try.results39, go_sem]) rfl ⟨by rw [HH.out.1, HH.out.2], lay_ex _ _⟩
end Go.Proofs.Ytjfkaogjlfgelaa
