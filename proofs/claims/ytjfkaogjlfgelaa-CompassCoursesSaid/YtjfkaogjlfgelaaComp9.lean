/- compass.Compass. -/
import Derived.Test.YtjfkaogjlfgelaaProg
import Derived.Test.YtjfkaogjlfgelaaLay
import Derived.Test.YtjfkaogjlfgelaaRegion
import Derived.WalkKit
import Derived.WalkSpells
import Derived.WalkLawsBesides
import Derived.Lib.Hide
import Derived.BigQuiet
import Derived.BigRegion
import Derived.Test.YtjfkaogjlfgelaaPlain
import Derived.Test.YtjfkaogjlfgelaaAngle
import Derived.Test.YtjfkaogjlfgelaaCompPlain
import Derived.Test.YtjfkaogjlfgelaaCompPlain2
import Derived.Test.YtjfkaogjlfgelaaTabs
import Derived.Test.YtjfkaogjlfgelaaComp1
import Derived.Test.YtjfkaogjlfgelaaComp3
import Derived.Test.YtjfkaogjlfgelaaComp4
import Derived.Test.YtjfkaogjlfgelaaComp5
import Derived.Test.YtjfkaogjlfgelaaComp6
import Derived.Test.YtjfkaogjlfgelaaComp8
namespace Go.Proofs.Ytjfkaogjlfgelaa
open Go.RowKit

set_option maxHeartbeats 1000000 in
theorem comp_Compass_bad (v : Value) (l : Tl) (c0 c1 v0 v1 : Int) (w : World) (hv : Tabs w v l) (h : givE l c0 c1 v0 v1 ≠ 0) :
    Calls Try.prog 14 #[v, (.agg #[.int .i64 (c0), .int .i64 (c1)]), (.agg #[.int .i64 (v0), .int .i64 (v1)])] w fun e w' => e = .returned (.tuple #[(.agg #[.int .i64 (0), .int .i64 (0)]), .int .i64 (givE l c0 c1 v0 v1)]) ∧ ∃ d, w' = bw w d := by
  have HV := Lib.hid hv
  obtain ⟨g, hg⟩ : ∃ g, g = givE l c0 c1 v0 v1 := ⟨_, rfl⟩
  have HG := fun L => comp_given v l c0 c1 v0 v1 (lay w L) (tabs_lay HV.out _)
  rw [← hg] at HG h
  rw [← hg]
  have HG' := Lib.hid HG
  clear hv HG hg
  refine lay_start ?_
  go_enter Try.func14, Try.ntmps14
  go_wp2_with (first | (go_at_call 32; refine (HG'.out _).mono ?_; rintro e w' ⟨rfl, d, rfl⟩))
  exact bodyPost_ret (v := .tuple #[(.agg #[.int .i64 (0), .int .i64 (0)]), .int .i64 g]) (by simp [results, Try.results14, go_sem]) rfl ⟨rfl, lay_ex _ _⟩
theorem angle_Meet_ok (x0 y0 x1 y1 : Int) (w : World) (h1 : validB x0 y0 = true) (h2 : validB x1 y1 = true) (h3 : mx x0 x1 ≤ mn y0 y1) :
    Calls Try.prog 35 #[(.agg #[.int .i64 (x0), .int .i64 (y0)]), (.agg #[.int .i64 (x1), .int .i64 (y1)])] w fun e w' => e = .returned (.tuple #[(.agg #[.int .i64 (mx x0 x1), .int .i64 (mn y0 y1)]), .int .i64 0]) ∧ ∃ d, w' = bw w d := by
  have := angle_Meet x0 y0 x1 y1 w h1 h2
  obtain ⟨a, b, c⟩ := meet_good h3
  rw [a, b, c] at this
  exact this
theorem dK_one (l : Tl) : dK l (0 + 1) = (mn (dv l 0) (dv l 0), mx (dv l 0) (dv l 0)) := by
  show dK l 1 = _
  simp [dK, mn, mx]
theorem dK_more {l : Tl} {k : Nat} (h : k ≠ 0) {x y : Int} (e : dK l k = (x, y)) : dK l (k + 1) = (mn x (dv l k), mx y (dv l k)) := by
  show (if k = 0 then _ else _) = _
  rw [if_neg h, e]; rfl
theorem itC_step {l : Tl} {p q : Int} {k : Nat} {x y : Int} (e : itC l p q k = (x, y)) : itC l p q (k + 1) = (mx x (p - oH l x y), mn y (q - oL l x y)) := by
  show (mx' (itC l p q k).1 _, mn' (itC l p q k).2 _) = _
  rw [e]; rfl
def cmL (l : Tl) (c0 c1 v0 v1 : Int) : Int := turnLo (itC l (c0 - v1) (c1 - v0) 8).1 (itC l (c0 - v1) (c1 - v0) 8).2
def cmH (l : Tl) (c0 c1 v0 v1 : Int) : Int := turnHi (itC l (c0 - v1) (c1 - v0) 8).1 (itC l (c0 - v1) (c1 - v0) 8).2
set_option maxHeartbeats 4000000 in
set_option maxRecDepth 100000 in
theorem comp_Compass_ok (v : Value) (l : Tl) (c0 c1 v0 v1 : Int) (w : World) (hv : Tabs w v l) (h : givE l c0 c1 v0 v1 = 0) :
    Calls Try.prog 14 #[v, (.agg #[.int .i64 (c0), .int .i64 (c1)]), (.agg #[.int .i64 (v0), .int .i64 (v1)])] w fun e w' => e = .returned (.tuple #[(.agg #[.int .i64 (cmL l c0 c1 v0 v1), .int .i64 (cmH l c0 c1 v0 v1)]), .int .i64 0]) ∧ ∃ d, w' = bw w d := by
  have HG := fun L => comp_given v l c0 c1 v0 v1 (lay w L) (tabs_lay hv _)
  rw [h] at HG
  obtain ⟨g1, g2, g3, g4, g5, g6, g7⟩ := givE_ok h
  have T := vB_iff.1 g1
  obtain ⟨k1, k2, k3⟩ := validB_iff.1 g2
  obtain ⟨k4, k5, k6⟩ := validB_iff.1 g3
  have IT := Lib.hid (itC_ok T (show c0 - v1 ≤ c1 - v0 by omega))
  have OW := Lib.hid (fun x y (hxy : x ≤ y) => o_wide T hxy)
  have HO := Lib.hid (fun x y L (hxy : validB x y = true) => comp_overT v l x y (lay w L) (tabs_lay hv L) T hxy)
  have DK := Lib.hid (fun k (hk : k ≤ l.length) => dK_bd (l := l) (X := -1800000) (Y := 1800000) (by decide) (by decide) k (fun i hi => ⟨T.d0 i (by omega), T.d1 i (by omega)⟩))
  have HG' := Lib.hid HG
  have HT := Lib.hid T
  obtain ⟨a, cap, rfl, q1, r1⟩ := hv
  obtain ⟨m, hm⟩ : ∃ m, m = l.length := ⟨_, rfl⟩
  have h72 : l.length ≤ 72 := T.len
  rw [← hm] at h72 r1 HO q1 HG' DK
  rw [← hm]
  have HM := Lib.hid hm
  have HR := Lib.hid r1
  clear hm h T HG g1 g2 g3 r1
  refine lay_start ?_
  go_enter Try.func14, Try.ntmps14
  go_wp2_with (first | (go_at_call 32; refine (HG'.out _).mono ?_; rintro e w' ⟨rfl, d, rfl⟩))
  go_loopw [38] (fun i wr => ∃ (k : Nat) (e : Ext) (x y : Int), k ≤ m ∧ i = .int .i64 k ∧ dK l k = (x, y) ∧ wr = lay w (.inr e :: .inl (.cells #[.int .i64 x, .int .i64 y] 24) :: [.inl (.cells #[.int .i64 (c0 - v1), .int .i64 (c1 - v0)] 24), .inr d, .inl (.cells #[.int .i64 0, .int .i64 0] 24), .inl (.cells #[.int .i64 v0, .int .i64 v1] 24), .inl (.cells #[.int .i64 c0, .int .i64 c1] 24)])) (fun i _ => m - (intOf i).toNat)
  case atStart => exact ⟨0, _, _, _, by omega, rfl, rfl, Classical.choose_spec (lay_fold w [] _)⟩
  case round =>
    obtain ⟨k, e, x, y, hk, rfl, hxy, rfl⟩ := hrel
    have HX := Lib.hid hxy
    by_cases hlt : k < m
    · obtain ⟨b, o, rfl, s1, r1⟩ := HR.out (by intro hl; rw [HM.out, hl] at hlt; simp at hlt)
      obtain ⟨p1, p2, y1, y2⟩ := r1 k hlt
      clear r1 hxy
      by_cases hk0 : k = 0
      · subst hk0
        simp only [Nat.zero_mul, Nat.add_zero] at p1 p2
        go_wp2_with (go_at_call 34; refine (comp_hull _ _ _ _ _).mono ?_; rintro e w' ⟨rfl, d, rfl⟩)
        go_roundw
        case rel => exact ⟨0 + 1, _, _, _, by omega, by go_num, dK_one l, Classical.choose_spec (lay_fold w [_, _, _, _] _)⟩
        case measure => simp [intOf]; omega
      · go_wp2_with (go_at_call 34; refine (comp_hull _ _ _ _ _).mono ?_; rintro e w' ⟨rfl, d, rfl⟩)
        go_roundw
        case rel => exact ⟨k + 1, _, _, _, by omega, by go_num, dK_more hk0 HX.out, Classical.choose_spec (lay_fold w [_, _, _, _] _)⟩
        case measure => simp [intOf]; omega
    · obtain rfl : k = m := by omega
      have bd := DK.out k (Nat.le_refl _)
      rw [HX.out] at bd
      simp only at bd
      obtain ⟨bd1, bd2, bd3, bd4⟩ := bd
      have hit : itC l (c0 - v1) (c1 - v0) 0 = (c0 - v1 - y, c1 - v0 - x) := by
        show (_ - (dK l l.length).2, _ - (dK l l.length).1) = _
        rw [← HM.out, HX.out]
      have HI := Lib.hid hit
      clear hxy hit DK HX hlt
      go_wp2_with fail
      go_loopw [66] (fun i wr => ∃ (j : Nat) (e2 : Ext) (p q : Int), j ≤ 8 ∧ i = .int .i64 j ∧ itC l (c0 - v1) (c1 - v0) j = (p, q) ∧ wr = lay w (.inr e2 :: .inl (.cells #[.int .i64 p, .int .i64 q] 24) :: [.inr e, .inl (.cells #[.int .i64 x, .int .i64 y] 24), .inl (.cells #[.int .i64 (c0 - v1), .int .i64 (c1 - v0)] 24), .inr d, .inl (.cells #[.int .i64 0, .int .i64 0] 24), .inl (.cells #[.int .i64 v0, .int .i64 v1] 24), .inl (.cells #[.int .i64 c0, .int .i64 c1] 24)])) (fun i _ => 8 - (intOf i).toNat)
      case atStart => exact ⟨0, _, _, _, by omega, rfl, HI.out, Classical.choose_spec (lay_fold w [] _)⟩
      case round =>
        obtain ⟨j, e2, p, q, hj, rfl, hpq, rfl⟩ := hrel
        have HQ := Lib.hid hpq
        have b1 := IT.out j
        rw [hpq] at b1
        clear hpq
        simp only at b1
        obtain ⟨b11, b12, b13⟩ := b1
        have V := Lib.hid (validB_iff.2 (show p ≤ q ∧ -1099511627776 ≤ p ∧ q ≤ 1099511627776 by omega))
        by_cases hlt : j < 8
        · have b2 := IT.out (j + 1)
          have hst := itC_step HQ.out
          rw [hst] at b2
          simp only at b2
          have ow := OW.out p q b12
          obtain ⟨ow1, ow2, ow3⟩ := ow
          have V2 := Lib.hid (validB_iff.2 (show c0 - v1 - oH l p q ≤ c1 - v0 - oL l p q ∧ -1099511627776 ≤ c0 - v1 - oH l p q ∧ c1 - v0 - oL l p q ≤ 1099511627776 by omega))
          have MT := Lib.hid (fun W => angle_Meet_ok p q (c0 - v1 - oH l p q) (c1 - v0 - oL l p q) W V.out V2.out b2.2.1)
          have HS := Lib.hid hst
          clear hst b2 V2
          go_wp2_with (first | (go_at_call 31; refine (HO.out _ _ _ V.out).mono ?_; rintro e w' ⟨rfl, d, rfl⟩) | (go_at_call 35; refine (MT.out _).mono ?_; rintro e w' ⟨rfl, d, rfl⟩))
          go_roundw
          case rel => exact ⟨j + 1, _, _, _, by omega, by go_num, HS.out, Classical.choose_spec (lay_fold w [_, _, _, _] _)⟩
          case measure => simp [intOf]; omega
        · obtain rfl : j = 8 := by omega
          have TU := fun W => angle_Turn p q W V.out
          have e1 : turnLo p q = cmL l c0 c1 v0 v1 := by unfold cmL; rw [HQ.out]
          have e2' : turnHi p q = cmH l c0 c1 v0 v1 := by unfold cmH; rw [HQ.out]
          rw [e1, e2'] at TU
          have HTU := Lib.hid TU
          clear TU e1 e2' hlt
          go_wp2_with (go_at_call 33; refine (HTU.out _).mono ?_; rintro e w' ⟨rfl, d, rfl⟩)
          exact bodyPost_ret (v := .tuple #[(.agg #[.int .i64 (cmL l c0 c1 v0 v1), .int .i64 (cmH l c0 c1 v0 v1)]), .int .i64 0]) (by simp [results, Try.results14, go_sem]) rfl ⟨rfl, lay_ex _ _⟩
end Go.Proofs.Ytjfkaogjlfgelaa
