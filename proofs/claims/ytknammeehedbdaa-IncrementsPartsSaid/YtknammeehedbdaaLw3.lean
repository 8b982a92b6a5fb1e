/- Layer 14's law IncrementsParts walked. -/
import Derived.Test.YtknammeehedbdaaProg
import Derived.Test.YtknammeehedbdaaLay
import Derived.Test.YtknammeehedbdaaRegion
import Derived.Test.YtknammeehedbdaaMix
import Derived.WalkKit
import Derived.WalkSpells
import Derived.WalkLawsBesides
import Derived.Lib.Hide
import Derived.BigQuiet
import Derived.Deep.RegionWith
import Derived.Test.YtknammeehedbdaaPlain
import Derived.Test.YtknammeehedbdaaAngle
import Derived.Test.YtknammeehedbdaaInc1
import Derived.Test.YtknammeehedbdaaInc3
import Derived.Test.YtknammeehedbdaaTrk
import Derived.Test.YtknammeehedbdaaRf7
import Derived.Test.YtknammeehedbdaaLw1
import Derived.Test.YtknammeehedbdaaLw2
import Derived.Test.YtknammeehedbdaaSub
namespace Go.Proofs.Ytknammeehedbdaa
open Go.RowKit

theorem wf_u32_14 {a : Int} (h : (Lit.int .u32 a).wf = true) : 0 ≤ a ∧ a ≤ 4294967295 := by simpa [Lit.wf, IntKind.min, IntKind.max, IntKind.bits, IntKind.signed] using h
set_option maxHeartbeats 1000000 in
theorem law14_near (x0 y0 x1 y1 : Int) (w : World) (hN : nearC x0 y0 x1 y1) (a0 : 0 ≤ x0 ∧ x0 ≤ y0 ∧ y0 ≤ 43200000) (a1 : 0 ≤ x1 ∧ x1 ≤ y1 ∧ y1 ≤ 43200000) :
    Calls Try.prog 34 #[(.agg #[.int .i64 (x0), .int .i64 (y0)]), (.agg #[.int .i64 (x1), .int .i64 (y1)])] w fun e w' => e = .returned (.bool true) ∧ ∃ d, w' = bw w d := by
  obtain ⟨a, b, c⟩ := a0
  obtain ⟨d0, e0, f0⟩ := a1
  by_cases h : 21600000 ≤ y1 - x1
  · refine lay_start ?_
    go_enter Try.func34, Try.ntmps34
    go_wp2
    go_ret
    exact ⟨rfl, lay_ex _ _⟩
  · obtain ⟨n1, n2, n3⟩ : y1 - x1 < 21600000 ∧ y0 - x0 < 21600000 ∧ (x0 - x1) % 21600000 + y0 - x0 ≤ y1 - x1 := hN.resolve_left h
    have m0 : 0 ≤ (x0 - x1) % 21600000 ∧ (x0 - x1) % 21600000 < 21600000 := by omega
    clear hN
    refine lay_start ?_
    go_enter Try.func34, Try.ntmps34
    go_wp2_with (go_at_call 31; refine (ref05_Wrap _ _).mono ?_; rintro e w' ⟨rfl, rfl⟩)
    go_ret
    exact ⟨by first | rfl | (simp; done) | (simp; omega), lay_ex _ _⟩
theorem meets_in {x0 y0 x1 y1 : Int} (h0 : mx x0 (-5400000) ≤ mn y0 5400000) (h1 : mx x1 (-5400000) ≤ mn y1 5400000) (h2 : x1 ≤ x0) (h3 : y0 ≤ y1) :
    inside2B (mx x0 (-5400000)) (mn y0 5400000) (mx x1 (-5400000)) (mn y1 5400000) = true := by
  rw [inside2B_iff, validB_iff, validB_iff]
  rw [mx_eq, mn_eq] at *
  rw [mx_eq, mn_eq] at *
  omega
set_option maxHeartbeats 4000000 in
set_option maxRecDepth 100000 in
theorem law14_Parts (v : Value) (t : TrkV) {w : World} (hv : Trk w v t) (lo : Int) (_ : (Lit.int .i64 lo).wf = true) (hi : Int) (_ : (Lit.int .i64 hi).wf = true) (a : Int) (wa : (Lit.int .u32 a).wf = true) (b : Int) (wb : (Lit.int .u32 b).wf = true) :
    Calls Try.prog 10 #[v, .int .i64 lo, .int .i64 hi, .int .u32 a, .int .u32 b] w fun e w' => e = .returned (.bool true) ∧ ∃ d, w' = bw w d := by
  obtain ⟨vg, vd, hvv, -⟩ := id hv
  subst hvv
  have ba := wf_u32_14 wa
  have bb := wf_u32_14 wb
  clear wa wb
  have HS := Lib.hid (fun L => law14_short _ t (lay w L) (hv.lay L))
  cases hsh : shortB t
  · rw [hsh] at HS
    refine lay_start ?_
    go_enter Try.func10, Try.ntmps10
    go_wp2_with (first | (go_at_call 11; refine (law14_awake _).mono ?_; rintro e w' ⟨rfl, d, rfl⟩) | (go_at_call 22; refine (HS.out _).mono ?_; rintro e w' ⟨rfl, d, rfl⟩))
    go_ret
    exact ⟨rfl, lay_ex _ _⟩
  · rw [hsh] at HS
    by_cases e1 : instE t lo = 0
    · by_cases e2 : instE t hi = 0
      · by_cases hle : lo ≤ hi
        · obtain ⟨hB, h1⟩ := instE_0.1 e1
          have h2 := (instE_0.1 e2).2
          obtain ⟨F0, hF0⟩ : ∃ F0, lo + a % (hi - lo + 1) = F0 := ⟨_, rfl⟩
          obtain ⟨T0, hT0⟩ : ∃ T0, lo + b % (hi - lo + 1) = T0 := ⟨_, rfl⟩
          have rF := Int.emod_nonneg a (show hi - lo + 1 ≠ 0 by omega)
          have rF2 := Int.emod_lt_of_pos a (show 0 < hi - lo + 1 by omega)
          have rT := Int.emod_nonneg b (show hi - lo + 1 ≠ 0 by omega)
          have rT2 := Int.emod_lt_of_pos b (show 0 < hi - lo + 1 by omega)
          have tF : a.tmod (hi - lo + 1) = a % (hi - lo + 1) := Int.tmod_eq_emod_of_nonneg ba.1
          have tT : b.tmod (hi - lo + 1) = b % (hi - lo + 1) := Int.tmod_eq_emod_of_nonneg bb.1
          obtain ⟨f, hf⟩ : ∃ f, mn F0 T0 = f := ⟨_, rfl⟩
          obtain ⟨g, hg⟩ : ∃ g, mx F0 T0 = g := ⟨_, rfl⟩
          have hfg : lo ≤ f ∧ f ≤ g ∧ g ≤ hi := by rw [← hf, ← hg, mn_eq, mx_eq]; omega
          have ef : instE t f = 0 := instE_0.2 ⟨hB, by omega⟩
          have eg : instE t g = 0 := instE_0.2 ⟨hB, by omega⟩
          have HD := Lib.hid (fun L => inc_During_ok _ t lo hi (lay w L) (hv.lay L) e1 e2 hle)
          have HE := Lib.hid (fun L => inc_During_ok _ t f g (lay w L) (hv.lay L) ef eg hfg.2.1)
          have HG := Lib.hid (fun L => inc_Gha_ok _ t f (lay w L) (hv.lay L) ef)
          have HH := Lib.hid (fun L => inc_Dec_ok _ t f (lay w L) (hv.lay L) ef)
          have gd := gd_of hB
          have s1 := ovr_sub (arcA (ang t.g)) gd.r0 hfg.1 hfg.2.1 hfg.2.2
          have s2 := ovr_sub (arcA (ang t.g)) gd.r0 (Int.le_refl f) (Int.le_refl f) hfg.2.1
          have s3 := ovr_sub (arcA (dcl t.d)) gd.r0 hfg.1 hfg.2.1 hfg.2.2
          have s4 := ovr_sub (arcA (dcl t.d)) gd.r0 (Int.le_refl f) (Int.le_refl f) hfg.2.1
          have k1 := (validB_iff.1 (ghaO_valid gd lo hi)).1
          have k2 := (validB_iff.1 (ghaO_valid gd f g)).1
          have k3 := (validB_iff.1 (ghaO_valid gd f f)).1
          have HN := Lib.hid (fun W => law14_near _ _ _ _ W (turn_sub s1.1 k2 s1.2) (turn_rng k2) (turn_rng k1))
          have HM := Lib.hid (fun W => law14_near _ _ _ _ W (turn_sub s2.1 k3 s2.2) (turn_rng k3) (turn_rng k2))
          have i1 := meets_in (dec_meet gd f g) (dec_meet gd lo hi) s3.1 s3.2
          have i2 := meets_in (dec_meet gd f f) (dec_meet gd f g) s4.1 s4.2
          have HP := Lib.hid (fun W => angle_Inside (mx (decO t f g).1 (-5400000)) (mn (decO t f g).2 5400000) (mx (decO t lo hi).1 (-5400000)) (mn (decO t lo hi).2 5400000) W)
          have HQ := Lib.hid (fun W => angle_Inside (mx (decO t f f).1 (-5400000)) (mn (decO t f f).2 5400000) (mx (decO t f g).1 (-5400000)) (mn (decO t f g).2 5400000) W)
          rw [i1] at HP
          rw [i2] at HQ
          change Hid (∀ W, Calls _ _ #[(.agg #[.int .i64 (turnLo (ghaO t f g).1 (ghaO t f g).2), .int .i64 (turnHi (ghaO t f g).1 (ghaO t f g).2)]), (.agg #[.int .i64 (turnLo (ghaO t lo hi).1 (ghaO t lo hi).2), .int .i64 (turnHi (ghaO t lo hi).1 (ghaO t lo hi).2)])] W _) at HN
          change Hid (∀ W, Calls _ _ #[(.agg #[.int .i64 (turnLo (ghaO t f f).1 (ghaO t f f).2), .int .i64 (turnHi (ghaO t f f).1 (ghaO t f f).2)]), (.agg #[.int .i64 (turnLo (ghaO t f g).1 (ghaO t f g).2), .int .i64 (turnHi (ghaO t f g).1 (ghaO t f g).2)])] W _) at HM
          clear i1 i2 s1 s2 s3 s4 k1 k2 k3 gd ef eg e1 e2
          generalize turnLo (ghaO t lo hi).1 (ghaO t lo hi).2 = A1 at *
          generalize turnHi (ghaO t lo hi).1 (ghaO t lo hi).2 = A2 at *
          generalize turnLo (ghaO t f g).1 (ghaO t f g).2 = B1 at *
          generalize turnHi (ghaO t f g).1 (ghaO t f g).2 = B2 at *
          generalize turnLo (ghaO t f f).1 (ghaO t f f).2 = C1 at *
          generalize turnHi (ghaO t f f).1 (ghaO t f f).2 = C2 at *
          generalize mx (decO t lo hi).1 (-5400000) = D1 at *
          generalize mn (decO t lo hi).2 5400000 = D2 at *
          generalize mx (decO t f g).1 (-5400000) = E1 at *
          generalize mn (decO t f g).2 5400000 = E2 at *
          generalize mx (decO t f f).1 (-5400000) = G1 at *
          generalize mn (decO t f f).2 5400000 = G2 at *
          have c1 : IntKind.i64.wrap (hi - lo) = hi - lo := IntWalk.i64_in _ (by omega)
          have c2 : IntKind.i64.wrap (hi - lo + 1) = hi - lo + 1 := IntWalk.i64_in _ (by omega)
          have c3 : IntKind.i64.wrap (lo + a % (hi - lo + 1)) = F0 := hF0 ▸ IntWalk.i64_in _ (by omega)
          have c4 : IntKind.i64.wrap (lo + b % (hi - lo + 1)) = T0 := hT0 ▸ IntWalk.i64_in _ (by omega)
          have c5 : IntKind.i64.wrap (a % (hi - lo + 1)) = a % (hi - lo + 1) := IntWalk.i64_in _ (by omega)
          have c6 : IntKind.i64.wrap (b % (hi - lo + 1)) = b % (hi - lo + 1) := IntWalk.i64_in _ (by omega)
          have c7 : hi - lo + 1 ≠ 0 := by omega
          have c8 : (hi - lo + 1 == 0) = false := beq_eq_false_iff_ne.2 c7
          have c9 : IntKind.i64.wrap a = a := IntWalk.i64_in _ (by omega)
          have c10 : IntKind.i64.wrap b = b := IntWalk.i64_in _ (by omega)
          have c11 : IntKind.i64.wrap F0 = F0 := IntWalk.i64_in _ (by omega)
          have c12 : IntKind.i64.wrap T0 = T0 := IntWalk.i64_in _ (by omega)
          clear hB hv h1 h2 hfg
          refine lay_start ?_
          go_enter Try.func10, Try.ntmps10
          go_wp2_with (first | (go_at_call 11; refine (law14_awake _).mono ?_; rintro e w' ⟨rfl, d, rfl⟩) | (go_at_call 22; refine (HS.out _).mono ?_; rintro e w' ⟨rfl, d, rfl⟩) | (go_at_call 33; first | (with_reducible refine (HD.out _).mono ?_; rintro e w' ⟨rfl, d, rfl⟩) | (with_reducible refine (HE.out _).mono ?_; rintro e w' ⟨rfl, d, rfl⟩)) | (go_at_call 23; refine (HG.out _).mono ?_; rintro e w' ⟨rfl, d, rfl⟩) | (go_at_call 24; refine (HH.out _).mono ?_; rintro e w' ⟨rfl, d, rfl⟩) | (go_at_call 34; first | (with_reducible refine (HN.out _).mono ?_; rintro e w' ⟨rfl, d, rfl⟩) | (with_reducible refine (HM.out _).mono ?_; rintro e w' ⟨rfl, d, rfl⟩)) | (go_at_call 17; first | (with_reducible refine (HP.out _).mono ?_; rintro e w' ⟨rfl, d, rfl⟩) | (with_reducible refine (HQ.out _).mono ?_; rintro e w' ⟨rfl, d, rfl⟩)))
          refine region_bw (by kernel_rfl) (by kernel_rfl) ?_
          repeat (go_big_quiet_step ((first | fail)))
          refine wpQuiet_nil ?_
          rintro w' ⟨d, rfl⟩
          rw [lay_bw]
          go_wp2_with (first | (go_at_call 11; refine (law14_awake _).mono ?_; rintro e w' ⟨rfl, d, rfl⟩) | (go_at_call 22; refine (HS.out _).mono ?_; rintro e w' ⟨rfl, d, rfl⟩) | (go_at_call 33; first | (with_reducible refine (HD.out _).mono ?_; rintro e w' ⟨rfl, d, rfl⟩) | (with_reducible refine (HE.out _).mono ?_; rintro e w' ⟨rfl, d, rfl⟩)) | (go_at_call 23; refine (HG.out _).mono ?_; rintro e w' ⟨rfl, d, rfl⟩) | (go_at_call 24; refine (HH.out _).mono ?_; rintro e w' ⟨rfl, d, rfl⟩) | (go_at_call 34; first | (with_reducible refine (HN.out _).mono ?_; rintro e w' ⟨rfl, d, rfl⟩) | (with_reducible refine (HM.out _).mono ?_; rintro e w' ⟨rfl, d, rfl⟩)) | (go_at_call 17; first | (with_reducible refine (HP.out _).mono ?_; rintro e w' ⟨rfl, d, rfl⟩) | (with_reducible refine (HQ.out _).mono ?_; rintro e w' ⟨rfl, d, rfl⟩)))
          go_ret
          exact ⟨rfl, lay_ex _ _⟩
        · have HD := Lib.hid (fun L => inc_During_ord _ t lo hi (lay w L) (hv.lay L) e1 e2 (by omega))
          clear e1 e2 hv
          refine lay_start ?_
          go_enter Try.func10, Try.ntmps10
          go_wp2_with (first | (go_at_call 11; refine (law14_awake _).mono ?_; rintro e w' ⟨rfl, d, rfl⟩) | (go_at_call 22; refine (HS.out _).mono ?_; rintro e w' ⟨rfl, d, rfl⟩) | (go_at_call 33; refine (HD.out _).mono ?_; rintro e w' ⟨rfl, d, rfl⟩))
          go_ret
          exact ⟨rfl, lay_ex _ _⟩
      · have HD := Lib.hid (fun L => inc_During_hi _ t lo hi (lay w L) (hv.lay L) e1 e2)
        have hE : (instE t hi == 0) = false := beq_eq_false_iff_ne.2 e2
        clear e1 hv
        generalize instE t hi = E at *
        refine lay_start ?_
        go_enter Try.func10, Try.ntmps10
        go_wp2_with (first | (go_at_call 11; refine (law14_awake _).mono ?_; rintro e w' ⟨rfl, d, rfl⟩) | (go_at_call 22; refine (HS.out _).mono ?_; rintro e w' ⟨rfl, d, rfl⟩) | (go_at_call 33; refine (HD.out _).mono ?_; rintro e w' ⟨rfl, d, rfl⟩))
        go_ret
        exact ⟨rfl, lay_ex _ _⟩
    · have HD := Lib.hid (fun L => inc_During_lo _ t lo hi (lay w L) (hv.lay L) e1)
      have hE : (instE t lo == 0) = false := beq_eq_false_iff_ne.2 e1
      clear hv
      generalize instE t lo = E at *
      refine lay_start ?_
      go_enter Try.func10, Try.ntmps10
      go_wp2_with (first | (go_at_call 11; refine (law14_awake _).mono ?_; rintro e w' ⟨rfl, d, rfl⟩) | (go_at_call 22; refine (HS.out _).mono ?_; rintro e w' ⟨rfl, d, rfl⟩) | (go_at_call 33; refine (HD.out _).mono ?_; rintro e w' ⟨rfl, d, rfl⟩))
      go_ret
      exact ⟨rfl, lay_ex _ _⟩
end Go.Proofs.Ytknammeehedbdaa
