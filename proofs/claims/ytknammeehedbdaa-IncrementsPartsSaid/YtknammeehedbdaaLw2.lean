/- Layer 14's law IncrementsSpans walked. -/
import Derived.Test.YtknammeehedbdaaProg
import Derived.Test.YtknammeehedbdaaLay
import Derived.Test.YtknammeehedbdaaRegion
import Derived.Test.YtknammeehedbdaaMix
import Derived.WalkKit
import Derived.WalkSpells
import Derived.WalkLawsBesides
import Derived.Lib.Hide
import Derived.BigQuiet
import Derived.Deep.RegionWith
import Derived.Test.YtknammeehedbdaaPlain
import Derived.Test.YtknammeehedbdaaAngle
import Derived.Test.YtknammeehedbdaaInc1
import Derived.Test.YtknammeehedbdaaInc3
import Derived.Test.YtknammeehedbdaaTrk
import Derived.Test.YtknammeehedbdaaPg3
import Derived.Test.YtknammeehedbdaaRf7
import Derived.Test.YtknammeehedbdaaRf10
import Derived.Test.YtknammeehedbdaaLw1
namespace Go.Proofs.Ytknammeehedbdaa
open Go.RowKit

theorem insideB14_t {ms : Int} (h : 0 ≤ ms ∧ ms ≤ 86400000) : insideB14 ms = true := by simp [insideB14, h]
theorem insideB14_f {ms : Int} (h : ¬ (0 ≤ ms ∧ ms ≤ 86400000)) : insideB14 ms = false := by unfold insideB14; exact decide_eq_false h
theorem instE_2 {t : TrkV} {ms : Int} (hB : trkB t = true) (h : ¬ (0 ≤ ms ∧ ms ≤ 86400000)) : instE t ms = 2 := by unfold instE; rw [hB, if_pos rfl, if_neg h]
theorem instE_1 {t : TrkV} {ms : Int} (hB : trkB t = false) : instE t ms = 1 := by unfold instE; rw [hB]; rfl
set_option maxHeartbeats 4000000 in
set_option maxRecDepth 100000 in
theorem law14_Spans (v : Value) (t : TrkV) {w : World} (hv : Trk w v t) (lo : Int) (_ : (Lit.int .i64 lo).wf = true) (hi : Int) (_ : (Lit.int .i64 hi).wf = true) :
    Calls Try.prog 9 #[v, .int .i64 lo, .int .i64 hi] w fun e w' => e = .returned (.bool true) ∧ ∃ d, w' = bw w d := by
  obtain ⟨vg, vd, hvv, -⟩ := id hv
  subst hvv
  have HS := Lib.hid (fun L => law14_short _ t (lay w L) (hv.lay L))
  cases hsh : shortB t
  · rw [hsh] at HS
    refine lay_start ?_
    go_enter Try.func9, Try.ntmps9
    go_wp2_with (first | (go_at_call 11; refine (law14_awake _).mono ?_; rintro e w' ⟨rfl, d, rfl⟩) | (go_at_call 22; refine (HS.out _).mono ?_; rintro e w' ⟨rfl, d, rfl⟩))
    go_ret
    exact ⟨rfl, lay_ex _ _⟩
  · rw [hsh] at HS
    have HV := Lib.hid (fun L => ref13_ValidTrack _ t (lay w L) (hv.lay L))
    cases hB : trkB t
    · have he : instE t lo = 1 := instE_1 hB
      have HD := Lib.hid (fun L => inc_During_lo _ t lo hi (lay w L) (hv.lay L) (by rw [he]; decide))
      rw [hB] at HV
      rw [he] at HD
      clear he hB hv
      refine lay_start ?_
      go_enter Try.func9, Try.ntmps9
      go_wp2_with (first | (go_at_call 11; refine (law14_awake _).mono ?_; rintro e w' ⟨rfl, d, rfl⟩) | (go_at_call 22; refine (HS.out _).mono ?_; rintro e w' ⟨rfl, d, rfl⟩) | (go_at_call 33; refine (HD.out _).mono ?_; rintro e w' ⟨rfl, d, rfl⟩) | (go_at_call 25; refine (HV.out _).mono ?_; rintro e w' ⟨rfl, d, rfl⟩))
      go_ret
      exact ⟨rfl, lay_ex _ _⟩
    · rw [hB] at HV
      have HI := Lib.hid (fun L => law14_inside lo (lay w L))
      have HJ := Lib.hid (fun L => law14_inside hi (lay w L))
      by_cases h1 : 0 ≤ lo ∧ lo ≤ 86400000
      · have e1 : instE t lo = 0 := instE_0.2 ⟨hB, h1⟩
        rw [insideB14_t h1] at HI
        by_cases h2 : 0 ≤ hi ∧ hi ≤ 86400000
        · have e2 : instE t hi = 0 := instE_0.2 ⟨hB, h2⟩
          rw [insideB14_t h2] at HJ
          by_cases hle : lo ≤ hi
          · have HD := Lib.hid (fun L => inc_During_ok _ t lo hi (lay w L) (hv.lay L) e1 e2 hle)
            have HRG := Lib.hid (fun L => ref14_Gha _ t lo hi (lay w L) (hv.lay L) (gd_of hB) h1.1 h1.2 h2.1 h2.2)
            have HRD := Lib.hid (fun L => ref14_Dec _ t lo hi (lay w L) (hv.lay L) (gd_of hB) h1.1 h1.2 h2.1 h2.2)
            generalize turnLo (ghaO t lo hi).1 (ghaO t lo hi).2 = A1 at *
            generalize turnHi (ghaO t lo hi).1 (ghaO t lo hi).2 = A2 at *
            generalize mx (decO t lo hi).1 (-5400000) = B1 at *
            generalize mn (decO t lo hi).2 5400000 = B2 at *
            clear e1 e2 hB hv h1 h2
            refine lay_start ?_
            go_enter Try.func9, Try.ntmps9
            go_wp2_with (first | (go_at_call 11; refine (law14_awake _).mono ?_; rintro e w' ⟨rfl, d, rfl⟩) | (go_at_call 22; refine (HS.out _).mono ?_; rintro e w' ⟨rfl, d, rfl⟩) | (go_at_call 33; refine (HD.out _).mono ?_; rintro e w' ⟨rfl, d, rfl⟩) | (go_at_call 25; refine (HV.out _).mono ?_; rintro e w' ⟨rfl, d, rfl⟩) | (go_at_call_of 26 (Value.int .i64 lo); refine (HI.out _).mono ?_; rintro e w' ⟨rfl, rfl⟩) | (go_at_call 26; refine (HJ.out _).mono ?_; rintro e w' ⟨rfl, rfl⟩))
            refine region_bw (by kernel_rfl) (by kernel_rfl) ?_
            repeat (go_big_quiet_step ((first | (go_at_call 27; exact bq (HRG.out _) (fun d => lay_join _ _ _ d)) | (go_at_call 28; exact bq (HRD.out _) (fun d => lay_join _ _ _ d)))))
            refine wpQuiet_nil ?_
            rintro w' ⟨d, rfl⟩
            rw [lay_bw]
            go_wp2
            go_ret
            exact ⟨rfl, lay_ex _ _⟩
          · have HD := Lib.hid (fun L => inc_During_ord _ t lo hi (lay w L) (hv.lay L) e1 e2 (by omega))
            clear e1 e2 hB hv h1 h2
            refine lay_start ?_
            go_enter Try.func9, Try.ntmps9
            go_wp2_with (first | (go_at_call 11; refine (law14_awake _).mono ?_; rintro e w' ⟨rfl, d, rfl⟩) | (go_at_call 22; refine (HS.out _).mono ?_; rintro e w' ⟨rfl, d, rfl⟩) | (go_at_call 33; refine (HD.out _).mono ?_; rintro e w' ⟨rfl, d, rfl⟩) | (go_at_call 25; refine (HV.out _).mono ?_; rintro e w' ⟨rfl, d, rfl⟩) | (go_at_call_of 26 (Value.int .i64 lo); refine (HI.out _).mono ?_; rintro e w' ⟨rfl, rfl⟩) | (go_at_call 26; refine (HJ.out _).mono ?_; rintro e w' ⟨rfl, rfl⟩))
            go_ret
            exact ⟨rfl, lay_ex _ _⟩
        · have e2 : instE t hi = 2 := instE_2 hB h2
          have HD := Lib.hid (fun L => inc_During_hi _ t lo hi (lay w L) (hv.lay L) e1 (by rw [e2]; decide))
          rw [insideB14_f h2] at HJ
          rw [e2] at HD
          clear e1 e2 hB hv h1 h2
          refine lay_start ?_
          go_enter Try.func9, Try.ntmps9
          go_wp2_with (first | (go_at_call 11; refine (law14_awake _).mono ?_; rintro e w' ⟨rfl, d, rfl⟩) | (go_at_call 22; refine (HS.out _).mono ?_; rintro e w' ⟨rfl, d, rfl⟩) | (go_at_call 33; refine (HD.out _).mono ?_; rintro e w' ⟨rfl, d, rfl⟩) | (go_at_call 25; refine (HV.out _).mono ?_; rintro e w' ⟨rfl, d, rfl⟩) | (go_at_call_of 26 (Value.int .i64 lo); refine (HI.out _).mono ?_; rintro e w' ⟨rfl, rfl⟩) | (go_at_call 26; refine (HJ.out _).mono ?_; rintro e w' ⟨rfl, rfl⟩))
          go_ret
          exact ⟨rfl, lay_ex _ _⟩
      · have e1 : instE t lo = 2 := instE_2 hB h1
        have HD := Lib.hid (fun L => inc_During_lo _ t lo hi (lay w L) (hv.lay L) (by rw [e1]; decide))
        rw [insideB14_f h1] at HI
        rw [e1] at HD
        clear e1 hB hv h1 HJ
        refine lay_start ?_
        go_enter Try.func9, Try.ntmps9
        go_wp2_with (first | (go_at_call 11; refine (law14_awake _).mono ?_; rintro e w' ⟨rfl, d, rfl⟩) | (go_at_call 22; refine (HS.out _).mono ?_; rintro e w' ⟨rfl, d, rfl⟩) | (go_at_call 33; refine (HD.out _).mono ?_; rintro e w' ⟨rfl, d, rfl⟩) | (go_at_call 25; refine (HV.out _).mono ?_; rintro e w' ⟨rfl, d, rfl⟩) | (go_at_call_of 26 (Value.int .i64 lo); refine (HI.out _).mono ?_; rintro e w' ⟨rfl, rfl⟩))
        go_ret
        exact ⟨rfl, lay_ex _ _⟩
end Go.Proofs.Ytknammeehedbdaa
