/- Layer 14's law IncrementsValues walked. -/
import Derived.Test.YtknammeehedbdaaProg
import Derived.Test.YtknammeehedbdaaLay
import Derived.Test.YtknammeehedbdaaRegion
import Derived.Test.YtknammeehedbdaaMix
import Derived.WalkKit
import Derived.WalkSpells
import Derived.WalkLawsBesides
import Derived.Lib.Hide
import Derived.BigQuiet
import Derived.Deep.RegionWith
import Derived.Test.YtknammeehedbdaaPlain
import Derived.Test.YtknammeehedbdaaAngle
import Derived.Test.YtknammeehedbdaaInc1
import Derived.Test.YtknammeehedbdaaInc3
import Derived.Test.YtknammeehedbdaaTrk
import Derived.Test.YtknammeehedbdaaPg3
import Derived.Test.YtknammeehedbdaaRf7
import Derived.Test.YtknammeehedbdaaRf10
namespace Go.Proofs.Ytknammeehedbdaa
open Go.RowKit

def shortB (t : TrkV) : Bool := decide ((t.g.length : Int) ≤ 40) && decide ((t.d.length : Int) ≤ 40) && decide ((t.s.size : Int) ≤ 100)
set_option maxHeartbeats 1000000 in
theorem law14_short (v : Value) (t : TrkV) (w : World) (hv : Trk w v t) :
    Calls Try.prog 22 #[v] w fun e w' => e = .returned (.bool (shortB t)) ∧ ∃ d, w' = bw w d := by
  obtain ⟨vg, vd, rfl, hs, hg, hd, -⟩ := hv
  obtain ⟨a, cap, rfl, hl1, -, -⟩ := hg
  obtain ⟨a', cap', rfl, hl1', -, -⟩ := hd
  unfold shortB
  obtain ⟨m, hm⟩ : ∃ m, t.g.length = m := ⟨_, rfl⟩
  obtain ⟨m', hm'⟩ : ∃ m', t.d.length = m' := ⟨_, rfl⟩
  rw [hm, hm'] at *
  by_cases h1 : (m : Int) ≤ 40
  · by_cases h2 : (m' : Int) ≤ 40
    · refine lay_start ?_
      go_enter Try.func22, Try.ntmps22
      go_wp2
      go_ret
      exact ⟨by first | (simp; done) | (simp; omega), lay_ex _ _⟩
    · refine lay_start ?_
      go_enter Try.func22, Try.ntmps22
      go_wp2
      go_ret
      exact ⟨by first | (simp; done) | (simp; omega), lay_ex _ _⟩
  · refine lay_start ?_
    go_enter Try.func22, Try.ntmps22
    go_wp2
    go_ret
    exact ⟨by first | (simp; done) | (simp; omega), lay_ex _ _⟩
def insideB14 (ms : Int) : Bool := decide (0 ≤ ms ∧ ms ≤ 86400000)
set_option maxHeartbeats 1000000 in
theorem law14_inside (ms : Int) (w : World) :
    Calls Try.prog 26 #[.int .i64 ms] w fun e w' => e = .returned (.bool (insideB14 ms)) ∧ w' = w := by
  by_cases h1 : 0 ≤ ms
  · go_enter Try.func26, Try.ntmps26
    go_wp2
    go_ret
    exact ⟨by first | (simp [insideB14]; done) | (simp [insideB14]; omega), rfl⟩
  · go_enter Try.func26, Try.ntmps26
    go_wp2
    go_ret
    exact ⟨by first | (simp [insideB14]; done) | (simp [insideB14]; omega), rfl⟩

set_option maxHeartbeats 4000000 in
set_option maxRecDepth 100000 in
theorem law14_Values (v : Value) (t : TrkV) {w : World} (hv : Trk w v t) (ms : Int) (_ : (Lit.int .i64 ms).wf = true) :
    Calls Try.prog 7 #[v, .int .i64 ms] w fun e w' => e = .returned (.bool true) ∧ ∃ d, w' = bw w d := by
  obtain ⟨vg, vd, hvv, -⟩ := id hv
  subst hvv
  have HS := Lib.hid (fun L => law14_short _ t (lay w L) (hv.lay L))
  cases hsh : shortB t
  · rw [hsh] at HS
    refine lay_start ?_
    go_enter Try.func7, Try.ntmps7
    go_wp2_with (first | (go_at_call 11; refine (law14_awake _).mono ?_; rintro e w' ⟨rfl, d, rfl⟩) | (go_at_call 22; refine (HS.out _).mono ?_; rintro e w' ⟨rfl, d, rfl⟩))
    go_ret
    exact ⟨rfl, lay_ex _ _⟩
  · rw [hsh] at HS
    have HV := Lib.hid (fun L => ref13_ValidTrack _ t (lay w L) (hv.lay L))
    cases hB : trkB t
    · have he : instE t ms = 1 := by unfold instE; rw [hB]; rfl
      have HG := Lib.hid (fun L => inc_Gha_no _ t ms (lay w L) (hv.lay L) (by rw [he]; decide))
      have HD := Lib.hid (fun L => inc_Dec_no _ t ms (lay w L) (hv.lay L) (by rw [he]; decide))
      rw [hB] at HV
      rw [he] at HG HD
      clear he hB hv
      refine lay_start ?_
      go_enter Try.func7, Try.ntmps7
      go_wp2_with (first | (go_at_call 11; refine (law14_awake _).mono ?_; rintro e w' ⟨rfl, d, rfl⟩) | (go_at_call 22; refine (HS.out _).mono ?_; rintro e w' ⟨rfl, d, rfl⟩) | (go_at_call 23; refine (HG.out _).mono ?_; rintro e w' ⟨rfl, d, rfl⟩) | (go_at_call 24; refine (HD.out _).mono ?_; rintro e w' ⟨rfl, d, rfl⟩) | (go_at_call 25; refine (HV.out _).mono ?_; rintro e w' ⟨rfl, d, rfl⟩))
      go_ret
      exact ⟨rfl, lay_ex _ _⟩
    · have HI := Lib.hid (fun L => law14_inside ms (lay w L))
      rw [hB] at HV
      by_cases hin : 0 ≤ ms ∧ ms ≤ 86400000
      · have he : instE t ms = 0 := instE_0.2 ⟨hB, hin⟩
        have HG := Lib.hid (fun L => inc_Gha_ok _ t ms (lay w L) (hv.lay L) he)
        have HD := Lib.hid (fun L => inc_Dec_ok _ t ms (lay w L) (hv.lay L) he)
        have HRG := Lib.hid (fun L => ref14_Gha _ t ms ms (lay w L) (hv.lay L) (gd_of hB) hin.1 hin.2 hin.1 hin.2)
        have HRD := Lib.hid (fun L => ref14_Dec _ t ms ms (lay w L) (hv.lay L) (gd_of hB) hin.1 hin.2 hin.1 hin.2)
        rw [show insideB14 ms = true by simp [insideB14, hin]] at HI
        generalize turnLo (ghaO t ms ms).1 (ghaO t ms ms).2 = A1 at *
        generalize turnHi (ghaO t ms ms).1 (ghaO t ms ms).2 = A2 at *
        generalize mx (decO t ms ms).1 (-5400000) = B1 at *
        generalize mn (decO t ms ms).2 5400000 = B2 at *
        clear he hB hv hin
        refine lay_start ?_
        go_enter Try.func7, Try.ntmps7
        go_wp2_with (first | (go_at_call 11; refine (law14_awake _).mono ?_; rintro e w' ⟨rfl, d, rfl⟩) | (go_at_call 22; refine (HS.out _).mono ?_; rintro e w' ⟨rfl, d, rfl⟩) | (go_at_call 23; refine (HG.out _).mono ?_; rintro e w' ⟨rfl, d, rfl⟩) | (go_at_call 24; refine (HD.out _).mono ?_; rintro e w' ⟨rfl, d, rfl⟩) | (go_at_call 25; refine (HV.out _).mono ?_; rintro e w' ⟨rfl, d, rfl⟩) | (go_at_call 26; refine (HI.out _).mono ?_; rintro e w' ⟨rfl, rfl⟩))
        refine region_bw (by kernel_rfl) (by kernel_rfl) ?_
        repeat (go_big_quiet_step ((first | (go_at_call 27; exact bq (HRG.out _) (fun d => lay_join _ _ _ d)) | (go_at_call 28; exact bq (HRD.out _) (fun d => lay_join _ _ _ d)))))
        refine wpQuiet_nil ?_
        rintro w' ⟨d, rfl⟩
        rw [lay_bw]
        go_wp2
        go_ret
        exact ⟨rfl, lay_ex _ _⟩
      · have he : instE t ms = 2 := by unfold instE; rw [hB, if_pos rfl, if_neg hin]
        have HG := Lib.hid (fun L => inc_Gha_no _ t ms (lay w L) (hv.lay L) (by rw [he]; decide))
        have HD := Lib.hid (fun L => inc_Dec_no _ t ms (lay w L) (hv.lay L) (by rw [he]; decide))
        rw [show insideB14 ms = false by simp [insideB14]; omega] at HI
        rw [he] at HG HD
        clear he hB hv hin
        refine lay_start ?_
        go_enter Try.func7, Try.ntmps7
        go_wp2_with (first | (go_at_call 11; refine (law14_awake _).mono ?_; rintro e w' ⟨rfl, d, rfl⟩) | (go_at_call 22; refine (HS.out _).mono ?_; rintro e w' ⟨rfl, d, rfl⟩) | (go_at_call 23; refine (HG.out _).mono ?_; rintro e w' ⟨rfl, d, rfl⟩) | (go_at_call 24; refine (HD.out _).mono ?_; rintro e w' ⟨rfl, d, rfl⟩) | (go_at_call 25; refine (HV.out _).mono ?_; rintro e w' ⟨rfl, d, rfl⟩) | (go_at_call 26; refine (HI.out _).mono ?_; rintro e w' ⟨rfl, rfl⟩))
        go_ret
        exact ⟨rfl, lay_ex _ _⟩
end Go.Proofs.Ytknammeehedbdaa
