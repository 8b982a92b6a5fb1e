/- increments.instant, Gha, Dec, During. -/
import Derived.Test.YtknammeehedbdaaProg
import Derived.Test.YtknammeehedbdaaLay
import Derived.Test.YtknammeehedbdaaRegion
import Derived.Test.YtknammeehedbdaaMix
import Derived.WalkKit
import Derived.WalkSpells
import Derived.WalkLawsBesides
import Derived.Lib.Hide
import Derived.BigQuiet
import Derived.Deep.RegionWith
import Derived.Test.YtknammeehedbdaaPlain
import Derived.Test.YtknammeehedbdaaAngle
import Derived.Test.YtknammeehedbdaaInc1
import Derived.Test.YtknammeehedbdaaTrk
import Derived.Test.YtknammeehedbdaaPg5
import Derived.Test.YtknammeehedbdaaRf6
namespace Go.Proofs.Ytknammeehedbdaa
open Go.RowKit

theorem lay_drew (w : World) (L : List (Obj ⊕ Ext)) : ∃ d, (lay w L).drew = lay w (.inr d :: L) := ⟨⟨#[], (lay w L).drew.drawn⟩, by
  show _ = bw (lay w L) _
  unfold bw World.drew; simp⟩
noncomputable def instE (t : TrkV) (ms : Int) : Int := if trkB t = true then (if 0 ≤ ms ∧ ms ≤ 86400000 then 0 else 2) else 1
set_option maxHeartbeats 1000000 in
theorem inc_instant (v : Value) (t : TrkV) (ms : Int) (w : World) (hv : Trk w v t) :
    Calls Try.prog 40 #[v, .int .i64 ms] w fun e w' => e = .returned (.int .i64 (instE t ms)) ∧ ∃ d, w' = bw w d := by
  obtain ⟨vg, vd, hvv, -⟩ := id hv
  subst hvv
  have HV := Lib.hid (fun L => inc_valid _ t (lay w L) (hv.lay L))
  clear hv
  cases hB : trkB t
  · have e1 : instE t ms = 1 := by unfold instE; rw [hB]; rfl
    rw [hB] at HV
    rw [e1]
    clear e1 hB
    refine lay_start ?_
    go_enter Try.func40, Try.ntmps40
    go_wp2_with (go_at_call 52; refine (HV.out _).mono ?_; rintro e w' ⟨rfl, d, rfl⟩)
    go_ret
    exact ⟨rfl, lay_ex _ _⟩
  · have e1 : instE t ms = if 0 ≤ ms ∧ ms ≤ 86400000 then 0 else 2 := by unfold instE; rw [hB]; rfl
    rw [hB] at HV
    rw [e1]
    clear e1 hB
    by_cases h0 : ms < 0
    · rw [if_neg (by omega)]
      refine lay_start ?_
      go_enter Try.func40, Try.ntmps40
      go_wp2_with (go_at_call 52; refine (HV.out _).mono ?_; rintro e w' ⟨rfl, d, rfl⟩)
      go_ret
      exact ⟨rfl, lay_ex _ _⟩
    · by_cases h1 : 86400000 < ms
      · rw [if_neg (by omega)]
        refine lay_start ?_
        go_enter Try.func40, Try.ntmps40
        go_wp2_with (go_at_call 52; refine (HV.out _).mono ?_; rintro e w' ⟨rfl, d, rfl⟩)
        go_ret
        exact ⟨rfl, lay_ex _ _⟩
      · rw [if_pos (by omega)]
        refine lay_start ?_
        go_enter Try.func40, Try.ntmps40
        go_wp2_with (go_at_call 52; refine (HV.out _).mono ?_; rintro e w' ⟨rfl, d, rfl⟩)
        go_ret
        exact ⟨rfl, lay_ex _ _⟩

theorem instE_0 {t : TrkV} {ms : Int} : instE t ms = 0 ↔ trkB t = true ∧ 0 ≤ ms ∧ ms ≤ 86400000 := by
  unfold instE; split
  · rename_i h; split
    · rename_i h2; exact ⟨fun _ => ⟨h, h2⟩, fun _ => rfl⟩
    · rename_i h2; exact ⟨fun e => absurd e (by decide), fun e => absurd e.2 h2⟩
  · rename_i h; exact ⟨fun e => absurd e (by decide), fun e => absurd e.1 h⟩
theorem in_nth {l : List Int} {lo hi : Int} (h : inLB l lo hi = true) (h0 : lo ≤ 0) (h1 : 0 ≤ hi) (i : Nat) : lo ≤ nth l i ∧ nth l i ≤ hi := by
  have h := inLB_iff.1 h
  by_cases hi' : i < l.length
  · exact h i hi'
  · have : nth l i = 0 := by unfold nth; simp [List.getD, List.getElem?_eq_none (Nat.le_of_not_lt hi')]
    rw [this]; exact ⟨h0, h1⟩
theorem gd_of {t : TrkV} (h : trkB t = true) : GD t where
  lg := (trkB_iff.1 h).lg
  ld := (trkB_iff.1 h).ld
  bg := fun i => by have := in_nth (trkB_iff.1 h).bg (by decide) (by decide) i; omega
  bd := fun i => in_nth (trkB_iff.1 h).bd (by decide) (by decide) i
  r0 := (in_nth (trkB_iff.1 h).br (by decide) (by decide) 0).1
  r1 := (in_nth (trkB_iff.1 h).br (by decide) (by decide) 0).2

set_option maxHeartbeats 1000000 in
theorem inc_Gha_ok (v : Value) (t : TrkV) (ms : Int) (w : World) (hv : Trk w v t) (he : instE t ms = 0) :
    Calls Try.prog 23 #[v, .int .i64 ms] w fun e w' => e = .returned (.tuple #[(.agg #[.int .i64 (turnLo (ghaO t ms ms).1 (ghaO t ms ms).2), .int .i64 (turnHi (ghaO t ms ms).1 (ghaO t ms ms).2)]), .int .i64 0]) ∧ ∃ d, w' = bw w d := by
  obtain ⟨vg, vd, hvv, -⟩ := id hv
  subst hvv
  obtain ⟨hB, m0, m1⟩ := instE_0.1 he
  have HV := Lib.hid (fun L => inc_instant _ t ms (lay w L) (hv.lay L))
  have HG := Lib.hid (fun L => inc_gha _ t ms ms (lay w L) (hv.lay L) (gd_of hB) m0 m1 m0 m1)
  rw [he] at HV
  clear hv hB he
  refine lay_start ?_
  go_enter Try.func23, Try.ntmps23
  go_wp2_with (first | (go_at_call 40; refine (HV.out _).mono ?_; rintro e w' ⟨rfl, d, rfl⟩) | (go_at_call 41; refine (HG.out _).mono ?_; rintro e w' ⟨rfl, d, rfl⟩))
  exact bodyPost_ret (v := .tuple #[(.agg #[.int .i64 (turnLo (ghaO t ms ms).1 (ghaO t ms ms).2), .int .i64 (turnHi (ghaO t ms ms).1 (ghaO t ms ms).2)]), .int .i64 0]) (by simp [results, Try.results23, go_sem]) rfl ⟨rfl, lay_ex _ _⟩
set_option maxHeartbeats 1000000 in
theorem inc_Gha_no (v : Value) (t : TrkV) (ms : Int) (w : World) (hv : Trk w v t) (he : instE t ms ≠ 0) :
    Calls Try.prog 23 #[v, .int .i64 ms] w fun e w' => e = .returned (.tuple #[(.agg #[.int .i64 (0), .int .i64 (0)]), .int .i64 (instE t ms)]) ∧ ∃ d, w' = bw w d := by
  obtain ⟨vg, vd, hvv, -⟩ := id hv
  subst hvv
  have HV := Lib.hid (fun L => inc_instant _ t ms (lay w L) (hv.lay L))
  clear hv
  have hE : (instE t ms == 0) = false := beq_eq_false_iff_ne.2 he
  generalize instE t ms = E at *
  refine lay_start ?_
  go_enter Try.func23, Try.ntmps23
  go_wp2_with (go_at_call 40; refine (HV.out _).mono ?_; rintro e w' ⟨rfl, d, rfl⟩)
  exact bodyPost_ret (v := .tuple #[(.agg #[.int .i64 (0), .int .i64 (0)]), .int .i64 E]) (by simp [results, Try.results23, go_sem]) rfl ⟨rfl, lay_ex _ _⟩

set_option maxHeartbeats 1000000 in
theorem inc_Dec_ok (v : Value) (t : TrkV) (ms : Int) (w : World) (hv : Trk w v t) (he : instE t ms = 0) :
    Calls Try.prog 24 #[v, .int .i64 ms] w fun e w' => e = .returned (.tuple #[(.agg #[.int .i64 (mx (decO t ms ms).1 (-5400000)), .int .i64 (mn (decO t ms ms).2 5400000)]), .int .i64 0]) ∧ ∃ d, w' = bw w d := by
  obtain ⟨vg, vd, hvv, -⟩ := id hv
  subst hvv
  obtain ⟨hB, m0, m1⟩ := instE_0.1 he
  have HV := Lib.hid (fun L => inc_instant _ t ms (lay w L) (hv.lay L))
  have HG := Lib.hid (fun L => inc_dec _ t ms ms (lay w L) (hv.lay L) (gd_of hB) m0 m1 m0 m1)
  rw [he] at HV
  clear hv hB he
  refine lay_start ?_
  go_enter Try.func24, Try.ntmps24
  go_wp2_with (first | (go_at_call 40; refine (HV.out _).mono ?_; rintro e w' ⟨rfl, d, rfl⟩) | (go_at_call 42; refine (HG.out _).mono ?_; rintro e w' ⟨rfl, d, rfl⟩))
  exact bodyPost_ret (v := .tuple #[(.agg #[.int .i64 (mx (decO t ms ms).1 (-5400000)), .int .i64 (mn (decO t ms ms).2 5400000)]), .int .i64 0]) (by simp [results, Try.results24, go_sem]) rfl ⟨rfl, lay_ex _ _⟩
set_option maxHeartbeats 1000000 in
theorem inc_Dec_no (v : Value) (t : TrkV) (ms : Int) (w : World) (hv : Trk w v t) (he : instE t ms ≠ 0) :
    Calls Try.prog 24 #[v, .int .i64 ms] w fun e w' => e = .returned (.tuple #[(.agg #[.int .i64 (0), .int .i64 (0)]), .int .i64 (instE t ms)]) ∧ ∃ d, w' = bw w d := by
  obtain ⟨vg, vd, hvv, -⟩ := id hv
  subst hvv
  have HV := Lib.hid (fun L => inc_instant _ t ms (lay w L) (hv.lay L))
  clear hv
  have hE : (instE t ms == 0) = false := beq_eq_false_iff_ne.2 he
  generalize instE t ms = E at *
  refine lay_start ?_
  go_enter Try.func24, Try.ntmps24
  go_wp2_with (go_at_call 40; refine (HV.out _).mono ?_; rintro e w' ⟨rfl, d, rfl⟩)
  exact bodyPost_ret (v := .tuple #[(.agg #[.int .i64 (0), .int .i64 (0)]), .int .i64 E]) (by simp [results, Try.results24, go_sem]) rfl ⟨rfl, lay_ex _ _⟩

noncomputable def durE (t : TrkV) (lo hi : Int) : Int := if instE t lo = 0 then (if instE t hi = 0 then (if hi < lo then 17 else 0) else instE t hi) else instE t lo
set_option maxHeartbeats 2000000 in
theorem inc_During_ok (v : Value) (t : TrkV) (lo hi : Int) (w : World) (hv : Trk w v t) (he : instE t lo = 0) (he2 : instE t hi = 0) (hle : lo ≤ hi) :
    Calls Try.prog 33 #[v, .int .i64 lo, .int .i64 hi] w fun e w' => e = .returned (.tuple #[(.agg #[.int .i64 (turnLo (ghaO t lo hi).1 (ghaO t lo hi).2), .int .i64 (turnHi (ghaO t lo hi).1 (ghaO t lo hi).2)]), (.agg #[.int .i64 (mx (decO t lo hi).1 (-5400000)), .int .i64 (mn (decO t lo hi).2 5400000)]), .int .i64 0]) ∧ ∃ d, w' = bw w d := by
  obtain ⟨vg, vd, hvv, -⟩ := id hv
  subst hvv
  obtain ⟨hB, m0, m1⟩ := instE_0.1 he
  obtain ⟨-, n0, n1⟩ := instE_0.1 he2
  have HV := Lib.hid (fun L => inc_instant _ t lo (lay w L) (hv.lay L))
  have HV2 := Lib.hid (fun L => inc_instant _ t hi (lay w L) (hv.lay L))
  have HG := Lib.hid (fun L => inc_gha _ t lo hi (lay w L) (hv.lay L) (gd_of hB) m0 m1 n0 n1)
  have HD := Lib.hid (fun L => inc_dec _ t lo hi (lay w L) (hv.lay L) (gd_of hB) m0 m1 n0 n1)
  rw [he] at HV
  rw [he2] at HV2
  clear hv hB he he2
  refine lay_start ?_
  go_enter Try.func33, Try.ntmps33
  go_wp2_with (first | (go_at_call_of 40 (Value.int .i64 lo); refine (HV.out _).mono ?_; rintro e w' ⟨rfl, d, rfl⟩) | (go_at_call 40; refine (HV2.out _).mono ?_; rintro e w' ⟨rfl, d, rfl⟩) | (go_at_call 41; refine (HG.out _).mono ?_; rintro e w' ⟨rfl, d, rfl⟩) | (go_at_call 42; refine (HD.out _).mono ?_; rintro e w' ⟨rfl, d, rfl⟩))
  go_region
  all_goals (
    obtain ⟨e1, he1⟩ := lay_drew w _
    rw [he1]
    clear he1
    go_wp2
    exact bodyPost_ret (v := .tuple #[(.agg #[.int .i64 (turnLo (ghaO t lo hi).1 (ghaO t lo hi).2), .int .i64 (turnHi (ghaO t lo hi).1 (ghaO t lo hi).2)]), (.agg #[.int .i64 (mx (decO t lo hi).1 (-5400000)), .int .i64 (mn (decO t lo hi).2 5400000)]), .int .i64 0]) (by simp [results, Try.results33, go_sem]) rfl ⟨rfl, lay_ex _ _⟩)
set_option maxHeartbeats 2000000 in
theorem inc_During_lo (v : Value) (t : TrkV) (lo hi : Int) (w : World) (hv : Trk w v t) (he : instE t lo ≠ 0) :
    Calls Try.prog 33 #[v, .int .i64 lo, .int .i64 hi] w fun e w' => e = .returned (.tuple #[(.agg #[.int .i64 (0), .int .i64 (0)]), (.agg #[.int .i64 (0), .int .i64 (0)]), .int .i64 (instE t lo)]) ∧ ∃ d, w' = bw w d := by
  obtain ⟨vg, vd, hvv, -⟩ := id hv
  subst hvv
  have HV := Lib.hid (fun L => inc_instant _ t lo (lay w L) (hv.lay L))
  have HV2 := Lib.hid (fun L => inc_instant _ t hi (lay w L) (hv.lay L))
  clear hv HV2
  have hE : (instE t lo == 0) = false := beq_eq_false_iff_ne.2 he
  generalize instE t lo = E at *
  refine lay_start ?_
  go_enter Try.func33, Try.ntmps33
  go_wp2_with ((go_at_call_of 40 (Value.int .i64 lo); refine (HV.out _).mono ?_; rintro e w' ⟨rfl, d, rfl⟩))
  exact bodyPost_ret (v := .tuple #[(.agg #[.int .i64 (0), .int .i64 (0)]), (.agg #[.int .i64 (0), .int .i64 (0)]), .int .i64 E]) (by simp [results, Try.results33, go_sem]) rfl ⟨rfl, lay_ex _ _⟩
set_option maxHeartbeats 2000000 in
theorem inc_During_hi (v : Value) (t : TrkV) (lo hi : Int) (w : World) (hv : Trk w v t) (he : instE t lo = 0) (he2 : instE t hi ≠ 0) :
    Calls Try.prog 33 #[v, .int .i64 lo, .int .i64 hi] w fun e w' => e = .returned (.tuple #[(.agg #[.int .i64 (0), .int .i64 (0)]), (.agg #[.int .i64 (0), .int .i64 (0)]), .int .i64 (instE t hi)]) ∧ ∃ d, w' = bw w d := by
  obtain ⟨vg, vd, hvv, -⟩ := id hv
  subst hvv
  have HV := Lib.hid (fun L => inc_instant _ t lo (lay w L) (hv.lay L))
  have HV2 := Lib.hid (fun L => inc_instant _ t hi (lay w L) (hv.lay L))
  clear hv
  rw [he] at HV
  have hE : (instE t hi == 0) = false := beq_eq_false_iff_ne.2 he2
  generalize instE t hi = E at *
  refine lay_start ?_
  go_enter Try.func33, Try.ntmps33
  go_wp2_with (first | (go_at_call_of 40 (Value.int .i64 lo); refine (HV.out _).mono ?_; rintro e w' ⟨rfl, d, rfl⟩) | (go_at_call 40; refine (HV2.out _).mono ?_; rintro e w' ⟨rfl, d, rfl⟩))
  exact bodyPost_ret (v := .tuple #[(.agg #[.int .i64 (0), .int .i64 (0)]), (.agg #[.int .i64 (0), .int .i64 (0)]), .int .i64 E]) (by simp [results, Try.results33, go_sem]) rfl ⟨rfl, lay_ex _ _⟩
set_option maxHeartbeats 2000000 in
theorem inc_During_ord (v : Value) (t : TrkV) (lo hi : Int) (w : World) (hv : Trk w v t) (he : instE t lo = 0) (he2 : instE t hi = 0) (hle : hi < lo) :
    Calls Try.prog 33 #[v, .int .i64 lo, .int .i64 hi] w fun e w' => e = .returned (.tuple #[(.agg #[.int .i64 (0), .int .i64 (0)]), (.agg #[.int .i64 (0), .int .i64 (0)]), .int .i64 17]) ∧ ∃ d, w' = bw w d := by
  obtain ⟨vg, vd, hvv, -⟩ := id hv
  subst hvv
  have HV := Lib.hid (fun L => inc_instant _ t lo (lay w L) (hv.lay L))
  have HV2 := Lib.hid (fun L => inc_instant _ t hi (lay w L) (hv.lay L))
  clear hv
  rw [he] at HV
  rw [he2] at HV2
  refine lay_start ?_
  go_enter Try.func33, Try.ntmps33
  go_wp2_with (first | (go_at_call_of 40 (Value.int .i64 lo); refine (HV.out _).mono ?_; rintro e w' ⟨rfl, d, rfl⟩) | (go_at_call 40; refine (HV2.out _).mono ?_; rintro e w' ⟨rfl, d, rfl⟩))
  exact bodyPost_ret (v := .tuple #[(.agg #[.int .i64 (0), .int .i64 (0)]), (.agg #[.int .i64 (0), .int .i64 (0)]), .int .i64 17]) (by simp [results, Try.results33, go_sem]) rfl ⟨rfl, lay_ex _ _⟩
end Go.Proofs.Ytknammeehedbdaa
