/- Contracts of package meridian and its reference: latitudes at the meridian. -/
import Derived.Test.YtfkhjgjpfedgkaaProg
import Derived.Test.YtfkhjgjpfedgkaaLay
import Derived.Test.YtfkhjgjpfedgkaaRegion
import Derived.WalkKit
import Derived.WalkSpells
import Derived.WalkLawsBesides
import Derived.Lib.Hide
import Derived.BigQuiet
import Derived.Test.YtfkhjgjpfedgkaaPlain
import Derived.Test.YtfkhjgjpfedgkaaAngle
namespace Go.Proofs.Ytfkhjgjpfedgkaa
open Go.RowKit

def latB (x0 y0 : Int) : Bool := decide (x0 ≤ y0 ∧ -5400000 ≤ x0 ∧ y0 ≤ 5400000)
theorem latB_iff {x0 y0 : Int} : latB x0 y0 = true ↔ x0 ≤ y0 ∧ -5400000 ≤ x0 ∧ y0 ≤ 5400000 := by simp [latB]
theorem lat_valid {x0 y0 : Int} (h : latB x0 y0 = true) : validB x0 y0 = true := by
  have := latB_iff.1 h; rw [validB_iff]; omega
set_option maxHeartbeats 400000 in
theorem ref25_Latitude (x0 y0 : Int) (w : World) :
    Calls Try.prog 14 #[(.agg #[.int .i64 (x0), .int .i64 (y0)])] w fun e w' => e = .returned (.bool (latB x0 y0)) ∧ ∃ d, w' = bw w d := by
  refine lay_start ?_
  go_enter Try.func14, Try.ntmps14
  go_wp2
  all_goals go_ret
  all_goals exact ⟨ret_bool (by rw [Bool.eq_iff_iff]; simp [latB]; omega), lay_ex _ _⟩
theorem lat_w1 {x0 y0 : Int} (h1 : validB x0 y0 = true) (h2 : -5400000 ≤ x0) : decide (y0 ≤ 5400000) = latB x0 y0 := by
  have := validB_iff.1 h1; rw [Bool.eq_iff_iff]; simp [latB]; omega
theorem lat_w2 {x0 y0 : Int} (h2 : x0 < -5400000) : false = latB x0 y0 := by rw [Bool.eq_iff_iff]; simp [latB]; omega
theorem lat_w3 {x0 y0 : Int} (h1 : ¬ validB x0 y0 = true) : false = latB x0 y0 := by
  rw [validB_iff] at h1; rw [Bool.eq_iff_iff]; simp [latB]; omega
set_option maxHeartbeats 400000 in
theorem mer_latitude (x0 y0 : Int) (w : World) :
    Calls Try.prog 21 #[(.agg #[.int .i64 (x0), .int .i64 (y0)])] w fun e w' => e = .returned (.bool (latB x0 y0)) ∧ ∃ d, w' = bw w d := by
  refine lay_start ?_
  go_enter Try.func21, Try.ntmps21
  go_wp2_with (go_at_call 33; refine (angle_Valid _ _ _).mono ?_; rintro e w' ⟨rfl, d, rfl⟩)
  all_goals go_ret
  all_goals exact ⟨ret_bool (by first | exact lat_w1 ‹_› ‹_› | exact lat_w2 ‹_› | exact lat_w3 ‹_›), lay_ex _ _⟩

/-- The part of an arc that is one of latitudes. -/
def lsLo (x0 y0 : Int) : Int := if max x0 (-5400000) ≤ min y0 5400000 then max x0 (-5400000) else 0
def lsHi (x0 y0 : Int) : Int := if max x0 (-5400000) ≤ min y0 5400000 then min y0 5400000 else 0
def lsE (x0 y0 : Int) : Int := if max x0 (-5400000) ≤ min y0 5400000 then 0 else 2
theorem ls_good {x0 y0 : Int} (h : mx x0 (-5400000) ≤ mn y0 5400000) : mx x0 (-5400000) = lsLo x0 y0 ∧ mn y0 5400000 = lsHi x0 y0 ∧ 0 = lsE x0 y0 := by
  rw [mx_eq, mn_eq] at *; unfold lsLo lsHi lsE; omega
theorem ls_bad {x0 y0 : Int} (h : mn y0 5400000 < mx x0 (-5400000)) : 0 = lsLo x0 y0 ∧ 0 = lsHi x0 y0 ∧ 2 = lsE x0 y0 := by
  rw [mx_eq, mn_eq] at *; unfold lsLo lsHi lsE; omega
set_option maxHeartbeats 400000 in
theorem mer_latitudes (x0 y0 : Int) (w : World) :
    Calls Try.prog 22 #[(.agg #[.int .i64 (x0), .int .i64 (y0)])] w fun e w' => e = .returned (.tuple #[(.agg #[.int .i64 (lsLo x0 y0), .int .i64 (lsHi x0 y0)]), .int .i64 (lsE x0 y0)]) ∧ ∃ d, w' = bw w d := by
  refine lay_start ?_
  go_enter Try.func22, Try.ntmps22
  go_wp2
  · obtain ⟨g1, g2, g3⟩ := ls_bad (x0 := x0) (y0 := y0) ‹_›
    exact bodyPost_ret (v := .tuple #[(.agg #[.int .i64 (lsLo x0 y0), .int .i64 (lsHi x0 y0)]), .int .i64 (lsE x0 y0)]) (by simp [results, Try.results22, go_sem, ← g1, ← g2, ← g3]) rfl ⟨rfl, lay_ex _ _⟩
  · obtain ⟨g1, g2, g3⟩ := ls_good (x0 := x0) (y0 := y0) ‹_›
    exact bodyPost_ret (v := .tuple #[(.agg #[.int .i64 (lsLo x0 y0), .int .i64 (lsHi x0 y0)]), .int .i64 (lsE x0 y0)]) (by simp [results, Try.results22, go_sem, ← g1, ← g2, ← g3]) rfl ⟨rfl, lay_ex _ _⟩
theorem ls_meets {x0 y0 : Int} (h : meetsB x0 y0 (-5400000) 5400000 = true) (hxy : x0 ≤ y0) : mx x0 (-5400000) = lsLo x0 y0 ∧ mn y0 5400000 = lsHi x0 y0 ∧ 0 = lsE x0 y0 := by
  simp [meetsB] at h
  rw [mx_eq, mn_eq] at *; unfold lsLo lsHi lsE; omega
theorem ls_misses {x0 y0 : Int} (h : meetsB x0 y0 (-5400000) 5400000 = false) (hxy : x0 ≤ y0) : 0 = lsLo x0 y0 ∧ 0 = lsHi x0 y0 ∧ 2 = lsE x0 y0 := by
  simp [meetsB] at h
  unfold lsLo lsHi lsE; omega
set_option maxHeartbeats 400000 in
theorem ref33_latitudes (x0 y0 : Int) (w : World) (hxy : x0 ≤ y0) :
    Calls Try.prog 28 #[(.agg #[.int .i64 (x0), .int .i64 (y0)])] w fun e w' => e = .returned (.tuple #[(.agg #[.int .i64 (lsLo x0 y0), .int .i64 (lsHi x0 y0)]), .int .i64 (lsE x0 y0)]) ∧ ∃ d, w' = bw w d := by
  cases h : meetsB x0 y0 (-5400000) 5400000
  · have HG := Lib.hid (ls_misses h hxy)
    refine lay_start ?_
    go_enter Try.func28, Try.ntmps28
    go_wp2_with (go_at_call 18; refine (ref05_Meets _ _ _ _ _).mono ?_; rintro e w' ⟨rfl, d, rfl⟩)
    obtain ⟨g1, g2, g3⟩ := HG.out
    exact bodyPost_ret (v := .tuple #[(.agg #[.int .i64 (lsLo x0 y0), .int .i64 (lsHi x0 y0)]), .int .i64 (lsE x0 y0)]) (by simp [results, Try.results28, go_sem, ← g1, ← g2, ← g3]) rfl ⟨rfl, lay_ex _ _⟩
  · have HG := Lib.hid (ls_meets h hxy)
    refine lay_start ?_
    go_enter Try.func28, Try.ntmps28
    go_wp2_with (first | (go_at_call 18; refine (ref05_Meets _ _ _ _ _).mono ?_; rintro e w' ⟨rfl, d, rfl⟩) | (go_at_call 19; refine (ref05_Meet _ _ _ _ _).mono ?_; rintro e w' ⟨rfl, d, rfl⟩))
    obtain ⟨g1, g2, g3⟩ := HG.out
    exact bodyPost_ret (v := .tuple #[(.agg #[.int .i64 (lsLo x0 y0), .int .i64 (lsHi x0 y0)]), .int .i64 (lsE x0 y0)]) (by simp [results, Try.results28, go_sem, g1, g2, g3]) rfl ⟨rfl, lay_ex _ _⟩

set_option maxHeartbeats 400000 in
theorem mer_plus (x0 y0 x1 y1 : Int) (w : World) (h1 : -9223372036854775807 ≤ x0 + x1) (h2 : x0 + x1 ≤ 9223372036854775807) (h3 : -9223372036854775807 ≤ y0 + y1) (h4 : y0 + y1 ≤ 9223372036854775807) :
    Calls Try.prog 23 #[(.agg #[.int .i64 (x0), .int .i64 (y0)]), (.agg #[.int .i64 (x1), .int .i64 (y1)])] w fun e w' => e = .returned (.agg #[.int .i64 (x0 + x1), .int .i64 (y0 + y1)]) ∧ ∃ d, w' = bw w d := by
  refine lay_start ?_
  go_enter Try.func23, Try.ntmps23
  go_wp2
  exact bodyPost_ret (v := (.agg #[.int .i64 (x0 + x1), .int .i64 (y0 + y1)])) (by simp [results, Try.results23, go_sem]) rfl ⟨rfl, lay_ex _ _⟩
set_option maxHeartbeats 400000 in
theorem mer_minus (x0 y0 x1 y1 : Int) (w : World) (h1 : -9223372036854775807 ≤ x0 - y1) (h2 : x0 - y1 ≤ 9223372036854775807) (h3 : -9223372036854775807 ≤ y0 - x1) (h4 : y0 - x1 ≤ 9223372036854775807) :
    Calls Try.prog 25 #[(.agg #[.int .i64 (x0), .int .i64 (y0)]), (.agg #[.int .i64 (x1), .int .i64 (y1)])] w fun e w' => e = .returned (.agg #[.int .i64 (x0 - y1), .int .i64 (y0 - x1)]) ∧ ∃ d, w' = bw w d := by
  refine lay_start ?_
  go_enter Try.func25, Try.ntmps25
  go_wp2
  exact bodyPost_ret (v := (.agg #[.int .i64 (x0 - y1), .int .i64 (y0 - x1)])) (by simp [results, Try.results25, go_sem]) rfl ⟨rfl, lay_ex _ _⟩
set_option maxHeartbeats 400000 in
theorem mer_rest (x0 y0 : Int) (w : World) (h1 : -9223372036849375807 ≤ x0) (h2 : x0 ≤ 9223372036849375807) (h3 : -9223372036849375807 ≤ y0) (h4 : y0 ≤ 9223372036849375807) :
    Calls Try.prog 24 #[(.agg #[.int .i64 (x0), .int .i64 (y0)])] w fun e w' => e = .returned (.agg #[.int .i64 (5400000 - y0), .int .i64 (5400000 - x0)]) ∧ ∃ d, w' = bw w d := by
  refine lay_start ?_
  go_enter Try.func24, Try.ntmps24
  go_wp2
  exact bodyPost_ret (v := (.agg #[.int .i64 (5400000 - y0), .int .i64 (5400000 - x0)])) (by simp [results, Try.results24, go_sem]) rfl ⟨rfl, lay_ex _ _⟩
set_option maxHeartbeats 400000 in
theorem ref33_one (n : Int) (w : World) :
    Calls Try.prog 27 #[.int .i64 n] w fun e w' => e = .returned (.agg #[.int .i64 (n), .int .i64 (n)]) ∧ ∃ d, w' = bw w d := by
  refine lay_start ?_
  go_enter Try.func27, Try.ntmps27
  go_wp2
  exact bodyPost_ret (v := (.agg #[.int .i64 (n), .int .i64 (n)])) (by simp [results, Try.results27, go_sem]) rfl ⟨rfl, lay_ex _ _⟩
set_option maxHeartbeats 400000 in
theorem law33_one (n : Int) (w : World) :
    Calls Try.prog 13 #[.int .i64 n] w fun e w' => e = .returned (.agg #[.int .i64 (n), .int .i64 (n)]) ∧ ∃ d, w' = bw w d := by
  refine lay_start ?_
  go_enter Try.func13, Try.ntmps13
  go_wp2
  exact bodyPost_ret (v := (.agg #[.int .i64 (n), .int .i64 (n)])) (by simp [results, Try.results13, go_sem]) rfl ⟨rfl, lay_ex _ _⟩
end Go.Proofs.Ytfkhjgjpfedgkaa
