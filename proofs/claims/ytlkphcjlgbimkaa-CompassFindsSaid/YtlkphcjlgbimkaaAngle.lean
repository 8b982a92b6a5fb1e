/- Contracts of package angle and of its reference, as far as the translation has them. -/
import Derived.Test.YtlkphcjlgbimkaaProg
import Derived.Test.YtlkphcjlgbimkaaLay
import Derived.Test.YtlkphcjlgbimkaaRegion
import Derived.Test.YtlkphcjlgbimkaaMix
import Derived.WalkKit
import Derived.WalkSpells
import Derived.WalkLawsBesides
import Derived.Lib.Hide
import Derived.BigQuiet
import Derived.Test.YtlkphcjlgbimkaaPlain
namespace Go.Proofs.Ytlkphcjlgbimkaa
open Go.RowKit

def fitsB (n : Int) : Bool := decide (-1099511627776 ≤ n ∧ n ≤ 1099511627776)
theorem fits_yes {n : Int} (h1 : -1099511627776 ≤ n) : decide (n ≤ 1099511627776) = fitsB n := by
  unfold fitsB; simp [h1]
theorem fits_no {n : Int} (h1 : n < -1099511627776) : false = fitsB n := by
  unfold fitsB; simp; omega
def validB (lo hi : Int) : Bool := decide (lo ≤ hi ∧ -1099511627776 ≤ lo ∧ hi ≤ 1099511627776)
theorem validB_iff {lo hi : Int} : validB lo hi = true ↔ lo ≤ hi ∧ -1099511627776 ≤ lo ∧ hi ≤ 1099511627776 := by simp [validB]
theorem validB_eq {lo hi : Int} : validB lo hi = (decide (lo ≤ hi) && fitsB lo && fitsB hi) := by
  rw [Bool.eq_iff_iff]; simp [validB, fitsB]; omega
set_option maxHeartbeats 400000 in
theorem angle_fits (n : Int) (w : World) :
    Calls Try.prog 36 #[.int .i64 n] w fun e w' => e = .returned (.bool (fitsB n)) ∧ w' = w := by
  go_enter Try.func36, Try.ntmps36
  go_wp2
  · go_ret
    exact ⟨ret_bool (fits_yes ‹_›), rfl⟩
  · go_ret
    exact ⟨ret_bool (fits_no ‹_›), rfl⟩
theorem valid_ways1 {lo hi : Int} (h : lo ≤ hi) (h2 : fitsB lo = true) : fitsB hi = validB lo hi := by simp [validB_eq, *]
theorem valid_ways2 {lo hi : Int} (h2 : ¬ fitsB lo = true) : false = validB lo hi := by simp [validB_eq, *]
theorem valid_ways3 {lo hi : Int} (h2 : hi < lo) : false = validB lo hi := by
  have : ¬ lo ≤ hi := by omega
  simp [validB_eq, *]
set_option maxHeartbeats 400000 in
theorem angle_Valid (lo hi : Int) (w : World) :
    Calls Try.prog 27 #[(.agg #[.int .i64 (lo), .int .i64 (hi)])] w fun e w' => e = .returned (.bool (validB lo hi)) ∧ ∃ d, w' = bw w d := by
  refine lay_start ?_
  go_enter Try.func27, Try.ntmps27
  go_wp2_with (go_at_call 36; refine (angle_fits _ _).mono ?_; rintro e w' ⟨rfl, rfl⟩)
  all_goals go_ret
  all_goals exact ⟨ret_bool (by first | exact valid_ways1 ‹_› ‹_› | exact valid_ways2 ‹_› | exact valid_ways3 ‹_›), lay_ex _ _⟩
set_option maxHeartbeats 400000 in
theorem ref05_Valid (lo hi : Int) (w : World) :
    Calls Try.prog 10 #[(.agg #[.int .i64 (lo), .int .i64 (hi)])] w fun e w' => e = .returned (.bool (validB lo hi)) ∧ ∃ d, w' = bw w d := by
  refine lay_start ?_
  go_enter Try.func10, Try.ntmps10
  go_wp2
  all_goals go_ret
  all_goals exact ⟨ret_bool (by rw [Bool.eq_iff_iff]; simp [validB]; omega), lay_ex _ _⟩
set_option maxHeartbeats 400000 in
theorem angle_Wrap (n : Int) (w : World) :
    Calls Try.prog 29 #[.int .i64 n] w fun e w' => e = .returned (.int .i64 (n % 21600000)) ∧ w' = w := by
  have hb := tmod_bd n 21600000 (by decide)
  go_enter Try.func29, Try.ntmps29
  go_wp2
  · go_ret
    exact ⟨ret_int ((tmod_wrap n 21600000 (by decide)).1 ‹_›), rfl⟩
  · go_ret
    exact ⟨ret_int ((tmod_wrap n 21600000 (by decide)).2 ‹_›), rfl⟩
set_option maxHeartbeats 400000 in
theorem ref05_Wrap (n : Int) (w : World) :
    Calls Try.prog 12 #[.int .i64 n] w fun e w' => e = .returned (.int .i64 (n % 21600000)) ∧ w' = w := by
  have hb := tmod_bd n 21600000 (by decide)
  go_enter Try.func12, Try.ntmps12
  go_wp2
  · go_ret
    exact ⟨ret_int ((tmod_wrap n 21600000 (by decide)).1 ‹_›), rfl⟩
  · go_ret
    exact ⟨ret_int ((tmod_wrap n 21600000 (by decide)).2 ‹_›), rfl⟩

/-- Go's min and max of two ints, behind names that the walk does not open. -/
def mn (x y : Int) : Int := if y < x then y else x
def mx (x y : Int) : Int := if x < y then y else x
theorem mn_eq (x y : Int) : mn x y = min x y := by unfold mn; split <;> omega
theorem mx_eq (x y : Int) : mx x y = max x y := by unfold mx; split <;> omega
section
variable {P : Program} {w : World}
theorem run_mn (ts : Array TypeId) (t : TypeId) (k k' : IntKind) (x y : Int) : (Builtin.min_ ts t #[.int k x, .int k' y]).run P w = .ok (.int k (mn x y)) w := run_min_int2 w ts t k k' x y
theorem run_mx (ts : Array TypeId) (t : TypeId) (k k' : IntKind) (x y : Int) : (Builtin.max_ ts t #[.int k x, .int k' y]).run P w = .ok (.int k (mx x y)) w := run_max_int2 w ts t k k' x y
end
attribute [go_sem ↓] run_mn run_mx

theorem validB_false {lo hi : Int} : validB lo hi = false ↔ ¬ (lo ≤ hi ∧ -1099511627776 ≤ lo ∧ hi ≤ 1099511627776) := by simp [validB]
def insideB (x0 y0 x1 y1 : Int) : Bool := decide (x1 ≤ x0 ∧ y0 ≤ y1)
def inside2B (x0 y0 x1 y1 : Int) : Bool := validB x0 y0 && validB x1 y1 && insideB x0 y0 x1 y1
theorem inside2B_iff {x0 y0 x1 y1 : Int} : inside2B x0 y0 x1 y1 = true ↔ validB x0 y0 = true ∧ validB x1 y1 = true ∧ x1 ≤ x0 ∧ y0 ≤ y1 := by simp [inside2B, insideB, and_assoc]
theorem insideB_iff {x0 y0 x1 y1 : Int} : insideB x0 y0 x1 y1 = true ↔ x1 ≤ x0 ∧ y0 ≤ y1 := by simp [insideB]
def meetLo (x0 y0 x1 y1 : Int) : Int := if max x0 x1 ≤ min y0 y1 then max x0 x1 else 0
def meetHi (x0 y0 x1 y1 : Int) : Int := if max x0 x1 ≤ min y0 y1 then min y0 y1 else 0
def meetE (x0 y0 x1 y1 : Int) : Int := if max x0 x1 ≤ min y0 y1 then 0 else 23
theorem meet_bad {x0 y0 x1 y1 : Int} (h : mn y0 y1 < mx x0 x1) : meetLo x0 y0 x1 y1 = 0 ∧ meetHi x0 y0 x1 y1 = 0 ∧ meetE x0 y0 x1 y1 = 23 := by
  rw [mn_eq, mx_eq] at h
  unfold meetLo meetHi meetE; omega
theorem meet_good {x0 y0 x1 y1 : Int} (h : mx x0 x1 ≤ mn y0 y1) : meetLo x0 y0 x1 y1 = mx x0 x1 ∧ meetHi x0 y0 x1 y1 = mn y0 y1 ∧ meetE x0 y0 x1 y1 = 0 := by
  rw [mn_eq, mx_eq] at *
  unfold meetLo meetHi meetE; omega
def meetsB (x0 y0 x1 y1 : Int) : Bool := decide (x0 ≤ y1 ∧ x1 ≤ y0)
def turnLo (x0 y0 : Int) : Int := if 21600000 ≤ y0 - x0 then 0 else x0 % 21600000
def turnHi (x0 y0 : Int) : Int := if 21600000 ≤ y0 - x0 then 21600000 else x0 % 21600000 + (y0 - x0)
set_option maxHeartbeats 400000 in
theorem angle_Turn (x0 y0 : Int) (w : World) (h1 : validB x0 y0 = true) :
    Calls Try.prog 37 #[(.agg #[.int .i64 (x0), .int .i64 (y0)])] w fun e w' => e = .returned (.tuple #[(.agg #[.int .i64 (turnLo x0 y0), .int .i64 (turnHi x0 y0)]), .int .i64 0]) ∧ ∃ d, w' = bw w d := by
  obtain ⟨g1, g2, g3⟩ := validB_iff.1 h1
  refine lay_start ?_
  go_enter Try.func37, Try.ntmps37
  go_wp2_with (first | (go_at_call 27; refine (angle_Valid _ _ _).mono ?_; rintro e w' ⟨rfl, d, rfl⟩) | (go_at_call 29; refine (angle_Wrap _ _).mono ?_; rintro e w' ⟨rfl, rfl⟩))
  all_goals exact bodyPost_ret (v := .tuple #[(.agg #[.int .i64 (turnLo x0 y0), .int .i64 (turnHi x0 y0)]), .int .i64 0]) (by simp [results, Try.results37, go_sem, turnLo, turnHi]; omega) rfl ⟨rfl, lay_ex _ _⟩

def signedI (n : Int) : Int := if n % 21600000 < 10800000 then n % 21600000 else n % 21600000 - 21600000
set_option maxHeartbeats 400000 in
theorem ref05_Signed (n : Int) (w : World) :
    Calls Try.prog 25 #[.int .i64 n] w fun e w' => e = .returned (.int .i64 (signedI n)) ∧ w' = w := by
  have hb : 0 ≤ n % 21600000 ∧ n % 21600000 < 21600000 := by omega
  go_enter Try.func25, Try.ntmps25
  go_wp2_with (go_at_call 12; refine (ref05_Wrap _ _).mono ?_; rintro e w' ⟨rfl, rfl⟩)
  all_goals go_ret
  all_goals exact ⟨ret_int (by unfold signedI; omega), rfl⟩
set_option maxHeartbeats 400000 in
theorem angle_Signed (n : Int) (w : World) :
    Calls Try.prog 21 #[.int .i64 n] w fun e w' => e = .returned (.int .i64 (signedI n)) ∧ w' = w := by
  have hb : 0 ≤ n % 21600000 ∧ n % 21600000 < 21600000 := by omega
  go_enter Try.func21, Try.ntmps21
  go_wp2_with (go_at_call 29; refine (angle_Wrap _ _).mono ?_; rintro e w' ⟨rfl, rfl⟩)
  all_goals go_ret
  all_goals exact ⟨ret_int (by unfold signedI; omega), rfl⟩
end Go.Proofs.Ytlkphcjlgbimkaa
