/- Contracts and plain laws, several texts in one: Angle; Cal; Cal2; Pg2 -/
import Derived.Test.YtlkphcjlgbimkaaGreatProg
import Derived.WalkKit
import Derived.WalkSpells
import Derived.WalkLawsBesides
import Derived.Lib.Hide
import Derived.BigQuiet
import Derived.Deep.RegionWith
import Derived.Test.YtlkphcjlgbimkaaGreatBAA
import Derived.Test.YtlkphcjlgbimkaaGreatBAB
import Derived.Test.YtlkphcjlgbimkaaGreatBAD
/- Contracts of package angle and of its reference, as far as the translation has them. -/
namespace Go.Proofs.YtlkphcjlgbimkaaGreat
open Go.RowKit

def fitsB (n : Int) : Bool := decide (-1099511627776 ≤ n ∧ n ≤ 1099511627776)
theorem fits_yes {n : Int} (h1 : -1099511627776 ≤ n) : decide (n ≤ 1099511627776) = fitsB n := by
  unfold fitsB; simp [h1]
theorem fits_no {n : Int} (h1 : n < -1099511627776) : false = fitsB n := by
  unfold fitsB; simp; omega
def validB (lo hi : Int) : Bool := decide (lo ≤ hi ∧ -1099511627776 ≤ lo ∧ hi ≤ 1099511627776)
theorem validB_iff {lo hi : Int} : validB lo hi = true ↔ lo ≤ hi ∧ -1099511627776 ≤ lo ∧ hi ≤ 1099511627776 := by simp [validB]
theorem validB_eq {lo hi : Int} : validB lo hi = (decide (lo ≤ hi) && fitsB lo && fitsB hi) := by
  rw [Bool.eq_iff_iff]; simp [validB, fitsB]; omega
set_option maxHeartbeats 400000 in
theorem angle_fits (n : Int) (w : World) :
    Calls Tryz.prog 133 #[.int .i64 n] w fun e w' => e = .returned (.bool (fitsB n)) ∧ w' = w := by
  go_enter Tryz.func133, Tryz.ntmps133
  go_wp2
  · go_ret
    exact ⟨ret_bool (fits_yes ‹_›), rfl⟩
  · go_ret
    exact ⟨ret_bool (fits_no ‹_›), rfl⟩
theorem valid_ways1 {lo hi : Int} (h : lo ≤ hi) (h2 : fitsB lo = true) : fitsB hi = validB lo hi := by simp [validB_eq, *]
theorem valid_ways2 {lo hi : Int} (h2 : ¬ fitsB lo = true) : false = validB lo hi := by simp [validB_eq, *]
theorem valid_ways3 {lo hi : Int} (h2 : hi < lo) : false = validB lo hi := by
  have : ¬ lo ≤ hi := by omega
  simp [validB_eq, *]
set_option maxHeartbeats 400000 in
theorem angle_Valid (lo hi : Int) (w : World) :
    Calls Tryz.prog 85 #[(.agg #[.int .i64 (lo), .int .i64 (hi)])] w fun e w' => e = .returned (.bool (validB lo hi)) ∧ ∃ d, w' = bw w d := by
  refine lay_start ?_
  go_enter Tryz.func85, Tryz.ntmps85
  go_wp2_with (go_at_call 133; refine (angle_fits _ _).mono ?_; rintro e w' ⟨rfl, rfl⟩)
  all_goals go_ret
  all_goals exact ⟨ret_bool (by first | exact valid_ways1 ‹_› ‹_› | exact valid_ways2 ‹_› | exact valid_ways3 ‹_›), lay_ex _ _⟩
set_option maxHeartbeats 400000 in
theorem ref05_Valid (lo hi : Int) (w : World) :
    Calls Tryz.prog 30 #[(.agg #[.int .i64 (lo), .int .i64 (hi)])] w fun e w' => e = .returned (.bool (validB lo hi)) ∧ ∃ d, w' = bw w d := by
  refine lay_start ?_
  go_enter Tryz.func30, Tryz.ntmps30
  go_wp2
  all_goals go_ret
  all_goals exact ⟨ret_bool (by rw [Bool.eq_iff_iff]; simp [validB]; omega), lay_ex _ _⟩
set_option maxHeartbeats 400000 in
theorem ref05_Floor (a b : Int) (w : World) (hb : 1 ≤ b) (h1 : -9223372036854775807 ≤ a) (h2 : a ≤ 9223372036854775807) :
    Calls Tryz.prog 126 #[.int .i64 a, .int .i64 b] w fun e w' => e = .returned (.int .i64 (a / b)) ∧ w' = w := by
  go_enter Tryz.func126, Tryz.ntmps126
  go_wp2
  · go_ret
    refine ⟨ret_int ?_, rfl⟩
    rw [IntWalk.wrap64_in]
    · exact floor_neg hb ‹_›
    · rw [floor_neg hb ‹_›]; have := ediv_bd hb 9223372036854775807 (by decide) h1 h2; omega
  · go_ret
    exact ⟨ret_int (floor_pos hb ‹_›), rfl⟩
set_option maxHeartbeats 400000 in
theorem ref05_Ceil (a b : Int) (w : World) (hb : 1 ≤ b) (h1 : -9223372036854775807 ≤ a) (h2 : a ≤ 9223372036854775807) :
    Calls Tryz.prog 191 #[.int .i64 a, .int .i64 b] w fun e w' => e = .returned (.int .i64 (cdiv a b)) ∧ w' = w := by
  go_enter Tryz.func191, Tryz.ntmps191
  go_wp2
  · go_ret
    refine ⟨ret_int ?_, rfl⟩
    rw [IntWalk.wrap64_in]
    · exact cdiv_pos hb ‹_›
    · rw [cdiv_pos hb ‹_›]; have := cdiv_bd hb 9223372036854775807 (by decide) h1 h2; omega
  · go_ret
    exact ⟨ret_int (cdiv_neg hb ‹_›), rfl⟩
set_option maxHeartbeats 400000 in
theorem angle_Wrap (n : Int) (w : World) :
    Calls Tryz.prog 86 #[.int .i64 n] w fun e w' => e = .returned (.int .i64 (n % 21600000)) ∧ w' = w := by
  have hb := tmod_bd n 21600000 (by decide)
  go_enter Tryz.func86, Tryz.ntmps86
  go_wp2
  · go_ret
    exact ⟨ret_int ((tmod_wrap n 21600000 (by decide)).1 ‹_›), rfl⟩
  · go_ret
    exact ⟨ret_int ((tmod_wrap n 21600000 (by decide)).2 ‹_›), rfl⟩
set_option maxHeartbeats 400000 in
theorem ref05_Wrap (n : Int) (w : World) :
    Calls Tryz.prog 124 #[.int .i64 n] w fun e w' => e = .returned (.int .i64 (n % 21600000)) ∧ w' = w := by
  have hb := tmod_bd n 21600000 (by decide)
  go_enter Tryz.func124, Tryz.ntmps124
  go_wp2
  · go_ret
    exact ⟨ret_int ((tmod_wrap n 21600000 (by decide)).1 ‹_›), rfl⟩
  · go_ret
    exact ⟨ret_int ((tmod_wrap n 21600000 (by decide)).2 ‹_›), rfl⟩

/-- Go's min and max of two ints, behind names that the walk does not open. -/
def mn (x y : Int) : Int := if y < x then y else x
def mx (x y : Int) : Int := if x < y then y else x
theorem mn_eq (x y : Int) : mn x y = min x y := by unfold mn; split <;> omega
theorem mx_eq (x y : Int) : mx x y = max x y := by unfold mx; split <;> omega
section
variable {P : Program} {w : World}
theorem run_mn (ts : Array TypeId) (t : TypeId) (k k' : IntKind) (x y : Int) : (Builtin.min_ ts t #[.int k x, .int k' y]).run P w = .ok (.int k (mn x y)) w := run_min_int2 w ts t k k' x y
theorem run_mx (ts : Array TypeId) (t : TypeId) (k k' : IntKind) (x y : Int) : (Builtin.max_ ts t #[.int k x, .int k' y]).run P w = .ok (.int k (mx x y)) w := run_max_int2 w ts t k k' x y
end
attribute [go_sem ↓] run_mn run_mx

theorem validB_false {lo hi : Int} : validB lo hi = false ↔ ¬ (lo ≤ hi ∧ -1099511627776 ≤ lo ∧ hi ≤ 1099511627776) := by simp [validB]
def insideB (x0 y0 x1 y1 : Int) : Bool := decide (x1 ≤ x0 ∧ y0 ≤ y1)
def inside2B (x0 y0 x1 y1 : Int) : Bool := validB x0 y0 && validB x1 y1 && insideB x0 y0 x1 y1
theorem inside2B_iff {x0 y0 x1 y1 : Int} : inside2B x0 y0 x1 y1 = true ↔ validB x0 y0 = true ∧ validB x1 y1 = true ∧ x1 ≤ x0 ∧ y0 ≤ y1 := by simp [inside2B, insideB, and_assoc]
theorem insideB_iff {x0 y0 x1 y1 : Int} : insideB x0 y0 x1 y1 = true ↔ x1 ≤ x0 ∧ y0 ≤ y1 := by simp [insideB]
set_option maxHeartbeats 400000 in
theorem ref05_Inside (x0 y0 x1 y1 : Int) (w : World) :
    Calls Tryz.prog 20 #[(.agg #[.int .i64 (x0), .int .i64 (y0)]), (.agg #[.int .i64 (x1), .int .i64 (y1)])] w fun e w' => e = .returned (.bool (insideB x0 y0 x1 y1)) ∧ ∃ d, w' = bw w d := by
  refine lay_start ?_
  go_enter Tryz.func20, Tryz.ntmps20
  go_wp2
  all_goals go_ret
  all_goals exact ⟨ret_bool (by rw [Bool.eq_iff_iff]; simp [insideB]; omega), lay_ex _ _⟩
set_option maxHeartbeats 400000 in
theorem ref05_Hull (x0 y0 x1 y1 : Int) (w : World) :
    Calls Tryz.prog 79 #[(.agg #[.int .i64 (x0), .int .i64 (y0)]), (.agg #[.int .i64 (x1), .int .i64 (y1)])] w fun e w' => e = .returned (.agg #[.int .i64 (mn x0 x1), .int .i64 (mx y0 y1)]) ∧ ∃ d, w' = bw w d := by
  refine lay_start ?_
  go_enter Tryz.func79, Tryz.ntmps79
  go_wp2
  all_goals exact bodyPost_ret (v := (.agg #[.int .i64 (mn x0 x1), .int .i64 (mx y0 y1)])) (by simp [results, Tryz.results79, go_sem, mn, mx]; omega) rfl ⟨rfl, lay_ex _ _⟩
def meetLo (x0 y0 x1 y1 : Int) : Int := if max x0 x1 ≤ min y0 y1 then max x0 x1 else 0
def meetHi (x0 y0 x1 y1 : Int) : Int := if max x0 x1 ≤ min y0 y1 then min y0 y1 else 0
def meetE (x0 y0 x1 y1 : Int) : Int := if max x0 x1 ≤ min y0 y1 then 0 else 23
theorem meet_bad {x0 y0 x1 y1 : Int} (h : mn y0 y1 < mx x0 x1) : meetLo x0 y0 x1 y1 = 0 ∧ meetHi x0 y0 x1 y1 = 0 ∧ meetE x0 y0 x1 y1 = 23 := by
  rw [mn_eq, mx_eq] at h
  unfold meetLo meetHi meetE; omega
theorem meet_good {x0 y0 x1 y1 : Int} (h : mx x0 x1 ≤ mn y0 y1) : meetLo x0 y0 x1 y1 = mx x0 x1 ∧ meetHi x0 y0 x1 y1 = mn y0 y1 ∧ meetE x0 y0 x1 y1 = 0 := by
  rw [mn_eq, mx_eq] at *
  unfold meetLo meetHi meetE; omega
set_option maxHeartbeats 400000 in
theorem angle_Meet (x0 y0 x1 y1 : Int) (w : World) (h1 : validB x0 y0 = true) (h2 : validB x1 y1 = true) :
    Calls Tryz.prog 210 #[(.agg #[.int .i64 (x0), .int .i64 (y0)]), (.agg #[.int .i64 (x1), .int .i64 (y1)])] w fun e w' => e = .returned (.tuple #[(.agg #[.int .i64 (meetLo x0 y0 x1 y1), .int .i64 (meetHi x0 y0 x1 y1)]), .int .i64 (meetE x0 y0 x1 y1)]) ∧ ∃ d, w' = bw w d := by
  by_cases h3 : mn y0 y1 < mx x0 x1
  · have HG := Lib.hid (meet_bad h3)
    refine lay_start ?_
    go_enter Tryz.func210, Tryz.ntmps210
    go_wp2_with (go_at_call 85; refine (angle_Valid _ _ _).mono ?_; rintro e w' ⟨rfl, d, rfl⟩)
    obtain ⟨g1, g2, g3⟩ := HG.out
    exact bodyPost_ret (v := .tuple #[(.agg #[.int .i64 (meetLo x0 y0 x1 y1), .int .i64 (meetHi x0 y0 x1 y1)]), .int .i64 (meetE x0 y0 x1 y1)]) (by simp [results, Tryz.results210, go_sem, g1, g2, g3]) rfl ⟨rfl, lay_ex _ _⟩
  · have HG := Lib.hid (meet_good (x0 := x0) (y0 := y0) (x1 := x1) (y1 := y1) (by omega))
    refine lay_start ?_
    go_enter Tryz.func210, Tryz.ntmps210
    go_wp2_with (go_at_call 85; refine (angle_Valid _ _ _).mono ?_; rintro e w' ⟨rfl, d, rfl⟩)
    obtain ⟨g1, g2, g3⟩ := HG.out
    exact bodyPost_ret (v := .tuple #[(.agg #[.int .i64 (meetLo x0 y0 x1 y1), .int .i64 (meetHi x0 y0 x1 y1)]), .int .i64 (meetE x0 y0 x1 y1)]) (by simp [results, Tryz.results210, go_sem, g1, g2, g3]) rfl ⟨rfl, lay_ex _ _⟩
set_option maxHeartbeats 400000 in
theorem ref05_Meet (x0 y0 x1 y1 : Int) (w : World) :
    Calls Tryz.prog 157 #[(.agg #[.int .i64 (x0), .int .i64 (y0)]), (.agg #[.int .i64 (x1), .int .i64 (y1)])] w fun e w' => e = .returned (.agg #[.int .i64 (mx x0 x1), .int .i64 (mn y0 y1)]) ∧ ∃ d, w' = bw w d := by
  refine lay_start ?_
  go_enter Tryz.func157, Tryz.ntmps157
  go_wp2
  all_goals exact bodyPost_ret (v := (.agg #[.int .i64 (mx x0 x1), .int .i64 (mn y0 y1)])) (by simp [results, Tryz.results157, go_sem, mn, mx]; omega) rfl ⟨rfl, lay_ex _ _⟩
def meetsB (x0 y0 x1 y1 : Int) : Bool := decide (x0 ≤ y1 ∧ x1 ≤ y0)
set_option maxHeartbeats 400000 in
theorem ref05_Meets (x0 y0 x1 y1 : Int) (w : World) :
    Calls Tryz.prog 25 #[(.agg #[.int .i64 (x0), .int .i64 (y0)]), (.agg #[.int .i64 (x1), .int .i64 (y1)])] w fun e w' => e = .returned (.bool (meetsB x0 y0 x1 y1)) ∧ ∃ d, w' = bw w d := by
  refine lay_start ?_
  go_enter Tryz.func25, Tryz.ntmps25
  go_wp2
  all_goals go_ret
  all_goals exact ⟨ret_bool (by rw [Bool.eq_iff_iff]; simp [meetsB]; omega), lay_ex _ _⟩
def turnLo (x0 y0 : Int) : Int := if 21600000 ≤ y0 - x0 then 0 else x0 % 21600000
def turnHi (x0 y0 : Int) : Int := if 21600000 ≤ y0 - x0 then 21600000 else x0 % 21600000 + (y0 - x0)
set_option maxHeartbeats 400000 in
theorem angle_Turn (x0 y0 : Int) (w : World) (h1 : validB x0 y0 = true) :
    Calls Tryz.prog 87 #[(.agg #[.int .i64 (x0), .int .i64 (y0)])] w fun e w' => e = .returned (.tuple #[(.agg #[.int .i64 (turnLo x0 y0), .int .i64 (turnHi x0 y0)]), .int .i64 0]) ∧ ∃ d, w' = bw w d := by
  obtain ⟨g1, g2, g3⟩ := validB_iff.1 h1
  refine lay_start ?_
  go_enter Tryz.func87, Tryz.ntmps87
  go_wp2_with (first | (go_at_call 85; refine (angle_Valid _ _ _).mono ?_; rintro e w' ⟨rfl, d, rfl⟩) | (go_at_call 86; refine (angle_Wrap _ _).mono ?_; rintro e w' ⟨rfl, rfl⟩))
  all_goals exact bodyPost_ret (v := .tuple #[(.agg #[.int .i64 (turnLo x0 y0), .int .i64 (turnHi x0 y0)]), .int .i64 0]) (by simp [results, Tryz.results87, go_sem, turnLo, turnHi]; omega) rfl ⟨rfl, lay_ex _ _⟩
set_option maxHeartbeats 400000 in
theorem ref05_Turn (x0 y0 : Int) (w : World) (h1 : -4611686018427387904 ≤ x0) (h2 : x0 ≤ y0) (h3 : y0 ≤ 4611686018427387903) :
    Calls Tryz.prog 71 #[(.agg #[.int .i64 (x0), .int .i64 (y0)])] w fun e w' => e = .returned (.agg #[.int .i64 (turnLo x0 y0), .int .i64 (turnHi x0 y0)]) ∧ ∃ d, w' = bw w d := by
  refine lay_start ?_
  go_enter Tryz.func71, Tryz.ntmps71
  go_wp2_with (go_at_call 124; refine (ref05_Wrap _ _).mono ?_; rintro e w' ⟨rfl, rfl⟩)
  all_goals exact bodyPost_ret (v := (.agg #[.int .i64 (turnLo x0 y0), .int .i64 (turnHi x0 y0)])) (by simp [results, Tryz.results71, go_sem, turnLo, turnHi]; omega) rfl ⟨rfl, lay_ex _ _⟩

set_option maxHeartbeats 400000 in
theorem ref05_Add (x0 y0 x1 y1 : Int) (w : World) (h1 : -9223372036854775807 ≤ x0 + x1) (h2 : x0 + x1 ≤ 9223372036854775807) (h3 : -9223372036854775807 ≤ y0 + y1) (h4 : y0 + y1 ≤ 9223372036854775807) :
    Calls Tryz.prog 72 #[(.agg #[.int .i64 (x0), .int .i64 (y0)]), (.agg #[.int .i64 (x1), .int .i64 (y1)])] w fun e w' => e = .returned (.agg #[.int .i64 (x0 + x1), .int .i64 (y0 + y1)]) ∧ ∃ d, w' = bw w d := by
  refine lay_start ?_
  go_enter Tryz.func72, Tryz.ntmps72
  go_wp2
  exact bodyPost_ret (v := (.agg #[.int .i64 (x0 + x1), .int .i64 (y0 + y1)])) (by simp [results, Tryz.results72, go_sem]) rfl ⟨rfl, lay_ex _ _⟩
end Go.Proofs.YtlkphcjlgbimkaaGreat
/- Dates: package calendar's numbers and the reference's. -/
namespace Go.Proofs.YtlkphcjlgbimkaaGreat
open Go.RowKit

def leapB (y : Int) : Bool := decide (y % 4 = 0 ∧ (y % 100 ≠ 0 ∨ y % 400 = 0))
/-- The days of a month. -/
def dysI (y m : Int) : Int := if m = 2 then (if leapB y = true then 29 else 28) else if m = 4 ∨ m = 6 ∨ m = 9 ∨ m = 11 then 30 else 31
theorem dysI_bd (y m : Int) : 28 ≤ dysI y m ∧ dysI y m ≤ 31 := by unfold dysI; split <;> (try split) <;> omega
/-- The days before a year. -/
def befI (y : Int) : Int := 365 * (y - 1) + (y - 1) / 4 - (y - 1) / 100 + (y - 1) / 400
theorem befI_bd {y : Int} (h0 : 1 ≤ y) (h1 : y ≤ 9999) : 0 ≤ befI y ∧ befI y ≤ 4000000 := by unfold befI; omega
/-- The days of the months before one. -/
def monI (y : Int) : Nat → Int
  | 0 => 0
  | k + 1 => monI y k + dysI y ((k : Int) + 1)
theorem monI_bd (y : Int) : ∀ k : Nat, 0 ≤ monI y k ∧ monI y k ≤ 31 * (k : Int)
  | 0 => by simp [monI]
  | k + 1 => by
    have := monI_bd y k
    have := dysI_bd y ((k : Int) + 1)
    simp only [monI]; omega
def numI (y m d : Int) : Int := befI y + (d + monI y (m - 1).toNat) - 730119 - 1
def dateB (y m d : Int) : Bool := decide ((1 ≤ y ∧ y ≤ 9999) ∧ (1 ≤ m ∧ m ≤ 12) ∧ 1 ≤ d ∧ d ≤ dysI y m)
theorem dateB_iff {y m d : Int} : dateB y m d = true ↔ (1 ≤ y ∧ y ≤ 9999) ∧ (1 ≤ m ∧ m ≤ 12) ∧ 1 ≤ d ∧ d ≤ dysI y m := by simp [dateB]
theorem bef2000 : befI 2000 = 730119 := by decide
theorem tm_eq {y c : Int} (h : 0 ≤ y) : y.tmod c = y % c := Int.tmod_eq_emod_of_nonneg h
theorem td_eq {y c : Int} (h : 0 ≤ y) : y.tdiv c = y / c := Int.tdiv_eq_ediv_of_nonneg h
theorem leap_ways {y : Int} : (leapB y = true ∧ y % 4 = 0 ∧ (y % 100 != 0) = true ∧ (y % 100 == 0) = false) ∨ (leapB y = true ∧ y % 4 = 0 ∧ y % 100 = 0 ∧ y % 400 = 0) ∨
    (leapB y = false ∧ y % 4 = 0 ∧ y % 100 = 0 ∧ (y % 400 == 0) = false) ∨ (leapB y = false ∧ (y % 4 == 0) = false ∧ (y % 400 == 0) = false) := by
  unfold leapB
  simp only [decide_eq_true_eq, decide_eq_false_iff_not, beq_eq_false_iff_ne, bne_iff_ne, ne_eq]
  omega
set_option maxHeartbeats 400000 in
theorem cal_Leap (y : Int) (w : World) (h0 : 0 ≤ y) :
    Calls Tryz.prog 196 #[.int .i64 y] w fun e w' => e = .returned (.bool (leapB y)) ∧ w' = w := by
  obtain ⟨A, eA⟩ : ∃ A, y % 4 = A := ⟨_, rfl⟩
  obtain ⟨B, eB⟩ : ∃ B, y % 100 = B := ⟨_, rfl⟩
  obtain ⟨C, eC⟩ : ∃ C, y % 400 = C := ⟨_, rfl⟩
  have e1 : y.tmod 4 = A := (tm_eq h0).trans eA
  have e2 : y.tmod 100 = B := (tm_eq h0).trans eB
  have e3 : y.tmod 400 = C := (tm_eq h0).trans eC
  have hw := leap_ways (y := y)
  rw [eA, eB, eC] at hw
  clear eA eB eC h0
  rcases hw with ⟨h, rfl, b2, b⟩ | ⟨h, rfl, rfl, rfl⟩ | ⟨h, rfl, rfl, c⟩ | ⟨h, a, c⟩
  all_goals
    rw [h]
    clear h
    go_enter Tryz.func196, Tryz.ntmps196
    go_wp2_with fail
    go_ret
    exact ⟨rfl, rfl⟩
set_option maxHeartbeats 400000 in
theorem ref09_Leap (y : Int) (w : World) (h0 : 0 ≤ y) :
    Calls Tryz.prog 162 #[.int .i64 y] w fun e w' => e = .returned (.bool (leapB y)) ∧ w' = w := by
  obtain ⟨A, eA⟩ : ∃ A, y % 4 = A := ⟨_, rfl⟩
  obtain ⟨B, eB⟩ : ∃ B, y % 100 = B := ⟨_, rfl⟩
  obtain ⟨C, eC⟩ : ∃ C, y % 400 = C := ⟨_, rfl⟩
  have e1 : y.tmod 4 = A := (tm_eq h0).trans eA
  have e2 : y.tmod 100 = B := (tm_eq h0).trans eB
  have e3 : y.tmod 400 = C := (tm_eq h0).trans eC
  have hw := leap_ways (y := y)
  rw [eA, eB, eC] at hw
  clear eA eB eC h0
  rcases hw with ⟨h, rfl, b2, b⟩ | ⟨h, rfl, rfl, rfl⟩ | ⟨h, rfl, rfl, c⟩ | ⟨h, a, c⟩
  all_goals
    rw [h]
    clear h
    go_enter Tryz.func162, Tryz.ntmps162
    go_wp2_with fail
    go_ret
    exact ⟨rfl, rfl⟩
def lenA : Array Value := #[.int .i64 31, .int .i64 28, .int .i64 31, .int .i64 30, .int .i64 31, .int .i64 30, .int .i64 31, .int .i64 31, .int .i64 30, .int .i64 31, .int .i64 30, .int .i64 31]
set_option maxRecDepth 100000
theorem ix_0 (w : World) : (Instr.index 180 (.agg lenA) (.int .i64 0)).run Tryz.prog w = .ok (.int .i64 31) w := by kernel_rfl
theorem ix_1 (w : World) : (Instr.index 180 (.agg lenA) (.int .i64 1)).run Tryz.prog w = .ok (.int .i64 28) w := by kernel_rfl
theorem ix_2 (w : World) : (Instr.index 180 (.agg lenA) (.int .i64 2)).run Tryz.prog w = .ok (.int .i64 31) w := by kernel_rfl
theorem ix_3 (w : World) : (Instr.index 180 (.agg lenA) (.int .i64 3)).run Tryz.prog w = .ok (.int .i64 30) w := by kernel_rfl
theorem ix_4 (w : World) : (Instr.index 180 (.agg lenA) (.int .i64 4)).run Tryz.prog w = .ok (.int .i64 31) w := by kernel_rfl
theorem ix_5 (w : World) : (Instr.index 180 (.agg lenA) (.int .i64 5)).run Tryz.prog w = .ok (.int .i64 30) w := by kernel_rfl
theorem ix_6 (w : World) : (Instr.index 180 (.agg lenA) (.int .i64 6)).run Tryz.prog w = .ok (.int .i64 31) w := by kernel_rfl
theorem ix_7 (w : World) : (Instr.index 180 (.agg lenA) (.int .i64 7)).run Tryz.prog w = .ok (.int .i64 31) w := by kernel_rfl
theorem ix_8 (w : World) : (Instr.index 180 (.agg lenA) (.int .i64 8)).run Tryz.prog w = .ok (.int .i64 30) w := by kernel_rfl
theorem ix_9 (w : World) : (Instr.index 180 (.agg lenA) (.int .i64 9)).run Tryz.prog w = .ok (.int .i64 31) w := by kernel_rfl
theorem ix_10 (w : World) : (Instr.index 180 (.agg lenA) (.int .i64 10)).run Tryz.prog w = .ok (.int .i64 30) w := by kernel_rfl
theorem ix_11 (w : World) : (Instr.index 180 (.agg lenA) (.int .i64 11)).run Tryz.prog w = .ok (.int .i64 31) w := by kernel_rfl
set_option maxRecDepth 512
set_option maxHeartbeats 400000 in
theorem cal_lengths (w : World) :
    Calls Tryz.prog 197 #[] w fun e w' => e = .returned (.agg lenA) ∧ ∃ d, w' = bw w d := by
  refine lay_start ?_
  unfold lenA
  go_enter Tryz.func197, Tryz.ntmps197
  go_wp2
  exact bodyPost_ret (v := .agg #[.int .i64 31, .int .i64 28, .int .i64 31, .int .i64 30, .int .i64 31, .int .i64 30, .int .i64 31, .int .i64 31, .int .i64 30, .int .i64 31, .int .i64 30, .int .i64 31]) (by simp [results, Tryz.results197, go_sem]) rfl ⟨rfl, lay_ex _ _⟩
theorem mon12 {m : Int} (h0 : 1 ≤ m) (h1 : m ≤ 12) : m = 1 ∨ m = 2 ∨ m = 3 ∨ m = 4 ∨ m = 5 ∨ m = 6 ∨ m = 7 ∨ m = 8 ∨ m = 9 ∨ m = 10 ∨ m = 11 ∨ m = 12 := by omega
set_option maxHeartbeats 1000000 in
set_option maxRecDepth 100000 in
theorem cal_days (y m : Int) (w : World) (hy : 0 ≤ y) (h0 : 1 ≤ m) (h1 : m ≤ 12) :
    Calls Tryz.prog 172 #[.int .i64 y, .int .i64 m] w fun e w' => e = .returned (.int .i64 (dysI y m)) ∧ ∃ d, w' = bw w d := by
  have HL := Lib.hid (fun W => cal_Leap y W hy)
  unfold dysI
  generalize leapB y = b at *
  clear hy
  rcases mon12 h0 h1 with rfl | rfl | rfl | rfl | rfl | rfl | rfl | rfl | rfl | rfl | rfl | rfl
  all_goals cases b
  all_goals
    clear h0 h1
    have ix0 := ix_0
    have ix1 := ix_1
    have ix2 := ix_2
    have ix3 := ix_3
    have ix4 := ix_4
    have ix5 := ix_5
    have ix6 := ix_6
    have ix7 := ix_7
    have ix8 := ix_8
    have ix9 := ix_9
    have ixA := ix_10
    have ixB := ix_11
    refine lay_start ?_
    go_enter Tryz.func172, Tryz.ntmps172
    go_wp2_with (first | (go_at_call 196; refine (HL.out _).mono ?_; rintro e w' ⟨rfl, rfl⟩) | (go_at_call 197; refine (cal_lengths _).mono ?_; rintro e w' ⟨rfl, d, rfl⟩))
    go_ret
    first | exact ⟨rfl, lay_ex _ _⟩ | exact ⟨rfl, noExt _, (bw_noExt _).symm⟩ | exact ⟨rfl, _, rfl⟩
set_option maxHeartbeats 1000000 in
set_option maxRecDepth 100000 in
theorem ref09_Days (y m : Int) (w : World) (hy : 0 ≤ y) (h0 : 1 ≤ m) (h1 : m ≤ 12) :
    Calls Tryz.prog 130 #[.int .i64 y, .int .i64 m] w fun e w' => e = .returned (.int .i64 (dysI y m)) ∧ ∃ d, w' = bw w d := by
  have HL := Lib.hid (fun W => ref09_Leap y W hy)
  unfold dysI
  generalize leapB y = b at *
  clear hy
  rcases mon12 h0 h1 with rfl | rfl | rfl | rfl | rfl | rfl | rfl | rfl | rfl | rfl | rfl | rfl
  all_goals cases b
  all_goals
    clear h0 h1
    refine lay_start ?_
    go_enter Tryz.func130, Tryz.ntmps130
    go_wp2_with (first | (go_at_call 162; refine (HL.out _).mono ?_; rintro e w' ⟨rfl, rfl⟩))
    go_ret
    first | exact ⟨rfl, lay_ex _ _⟩ | exact ⟨rfl, noExt _, (bw_noExt _).symm⟩ | exact ⟨rfl, _, rfl⟩
set_option maxHeartbeats 1000000 in
theorem cal_before (y : Int) (w : World) (h0 : 1 ≤ y) (h1 : y ≤ 9999) :
    Calls Tryz.prog 173 #[.int .i64 y] w fun e w' => e = .returned (.int .i64 (befI y)) ∧ w' = w := by
  have e1 := td_eq (y := y - 1) (c := 4) (by omega)
  have e2 := td_eq (y := y - 1) (c := 100) (by omega)
  have e3 := td_eq (y := y - 1) (c := 400) (by omega)
  unfold befI
  rw [← e1, ← e2, ← e3]
  have b1 : 0 ≤ (y - 1).tdiv 4 ∧ (y - 1).tdiv 4 ≤ 10000 := by omega
  have b2 : 0 ≤ (y - 1).tdiv 100 ∧ (y - 1).tdiv 100 ≤ 10000 := by omega
  have b3 : 0 ≤ (y - 1).tdiv 400 ∧ (y - 1).tdiv 400 ≤ 10000 := by omega
  clear e1 e2 e3
  go_enter Tryz.func173, Tryz.ntmps173
  go_wp2_with fail
  go_ret
  exact ⟨ret_int (by omega), rfl⟩
set_option maxHeartbeats 1000000 in
theorem ref09_before (y : Int) (w : World) (h0 : 1 ≤ y) (h1 : y ≤ 9999) :
    Calls Tryz.prog 131 #[.int .i64 y] w fun e w' => e = .returned (.int .i64 (befI y)) ∧ w' = w := by
  have e1 := td_eq (y := y - 1) (c := 4) (by omega)
  have e2 := td_eq (y := y - 1) (c := 100) (by omega)
  have e3 := td_eq (y := y - 1) (c := 400) (by omega)
  unfold befI
  rw [← e1, ← e2, ← e3]
  have b1 : 0 ≤ (y - 1).tdiv 4 ∧ (y - 1).tdiv 4 ≤ 10000 := by omega
  have b2 : 0 ≤ (y - 1).tdiv 100 ∧ (y - 1).tdiv 100 ≤ 10000 := by omega
  have b3 : 0 ≤ (y - 1).tdiv 400 ∧ (y - 1).tdiv 400 ≤ 10000 := by omega
  clear e1 e2 e3
  go_enter Tryz.func131, Tryz.ntmps131
  go_wp2_with fail
  go_ret
  exact ⟨ret_int (by omega), rfl⟩
end Go.Proofs.YtlkphcjlgbimkaaGreat
/- Dates: valid ones, their numbers. -/
namespace Go.Proofs.YtlkphcjlgbimkaaGreat
open Go.RowKit

set_option maxHeartbeats 1000000 in
theorem cal_dayOfYear (y m d : Int) (w : World) (hy : 0 ≤ y) (h0 : 1 ≤ m) (h1 : m ≤ 12) (d0 : 1 ≤ d) (d1 : d ≤ 31) :
    Calls Tryz.prog 174 #[.agg #[.int .i64 y, .int .i64 m, .int .i64 d]] w fun e w' => e = .returned (.int .i64 (d + monI y (m - 1).toNat)) ∧ ∃ d, w' = bw w d := by
  have HD := Lib.hid (fun j W (a : 1 ≤ j) (b : j ≤ 12) => cal_days y j W hy a b)
  have HB := Lib.hid (fun k => monI_bd y k)
  have HS : Hid (∀ k : Nat, d + monI y k + dysI y ((k : Int) + 1) = d + monI y (k + 1)) := Lib.hid (fun k => by simp only [monI]; omega)
  have HY := Lib.hid (fun j => dysI_bd y j)
  refine lay_start ?_
  go_enter Tryz.func174, Tryz.ntmps174
  go_wp2_with fail
  go_loopw [3, 4] (fun v3 v4 wr => ∃ (k : Nat) (e : Ext), (k : Int) + 1 ≤ m ∧ v3 = .int .i64 (d + monI y k) ∧ v4 = .int .i64 ((k : Int) + 1) ∧ wr = lay w [.inr e, .inl (.cells #[.int .i64 y, .int .i64 m, .int .i64 d] 50 (0, 0))]) (fun _ v4 _ => m.toNat - (intOf v4).toNat)
  case atStart => exact ⟨0, noExt _, by omega, by simp [monI], rfl, (bw_noExt _).symm⟩
  case round =>
    obtain ⟨k, e, hk, rfl, rfl, rfl⟩ := hrel
    by_cases hlt : (k : Int) + 1 < m
    · have b1 := HB.out k
      have b2 := HY.out ((k : Int) + 1)
      have b3 := HS.out k
      have HDk := Lib.hid (fun W => HD.out ((k : Int) + 1) W (by omega) (by omega))
      clear HD HB HS HY
      generalize monI y k = M at *
      generalize dysI y ((k : Int) + 1) = D at *
      obtain ⟨b11, b12⟩ := b1
      obtain ⟨b21, b22⟩ := b2
      go_wp2_with (go_at_call 172; refine (HDk.out _).mono ?_; rintro e w' ⟨rfl, e2, rfl⟩)
      go_roundw
      case rel => exact ⟨k + 1, _, by omega, by rw [← b3], by go_num, Classical.choose_spec (lay_fold w [_, _] _)⟩
      case measure => simp [intOf]; omega
    · have HM : Hid ((m - 1).toNat = k) := Lib.hid (by omega)
      go_wp2_with fail
      go_ret
      exact ⟨ret_int (by have := HM.out; rw [show m.toNat - 1 = k by omega]), lay_ex _ _⟩
set_option maxHeartbeats 1000000 in
theorem ref09_DayOfYear (y m d : Int) (w : World) (hy : 0 ≤ y) (h0 : 1 ≤ m) (h1 : m ≤ 12) (d0 : 1 ≤ d) (d1 : d ≤ 31) :
    Calls Tryz.prog 132 #[.agg #[.int .i64 y, .int .i64 m, .int .i64 d]] w fun e w' => e = .returned (.int .i64 (d + monI y (m - 1).toNat)) ∧ ∃ d, w' = bw w d := by
  have HD := Lib.hid (fun j W (a : 1 ≤ j) (b : j ≤ 12) => ref09_Days y j W hy a b)
  have HB := Lib.hid (fun k => monI_bd y k)
  have HS : Hid (∀ k : Nat, d + monI y k + dysI y ((k : Int) + 1) = d + monI y (k + 1)) := Lib.hid (fun k => by simp only [monI]; omega)
  have HY := Lib.hid (fun j => dysI_bd y j)
  refine lay_start ?_
  go_enter Tryz.func132, Tryz.ntmps132
  go_wp2_with fail
  go_loopw [3, 4] (fun v3 v4 wr => ∃ (k : Nat) (e : Ext), (k : Int) + 1 ≤ m ∧ v3 = .int .i64 (d + monI y k) ∧ v4 = .int .i64 ((k : Int) + 1) ∧ wr = lay w [.inr e, .inl (.cells #[.int .i64 y, .int .i64 m, .int .i64 d] 50 (0, 0))]) (fun _ v4 _ => m.toNat - (intOf v4).toNat)
  case atStart => exact ⟨0, noExt _, by omega, by simp [monI], rfl, (bw_noExt _).symm⟩
  case round =>
    obtain ⟨k, e, hk, rfl, rfl, rfl⟩ := hrel
    by_cases hlt : (k : Int) + 1 < m
    · have b1 := HB.out k
      have b2 := HY.out ((k : Int) + 1)
      have b3 := HS.out k
      have HDk := Lib.hid (fun W => HD.out ((k : Int) + 1) W (by omega) (by omega))
      clear HD HB HS HY
      generalize monI y k = M at *
      generalize dysI y ((k : Int) + 1) = D at *
      obtain ⟨b11, b12⟩ := b1
      obtain ⟨b21, b22⟩ := b2
      go_wp2_with (go_at_call 130; refine (HDk.out _).mono ?_; rintro e w' ⟨rfl, e2, rfl⟩)
      go_roundw
      case rel => exact ⟨k + 1, _, by omega, by rw [← b3], by go_num, Classical.choose_spec (lay_fold w [_, _] _)⟩
      case measure => simp [intOf]; omega
    · have HM : Hid ((m - 1).toNat = k) := Lib.hid (by omega)
      go_wp2_with fail
      go_ret
      exact ⟨ret_int (by have := HM.out; rw [show m.toNat - 1 = k by omega]), lay_ex _ _⟩
theorem numI_bd {y m d : Int} (h : dateB y m d = true) : -800000 ≤ numI y m d ∧ numI y m d ≤ 4000000 := by
  obtain ⟨⟨a, b⟩, ⟨c, e⟩, f, g⟩ := dateB_iff.1 h
  have := befI_bd a b
  have := monI_bd y (m - 1).toNat
  have := dysI_bd y m
  unfold numI; omega
set_option maxHeartbeats 1000000 in
theorem cal_number (y m d : Int) (w : World) (h : dateB y m d = true) :
    Calls Tryz.prog 149 #[.agg #[.int .i64 y, .int .i64 m, .int .i64 d]] w fun e w' => e = .returned (.int .i64 (numI y m d)) ∧ ∃ d, w' = bw w d := by
  obtain ⟨⟨a, b⟩, ⟨c, e⟩, f, g⟩ := dateB_iff.1 h
  have k1 := dysI_bd y m
  have H1 := Lib.hid (fun W => cal_before y W a b)
  have H2 := Lib.hid (fun W => cal_before 2000 W (by decide) (by decide))
  rw [bef2000] at H2
  have H3 := Lib.hid (fun W => cal_dayOfYear y m d W (by omega) c e f (by omega))
  have b1 := befI_bd a b
  have b2 := monI_bd y (m - 1).toNat
  unfold numI
  generalize befI y = B at *
  generalize monI y (m - 1).toNat = M at *
  have b3 : 0 ≤ M ∧ M ≤ 400 := by omega
  obtain ⟨b11, b12⟩ := b1
  obtain ⟨b31, b32⟩ := b3
  have f2 : d ≤ 31 := by omega
  clear b2 g h k1
  refine lay_start ?_
  go_enter Tryz.func149, Tryz.ntmps149
  go_wp2_with fail
  refine region_bw (by kernel_rfl) (by kernel_rfl) ?_
  repeat (go_big_quiet_step ((first | (go_at_call 173; first | ((with_reducible refine bqs (H1.out _) ?_); exact ⟨_, rfl⟩) | ((with_reducible refine bqs (H2.out _) ?_); exact ⟨_, rfl⟩)) | (go_at_call 174; exact bq (H3.out _) (fun d => ⟨d, rfl⟩)) | (go_at_call 174; exact bq (H3.out _) (fun d => lay_join _ _ _ d)))))
  refine wpQuiet_nil ?_
  rintro w' ⟨d, rfl⟩
  rw [lay_bw]
  go_wp2_with fail
  go_ret
  exact ⟨ret_int (by omega), lay_ex _ _⟩
set_option maxHeartbeats 1000000 in
theorem ref09_Number (y m d : Int) (w : World) (h : dateB y m d = true) :
    Calls Tryz.prog 83 #[.agg #[.int .i64 y, .int .i64 m, .int .i64 d]] w fun e w' => e = .returned (.int .i64 (numI y m d)) ∧ ∃ d, w' = bw w d := by
  obtain ⟨⟨a, b⟩, ⟨c, e⟩, f, g⟩ := dateB_iff.1 h
  have k1 := dysI_bd y m
  have H1 := Lib.hid (fun W => ref09_before y W a b)
  have H2 := Lib.hid (fun W => ref09_before 2000 W (by decide) (by decide))
  rw [bef2000] at H2
  have H3 := Lib.hid (fun W => ref09_DayOfYear y m d W (by omega) c e f (by omega))
  have b1 := befI_bd a b
  have b2 := monI_bd y (m - 1).toNat
  unfold numI
  generalize befI y = B at *
  generalize monI y (m - 1).toNat = M at *
  have b3 : 0 ≤ M ∧ M ≤ 400 := by omega
  obtain ⟨b11, b12⟩ := b1
  obtain ⟨b31, b32⟩ := b3
  have f2 : d ≤ 31 := by omega
  clear b2 g h k1
  refine lay_start ?_
  go_enter Tryz.func83, Tryz.ntmps83
  go_wp2_with fail
  refine region_bw (by kernel_rfl) (by kernel_rfl) ?_
  repeat (go_big_quiet_step ((first | (go_at_call 131; first | ((with_reducible refine bqs (H1.out _) ?_); exact ⟨_, rfl⟩) | ((with_reducible refine bqs (H2.out _) ?_); exact ⟨_, rfl⟩)) | (go_at_call 132; exact bq (H3.out _) (fun d => ⟨d, rfl⟩)) | (go_at_call 132; exact bq (H3.out _) (fun d => lay_join _ _ _ d)))))
  refine wpQuiet_nil ?_
  rintro w' ⟨d, rfl⟩
  rw [lay_bw]
  go_wp2_with fail
  go_ret
  exact ⟨ret_int (by omega), lay_ex _ _⟩
set_option maxHeartbeats 400000 in
theorem cal_right (y m : Int) (w : World) :
    Calls Tryz.prog 171 #[.int .i64 y, .int .i64 m] w fun e w' => e = .returned (.bool (decide ((1 ≤ y ∧ y ≤ 9999) ∧ 1 ≤ m ∧ m ≤ 12))) ∧ w' = w := by
  go_enter Tryz.func171, Tryz.ntmps171
  go_wp2_with fail
  all_goals go_ret
  all_goals exact ⟨ret_bool (by first | (simp [*]; done) | (rw [Bool.eq_iff_iff]; simp; omega)), rfl⟩
set_option maxHeartbeats 1000000 in
theorem cal_Valid (y m d : Int) (w : World) :
    Calls Tryz.prog 148 #[.agg #[.int .i64 y, .int .i64 m, .int .i64 d]] w fun e w' => e = .returned (.bool (dateB y m d)) ∧ ∃ d, w' = bw w d := by
  have HR := Lib.hid (fun W => cal_right y m W)
  by_cases h : (1 ≤ y ∧ y ≤ 9999) ∧ 1 ≤ m ∧ m ≤ 12
  · have HD := Lib.hid (fun W => cal_days y m W (by omega) h.2.1 h.2.2)
    rw [decide_eq_true h] at HR
    have e : dateB y m d = (decide (1 ≤ d) && decide (d ≤ dysI y m)) := by rw [Bool.eq_iff_iff, dateB_iff]; simp only [Bool.and_eq_true, decide_eq_true_eq]; omega
    rw [e]
    clear h e
    generalize dysI y m = D at *
    by_cases h1 : 1 ≤ d
    · have t1 : decide (1 ≤ d) = true := decide_eq_true h1
      clear h1
      rw [t1, Bool.true_and]
      refine lay_start ?_
      go_enter Tryz.func148, Tryz.ntmps148
      go_wp2_with fail
      refine region_bw (by kernel_rfl) (by kernel_rfl) ?_
      repeat (go_big_quiet_step ((first | (go_at_call 171; (with_reducible refine bqs (HR.out _) ?_); exact ⟨_, rfl⟩) | (go_at_call 172; exact bq (HD.out _) (fun d => ⟨d, rfl⟩)) | (go_at_call 172; exact bq (HD.out _) (fun d => lay_join _ _ _ d)))))
      refine wpQuiet_nil ?_
      rintro w' ⟨d, rfl⟩
      rw [lay_bw]
      go_wp2_with fail
      go_ret
      exact ⟨rfl, lay_ex _ _⟩
    · have t1 : decide (1 ≤ d) = false := decide_eq_false h1
      clear h1
      rw [t1, Bool.false_and]
      refine lay_start ?_
      go_enter Tryz.func148, Tryz.ntmps148
      go_wp2_with fail
      refine region_bw (by kernel_rfl) (by kernel_rfl) ?_
      repeat (go_big_quiet_step ((first | (go_at_call 171; (with_reducible refine bqs (HR.out _) ?_); exact ⟨_, rfl⟩))))
      refine wpQuiet_nil ?_
      rintro w' ⟨d, rfl⟩
      rw [lay_bw]
      go_wp2_with fail
      go_ret
      exact ⟨rfl, lay_ex _ _⟩
  · rw [decide_eq_false h] at HR
    have e : dateB y m d = false := by
      cases hd : dateB y m d
      · rfl
      · exact absurd ⟨(dateB_iff.1 hd).1, (dateB_iff.1 hd).2.1⟩ h
    rw [e]
    clear h e
    refine lay_start ?_
    go_enter Tryz.func148, Tryz.ntmps148
    go_wp2_with fail
    refine region_bw (by kernel_rfl) (by kernel_rfl) ?_
    repeat (go_big_quiet_step ((first | (go_at_call 171; (with_reducible refine bqs (HR.out _) ?_); exact ⟨_, rfl⟩))))
    refine wpQuiet_nil ?_
    rintro w' ⟨d, rfl⟩
    rw [lay_bw]
    go_wp2_with fail
    go_ret
    exact ⟨rfl, lay_ex _ _⟩
set_option maxHeartbeats 1000000 in
theorem ref09_Valid (y m d : Int) (w : World) :
    Calls Tryz.prog 81 #[.agg #[.int .i64 y, .int .i64 m, .int .i64 d]] w fun e w' => e = .returned (.bool (dateB y m d)) ∧ ∃ d, w' = bw w d := by
  have ways : (decide (1 ≤ y) = true ∧ decide (y ≤ 9999) = true ∧ decide (1 ≤ m) = true ∧ decide (m ≤ 12) = true ∧ decide (1 ≤ d) = true ∧ dateB y m d = decide (d ≤ dysI y m) ∧ 0 ≤ y ∧ 1 ≤ m ∧ m ≤ 12) ∨
      (dateB y m d = false ∧ (decide (1 ≤ y) = false ∨ (decide (1 ≤ y) = true ∧ decide (y ≤ 9999) = false) ∨ (decide (1 ≤ y) = true ∧ decide (y ≤ 9999) = true ∧ decide (1 ≤ m) = false) ∨
        (decide (1 ≤ y) = true ∧ decide (y ≤ 9999) = true ∧ decide (1 ≤ m) = true ∧ decide (m ≤ 12) = false) ∨ (decide (1 ≤ y) = true ∧ decide (y ≤ 9999) = true ∧ decide (1 ≤ m) = true ∧ decide (m ≤ 12) = true ∧ decide (1 ≤ d) = false))) := by
    unfold dateB
    simp only [decide_eq_true_eq, decide_eq_false_iff_not, decide_eq_decide]
    omega
  rcases ways with ⟨t1, t2, t3, t4, t5, e, y0, m0, m1⟩ | ⟨e, ws⟩
  · have HD := Lib.hid (fun W => ref09_Days y m W y0 m0 m1)
    rw [e]
    clear e y0 m0 m1
    generalize dysI y m = D at *
    refine lay_start ?_
    go_enter Tryz.func81, Tryz.ntmps81
    go_wp2_with fail
    refine region_bw (by kernel_rfl) (by kernel_rfl) ?_
    repeat (go_big_quiet_step ((first | (go_at_call 130; exact bq (HD.out _) (fun d => ⟨d, rfl⟩)) | (go_at_call 130; exact bq (HD.out _) (fun d => lay_join _ _ _ d)))))
    refine wpQuiet_nil ?_
    rintro w' ⟨d, rfl⟩
    rw [lay_bw]
    go_wp2_with fail
    go_ret
    exact ⟨rfl, lay_ex _ _⟩
  · rw [e]
    clear e
    rcases ws with t1 | ⟨t1, t2⟩ | ⟨t1, t2, t3⟩ | ⟨t1, t2, t3, t4⟩ | ⟨t1, t2, t3, t4, t5⟩
    all_goals
      refine lay_start ?_
      go_enter Tryz.func81, Tryz.ntmps81
      go_wp2_with fail
      refine region_bw (by kernel_rfl) (by kernel_rfl) ?_
      repeat (go_big_quiet_step ((first | fail)))
      refine wpQuiet_nil ?_
      rintro w' ⟨d, rfl⟩
      rw [lay_bw]
      go_wp2_with fail
      go_ret
      exact ⟨rfl, lay_ex _ _⟩
set_option maxHeartbeats 1000000 in
theorem cal_Number (y m d : Int) (w : World) :
    Calls Tryz.prog 108 #[.agg #[.int .i64 y, .int .i64 m, .int .i64 d]] w fun e w' => e = .returned (.tuple #[.int .i64 (if dateB y m d = true then numI y m d else 0), .int .i64 (if dateB y m d = true then 0 else 1)]) ∧ ∃ d, w' = bw w d := by
  have HV := Lib.hid (fun W => cal_Valid y m d W)
  cases h : dateB y m d
  · rw [h] at HV
    rw [if_neg Bool.false_ne_true, if_neg Bool.false_ne_true]
    refine lay_start ?_
    go_enter Tryz.func108, Tryz.ntmps108
    go_wp2_with (go_at_call 148; refine (HV.out _).mono ?_; rintro e w' ⟨rfl, e1, rfl⟩)
    go_ret2
    exact ⟨rfl, lay_ex _ _⟩
  · have HN := Lib.hid (fun W => cal_number y m d W h)
    rw [h] at HV
    rw [if_pos rfl, if_pos rfl]
    generalize numI y m d = N at *
    clear h
    refine lay_start ?_
    go_enter Tryz.func108, Tryz.ntmps108
    go_wp2_with (first | (go_at_call 148; refine (HV.out _).mono ?_; rintro e w' ⟨rfl, e1, rfl⟩) | (go_at_call 149; refine (HN.out _).mono ?_; rintro e w' ⟨rfl, e2, rfl⟩))
    go_ret2
    exact ⟨rfl, lay_ex _ _⟩
end Go.Proofs.YtlkphcjlgbimkaaGreat
/- Lists of numbers in a range: package page's and the reference's; valid tracks. -/
namespace Go.Proofs.YtlkphcjlgbimkaaGreat
open Go.RowKit

def InL (l : List Int) (lo hi : Int) (k : Nat) : Prop := ∀ i, i < k → lo ≤ l.getD i 0 ∧ l.getD i 0 ≤ hi
noncomputable def inLB (l : List Int) (lo hi : Int) : Bool := @decide (InL l lo hi l.length) (Classical.propDecidable _)
theorem inLB_iff {l : List Int} {lo hi : Int} : inLB l lo hi = true ↔ InL l lo hi l.length := by unfold inLB; simp
theorem inLB_no {l : List Int} {lo hi : Int} (h : ¬ InL l lo hi l.length) : inLB l lo hi = false := by cases e : inLB l lo hi; rfl; exact absurd (inLB_iff.1 e) h
def outB (n lo hi : Int) : Bool := decide (n < lo ∨ hi < n)
theorem outB_iff {n lo hi : Int} : outB n lo hi = true ↔ n < lo ∨ hi < n := by simp [outB]
set_option maxHeartbeats 400000 in
theorem page_within1 (n lo hi : Int) (b1 b2 : Nat) (w : World) (c1 : w.cell? ⟨b1, 0, none⟩ = some (.int .i64 lo)) (c2 : w.cell? ⟨b2, 0, none⟩ = some (.int .i64 hi)) :
    Calls Tryz.prog 194 #[.int .i64 n, .pointer (some ⟨b1, 0, none⟩), .pointer (some ⟨b2, 0, none⟩)] w fun e w' => e = .returned (.bool (outB n lo hi)) ∧ w' = w := by
  go_enter Tryz.func194, Tryz.ntmps194
  go_wp2
  all_goals go_ret
  all_goals exact ⟨ret_bool (by rw [Bool.eq_iff_iff]; simp [outB, *]; try omega), rfl⟩
/-- The first index of a number out of the range, or -1. -/
def idxO (l : List Int) (lo hi : Int) : Nat → Nat → Int
  | _, 0 => -1
  | k, f + 1 => if outB (l.getD k 0) lo hi = true then k else idxO l lo hi (k + 1) f
theorem idxO_spec (l : List Int) (lo hi : Int) : ∀ f k, InL l lo hi k → k + f = l.length → decide (0 ≤ idxO l lo hi k f) = !inLB l lo hi
  | 0, k, h, e => by
    have : inLB l lo hi = true := inLB_iff.2 (by rw [← e]; exact h)
    rw [this]; rfl
  | f + 1, k, h, e => by
    unfold idxO
    split
    · rename_i ho
      have : inLB l lo hi = false := inLB_no fun hh => by have := hh k (by omega); have := outB_iff.1 ho; omega
      rw [this]
      simp
    · rename_i ho
      exact idxO_spec l lo hi f (k + 1) (fun i hi' => by
        by_cases e : i = k
        · subst e; rw [outB_iff] at ho; omega
        · exact h i (by omega)) (by omega)
theorem idxO_hit {l : List Int} {lo hi : Int} {k f : Nat} (h : outB (l.getD k 0) lo hi = true) : idxO l lo hi k (f + 1) = k := by unfold idxO; rw [if_pos h]
theorem idxO_miss {l : List Int} {lo hi : Int} {k f : Nat} (h : outB (l.getD k 0) lo hi = false) : idxO l lo hi k (f + 1) = idxO l lo hi (k + 1) f := by
  show (if _ then _ else _) = _
  rw [if_neg (by rw [h]; exact Bool.false_ne_true)]
theorem idxO_go {l : List Int} {lo hi : Int} {k m : Nat} (h : outB (l.getD k 0) lo hi = false) (hk : k < m) (e : idxO l lo hi 0 m = idxO l lo hi k (m - k)) : idxO l lo hi 0 m = idxO l lo hi (k + 1) (m - (k + 1)) := by
  rw [e, show m - k = m - (k + 1) + 1 by omega, idxO_miss h]
theorem idxO_got {l : List Int} {lo hi : Int} {k m : Nat} (h : outB (l.getD k 0) lo hi = true) (hk : k < m) (e : idxO l lo hi 0 m = idxO l lo hi k (m - k)) : (k : Int) = idxO l lo hi 0 m := by
  rw [e, show m - k = m - (k + 1) + 1 by omega, idxO_hit h]
set_option maxHeartbeats 1000000 in
theorem slices_IndexFunc (v : Value) (l : List Int) (lo hi : Int) (b1 b2 : Nat) (w : World) (hv : Lst w v l) (c1 : w.cell? ⟨b1, 0, none⟩ = some (.int .i64 lo)) (c2 : w.cell? ⟨b2, 0, none⟩ = some (.int .i64 hi)) :
    Calls Tryz.prog 212 #[v, .func (.func 194) #[] #[.pointer (some ⟨b1, 0, none⟩), .pointer (some ⟨b2, 0, none⟩)]] w fun e w' => e = .returned (.int .i64 (idxO l lo hi 0 l.length)) ∧ w' = w := by
  obtain ⟨a, cap, rfl, g1, -, k1⟩ := hv
  have W1 := Lib.hid (fun n => page_within1 n lo hi b1 b2 w c1 c2)
  clear c1 c2
  obtain ⟨m, hm⟩ : ∃ m, m = l.length := ⟨_, rfl⟩
  rw [← hm] at g1 k1
  rw [← hm]
  by_cases hz : m = 0
  · subst hz
    clear k1 hm
    go_enter Tryz.func212, Tryz.ntmps212
    go_wp2_with fail
    refine wp_loop_rounds 1 ?_
    rw [rounds_succ]
    go_wp2
    go_ret
    exact ⟨rfl, rfl⟩
  · obtain ⟨b, o, rfl, s1, r1⟩ := k1 (by rintro rfl; simp at hm; omega)
    have HR := Lib.hid r1
    clear r1 k1 hm
    go_enter Tryz.func212, Tryz.ntmps212
    go_wp2_with fail
    go_loop [8] (fun i => ∃ k : Nat, k ≤ m ∧ i = .int .i64 k ∧ idxO l lo hi 0 m = idxO l lo hi k (m - k)) (fun i => m - (intOf i).toNat)
    case atStart => exact ⟨0, Nat.zero_le _, rfl, rfl⟩
    case round =>
      obtain ⟨k, hk, rfl, hA⟩ := hrel
      have HA := Lib.hid hA
      clear hA
      by_cases hlt : k < m
      · have e1 := HR.out k hlt
        obtain ⟨x, hx⟩ : ∃ x, x = l.getD k 0 := ⟨_, rfl⟩
        rw [← hx] at e1
        cases ho : outB x lo hi
        · have HN := Lib.hid (idxO_go (by rw [← hx]; exact ho) hlt HA.out)
          clear hx
          go_wp2_with (go_at_call 194; refine (W1.out _).mono ?_; rintro e w' ⟨rfl, rfl⟩)
          go_round
          case rel => exact ⟨k + 1, by omega, by go_num, HN.out⟩
          case measure => simp [intOf]; omega
        · have HN := Lib.hid (idxO_got (by rw [← hx]; exact ho) hlt HA.out)
          clear hx
          go_wp2_with (go_at_call 194; refine (W1.out _).mono ?_; rintro e w' ⟨rfl, rfl⟩)
          go_ret
          exact ⟨ret_int HN.out, rfl⟩
      · obtain rfl : k = m := by omega
        have HN : Hid ((-1 : Int) = idxO l lo hi 0 k) := Lib.hid (by rw [HA.out, Nat.sub_self]; rfl)
        go_wp2
        go_ret
        exact ⟨ret_int HN.out, rfl⟩
set_option maxHeartbeats 1000000 in
theorem slices_ContainsFunc (v : Value) (l : List Int) (lo hi : Int) (b1 b2 : Nat) (w : World) (hv : Lst w v l) (c1 : w.cell? ⟨b1, 0, none⟩ = some (.int .i64 lo)) (c2 : w.cell? ⟨b2, 0, none⟩ = some (.int .i64 hi)) :
    Calls Tryz.prog 193 #[v, .func (.func 194) #[] #[.pointer (some ⟨b1, 0, none⟩), .pointer (some ⟨b2, 0, none⟩)]] w fun e w' => e = .returned (.bool (!inLB l lo hi)) ∧ w' = w := by
  have W1 := slices_IndexFunc v l lo hi b1 b2 w hv c1 c2
  have HS := Lib.hid (idxO_spec l lo hi l.length 0 (fun i hi => absurd hi (Nat.not_lt_zero i)) (by omega))
  generalize idxO l lo hi 0 l.length = x at *
  have HW := Lib.hid W1
  clear W1 hv c1 c2
  go_enter Tryz.func193, Tryz.ntmps193
  go_wp2_with (go_at_call 212; refine HW.out.mono ?_; rintro e w' ⟨rfl, rfl⟩)
  go_ret
  exact ⟨ret_bool HS.out, rfl⟩
set_option maxHeartbeats 1000000 in
theorem page_within (v : Value) (l : List Int) (lo hi : Int) (w : World) (hv : Lst w v l) :
    Calls Tryz.prog 166 #[v, .int .i64 lo, .int .i64 hi] w fun e w' => e = .returned (.bool (inLB l lo hi)) ∧ ∃ d, w' = bw w d := by
  have HC := Lib.hid (fun L b1 b2 c1 c2 => slices_ContainsFunc v l lo hi b1 b2 (lay w L) (hv.lay L) c1 c2)
  clear hv
  refine lay_start ?_
  go_enter Tryz.func166, Tryz.ntmps166
  go_wp2_with (go_at_call 193; refine (HC.out _ _ _ (by go_simp) (by go_simp)).mono ?_; rintro e w' ⟨rfl, rfl⟩)
  go_ret
  exact ⟨ret_bool (by simp), lay_ex _ _⟩
/-- A track is right. -/
structure TrkOk (t : TrkV) : Prop where
  nm : nameB t.s = true
  lg : t.g.length = 25
  ld : t.d.length = 25
  bg : inLB t.g 0 215999 = true
  bd : inLB t.d (-54000) 54000 = true
  bp : inLB [t.p] 0 200 = true
  bq : inLB [t.q] 0 620 = true
  br : inLB [t.r] 0 1000 = true
noncomputable def trkB (t : TrkV) : Bool := nameB t.s && ((t.g.length : Int) == 25) && ((t.d.length : Int) == 25) && inLB t.g 0 215999 && inLB t.d (-54000) 54000 && inLB [t.p] 0 200 && inLB [t.q] 0 620 && inLB [t.r] 0 1000
theorem trkB_iff {t : TrkV} : trkB t = true ↔ TrkOk t := by
  unfold trkB
  simp only [Bool.and_eq_true, beq_iff_eq]
  constructor
  · rintro ⟨⟨⟨⟨⟨⟨⟨h1, h2⟩, h3⟩, h4⟩, h5⟩, h6⟩, h7⟩, h8⟩; exact ⟨h1, by omega, by omega, h4, h5, h6, h7, h8⟩
  · rintro ⟨h1, h2, h3, h4, h5, h6, h7, h8⟩; exact ⟨⟨⟨⟨⟨⟨⟨h1, by omega⟩, by omega⟩, h4⟩, h5⟩, h6⟩, h7⟩, h8⟩
theorem lst_one (w : World) (L : List (Obj ⊕ Ext)) (p : Int) (t : TypeId) (hp : (Lit.int .i64 p).wf = true) : Lst (lay w (.inl (.cells #[.int .i64 p] t) :: L)) (.slice (some ⟨posn w (shp L), 0, none⟩) 1 1) [p] := by
  refine ⟨_, 1, rfl, by simp, fun i hi => ?_, fun _ => ⟨posn w (shp L), 0, rfl, ?_, fun i hi => ?_⟩⟩
  · obtain rfl : i = 0 := by have : i < 1 := hi; omega
    exact hp
  · rw [lay_size]; simp only [shp, posn, List.sum_cons]; omega
  · obtain rfl : i = 0 := by have : i < 1 := hi; omega
    have hl : (shp L).length < (Sum.inl (.cells #[.int .i64 p] t) :: L : List (Obj ⊕ Ext)).length := by rw [shp_len]; simp
    have e0 : (Sum.inl (.cells #[.int .i64 p] t) :: L : List (Obj ⊕ Ext)).length - (shp L).length = 1 := by rw [shp_len]; simp
    rw [lay_cell _ _ _ _ hl (by rw [e0]; rfl) (by rw [e0]; rfl), e0]
    rfl
set_option maxHeartbeats 2000000 in
set_option maxRecDepth 100000 in
theorem page_validTrack (v : Value) (t : TrkV) (w : World) (hv : Trk w v t) :
    Calls Tryz.prog 144 #[v] w fun e w' => e = .returned (.bool (trkB t)) ∧ ∃ d, w' = bw w d := by
  obtain ⟨vg, vd, rfl, hs, hg, hd, hp, hq, hr⟩ := hv
  obtain ⟨s, gs, ds, p, q, r⟩ := t
  simp only at hs hg hd hp hq hr ⊢
  have HG := Lib.hid hg
  have HD := Lib.hid hd
  obtain ⟨ag, cg, rfl, g1, -, -⟩ := hg
  obtain ⟨ad, cd, rfl, d1, -, -⟩ := hd
  have HP := Lib.hid hp
  have HQ := Lib.hid hq
  have HR := Lib.hid hr
  clear hp hq hr
  refine lay_start ?_
  go_enter Tryz.func144, Tryz.ntmps144
  go_wp2_with (first | (go_at_call 145; refine (dec_IsName _ _ hs).mono ?_; rintro e w' ⟨rfl, rfl⟩) | (go_at_call_of 166 (Value.int .i64 215999); refine (page_within _ gs _ _ _ (HG.out.lay _)).mono ?_; rintro e w' ⟨rfl, d, rfl⟩) | (go_at_call_of 166 (Value.int .i64 54000); refine (page_within _ ds _ _ _ (HD.out.lay _)).mono ?_; rintro e w' ⟨rfl, d, rfl⟩) | (go_at_call_of 166 (Value.int .i64 200); refine (page_within _ [p] _ _ _ (by exact lst_one _ _ _ _ HP.out)).mono ?_; rintro e w' ⟨rfl, d, rfl⟩) | (go_at_call_of 166 (Value.int .i64 620); refine (page_within _ [q] _ _ _ (by exact lst_one _ _ _ _ HQ.out)).mono ?_; rintro e w' ⟨rfl, d, rfl⟩) | (go_at_call_of 166 (Value.int .i64 1000); refine (page_within _ [r] _ _ _ (by exact lst_one _ _ _ _ HR.out)).mono ?_; rintro e w' ⟨rfl, d, rfl⟩))
  all_goals go_ret
  all_goals exact ⟨ret_bool (by simp [trkB, *]), lay_ex _ _⟩
end Go.Proofs.YtlkphcjlgbimkaaGreat
