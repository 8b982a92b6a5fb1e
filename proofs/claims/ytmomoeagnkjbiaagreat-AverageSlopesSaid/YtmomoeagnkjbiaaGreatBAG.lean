/- Contracts and plain laws, several texts in one: Angle; RtP; Shelf; Div -/
import Derived.Test.YtmomoeagnkjbiaaGreatProg
import Derived.WalkKit
import Derived.WalkSpells
import Derived.WalkLawsBesides
import Derived.Lib.Hide
import Derived.BigQuiet
import Derived.Shelf.Small.Bits
import Derived.Shelf.Small.Wraps
import Derived.Shelf.Strconv.Itoa0
import Derived.Shelf.Sort.Plain
import Derived.Shelf.Bits.Mul64
import Derived.Shelf.Slices.Turned
import Derived.Shelf.Slices.Equal
import Derived.Shelf.Slices.In.SortNone
import Derived.Shelf.Slices.Empties2
import Derived.Shelf.SlSortCmp.WholeK
import Derived.Ground.SlsfProg
import Derived.Test.YtmomoeagnkjbiaaGreatBAA
import Derived.Test.YtmomoeagnkjbiaaGreatBAB
/- Contracts of package angle and of its reference, as far as the translation has them. -/
namespace Go.Proofs.YtmomoeagnkjbiaaGreat
open Go.RowKit

def fitsB (n : Int) : Bool := decide (-1099511627776 ≤ n ∧ n ≤ 1099511627776)
theorem fits_yes {n : Int} (h1 : -1099511627776 ≤ n) : decide (n ≤ 1099511627776) = fitsB n := by
  unfold fitsB; simp [h1]
theorem fits_no {n : Int} (h1 : n < -1099511627776) : false = fitsB n := by
  unfold fitsB; simp; omega
def validB (lo hi : Int) : Bool := decide (lo ≤ hi ∧ -1099511627776 ≤ lo ∧ hi ≤ 1099511627776)
theorem validB_iff {lo hi : Int} : validB lo hi = true ↔ lo ≤ hi ∧ -1099511627776 ≤ lo ∧ hi ≤ 1099511627776 := by simp [validB]
theorem validB_eq {lo hi : Int} : validB lo hi = (decide (lo ≤ hi) && fitsB lo && fitsB hi) := by
  rw [Bool.eq_iff_iff]; simp [validB, fitsB]; omega
set_option maxHeartbeats 400000 in
theorem angle_fits (n : Int) (w : World) :
    Calls Tryz.prog 68 #[.int .i64 n] w fun e w' => e = .returned (.bool (fitsB n)) ∧ w' = w := by
  go_enter Tryz.func68, Tryz.ntmps68
  go_wp2
  · go_ret
    exact ⟨ret_bool (fits_yes ‹_›), rfl⟩
  · go_ret
    exact ⟨ret_bool (fits_no ‹_›), rfl⟩
theorem valid_ways1 {lo hi : Int} (h : lo ≤ hi) (h2 : fitsB lo = true) : fitsB hi = validB lo hi := by simp [validB_eq, *]
theorem valid_ways2 {lo hi : Int} (h2 : ¬ fitsB lo = true) : false = validB lo hi := by simp [validB_eq, *]
theorem valid_ways3 {lo hi : Int} (h2 : hi < lo) : false = validB lo hi := by
  have : ¬ lo ≤ hi := by omega
  simp [validB_eq, *]
set_option maxHeartbeats 400000 in
theorem angle_Valid (lo hi : Int) (w : World) :
    Calls Tryz.prog 27 #[(.agg #[.int .i64 (lo), .int .i64 (hi)])] w fun e w' => e = .returned (.bool (validB lo hi)) ∧ ∃ d, w' = bw w d := by
  refine lay_start ?_
  go_enter Tryz.func27, Tryz.ntmps27
  go_wp2_with (go_at_call 68; refine (angle_fits _ _).mono ?_; rintro e w' ⟨rfl, rfl⟩)
  all_goals go_ret
  all_goals exact ⟨ret_bool (by first | exact valid_ways1 ‹_› ‹_› | exact valid_ways2 ‹_› | exact valid_ways3 ‹_›), lay_ex _ _⟩
set_option maxHeartbeats 400000 in
theorem ref05_Valid (lo hi : Int) (w : World) :
    Calls Tryz.prog 11 #[(.agg #[.int .i64 (lo), .int .i64 (hi)])] w fun e w' => e = .returned (.bool (validB lo hi)) ∧ ∃ d, w' = bw w d := by
  refine lay_start ?_
  go_enter Tryz.func11, Tryz.ntmps11
  go_wp2
  all_goals go_ret
  all_goals exact ⟨ret_bool (by rw [Bool.eq_iff_iff]; simp [validB]; omega), lay_ex _ _⟩
set_option maxHeartbeats 400000 in
theorem ref05_Floor (a b : Int) (w : World) (hb : 1 ≤ b) (h1 : -9223372036854775807 ≤ a) (h2 : a ≤ 9223372036854775807) :
    Calls Tryz.prog 109 #[.int .i64 a, .int .i64 b] w fun e w' => e = .returned (.int .i64 (a / b)) ∧ w' = w := by
  go_enter Tryz.func109, Tryz.ntmps109
  go_wp2
  · go_ret
    refine ⟨ret_int ?_, rfl⟩
    rw [IntWalk.wrap64_in]
    · exact floor_neg hb ‹_›
    · rw [floor_neg hb ‹_›]; have := ediv_bd hb 9223372036854775807 (by decide) h1 h2; omega
  · go_ret
    exact ⟨ret_int (floor_pos hb ‹_›), rfl⟩
set_option maxHeartbeats 400000 in
theorem ref05_Ceil (a b : Int) (w : World) (hb : 1 ≤ b) (h1 : -9223372036854775807 ≤ a) (h2 : a ≤ 9223372036854775807) :
    Calls Tryz.prog 111 #[.int .i64 a, .int .i64 b] w fun e w' => e = .returned (.int .i64 (cdiv a b)) ∧ w' = w := by
  go_enter Tryz.func111, Tryz.ntmps111
  go_wp2
  · go_ret
    refine ⟨ret_int ?_, rfl⟩
    rw [IntWalk.wrap64_in]
    · exact cdiv_pos hb ‹_›
    · rw [cdiv_pos hb ‹_›]; have := cdiv_bd hb 9223372036854775807 (by decide) h1 h2; omega
  · go_ret
    exact ⟨ret_int (cdiv_neg hb ‹_›), rfl⟩

/-- Go's min and max of two ints, behind names that the walk does not open. -/
def mn (x y : Int) : Int := if y < x then y else x
def mx (x y : Int) : Int := if x < y then y else x
theorem mn_eq (x y : Int) : mn x y = min x y := by unfold mn; split <;> omega
theorem mx_eq (x y : Int) : mx x y = max x y := by unfold mx; split <;> omega
section
variable {P : Program} {w : World}
theorem run_mn (ts : Array TypeId) (t : TypeId) (k k' : IntKind) (x y : Int) : (Builtin.min_ ts t #[.int k x, .int k' y]).run P w = .ok (.int k (mn x y)) w := run_min_int2 w ts t k k' x y
theorem run_mx (ts : Array TypeId) (t : TypeId) (k k' : IntKind) (x y : Int) : (Builtin.max_ ts t #[.int k x, .int k' y]).run P w = .ok (.int k (mx x y)) w := run_max_int2 w ts t k k' x y
end
attribute [go_sem ↓] run_mn run_mx

theorem validB_false {lo hi : Int} : validB lo hi = false ↔ ¬ (lo ≤ hi ∧ -1099511627776 ≤ lo ∧ hi ≤ 1099511627776) := by simp [validB]
def insideB (x0 y0 x1 y1 : Int) : Bool := decide (x1 ≤ x0 ∧ y0 ≤ y1)
def inside2B (x0 y0 x1 y1 : Int) : Bool := validB x0 y0 && validB x1 y1 && insideB x0 y0 x1 y1
theorem inside2B_iff {x0 y0 x1 y1 : Int} : inside2B x0 y0 x1 y1 = true ↔ validB x0 y0 = true ∧ validB x1 y1 = true ∧ x1 ≤ x0 ∧ y0 ≤ y1 := by simp [inside2B, insideB, and_assoc]
theorem insideB_iff {x0 y0 x1 y1 : Int} : insideB x0 y0 x1 y1 = true ↔ x1 ≤ x0 ∧ y0 ≤ y1 := by simp [insideB]
def meetLo (x0 y0 x1 y1 : Int) : Int := if max x0 x1 ≤ min y0 y1 then max x0 x1 else 0
def meetHi (x0 y0 x1 y1 : Int) : Int := if max x0 x1 ≤ min y0 y1 then min y0 y1 else 0
def meetE (x0 y0 x1 y1 : Int) : Int := if max x0 x1 ≤ min y0 y1 then 0 else 23
theorem meet_bad {x0 y0 x1 y1 : Int} (h : mn y0 y1 < mx x0 x1) : meetLo x0 y0 x1 y1 = 0 ∧ meetHi x0 y0 x1 y1 = 0 ∧ meetE x0 y0 x1 y1 = 23 := by
  rw [mn_eq, mx_eq] at h
  unfold meetLo meetHi meetE; omega
theorem meet_good {x0 y0 x1 y1 : Int} (h : mx x0 x1 ≤ mn y0 y1) : meetLo x0 y0 x1 y1 = mx x0 x1 ∧ meetHi x0 y0 x1 y1 = mn y0 y1 ∧ meetE x0 y0 x1 y1 = 0 := by
  rw [mn_eq, mx_eq] at *
  unfold meetLo meetHi meetE; omega
def meetsB (x0 y0 x1 y1 : Int) : Bool := decide (x0 ≤ y1 ∧ x1 ≤ y0)
def turnLo (x0 y0 : Int) : Int := if 21600000 ≤ y0 - x0 then 0 else x0 % 21600000
def turnHi (x0 y0 : Int) : Int := if 21600000 ≤ y0 - x0 then 21600000 else x0 % 21600000 + (y0 - x0)

end Go.Proofs.YtmomoeagnkjbiaaGreat
/- Products of intervals, scaled by a rate: plain laws, no walk. -/
namespace Go.Proofs.YtmomoeagnkjbiaaGreat
open Go.RowKit

def m4 (a0 a1 b0 b1 : Int) : Int := mn (mn (mn (a0 * b0) (a0 * b1)) (a1 * b0)) (a1 * b1)
def x4 (a0 a1 b0 b1 : Int) : Int := mx (mx (mx (a0 * b0) (a0 * b1)) (a1 * b0)) (a1 * b1)
theorem mn4_is (x y z u : Int) : (mn (mn (mn x y) z) u ≤ x ∧ mn (mn (mn x y) z) u ≤ y ∧ mn (mn (mn x y) z) u ≤ z ∧ mn (mn (mn x y) z) u ≤ u) ∧ (mn (mn (mn x y) z) u = x ∨ mn (mn (mn x y) z) u = y ∨ mn (mn (mn x y) z) u = z ∨ mn (mn (mn x y) z) u = u) := by
  simp only [mn_eq]; omega
theorem mx4_is (x y z u : Int) : (x ≤ mx (mx (mx x y) z) u ∧ y ≤ mx (mx (mx x y) z) u ∧ z ≤ mx (mx (mx x y) z) u ∧ u ≤ mx (mx (mx x y) z) u) ∧ (mx (mx (mx x y) z) u = x ∨ mx (mx (mx x y) z) u = y ∨ mx (mx (mx x y) z) u = z ∨ mx (mx (mx x y) z) u = u) := by
  simp only [mx_eq]; omega
theorem lin1 {a0 a1 x k : Int} (h0 : a0 ≤ x) (h1 : x ≤ a1) : (a0 * k ≤ x * k ∨ a1 * k ≤ x * k) ∧ (x * k ≤ a0 * k ∨ x * k ≤ a1 * k) := by
  rcases Int.le_total 0 k with h | h
  · exact ⟨.inl (Int.mul_le_mul_of_nonneg_right h0 h), .inr (Int.mul_le_mul_of_nonneg_right h1 h)⟩
  · exact ⟨.inr (Int.mul_le_mul_of_nonpos_right h1 h), .inl (Int.mul_le_mul_of_nonpos_right h0 h)⟩
theorem box_mul {a0 a1 b0 b1 x y : Int} (h0 : a0 ≤ x) (h1 : x ≤ a1) (g0 : b0 ≤ y) (g1 : y ≤ b1) : m4 a0 a1 b0 b1 ≤ x * y ∧ x * y ≤ x4 a0 a1 b0 b1 := by
  obtain ⟨e1, e2⟩ := lin1 (k := y) h0 h1
  obtain ⟨f1, f2⟩ := lin1 (k := a0) g0 g1
  obtain ⟨i1, i2⟩ := lin1 (k := a1) g0 g1
  rw [Int.mul_comm b0 a0, Int.mul_comm b1 a0, Int.mul_comm y a0] at f1 f2
  rw [Int.mul_comm b0 a1, Int.mul_comm b1 a1, Int.mul_comm y a1] at i1 i2
  have hm := (mn4_is (a0 * b0) (a0 * b1) (a1 * b0) (a1 * b1)).1
  have hx := (mx4_is (a0 * b0) (a0 * b1) (a1 * b0) (a1 * b1)).1
  unfold m4 x4
  omega
theorem box_part {a0 a1 b0 b1 c0 c1 d0 d1 : Int} (h0 : a0 ≤ c0) (h : c0 ≤ c1) (h1 : c1 ≤ a1) (g0 : b0 ≤ d0) (g : d0 ≤ d1) (g1 : d1 ≤ b1) : m4 a0 a1 b0 b1 ≤ m4 c0 c1 d0 d1 ∧ x4 c0 c1 d0 d1 ≤ x4 a0 a1 b0 b1 := by
  have p1 := box_mul (a0 := a0) (a1 := a1) (b0 := b0) (b1 := b1) (x := c0) (y := d0) h0 (by omega) g0 (by omega)
  have p2 := box_mul (a0 := a0) (a1 := a1) (b0 := b0) (b1 := b1) (x := c0) (y := d1) h0 (by omega) (show b0 ≤ d1 by omega) g1
  have p3 := box_mul (a0 := a0) (a1 := a1) (b0 := b0) (b1 := b1) (x := c1) (y := d0) (show a0 ≤ c1 by omega) h1 g0 (by omega)
  have p4 := box_mul (a0 := a0) (a1 := a1) (b0 := b0) (b1 := b1) (x := c1) (y := d1) (show a0 ≤ c1 by omega) h1 (show b0 ≤ d1 by omega) g1
  have hm := (mn4_is (c0 * d0) (c0 * d1) (c1 * d0) (c1 * d1)).2
  have hx := (mx4_is (c0 * d0) (c0 * d1) (c1 * d0) (c1 * d1)).2
  constructor
  · show m4 a0 a1 b0 b1 ≤ mn (mn (mn (c0 * d0) (c0 * d1)) (c1 * d0)) (c1 * d1); omega
  · show mx (mx (mx (c0 * d0) (c0 * d1)) (c1 * d0)) (c1 * d1) ≤ x4 a0 a1 b0 b1; omega
theorem prod_in {X x k : Int} (h0 : 0 ≤ X) (hX : -X ≤ x ∧ x ≤ X) (hK : -X ≤ k ∧ k ≤ X) : -(X * X) ≤ x * k ∧ x * k ≤ X * X := by
  have h1 : (x * k).natAbs ≤ X.natAbs * X.natAbs := by rw [Int.natAbs_mul]; exact Nat.mul_le_mul (by omega) (by omega)
  have h2 : ((X.natAbs * X.natAbs : Nat) : Int) = X * X := by rw [Int.natCast_mul, Int.natAbs_of_nonneg h0]
  rw [← h2]
  omega
theorem box_in {X a0 a1 b0 b1 : Int} (h0 : 0 ≤ X) (ha : -X ≤ a0 ∧ a0 ≤ X) (ha1 : -X ≤ a1 ∧ a1 ≤ X) (hb : -X ≤ b0 ∧ b0 ≤ X) (hb1 : -X ≤ b1 ∧ b1 ≤ X) : -(X * X) ≤ m4 a0 a1 b0 b1 ∧ m4 a0 a1 b0 b1 ≤ x4 a0 a1 b0 b1 ∧ x4 a0 a1 b0 b1 ≤ X * X := by
  have p1 := prod_in h0 ha hb
  have p2 := prod_in h0 ha hb1
  have p3 := prod_in h0 ha1 hb
  have p4 := prod_in h0 ha1 hb1
  have hm := mn4_is (a0 * b0) (a0 * b1) (a1 * b0) (a1 * b1)
  have hx := mx4_is (a0 * b0) (a0 * b1) (a1 * b0) (a1 * b1)
  unfold m4 x4
  omega
/-- The product of intervals of numbers over 2^30, rounded outward. -/
def mulL (a0 a1 b0 b1 : Int) : Int := m4 a0 a1 b0 b1 / 1073741824
def mulH (a0 a1 b0 b1 : Int) : Int := -((-(x4 a0 a1 b0 b1)) / 1073741824)
/-- 250000 times a number over 2^30, rounded down or up. -/
def sclL (p : Int) : Int := p * 250000 / 1073741824
def sclH (p : Int) : Int := -((-(p * 250000)) / 1073741824)
theorem mul_unit {a0 a1 b0 b1 : Int} (ha : -1073741824 ≤ a0) (ha1 : a0 ≤ a1) (ha2 : a1 ≤ 1073741824) (hb : -1073741824 ≤ b0) (hb1 : b0 ≤ b1) (hb2 : b1 ≤ 1073741824) :
    -1073741824 ≤ mulL a0 a1 b0 b1 ∧ mulL a0 a1 b0 b1 ≤ mulH a0 a1 b0 b1 ∧ mulH a0 a1 b0 b1 ≤ 1073741824 := by
  have h := box_in (X := 1073741824) (by decide) (a0 := a0) (a1 := a1) (b0 := b0) (b1 := b1) ⟨ha, by omega⟩ ⟨by omega, ha2⟩ ⟨hb, by omega⟩ ⟨by omega, hb2⟩
  unfold mulL mulH
  omega
theorem scl_unit {p q : Int} (hp : -1073741824 ≤ p) (h : p ≤ q) (hq : q ≤ 1073741824) : -250000 ≤ sclL p ∧ sclL p ≤ sclH q ∧ sclH q ≤ 250000 := by
  unfold sclL sclH
  omega
theorem mul_part {a0 a1 b0 b1 c0 c1 d0 d1 : Int} (h0 : a0 ≤ c0) (h : c0 ≤ c1) (h1 : c1 ≤ a1) (g0 : b0 ≤ d0) (g : d0 ≤ d1) (g1 : d1 ≤ b1) : mulL a0 a1 b0 b1 ≤ mulL c0 c1 d0 d1 ∧ mulH c0 c1 d0 d1 ≤ mulH a0 a1 b0 b1 := by
  have := box_part h0 h h1 g0 g g1
  unfold mulL mulH
  omega
theorem scl_mono {p q : Int} (h : p ≤ q) : sclL p ≤ sclL q ∧ sclH p ≤ sclH q := by unfold sclL sclH; omega
theorem mul_pos {a0 a1 b0 b1 : Int} (h0 : 0 ≤ a0) (h : a0 ≤ a1) (g0 : 0 ≤ b0) (g : b0 ≤ b1) : 0 ≤ mulL a0 a1 b0 b1 := by
  have p1 := Int.mul_nonneg h0 g0
  have p2 := Int.mul_nonneg h0 (show 0 ≤ b1 by omega)
  have p3 := Int.mul_nonneg (show 0 ≤ a1 by omega) g0
  have p4 := Int.mul_nonneg (show 0 ≤ a1 by omega) (show 0 ≤ b1 by omega)
  have hm := (mn4_is (a0 * b0) (a0 * b1) (a1 * b0) (a1 * b1)).2
  unfold mulL m4
  omega
theorem mul_neg {a0 a1 b0 b1 : Int} (h0 : 0 ≤ a0) (h : a0 ≤ a1) (g0 : b0 ≤ b1) (g : b1 ≤ 0) : mulH a0 a1 b0 b1 ≤ 0 := by
  have p1 := Int.mul_nonpos_of_nonneg_of_nonpos h0 (show b0 ≤ 0 by omega)
  have p2 := Int.mul_nonpos_of_nonneg_of_nonpos h0 g
  have p3 := Int.mul_nonpos_of_nonneg_of_nonpos (show 0 ≤ a1 by omega) (show b0 ≤ 0 by omega)
  have p4 := Int.mul_nonpos_of_nonneg_of_nonpos (show 0 ≤ a1 by omega) g
  have hx := (mx4_is (a0 * b0) (a0 * b1) (a1 * b0) (a1 * b1)).2
  unfold mulH x4
  omega
theorem scl_pos {p : Int} (h : 0 ≤ p) : 0 ≤ sclL p := by unfold sclL; omega
theorem scl_neg {p : Int} (h : p ≤ 0) : sclH p ≤ 0 := by unfold sclH; omega
end Go.Proofs.YtmomoeagnkjbiaaGreat
/- DERIVED: THE SHELF's CONTRACTS AT THIS DUMP, IN PLAIN WORDS (tools/lay-plain.mjs out of 'TryzShelf.lean', which tools/lay-shelf.mjs wrote): THE SAME DECLARATIONS UNDER THE SAME NAMES: 'import', 'namespace', 'open', 'def', 'theorem' AND NOTHING ELSE: no command of the shelf's: FOR A HAND-IN. Each laying: the table of numbers ('.._ren') and one theorem, a field a fact of the dump's own or the kernel's comparison; each contract: ONE APPLICATION. -/
namespace Go.Proofs
open Go.Shelf
def Tryz.lays128_ren : Go.Shelf.Ren := ⟨fun | 128 => 138 | n => n, fun | 51 => 33 | 3 => 3 | 4 => 4 | 46 => 120 | 5 => 5 | 9 => 9 | n => n, fun | n => n⟩
theorem Tryz.lays128 : Go.Proofs.Lays.n128 Tryz.prog Tryz.lays128_ren := {
  mixed := by kernel_rfl
  f128 := Tryz.func138.trans (congrArg some (by kernel_rfl))
  t3 := Tryz.underlying3
  a3 := Tryz.isAgg3
  z3 := Tryz.sizeOf3
  v3 := Tryz.zeroValue3
  t4 := Tryz.underlying4
  a4 := Tryz.isAgg4
  z4 := Tryz.sizeOf4
  v4 := Tryz.zeroValue4
  t5 := Tryz.underlying5
  a5 := Tryz.isAgg5
  z5 := Tryz.sizeOf5
  v5 := Tryz.zeroValue5
  t9 := Tryz.underlying9
  a9 := Tryz.isAgg9
  z9 := Tryz.sizeOf9
  v9 := Tryz.zeroValue9
  t46 := Tryz.underlying120
  a46 := Tryz.isAgg120
  z46 := Tryz.sizeOf120
  v46 := Tryz.zeroValue120
  t51 := Tryz.underlying33
  a51 := Tryz.isAgg33
  z51 := Tryz.sizeOf33
  v51 := Tryz.zeroValue33 }
/-- bits.Len32: "Len32 returns the minimum number of bits required to represent x; the result is 0 for x == 0.": IT RETURNS 'Lib.bitLen x'; the world is as it was. ('h0', 'h1': x is a uint32.) (LAID: no walk: one application.) -/
theorem Tryz.bits_Len32 (x : Int) (w : World) (h0 : 0 ≤ x) (h1 : x ≤ 4294967295) :
    Calls Tryz.prog 138 #[.int .u32 x] w fun e w' => e = .returned (.int .i64 (Lib.bitLen x.toNat)) ∧ w' = w := Any.bits_Len32 Tryz.lays128 x w h0 h1
def Tryz.lays125_ren : Go.Shelf.Ren := ⟨fun | 125 => 90 | 128 => 138 | 129 => 139 | n => n, fun | 46 => 120 | 3 => 3 | 51 => 33 | 53 => 112 | 4 => 4 | 5 => 5 | 9 => 9 | n => n, fun | n => n⟩
theorem Tryz.lays125 : Go.Proofs.Lays.n125 Tryz.prog Tryz.lays125_ren := {
  mixed := by kernel_rfl
  f125 := Tryz.func90.trans (congrArg some (by kernel_rfl))
  f128 := Tryz.func138.trans (congrArg some (by kernel_rfl))
  f129 := Tryz.func139.trans (congrArg some (by kernel_rfl))
  t3 := Tryz.underlying3
  a3 := Tryz.isAgg3
  z3 := Tryz.sizeOf3
  v3 := Tryz.zeroValue3
  t4 := Tryz.underlying4
  a4 := Tryz.isAgg4
  z4 := Tryz.sizeOf4
  v4 := Tryz.zeroValue4
  t5 := Tryz.underlying5
  a5 := Tryz.isAgg5
  z5 := Tryz.sizeOf5
  v5 := Tryz.zeroValue5
  t9 := Tryz.underlying9
  a9 := Tryz.isAgg9
  z9 := Tryz.sizeOf9
  v9 := Tryz.zeroValue9
  t46 := Tryz.underlying120
  a46 := Tryz.isAgg120
  z46 := Tryz.sizeOf120
  v46 := Tryz.zeroValue120
  t51 := Tryz.underlying33
  a51 := Tryz.isAgg33
  z51 := Tryz.sizeOf33
  v51 := Tryz.zeroValue33
  t53 := Tryz.underlying112
  a53 := Tryz.isAgg112
  z53 := Tryz.sizeOf112
  v53 := Tryz.zeroValue112 }
/-- bits.Len: "Len returns the minimum number of bits required to represent x; the result is 0 for x == 0.": IT RETURNS 'Lib.bitLen x'; the world is as it was. (A uint has 64 bits in the model.) ITS CALLEE bits.Len64 IS MET BY ITS OWN CONTRACT OFF THE SHELF (lay that first). (LAID: no walk: one application.) -/
theorem Tryz.bits_Len (x : Int) (w : World) (h0 : 0 ≤ x) (h1 : x ≤ 18446744073709551615) :
    Calls Tryz.prog 90 #[.int .u64 x] w fun e w' => e = .returned (.int .i64 (Lib.bitLen x.toNat)) ∧ w' = w := Any.bits_Len Tryz.lays125 x w h0 h1
def Tryz.lays134_ren : Go.Shelf.Ren := ⟨fun | 134 => 198 | 129 => 139 | n => n, fun | 53 => 112 | 3 => 3 | 4 => 4 | 46 => 120 | 5 => 5 | 9 => 9 | n => n, fun | n => n⟩
theorem Tryz.lays134 : Go.Proofs.Lays.n134 Tryz.prog Tryz.lays134_ren := {
  mixed := by kernel_rfl
  f129 := Tryz.func139.trans (congrArg some (by kernel_rfl))
  f134 := Tryz.func198.trans (congrArg some (by kernel_rfl))
  t3 := Tryz.underlying3
  a3 := Tryz.isAgg3
  z3 := Tryz.sizeOf3
  v3 := Tryz.zeroValue3
  t4 := Tryz.underlying4
  a4 := Tryz.isAgg4
  z4 := Tryz.sizeOf4
  v4 := Tryz.zeroValue4
  t5 := Tryz.underlying5
  a5 := Tryz.isAgg5
  z5 := Tryz.sizeOf5
  v5 := Tryz.zeroValue5
  t9 := Tryz.underlying9
  a9 := Tryz.isAgg9
  z9 := Tryz.sizeOf9
  v9 := Tryz.zeroValue9
  t46 := Tryz.underlying120
  a46 := Tryz.isAgg120
  z46 := Tryz.sizeOf120
  v46 := Tryz.zeroValue120
  t53 := Tryz.underlying112
  a53 := Tryz.isAgg112
  z53 := Tryz.sizeOf112
  v53 := Tryz.zeroValue112 }
/-- bits.LeadingZeros64: "LeadingZeros64 returns the number of leading zero bits in x; the result is 64 for x == 0.": IT RETURNS '64 - Lib.bitLen x'; the world is as it was. ITS CALLEE bits.Len64 IS MET BY ITS OWN CONTRACT OFF THE SHELF (lay that first): entered in place it sends the kernel out of memory. (LAID: no walk: one application.) -/
theorem Tryz.bits_LeadingZeros64 (x : Int) (w : World) (h0 : 0 ≤ x) (h1 : x ≤ 18446744073709551615) :
    Calls Tryz.prog 198 #[.int .u64 x] w fun e w' => e = .returned (.int .i64 (64 - (Lib.bitLen x.toNat : Int))) ∧ w' = w := Any.bits_LeadingZeros64 Tryz.lays134 x w h0 h1
def Tryz.lays215_ren : Go.Shelf.Ren := ⟨fun | 215 => 204 | n => n, fun | 3 => 3 | 4 => 4 | n => n, fun | n => n⟩
theorem Tryz.lays215 : Go.Proofs.Lays.n215 Tryz.prog Tryz.lays215_ren := {
  mixed := by kernel_rfl
  f215 := Tryz.func204.trans (congrArg some (by kernel_rfl))
  t3 := Tryz.underlying3
  a3 := Tryz.isAgg3
  z3 := Tryz.sizeOf3
  v3 := Tryz.zeroValue3
  t4 := Tryz.underlying4
  a4 := Tryz.isAgg4
  z4 := Tryz.sizeOf4
  v4 := Tryz.zeroValue4 }
open Go.RowKit in
/-- cmp.isNaN at int: 'x != x': false. (LAID: no walk: one application.) -/
theorem Tryz.cmp_isNaN_int (x : Int) (w : World) :
    Calls Tryz.prog 204 #[.int .i64 x] w fun e w' => e = .returned (.bool false) ∧ w' = w := Any.cmp_isNaN_int Tryz.lays215 x w
def Tryz.lays129_ren : Go.Shelf.Ren := ⟨fun | 129 => 139 | n => n, fun | 53 => 112 | 3 => 3 | 4 => 4 | 46 => 120 | 5 => 5 | 9 => 9 | n => n, fun | n => n⟩
theorem Tryz.lays129 : Go.Proofs.Lays.n129 Tryz.prog Tryz.lays129_ren := {
  mixed := by kernel_rfl
  f129 := Tryz.func139.trans (congrArg some (by kernel_rfl))
  t3 := Tryz.underlying3
  a3 := Tryz.isAgg3
  z3 := Tryz.sizeOf3
  v3 := Tryz.zeroValue3
  t4 := Tryz.underlying4
  a4 := Tryz.isAgg4
  z4 := Tryz.sizeOf4
  v4 := Tryz.zeroValue4
  t5 := Tryz.underlying5
  a5 := Tryz.isAgg5
  z5 := Tryz.sizeOf5
  v5 := Tryz.zeroValue5
  t9 := Tryz.underlying9
  a9 := Tryz.isAgg9
  z9 := Tryz.sizeOf9
  v9 := Tryz.zeroValue9
  t46 := Tryz.underlying120
  a46 := Tryz.isAgg120
  z46 := Tryz.sizeOf120
  v46 := Tryz.zeroValue120
  t53 := Tryz.underlying112
  a53 := Tryz.isAgg112
  z53 := Tryz.sizeOf112
  v53 := Tryz.zeroValue112 }
/-- bits.Len64: "Len64 returns the minimum number of bits required to represent x; the result is 0 for x == 0.": IT RETURNS 'Lib.bitLen x'; the world is as it was. ('h0', 'h1': x is a uint64.) (LAID: no walk: one application.) -/
theorem Tryz.bits_Len64 (x : Int) (w : World) (h0 : 0 ≤ x) (h1 : x ≤ 18446744073709551615) :
    Calls Tryz.prog 139 #[.int .u64 x] w fun e w' => e = .returned (.int .i64 (Lib.bitLen x.toNat)) ∧ w' = w := Any.bits_Len64 Tryz.lays129 x w h0 h1
def Tryz.lays189_ren : Go.Shelf.Ren := ⟨fun | 189 => 141 | 125 => 90 | 257 => 169 | 128 => 138 | 129 => 139 | 294 => 186 | 295 => 187 | 296 => 188 | 297 => 189 | 298 => 190 | 299 => 191 | 216 => 192 | 300 => 193 | 301 => 194 | 328 => 201 | 329 => 164 | 330 => 165 | 331 => 202 | 332 => 203 | 215 => 204 | 343 => 210 | n => n, fun | 28 => 41 | 3 => 3 | 46 => 120 | 0 => 0 | 51 => 33 | 53 => 112 | 4 => 4 | 183 => 149 | 182 => 148 | 131 => 153 | 5 => 5 | 9 => 9 | 218 => 171 | 222 => 175 | 228 => 190 | 229 => 116 | n => n, fun | n => n⟩
theorem Tryz.lays189 : Go.Proofs.Lays.n189 Tryz.prog Tryz.lays189_ren := {
  mixed := by kernel_rfl
  f125 := Tryz.func90.trans (congrArg some (by kernel_rfl))
  f128 := Tryz.func138.trans (congrArg some (by kernel_rfl))
  f129 := Tryz.func139.trans (congrArg some (by kernel_rfl))
  f189 := Tryz.func141.trans (congrArg some (by kernel_rfl))
  f215 := Tryz.func204.trans (congrArg some (by kernel_rfl))
  f216 := Tryz.func192.trans (congrArg some (by kernel_rfl))
  f257 := Tryz.func169.trans (congrArg some (by kernel_rfl))
  f294 := Tryz.func186.trans (congrArg some (by kernel_rfl))
  f295 := Tryz.func187.trans (congrArg some (by kernel_rfl))
  f296 := Tryz.func188.trans (congrArg some (by kernel_rfl))
  f297 := Tryz.func189.trans (congrArg some (by kernel_rfl))
  f298 := Tryz.func190.trans (congrArg some (by kernel_rfl))
  f299 := Tryz.func191.trans (congrArg some (by kernel_rfl))
  f300 := Tryz.func193.trans (congrArg some (by kernel_rfl))
  f301 := Tryz.func194.trans (congrArg some (by kernel_rfl))
  f328 := Tryz.func201.trans (congrArg some (by kernel_rfl))
  f329 := Tryz.func164.trans (congrArg some (by kernel_rfl))
  f330 := Tryz.func165.trans (congrArg some (by kernel_rfl))
  f331 := Tryz.func202.trans (congrArg some (by kernel_rfl))
  f332 := Tryz.func203.trans (congrArg some (by kernel_rfl))
  f343 := Tryz.func210.trans (congrArg some (by kernel_rfl))
  t0 := Tryz.underlying0
  a0 := Tryz.isAgg0
  z0 := Tryz.sizeOf0
  v0 := Tryz.zeroValue0
  t3 := Tryz.underlying3
  a3 := Tryz.isAgg3
  z3 := Tryz.sizeOf3
  v3 := Tryz.zeroValue3
  t4 := Tryz.underlying4
  a4 := Tryz.isAgg4
  z4 := Tryz.sizeOf4
  v4 := Tryz.zeroValue4
  t5 := Tryz.underlying5
  a5 := Tryz.isAgg5
  z5 := Tryz.sizeOf5
  v5 := Tryz.zeroValue5
  t9 := Tryz.underlying9
  a9 := Tryz.isAgg9
  z9 := Tryz.sizeOf9
  v9 := Tryz.zeroValue9
  t28 := Tryz.underlying41
  a28 := Tryz.isAgg41
  z28 := Tryz.sizeOf41
  v28 := Tryz.zeroValue41
  t46 := Tryz.underlying120
  a46 := Tryz.isAgg120
  z46 := Tryz.sizeOf120
  v46 := Tryz.zeroValue120
  t51 := Tryz.underlying33
  a51 := Tryz.isAgg33
  z51 := Tryz.sizeOf33
  v51 := Tryz.zeroValue33
  t53 := Tryz.underlying112
  a53 := Tryz.isAgg112
  z53 := Tryz.sizeOf112
  v53 := Tryz.zeroValue112
  t131 := Tryz.underlying153
  a131 := Tryz.isAgg153
  z131 := Tryz.sizeOf153
  v131 := Tryz.zeroValue153
  t182 := Tryz.underlying148
  a182 := Tryz.isAgg148
  z182 := Tryz.sizeOf148
  v182 := Tryz.zeroValue148
  t183 := Tryz.underlying149
  a183 := Tryz.isAgg149
  z183 := Tryz.sizeOf149
  v183 := Tryz.zeroValue149
  t218 := Tryz.underlying171
  a218 := Tryz.isAgg171
  z218 := Tryz.sizeOf171
  v218 := Tryz.zeroValue171
  t222 := Tryz.underlying175
  a222 := Tryz.isAgg175
  z222 := Tryz.sizeOf175
  v222 := Tryz.zeroValue175
  t228 := Tryz.underlying190
  a228 := Tryz.isAgg190
  z228 := Tryz.sizeOf190
  v228 := Tryz.zeroValue190
  t229 := Tryz.underlying116
  a229 := Tryz.isAgg116
  z229 := Tryz.sizeOf116
  v229 := Tryz.zeroValue116 }
open Go.Sort Go.RowKit in
theorem Tryz.slices_Sort_int (blk off cap : Nat) (zs : List Int) (w : World) (hH : Holds (Value.int .i64) w blk off zs.toArray) (hblk : blk < w.heap.size) (hsz : zs.length < 4611686018427387904) :
    Calls Tryz.prog 141 #[.slice (some ⟨blk, off, none⟩) zs.length cap] w fun e w' =>
      e = .returned (.tuple #[]) ∧ ∃ n os, w' = grow (putRow (Value.int .i64) (Sort.ahead w n) blk off (zs.mergeSort fun x y => decide (x ≤ y)).toArray) os := Any.slices_Sort_int Tryz.lays189 blk off cap zs w hH hblk hsz
def Tryz.lays264_ren : Go.Shelf.Ren := ⟨fun | 264 => 158 | n => n, fun | 53 => 112 | 46 => 120 | n => n, fun | n => n⟩
theorem Tryz.lays264 : Go.Proofs.Lays.n264 Tryz.prog Tryz.lays264_ren := {
  mixed := by kernel_rfl
  f264 := Tryz.func158.trans (congrArg some (by kernel_rfl))
  t46 := Tryz.underlying120
  a46 := Tryz.isAgg120
  z46 := Tryz.sizeOf120
  v46 := Tryz.zeroValue120
  t53 := Tryz.underlying112
  a53 := Tryz.isAgg112
  z53 := Tryz.sizeOf112
  v53 := Tryz.zeroValue112 }
open Go.RowKit Go.Lib in
theorem Tryz.bits_Mul64 (x y : Nat) (hx : x < 18446744073709551616) (hy : y < 18446744073709551616) (w : World) :
    Calls Tryz.prog 158 #[.int .u64 x, .int .u64 y] w fun e w' => e = .returned (.tuple #[.int .u64 ((x * y / 18446744073709551616 : Nat) : Int), .int .u64 ((x * y % 18446744073709551616 : Nat) : Int)]) ∧ w' = w := Any.bits_Mul64 Tryz.lays264 x y hx hy w
def Tryz.lays108_ren : Go.Shelf.Ren := ⟨fun | 108 => 100 | n => n, fun | 28 => 41 | 3 => 3 | 0 => 0 | 4 => 4 | n => n, fun | n => n⟩
theorem Tryz.lays108 : Go.Proofs.Lays.n108 Tryz.prog Tryz.lays108_ren := {
  mixed := by kernel_rfl
  f108 := Tryz.func100.trans (congrArg some (by kernel_rfl))
  t0 := Tryz.underlying0
  a0 := Tryz.isAgg0
  z0 := Tryz.sizeOf0
  v0 := Tryz.zeroValue0
  t3 := Tryz.underlying3
  a3 := Tryz.isAgg3
  z3 := Tryz.sizeOf3
  v3 := Tryz.zeroValue3
  t4 := Tryz.underlying4
  a4 := Tryz.isAgg4
  z4 := Tryz.sizeOf4
  v4 := Tryz.zeroValue4
  t28 := Tryz.underlying41
  a28 := Tryz.isAgg41
  z28 := Tryz.sizeOf41
  v28 := Tryz.zeroValue41 }
open Go.Lib in
/-- slices.Index at []int: "Index returns the index of the first occurrence of v in s, or -1 if not present.": IT RETURNS 'Lib.idxOf (the elements) v'; the world is as it was. 'zs': what the cells behind the slice's address hold (its spare capacity too, if you have it); 'zs.take n': its elements. (LAID: no walk: one application.) -/
theorem Tryz.slices_Index_int (b off n c : Nat) (zs : List Int) (x : Int) (w : World) (hz : n ≤ zs.length) (hbig : n ≤ 9223372036854775807) (hc : ∀ j, j < zs.length → w.cell? ⟨b, off + j, none⟩ = some (.int .i64 (zs.getD j 0))) :
    Calls Tryz.prog 100 #[.slice (some ⟨b, off, none⟩) n c, .int .i64 x] w fun e w' => e = .returned (.int .i64 (Lib.idxOf (zs.take n) x)) ∧ w' = w := Any.slices_Index_int Tryz.lays108 b off n c zs x w hz hbig hc
open Go.Lib in
/-- The same at a slice of length 0, a nil one too: no cell is known, none is asked for. (LAID: no walk: one application.) -/
theorem Tryz.slices_Index_int_empty (a : Option Addr) (c : Nat) (x : Int) (w : World) :
    Calls Tryz.prog 100 #[.slice a 0 c, .int .i64 x] w fun e w' => e = .returned (.int .i64 (Lib.idxOf [] x)) ∧ w' = w := Any.slices_Index_int_empty Tryz.lays108 a c x w
def Tryz.lays107_ren : Go.Shelf.Ren := ⟨fun | 107 => 55 | 108 => 100 | n => n, fun | 28 => 41 | 3 => 3 | 4 => 4 | 0 => 0 | n => n, fun | n => n⟩
theorem Tryz.lays107 : Go.Proofs.Lays.n107 Tryz.prog Tryz.lays107_ren := {
  mixed := by kernel_rfl
  f107 := Tryz.func55.trans (congrArg some (by kernel_rfl))
  f108 := Tryz.func100.trans (congrArg some (by kernel_rfl))
  t0 := Tryz.underlying0
  a0 := Tryz.isAgg0
  z0 := Tryz.sizeOf0
  v0 := Tryz.zeroValue0
  t3 := Tryz.underlying3
  a3 := Tryz.isAgg3
  z3 := Tryz.sizeOf3
  v3 := Tryz.zeroValue3
  t4 := Tryz.underlying4
  a4 := Tryz.isAgg4
  z4 := Tryz.sizeOf4
  v4 := Tryz.zeroValue4
  t28 := Tryz.underlying41
  a28 := Tryz.isAgg41
  z28 := Tryz.sizeOf41
  v28 := Tryz.zeroValue41 }
open Go.Lib in
/-- slices.Contains at []int: "Contains reports whether v is present in s.": IT RETURNS 'elements.contains v'; the world is as it was. ITS CALLEE slices.Index IS MET BY ITS OWN CONTRACT OFF THE SHELF (lay that first): no loop is walked here. (LAID: no walk: one application.) -/
theorem Tryz.slices_Contains_int (b off n c : Nat) (zs : List Int) (x : Int) (w : World) (hz : n ≤ zs.length) (hbig : n ≤ 9223372036854775807) (hc : ∀ j, j < zs.length → w.cell? ⟨b, off + j, none⟩ = some (.int .i64 (zs.getD j 0))) :
    Calls Tryz.prog 55 #[.slice (some ⟨b, off, none⟩) n c, .int .i64 x] w fun e w' => e = .returned (.bool ((zs.take n).contains x)) ∧ w' = w := Any.slices_Contains_int Tryz.lays107 b off n c zs x w hz hbig hc
open Go.Lib in
/-- The same at a slice of length 0, a nil one too. (LAID: no walk: one application.) -/
theorem Tryz.slices_Contains_int_empty (a : Option Addr) (c : Nat) (x : Int) (w : World) :
    Calls Tryz.prog 55 #[.slice a 0 c, .int .i64 x] w fun e w' => e = .returned (.bool false) ∧ w' = w := Any.slices_Contains_int_empty Tryz.lays107 a c x w
def Tryz.lays111_ren : Go.Shelf.Ren := ⟨fun | 111 => 21 | n => n, fun | 28 => 41 | 3 => 3 | 4 => 4 | 0 => 0 | n => n, fun | n => n⟩
theorem Tryz.lays111 : Go.Proofs.Lays.n111 Tryz.prog Tryz.lays111_ren := {
  mixed := by kernel_rfl
  f111 := Tryz.func21.trans (congrArg some (by kernel_rfl))
  t0 := Tryz.underlying0
  a0 := Tryz.isAgg0
  z0 := Tryz.sizeOf0
  v0 := Tryz.zeroValue0
  t3 := Tryz.underlying3
  a3 := Tryz.isAgg3
  z3 := Tryz.sizeOf3
  v3 := Tryz.zeroValue3
  t4 := Tryz.underlying4
  a4 := Tryz.isAgg4
  z4 := Tryz.sizeOf4
  v4 := Tryz.zeroValue4
  t28 := Tryz.underlying41
  a28 := Tryz.isAgg41
  z28 := Tryz.sizeOf41
  v28 := Tryz.zeroValue41 }
open Go.RowKit Go.Lib in
/-- slices.Equal at []int: "Equal reports whether two slices are equal: the same length and all elements equal. If the lengths are different, Equal returns false. Otherwise, the elements are compared in increasing index order, and the comparison stops at the first unequal pair. Empty and nil slices are considered equal.": IT RETURNS WHETHER THE TWO LISTS OF ELEMENTS ARE ONE; the world is as it was but for the count of draws (the test 's1[i] != s2[i]' has two reads, whose order the model draws, once a round). 'xs', 'ys': what the cells behind the two addresses hold (the spare capacity too, if you have it); 'xs.take n', 'ys.take m': the elements. THE TWO SLICES MAY OVERLAP. (LAID: no walk: one application.) -/
theorem Tryz.slices_Equal_int (b1 o1 n c b2 o2 m d : Nat) (xs ys : List Int) (w : World) (hx : n ≤ xs.length) (hy : m ≤ ys.length) (hbig : n ≤ 9223372036854775807) (hbig2 : m ≤ 9223372036854775807) (hc1 : ∀ j, j < xs.length → w.cell? ⟨b1, o1 + j, none⟩ = some (.int .i64 (xs.getD j 0))) (hc2 : ∀ j, j < ys.length → w.cell? ⟨b2, o2 + j, none⟩ = some (.int .i64 (ys.getD j 0))) :
    Calls Tryz.prog 21 #[.slice (some ⟨b1, o1, none⟩) n c, .slice (some ⟨b2, o2, none⟩) m d] w fun e w' => e = .returned (.bool (xs.take n == ys.take m)) ∧ ∃ q, w' = w.drewN q := Any.slices_Equal_int Tryz.lays111 b1 o1 n c b2 o2 m d xs ys w hx hy hbig hbig2 hc1 hc2
open Go.RowKit Go.Lib in
/-- The same where the first is of length 0 (a nil one too): no cell is asked for. (LAID: no walk: one application.) -/
theorem Tryz.slices_Equal_int_empty (a1 a2 : Option Addr) (c m d : Nat) (w : World) (hbig2 : m ≤ 9223372036854775807) :
    Calls Tryz.prog 21 #[.slice a1 0 c, .slice a2 m d] w fun e w' => e = .returned (.bool (decide (m = 0))) ∧ w' = w := Any.slices_Equal_int_empty Tryz.lays111 a1 a2 c m d w hbig2
open Go.RowKit Go.Sort in
/-- .. and plain. (LAID: no walk: one application.) -/
theorem Tryz.slices_Sort_int_none (p : Option Addr) (cap : Nat) (w : World) :
    Calls Tryz.prog 141 #[.slice p 0 cap] w fun e w' => e = .returned (.tuple #[]) ∧ w' = w := Any.slices_Sort_int_none Tryz.lays189 p cap w
open Go.RowKit Go.Lib in
theorem Tryz.slices_Equal_int_lens (a1 a2 : Option Addr) (n c m d : Nat) (w : World) (hnm : n ≠ m) :
    Calls Tryz.prog 21 #[.slice a1 n c, .slice a2 m d] w fun e w' => e = .returned (.bool false) ∧ w' = w := Any.slices_Equal_int_lens Tryz.lays111 a1 a2 n c m d w hnm
def Tryz.sortRise_ren : Go.Shelf.Ren := ⟨fun | 6 => 39 | 15 => 90 | 14 => 89 | 28 => 138 | 29 => 139 | 20 => 130 | 21 => 131 | 22 => 132 | 23 => 133 | 24 => 134 | 25 => 135 | 26 => 136 | 27 => 137 | 46 => 163 | 47 => 164 | 48 => 165 | 49 => 166 | 50 => 167 | 57 => 185 | n => n, fun | 22 => 81 | 24 => 83 | 25 => 85 | 3 => 3 | 39 => 120 | 0 => 0 | 53 => 33 | 55 => 112 | 4 => 4 | 46 => 149 | 45 => 148 | 50 => 153 | 5 => 5 | 9 => 9 | 66 => 171 | 70 => 175 | 76 => 190 | 77 => 116 | n => n, fun | n => n⟩
theorem Tryz.sortRise : Go.Proofs.SlLaysF0.n6 Tryz.prog Tryz.sortRise_ren := {
  mixed := by kernel_rfl
  f6 := ⟨Tryz.f39.name, by decide, Tryz.func39.trans (congrArg some (by kernel_rfl))⟩
  f14 := ⟨Tryz.f89.name, by decide, Tryz.func89.trans (congrArg some (by kernel_rfl))⟩
  f15 := Tryz.func90.trans (congrArg some (by kernel_rfl))
  f20 := ⟨Tryz.f130.name, by decide, Tryz.func130.trans (congrArg some (by kernel_rfl))⟩
  f21 := ⟨Tryz.f131.name, by decide, Tryz.func131.trans (congrArg some (by kernel_rfl))⟩
  f22 := ⟨Tryz.f132.name, by decide, Tryz.func132.trans (congrArg some (by kernel_rfl))⟩
  f23 := ⟨Tryz.f133.name, by decide, Tryz.func133.trans (congrArg some (by kernel_rfl))⟩
  f24 := ⟨Tryz.f134.name, by decide, Tryz.func134.trans (congrArg some (by kernel_rfl))⟩
  f25 := ⟨Tryz.f135.name, by decide, Tryz.func135.trans (congrArg some (by kernel_rfl))⟩
  f26 := ⟨Tryz.f136.name, by decide, Tryz.func136.trans (congrArg some (by kernel_rfl))⟩
  f27 := ⟨Tryz.f137.name, by decide, Tryz.func137.trans (congrArg some (by kernel_rfl))⟩
  f28 := Tryz.func138.trans (congrArg some (by kernel_rfl))
  f29 := Tryz.func139.trans (congrArg some (by kernel_rfl))
  f46 := ⟨Tryz.f163.name, by decide, Tryz.func163.trans (congrArg some (by kernel_rfl))⟩
  f47 := Tryz.func164.trans (congrArg some (by kernel_rfl))
  f48 := Tryz.func165.trans (congrArg some (by kernel_rfl))
  f49 := ⟨Tryz.f166.name, by decide, Tryz.func166.trans (congrArg some (by kernel_rfl))⟩
  f50 := ⟨Tryz.f167.name, by decide, Tryz.func167.trans (congrArg some (by kernel_rfl))⟩
  f57 := ⟨Tryz.f185.name, by decide, Tryz.func185.trans (congrArg some (by kernel_rfl))⟩
  t0 := Tryz.underlying0
  a0 := Tryz.isAgg0
  z0 := Tryz.sizeOf0
  v0 := Tryz.zeroValue0
  t3 := Tryz.underlying3
  a3 := Tryz.isAgg3
  z3 := Tryz.sizeOf3
  v3 := Tryz.zeroValue3
  t4 := Tryz.underlying4
  a4 := Tryz.isAgg4
  z4 := Tryz.sizeOf4
  v4 := Tryz.zeroValue4
  t5 := Tryz.underlying5
  a5 := Tryz.isAgg5
  z5 := Tryz.sizeOf5
  v5 := Tryz.zeroValue5
  t9 := Tryz.underlying9
  a9 := Tryz.isAgg9
  z9 := Tryz.sizeOf9
  v9 := Tryz.zeroValue9
  t22 := Tryz.underlying81
  a22 := Tryz.isAgg81
  z22 := Tryz.sizeOf81
  v22 := Tryz.zeroValue81
  t25 := Tryz.underlying85
  a25 := Tryz.isAgg85
  z25 := Tryz.sizeOf85
  v25 := Tryz.zeroValue85
  t39 := Tryz.underlying120
  a39 := Tryz.isAgg120
  z39 := Tryz.sizeOf120
  v39 := Tryz.zeroValue120
  t45 := Tryz.underlying148
  a45 := Tryz.isAgg148
  z45 := Tryz.sizeOf148
  v45 := Tryz.zeroValue148
  t46 := Tryz.underlying149
  a46 := Tryz.isAgg149
  z46 := Tryz.sizeOf149
  v46 := Tryz.zeroValue149
  t50 := Tryz.underlying153
  a50 := Tryz.isAgg153
  z50 := Tryz.sizeOf153
  v50 := Tryz.zeroValue153
  t53 := Tryz.underlying33
  a53 := Tryz.isAgg33
  z53 := Tryz.sizeOf33
  v53 := Tryz.zeroValue33
  t55 := Tryz.underlying112
  a55 := Tryz.isAgg112
  z55 := Tryz.sizeOf112
  v55 := Tryz.zeroValue112
  t66 := Tryz.underlying171
  a66 := Tryz.isAgg171
  z66 := Tryz.sizeOf171
  v66 := Tryz.zeroValue171
  t70 := Tryz.underlying175
  a70 := Tryz.isAgg175
  z70 := Tryz.sizeOf175
  v70 := Tryz.zeroValue175
  t76 := Tryz.underlying190
  a76 := Tryz.isAgg190
  z76 := Tryz.sizeOf190
  v76 := Tryz.zeroValue190
  t77 := Tryz.underlying116
  a77 := Tryz.isAgg116
  z77 := Tryz.sizeOf116
  v77 := Tryz.zeroValue116 }
end Go.Proofs
/- The quotient of two words by one, as math/bits reckons it: the plain law (Knuth's digits, of any base B). No program in sight. -/
namespace Go.Proofs.YtmomoeagnkjbiaaGreat

/-- A digit's guess and its rest. -/
structure DI (B U y1 y0 c q r : Nat) : Prop where
  eq : q * y1 + r = U
  up : U * B + c < (q + 1) * (y1 * B + y0)
  qb : q ≤ B + 1
theorem di_init {B U y1 y0 c : Nat} (h1 : B ≤ 2 * y1) (h0 : y0 < B) (hU : U < y1 * B + y0) (hc : c < B) : DI B U y1 y0 c (U / y1) (U % y1) ∧ U % y1 < y1 := by
  have hlt : U % y1 < y1 := Nat.mod_lt _ (by omega)
  have he : U / y1 * y1 + U % y1 = U := by rw [Nat.mul_comm]; exact Nat.div_add_mod U y1
  refine ⟨⟨he, ?_, ?_⟩, hlt⟩
  · have h2 : U + 1 ≤ (U / y1 + 1) * y1 := by rw [Nat.succ_mul]; omega
    have h3 : (U + 1) * B ≤ (U / y1 + 1) * y1 * B := Nat.mul_le_mul_right _ h2
    have h4 : (U / y1 + 1) * (y1 * B + y0) = (U / y1 + 1) * y1 * B + (U / y1 + 1) * y0 := by rw [Nat.mul_add, Nat.mul_assoc]
    rw [h4]
    rw [Nat.succ_mul] at h3
    generalize (U / y1 + 1) * y1 * B = A at *
    generalize (U / y1 + 1) * y0 = C at *
    generalize U * B = D at *
    omega
  · have e : y1 * (B + 2) = y1 * B + y1 * 2 := Nat.mul_add _ _ _
    have h2 : U < y1 * (B + 2) := by
      rw [e]
      generalize y1 * B = A at *
      omega
    have := Nat.div_lt_of_lt_mul h2
    omega
theorem di_step {B U y1 y0 c q r : Nat} (h : DI B U y1 y0 c q r) (hU : U < y1 * B + y0) (hc : c < B) (hcond : B ≤ q ∨ r * B + c < q * y0) : 0 < q ∧ DI B U y1 y0 c (q - 1) (r + y1) ∧ q - 1 ≤ B := by
  have hq : 0 < q := by
    rcases hcond with h1 | h1
    · omega
    · rcases Nat.eq_zero_or_pos q with e | e
      · rw [e, Nat.zero_mul] at h1; omega
      · exact e
  obtain ⟨p, rfl⟩ : ∃ p, q = p + 1 := ⟨q - 1, by omega⟩
  have he := h.eq
  rw [Nat.succ_mul] at he
  refine ⟨hq, ⟨by rw [Nat.add_sub_cancel]; omega, ?_, by have := h.qb; omega⟩, by have := h.qb; omega⟩
  rw [Nat.add_sub_cancel]
  rcases hcond with h1 | h1
  · have h2 : (U + 1) * B ≤ (y1 * B + y0) * B := Nat.mul_le_mul_right _ hU
    have h3 : B * (y1 * B + y0) ≤ (p + 1) * (y1 * B + y0) := Nat.mul_le_mul_right _ h1
    rw [Nat.succ_mul] at h2
    rw [Nat.mul_comm B] at h3
    generalize (p + 1) * (y1 * B + y0) = A at *
    generalize (y1 * B + y0) * B = C at *
    generalize U * B = D at *
    omega
  · have h4 : (p + 1) * (y1 * B + y0) = (p + 1) * y1 * B + (p + 1) * y0 := by rw [Nat.mul_add, Nat.mul_assoc]
    have h5 : U * B = (p + 1) * y1 * B + r * B := by rw [← Nat.add_mul, h.eq]
    rw [h4, h5]
    generalize (p + 1) * y1 * B = A at *
    generalize (p + 1) * y0 = C at *
    generalize r * B = D at *
    omega
theorem di_done {B U y1 y0 c q r : Nat} (h : DI B U y1 y0 c q r) (hle : q * y0 ≤ r * B + c) : (U * B + c) / (y1 * B + y0) = q ∧ q * (y1 * B + y0) ≤ U * B + c := by
  have h4 : q * (y1 * B + y0) = q * y1 * B + q * y0 := by rw [Nat.mul_add, Nat.mul_assoc]
  have h5 : U * B = q * y1 * B + r * B := by rw [← Nat.add_mul, h.eq]
  have hup := h.up
  have hle2 : q * (y1 * B + y0) ≤ U * B + c := by
    rw [h4, h5]
    generalize q * y1 * B = A at *
    generalize q * y0 = C at *
    generalize r * B = D at *
    omega
  exact ⟨Nat.div_eq_of_lt_le hle2 hup, hle2⟩
theorem di_break {B y0 c q r : Nat} (h0 : y0 < B) (hq : q ≤ B) (hr : B ≤ r) : q * y0 ≤ r * B + c :=
  Nat.le_trans (Nat.mul_le_mul hq (Nat.le_of_lt h0)) (Nat.le_trans (Nat.mul_le_mul_right B hr) (Nat.le_add_right _ _))
/-- Two digits make the quotient. -/
theorem two_digits {B U c1 c0 y : Nat} (hy : 0 < y) : ((U * B + c1) * B + c0) / y = (U * B + c1) / y * B + ((U * B + c1) % y * B + c0) / y ∧
    ((U * B + c1) * B + c0) % y = ((U * B + c1) % y * B + c0) % y := by
  have h := Nat.div_add_mod (U * B + c1) y
  generalize U * B + c1 = T at *
  have e : T * B + c0 = y * (T / y * B) + (T % y * B + c0) := by
    have h2 : T * B = y * (T / y) * B + T % y * B := by rw [← Nat.add_mul, h]
    rw [h2, ← Nat.mul_assoc, Nat.add_assoc]
  constructor
  · rw [e, Nat.mul_add_div hy]
  · rw [e, Nat.mul_add_mod]
/-- The shift of both by the same count. -/
theorem shifted (M y s : Nat) : (M * 2 ^ s) / (y * 2 ^ s) = M / y ∧ (M * 2 ^ s) % (y * 2 ^ s) / 2 ^ s = M % y := by
  have hp : 0 < 2 ^ s := Nat.pow_pos (by decide)
  constructor
  · exact Nat.mul_div_mul_right M y hp
  · rw [Nat.mul_mod_mul_right, Nat.mul_div_cancel _ hp]
end Go.Proofs.YtmomoeagnkjbiaaGreat
