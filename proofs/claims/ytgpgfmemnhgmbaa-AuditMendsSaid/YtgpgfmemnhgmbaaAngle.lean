/- Contracts of package angle and of its reference, as far as the translation has them. -/
import Derived.Test.YtgpgfmemnhgmbaaProg
import Derived.Test.YtgpgfmemnhgmbaaLay
import Derived.Test.YtgpgfmemnhgmbaaRegion
import Derived.Test.YtgpgfmemnhgmbaaMix
import Derived.WalkKit
import Derived.WalkSpells
import Derived.WalkLawsBesides
import Derived.Lib.Hide
import Derived.BigQuiet
import Derived.Test.YtgpgfmemnhgmbaaPlain
namespace Go.Proofs.Ytgpgfmemnhgmbaa
open Go.RowKit

def fitsB (n : Int) : Bool := decide (-1099511627776 ≤ n ∧ n ≤ 1099511627776)
theorem fits_yes {n : Int} (h1 : -1099511627776 ≤ n) : decide (n ≤ 1099511627776) = fitsB n := by
  unfold fitsB; simp [h1]
theorem fits_no {n : Int} (h1 : n < -1099511627776) : false = fitsB n := by
  unfold fitsB; simp; omega
def validB (lo hi : Int) : Bool := decide (lo ≤ hi ∧ -1099511627776 ≤ lo ∧ hi ≤ 1099511627776)
theorem validB_iff {lo hi : Int} : validB lo hi = true ↔ lo ≤ hi ∧ -1099511627776 ≤ lo ∧ hi ≤ 1099511627776 := by simp [validB]
theorem validB_eq {lo hi : Int} : validB lo hi = (decide (lo ≤ hi) && fitsB lo && fitsB hi) := by
  rw [Bool.eq_iff_iff]; simp [validB, fitsB]; omega
theorem valid_ways1 {lo hi : Int} (h : lo ≤ hi) (h2 : fitsB lo = true) : fitsB hi = validB lo hi := by simp [validB_eq, *]
theorem valid_ways2 {lo hi : Int} (h2 : ¬ fitsB lo = true) : false = validB lo hi := by simp [validB_eq, *]
theorem valid_ways3 {lo hi : Int} (h2 : hi < lo) : false = validB lo hi := by
  have : ¬ lo ≤ hi := by omega
  simp [validB_eq, *]

/-- Go's min and max of two ints, behind names that the walk does not open. -/
def mn (x y : Int) : Int := if y < x then y else x
def mx (x y : Int) : Int := if x < y then y else x
theorem mn_eq (x y : Int) : mn x y = min x y := by unfold mn; split <;> omega
theorem mx_eq (x y : Int) : mx x y = max x y := by unfold mx; split <;> omega
section
variable {P : Program} {w : World}
theorem run_mn (ts : Array TypeId) (t : TypeId) (k k' : IntKind) (x y : Int) : (Builtin.min_ ts t #[.int k x, .int k' y]).run P w = .ok (.int k (mn x y)) w := run_min_int2 w ts t k k' x y
theorem run_mx (ts : Array TypeId) (t : TypeId) (k k' : IntKind) (x y : Int) : (Builtin.max_ ts t #[.int k x, .int k' y]).run P w = .ok (.int k (mx x y)) w := run_max_int2 w ts t k k' x y
end
attribute [go_sem ↓] run_mn run_mx

theorem validB_false {lo hi : Int} : validB lo hi = false ↔ ¬ (lo ≤ hi ∧ -1099511627776 ≤ lo ∧ hi ≤ 1099511627776) := by simp [validB]
def insideB (x0 y0 x1 y1 : Int) : Bool := decide (x1 ≤ x0 ∧ y0 ≤ y1)
def inside2B (x0 y0 x1 y1 : Int) : Bool := validB x0 y0 && validB x1 y1 && insideB x0 y0 x1 y1
theorem inside2B_iff {x0 y0 x1 y1 : Int} : inside2B x0 y0 x1 y1 = true ↔ validB x0 y0 = true ∧ validB x1 y1 = true ∧ x1 ≤ x0 ∧ y0 ≤ y1 := by simp [inside2B, insideB, and_assoc]
theorem insideB_iff {x0 y0 x1 y1 : Int} : insideB x0 y0 x1 y1 = true ↔ x1 ≤ x0 ∧ y0 ≤ y1 := by simp [insideB]
def meetLo (x0 y0 x1 y1 : Int) : Int := if max x0 x1 ≤ min y0 y1 then max x0 x1 else 0
def meetHi (x0 y0 x1 y1 : Int) : Int := if max x0 x1 ≤ min y0 y1 then min y0 y1 else 0
def meetE (x0 y0 x1 y1 : Int) : Int := if max x0 x1 ≤ min y0 y1 then 0 else 23
theorem meet_bad {x0 y0 x1 y1 : Int} (h : mn y0 y1 < mx x0 x1) : meetLo x0 y0 x1 y1 = 0 ∧ meetHi x0 y0 x1 y1 = 0 ∧ meetE x0 y0 x1 y1 = 23 := by
  rw [mn_eq, mx_eq] at h
  unfold meetLo meetHi meetE; omega
theorem meet_good {x0 y0 x1 y1 : Int} (h : mx x0 x1 ≤ mn y0 y1) : meetLo x0 y0 x1 y1 = mx x0 x1 ∧ meetHi x0 y0 x1 y1 = mn y0 y1 ∧ meetE x0 y0 x1 y1 = 0 := by
  rw [mn_eq, mx_eq] at *
  unfold meetLo meetHi meetE; omega
def meetsB (x0 y0 x1 y1 : Int) : Bool := decide (x0 ≤ y1 ∧ x1 ≤ y0)
def turnLo (x0 y0 : Int) : Int := if 21600000 ≤ y0 - x0 then 0 else x0 % 21600000
def turnHi (x0 y0 : Int) : Int := if 21600000 ≤ y0 - x0 then 21600000 else x0 % 21600000 + (y0 - x0)

end Go.Proofs.Ytgpgfmemnhgmbaa
