/- Contracts and plain laws, several texts in one: Angle; Clk; Pg1 -/
import Derived.Test.YtmomoeagnkjbiaaGreatProg
import Derived.WalkKit
import Derived.WalkSpells
import Derived.WalkLawsBesides
import Derived.Lib.Hide
import Derived.BigQuiet
import Derived.Test.YtmomoeagnkjbiaaGreatCAA
import Derived.Test.YtmomoeagnkjbiaaGreatCAB
import Derived.Test.YtmomoeagnkjbiaaGreatCAE
/- Contracts of package angle and of its reference, as far as the translation has them. -/
namespace Go.Proofs.YtmomoeagnkjbiaaGreat
open Go.RowKit

def fitsB (n : Int) : Bool := decide (-1099511627776 ≤ n ∧ n ≤ 1099511627776)
theorem fits_yes {n : Int} (h1 : -1099511627776 ≤ n) : decide (n ≤ 1099511627776) = fitsB n := by
  unfold fitsB; simp [h1]
theorem fits_no {n : Int} (h1 : n < -1099511627776) : false = fitsB n := by
  unfold fitsB; simp; omega
def validB (lo hi : Int) : Bool := decide (lo ≤ hi ∧ -1099511627776 ≤ lo ∧ hi ≤ 1099511627776)
theorem validB_iff {lo hi : Int} : validB lo hi = true ↔ lo ≤ hi ∧ -1099511627776 ≤ lo ∧ hi ≤ 1099511627776 := by simp [validB]
theorem validB_eq {lo hi : Int} : validB lo hi = (decide (lo ≤ hi) && fitsB lo && fitsB hi) := by
  rw [Bool.eq_iff_iff]; simp [validB, fitsB]; omega
set_option maxHeartbeats 400000 in
theorem angle_fits (n : Int) (w : World) :
    Calls Tryz.prog 68 #[.int .i64 n] w fun e w' => e = .returned (.bool (fitsB n)) ∧ w' = w := by
  go_enter Tryz.func68, Tryz.ntmps68
  go_wp2
  · go_ret
    exact ⟨ret_bool (fits_yes ‹_›), rfl⟩
  · go_ret
    exact ⟨ret_bool (fits_no ‹_›), rfl⟩
theorem valid_ways1 {lo hi : Int} (h : lo ≤ hi) (h2 : fitsB lo = true) : fitsB hi = validB lo hi := by simp [validB_eq, *]
theorem valid_ways2 {lo hi : Int} (h2 : ¬ fitsB lo = true) : false = validB lo hi := by simp [validB_eq, *]
theorem valid_ways3 {lo hi : Int} (h2 : hi < lo) : false = validB lo hi := by
  have : ¬ lo ≤ hi := by omega
  simp [validB_eq, *]
set_option maxHeartbeats 400000 in
theorem angle_Valid (lo hi : Int) (w : World) :
    Calls Tryz.prog 27 #[(.agg #[.int .i64 (lo), .int .i64 (hi)])] w fun e w' => e = .returned (.bool (validB lo hi)) ∧ ∃ d, w' = bw w d := by
  refine lay_start ?_
  go_enter Tryz.func27, Tryz.ntmps27
  go_wp2_with (go_at_call 68; refine (angle_fits _ _).mono ?_; rintro e w' ⟨rfl, rfl⟩)
  all_goals go_ret
  all_goals exact ⟨ret_bool (by first | exact valid_ways1 ‹_› ‹_› | exact valid_ways2 ‹_› | exact valid_ways3 ‹_›), lay_ex _ _⟩
set_option maxHeartbeats 400000 in
theorem ref05_Valid (lo hi : Int) (w : World) :
    Calls Tryz.prog 11 #[(.agg #[.int .i64 (lo), .int .i64 (hi)])] w fun e w' => e = .returned (.bool (validB lo hi)) ∧ ∃ d, w' = bw w d := by
  refine lay_start ?_
  go_enter Tryz.func11, Tryz.ntmps11
  go_wp2
  all_goals go_ret
  all_goals exact ⟨ret_bool (by rw [Bool.eq_iff_iff]; simp [validB]; omega), lay_ex _ _⟩
set_option maxHeartbeats 400000 in
theorem ref05_Floor (a b : Int) (w : World) (hb : 1 ≤ b) (h1 : -9223372036854775807 ≤ a) (h2 : a ≤ 9223372036854775807) :
    Calls Tryz.prog 109 #[.int .i64 a, .int .i64 b] w fun e w' => e = .returned (.int .i64 (a / b)) ∧ w' = w := by
  go_enter Tryz.func109, Tryz.ntmps109
  go_wp2
  · go_ret
    refine ⟨ret_int ?_, rfl⟩
    rw [IntWalk.wrap64_in]
    · exact floor_neg hb ‹_›
    · rw [floor_neg hb ‹_›]; have := ediv_bd hb 9223372036854775807 (by decide) h1 h2; omega
  · go_ret
    exact ⟨ret_int (floor_pos hb ‹_›), rfl⟩
set_option maxHeartbeats 400000 in
theorem ref05_Ceil (a b : Int) (w : World) (hb : 1 ≤ b) (h1 : -9223372036854775807 ≤ a) (h2 : a ≤ 9223372036854775807) :
    Calls Tryz.prog 111 #[.int .i64 a, .int .i64 b] w fun e w' => e = .returned (.int .i64 (cdiv a b)) ∧ w' = w := by
  go_enter Tryz.func111, Tryz.ntmps111
  go_wp2
  · go_ret
    refine ⟨ret_int ?_, rfl⟩
    rw [IntWalk.wrap64_in]
    · exact cdiv_pos hb ‹_›
    · rw [cdiv_pos hb ‹_›]; have := cdiv_bd hb 9223372036854775807 (by decide) h1 h2; omega
  · go_ret
    exact ⟨ret_int (cdiv_neg hb ‹_›), rfl⟩

/-- Go's min and max of two ints, behind names that the walk does not open. -/
def mn (x y : Int) : Int := if y < x then y else x
def mx (x y : Int) : Int := if x < y then y else x
theorem mn_eq (x y : Int) : mn x y = min x y := by unfold mn; split <;> omega
theorem mx_eq (x y : Int) : mx x y = max x y := by unfold mx; split <;> omega
section
variable {P : Program} {w : World}
theorem run_mn (ts : Array TypeId) (t : TypeId) (k k' : IntKind) (x y : Int) : (Builtin.min_ ts t #[.int k x, .int k' y]).run P w = .ok (.int k (mn x y)) w := run_min_int2 w ts t k k' x y
theorem run_mx (ts : Array TypeId) (t : TypeId) (k k' : IntKind) (x y : Int) : (Builtin.max_ ts t #[.int k x, .int k' y]).run P w = .ok (.int k (mx x y)) w := run_max_int2 w ts t k k' x y
end
attribute [go_sem ↓] run_mn run_mx

theorem validB_false {lo hi : Int} : validB lo hi = false ↔ ¬ (lo ≤ hi ∧ -1099511627776 ≤ lo ∧ hi ≤ 1099511627776) := by simp [validB]
def insideB (x0 y0 x1 y1 : Int) : Bool := decide (x1 ≤ x0 ∧ y0 ≤ y1)
def inside2B (x0 y0 x1 y1 : Int) : Bool := validB x0 y0 && validB x1 y1 && insideB x0 y0 x1 y1
theorem inside2B_iff {x0 y0 x1 y1 : Int} : inside2B x0 y0 x1 y1 = true ↔ validB x0 y0 = true ∧ validB x1 y1 = true ∧ x1 ≤ x0 ∧ y0 ≤ y1 := by simp [inside2B, insideB, and_assoc]
theorem insideB_iff {x0 y0 x1 y1 : Int} : insideB x0 y0 x1 y1 = true ↔ x1 ≤ x0 ∧ y0 ≤ y1 := by simp [insideB]
def meetLo (x0 y0 x1 y1 : Int) : Int := if max x0 x1 ≤ min y0 y1 then max x0 x1 else 0
def meetHi (x0 y0 x1 y1 : Int) : Int := if max x0 x1 ≤ min y0 y1 then min y0 y1 else 0
def meetE (x0 y0 x1 y1 : Int) : Int := if max x0 x1 ≤ min y0 y1 then 0 else 23
theorem meet_bad {x0 y0 x1 y1 : Int} (h : mn y0 y1 < mx x0 x1) : meetLo x0 y0 x1 y1 = 0 ∧ meetHi x0 y0 x1 y1 = 0 ∧ meetE x0 y0 x1 y1 = 23 := by
  rw [mn_eq, mx_eq] at h
  unfold meetLo meetHi meetE; omega
theorem meet_good {x0 y0 x1 y1 : Int} (h : mx x0 x1 ≤ mn y0 y1) : meetLo x0 y0 x1 y1 = mx x0 x1 ∧ meetHi x0 y0 x1 y1 = mn y0 y1 ∧ meetE x0 y0 x1 y1 = 0 := by
  rw [mn_eq, mx_eq] at *
  unfold meetLo meetHi meetE; omega
def meetsB (x0 y0 x1 y1 : Int) : Bool := decide (x0 ≤ y1 ∧ x1 ≤ y0)
def turnLo (x0 y0 : Int) : Int := if 21600000 ≤ y0 - x0 then 0 else x0 % 21600000
def turnHi (x0 y0 : Int) : Int := if 21600000 ≤ y0 - x0 then 21600000 else x0 % 21600000 + (y0 - x0)

end Go.Proofs.YtmomoeagnkjbiaaGreat
/- Times that are valid (as in XSid5, for a seat without sidereal time). -/
namespace Go.Proofs.YtmomoeagnkjbiaaGreat
open Go.RowKit

def insB (t : Int) : Bool := decide (-70368744177664 ≤ t ∧ t ≤ 70368744177664)
def timB (a b : Int) : Bool := decide (a ≤ b) && insB a && insB b
theorem timB_iff {a b : Int} : timB a b = true ↔ a ≤ b ∧ -70368744177664 ≤ a ∧ b ≤ 70368744177664 := by
  unfold timB insB
  simp only [Bool.and_eq_true, decide_eq_true_eq]
  omega
set_option maxHeartbeats 400000 in
theorem clock_instant (t : Int) (w : World) :
    Calls Tryz.prog 119 #[.int .i64 t] w fun e w' => e = .returned (.bool (insB t)) ∧ w' = w := by
  go_enter Tryz.func119, Tryz.ntmps119
  go_wp2_with fail
  all_goals go_ret
  all_goals exact ⟨ret_bool (by unfold insB; rw [Bool.eq_iff_iff]; simp; try omega), rfl⟩
set_option maxHeartbeats 400000 in
theorem clock_Valid (a b : Int) (w : World) :
    Calls Tryz.prog 65 #[(.agg #[.int .i64 (a), .int .i64 (b)])] w fun e w' => e = .returned (.bool (timB a b)) ∧ ∃ d, w' = bw w d := by
  refine lay_start ?_
  have c1 := fun w => clock_instant a w
  have c2 := fun w => clock_instant b w
  unfold timB
  generalize insB a = A at *
  generalize insB b = B at *
  go_enter Tryz.func65, Tryz.ntmps65
  by_cases h : a ≤ b
  · cases A
    · go_wp2_with (go_at_call 119; first | (with_reducible refine (c1 _).mono ?_; rintro e w' ⟨rfl, rfl⟩) | (with_reducible refine (c2 _).mono ?_; rintro e w' ⟨rfl, rfl⟩))
      all_goals go_ret
      all_goals exact ⟨ret_bool (by simp [h]), lay_ex _ _⟩
    · go_wp2_with (go_at_call 119; first | (with_reducible refine (c1 _).mono ?_; rintro e w' ⟨rfl, rfl⟩) | (with_reducible refine (c2 _).mono ?_; rintro e w' ⟨rfl, rfl⟩))
      all_goals go_ret
      all_goals exact ⟨ret_bool (by simp [h]), lay_ex _ _⟩
  · go_wp2_with (go_at_call 119; first | (with_reducible refine (c1 _).mono ?_; rintro e w' ⟨rfl, rfl⟩) | (with_reducible refine (c2 _).mono ?_; rintro e w' ⟨rfl, rfl⟩))
    all_goals go_ret
    all_goals exact ⟨ret_bool (by simp; intros; omega), lay_ex _ _⟩
set_option maxHeartbeats 400000 in
theorem ref10_Instant (t : Int) (w : World) :
    Calls Tryz.prog 153 #[.int .i64 t] w fun e w' => e = .returned (.bool (insB t)) ∧ w' = w := by
  go_enter Tryz.func153, Tryz.ntmps153
  go_wp2_with fail
  all_goals go_ret
  all_goals exact ⟨ret_bool (by unfold insB; rw [Bool.eq_iff_iff]; simp; try omega), rfl⟩
set_option maxHeartbeats 400000 in
theorem ref10_Valid (a b : Int) (w : World) :
    Calls Tryz.prog 113 #[(.agg #[.int .i64 (a), .int .i64 (b)])] w fun e w' => e = .returned (.bool (timB a b)) ∧ ∃ d, w' = bw w d := by
  refine lay_start ?_
  have c1 := fun w => ref10_Instant a w
  have c2 := fun w => ref10_Instant b w
  unfold timB
  generalize insB a = A at *
  generalize insB b = B at *
  go_enter Tryz.func113, Tryz.ntmps113
  by_cases h : a ≤ b
  · cases A
    · go_wp2_with (go_at_call 153; first | (with_reducible refine (c1 _).mono ?_; rintro e w' ⟨rfl, rfl⟩) | (with_reducible refine (c2 _).mono ?_; rintro e w' ⟨rfl, rfl⟩))
      all_goals go_ret
      all_goals exact ⟨ret_bool (by simp [h]), lay_ex _ _⟩
    · go_wp2_with (go_at_call 153; first | (with_reducible refine (c1 _).mono ?_; rintro e w' ⟨rfl, rfl⟩) | (with_reducible refine (c2 _).mono ?_; rintro e w' ⟨rfl, rfl⟩))
      all_goals go_ret
      all_goals exact ⟨ret_bool (by simp [h]), lay_ex _ _⟩
  · go_wp2_with (go_at_call 153; first | (with_reducible refine (c1 _).mono ?_; rintro e w' ⟨rfl, rfl⟩) | (with_reducible refine (c2 _).mono ?_; rintro e w' ⟨rfl, rfl⟩))
    all_goals go_ret
    all_goals exact ⟨ret_bool (by simp; intros; omega), lay_ex _ _⟩
end Go.Proofs.YtmomoeagnkjbiaaGreat
/- Names: package decimal's and the reference's. -/
namespace Go.Proofs.YtmomoeagnkjbiaaGreat
open Go.RowKit

def letB (c : Int) : Bool := decide ((97 ≤ c ∧ c ≤ 122) ∨ (65 ≤ c ∧ c ≤ 90))
def digB (c : Int) : Bool := decide (48 ≤ c ∧ c ≤ 57)
def wrdB (c : Int) : Bool := letB c || digB c || c == 95
theorem letB_iff {c : Int} : letB c = true ↔ (97 ≤ c ∧ c ≤ 122) ∨ (65 ≤ c ∧ c ≤ 90) := by simp [letB]
theorem digB_iff {c : Int} : digB c = true ↔ 48 ≤ c ∧ c ≤ 57 := by simp [digB]
set_option maxHeartbeats 400000 in
theorem dec_letter (c : Int) (w : World) (h0 : 0 ≤ c) (h1 : c ≤ 255) :
    Calls Tryz.prog 118 #[.int .u8 c] w fun e w' => e = .returned (.bool (letB c)) ∧ w' = w := by
  go_enter Tryz.func118, Tryz.ntmps118
  go_wp2
  all_goals go_ret
  all_goals exact ⟨ret_bool (by rw [Bool.eq_iff_iff, letB_iff]; simp; omega), rfl⟩
set_option maxHeartbeats 400000 in
theorem dec_digit (c : Int) (w : World) (h0 : 0 ≤ c) (h1 : c ≤ 255) :
    Calls Tryz.prog 154 #[.int .u8 c] w fun e w' => e = .returned (.bool (digB c)) ∧ w' = w := by
  go_enter Tryz.func154, Tryz.ntmps154
  go_wp2
  all_goals go_ret
  all_goals exact ⟨ret_bool (by rw [Bool.eq_iff_iff, digB_iff]; simp; omega), rfl⟩
set_option maxHeartbeats 400000 in
theorem dec_word (c : Int) (w : World) (h0 : 0 ≤ c) (h1 : c ≤ 255) :
    Calls Tryz.prog 117 #[.int .u8 c] w fun e w' => e = .returned (.bool (wrdB c)) ∧ w' = w := by
  go_enter Tryz.func117, Tryz.ntmps117
  go_wp2_with (first | (go_at_call 118; refine (dec_letter _ _ h0 h1).mono ?_; rintro e w' ⟨rfl, rfl⟩) | (go_at_call 154; refine (dec_digit _ _ h0 h1).mono ?_; rintro e w' ⟨rfl, rfl⟩))
  all_goals go_ret
  all_goals exact ⟨ret_bool (by simp [wrdB, *]), rfl⟩
set_option maxHeartbeats 400000 in
theorem ref01_letter (c : Int) (w : World) (h0 : 0 ≤ c) (h1 : c ≤ 255) :
    Calls Tryz.prog 151 #[.int .u8 c] w fun e w' => e = .returned (.bool (letB c)) ∧ w' = w := by
  go_enter Tryz.func151, Tryz.ntmps151
  go_wp2
  all_goals go_ret
  all_goals exact ⟨ret_bool (by rw [Bool.eq_iff_iff, letB_iff]; simp; omega), rfl⟩
set_option maxHeartbeats 400000 in
theorem ref01_digit (c : Int) (w : World) (h0 : 0 ≤ c) (h1 : c ≤ 255) :
    Calls Tryz.prog 152 #[.int .u8 c] w fun e w' => e = .returned (.bool (digB c)) ∧ w' = w := by
  go_enter Tryz.func152, Tryz.ntmps152
  go_wp2
  all_goals go_ret
  all_goals exact ⟨ret_bool (by rw [Bool.eq_iff_iff, digB_iff]; simp; omega), rfl⟩
/-- The byte at an index. -/
def bt (s : ByteArray) (i : Nat) : Int := ((s.data.toList.getD i 0).toNat : Int)
theorem bt_get {s : ByteArray} {i : Nat} (h : i < s.size) : ((s[i]'h).toNat : Int) = bt s i := by
  unfold bt
  rw [List.getD_eq_getElem?_getD, List.getElem?_eq_getElem (by simpa using h)]
  rfl
theorem bt_bd (s : ByteArray) (i : Nat) : 0 ≤ bt s i ∧ bt s i ≤ 255 := by
  unfold bt
  have := (s.data.toList.getD i 0).toNat_lt
  omega
def AllW (s : ByteArray) (k : Nat) : Prop := ∀ i, i < k → wrdB (bt s i) = true
structure Name (s : ByteArray) : Prop where
  len : s.size ≤ 20
  pos : 0 < s.size
  all : AllW s s.size
  hd : letB (bt s 0) = true
noncomputable def nameB (s : ByteArray) : Bool := @decide (Name s) (Classical.propDecidable _)
theorem nameB_iff {s : ByteArray} : nameB s = true ↔ Name s := by unfold nameB; simp
theorem nameB_no {s : ByteArray} (h : ¬ Name s) : false = nameB s := by cases e : nameB s; rfl; exact absurd (nameB_iff.1 e) h
theorem nameB_yes {s : ByteArray} (h : Name s) : true = nameB s := (nameB_iff.2 h).symm
noncomputable def allwB (s : ByteArray) : Bool := @decide (0 < s.size ∧ AllW s s.size) (Classical.propDecidable _)
theorem allwB_iff {s : ByteArray} : allwB s = true ↔ 0 < s.size ∧ AllW s s.size := by unfold allwB; simp
theorem allwB_no {s : ByteArray} (h : ¬ (0 < s.size ∧ AllW s s.size)) : false = allwB s := by cases e : allwB s; rfl; exact absurd (allwB_iff.1 e) h
theorem str_all {s : ByteArray} (h : AllW s s.size) : (!s.toList.isEmpty) = allwB s := by
  rw [Bool.eq_iff_iff, allwB_iff, ByteArray.toList_eq]
  have e : s.size = s.data.toList.length := by simp
  rw [Bool.not_eq_true', List.isEmpty_eq_false_iff]
  constructor
  · intro h1; exact ⟨by rw [e]; exact List.length_pos_iff.2 h1, h⟩
  · intro h1 h2; rw [h2, List.length_nil] at e; have := h1.1; omega
theorem wrd_no {c : Int} (h : wrdB c = false) : letB c = false ∧ digB c = false ∧ (c == 95) = false := by
  unfold wrdB at h; simp only [Bool.or_eq_false_iff] at h; exact ⟨h.1.1, h.1.2, h.2⟩
theorem wrd_yes {c : Int} (h : wrdB c = true) : letB c = true ∨ (letB c = false ∧ digB c = true) ∨ (letB c = false ∧ digB c = false ∧ (c == 95) = true) := by
  unfold wrdB at h
  cases h1 : letB c
  · cases h2 : digB c
    · rw [h1, h2] at h; right; right; exact ⟨rfl, rfl, by simpa using h⟩
    · right; left; exact ⟨rfl, rfl⟩
  · left; rfl
set_option maxHeartbeats 1000000 in
theorem dec_all (s : ByteArray) (w : World) (hs : s.size ≤ 9223372036854775807) :
    Calls Tryz.prog 116 #[.string s, .func (.func 117) #[] #[]] w fun e w' => e = .returned (.bool (allwB s)) ∧ w' = w := by
  go_enter Tryz.func116, Tryz.ntmps116
  go_wp2_with fail
  go_loop [8] (fun i => ∃ k : Nat, k ≤ s.size ∧ i = .int .i64 k ∧ AllW s k) (fun i => s.size - (intOf i).toNat)
  case atStart => exact ⟨0, Nat.zero_le _, rfl, fun i hi => absurd hi (Nat.not_lt_zero i)⟩
  case round =>
    obtain ⟨k, hk, rfl, hA⟩ := hrel
    have HA := Lib.hid hA
    clear hA
    by_cases hlt : k < s.size
    · have e := bt_get hlt
      have b := bt_bd s k
      cases hw : wrdB (bt s k)
      · have HN : Hid (false = allwB s) := Lib.hid (allwB_no fun h => by have := h.2 k hlt; rw [hw] at this; cases this)
        go_wp2_with (go_at_call 117; refine (dec_word _ _ (by omega) (by omega)).mono ?_; rintro e w' ⟨rfl, rfl⟩)
        go_ret
        exact ⟨ret_bool HN.out, rfl⟩
      · have HN := Lib.hid hw
        go_wp2_with (go_at_call 117; refine (dec_word _ _ (by omega) (by omega)).mono ?_; rintro e w' ⟨rfl, rfl⟩)
        go_round
        case rel => exact ⟨k + 1, by omega, by go_num, fun i hi => by
          by_cases e : i = k
          · subst e; exact HN.out
          · exact HA.out i (by omega)⟩
        case measure => simp [intOf]; omega
    · obtain rfl : k = s.size := by omega
      have HN : Hid ((!s.toList.isEmpty) = allwB s) := Lib.hid (str_all HA.out)
      go_wp2
      go_ret
      exact ⟨ret_bool HN.out, rfl⟩
set_option maxHeartbeats 1000000 in
theorem dec_IsName (s : ByteArray) (w : World) (hs : s.size ≤ 9223372036854775807) :
    Calls Tryz.prog 63 #[.string s] w fun e w' => e = .returned (.bool (nameB s)) ∧ w' = w := by
  by_cases h20 : s.size ≤ 20
  · cases ha : allwB s
    · have HN : Hid (false = nameB s) := Lib.hid (nameB_no fun h => by have := allwB_iff.2 ⟨h.pos, h.all⟩; rw [ha] at this; cases this)
      go_enter Tryz.func63, Tryz.ntmps63
      go_wp2_with (go_at_call 116; refine (dec_all s _ hs).mono ?_; rintro e w' ⟨rfl, rfl⟩)
      go_ret
      exact ⟨ret_bool HN.out, rfl⟩
    · obtain ⟨p, q⟩ := allwB_iff.1 ha
      have e := bt_get p
      have b := bt_bd s 0
      obtain ⟨b0, b1⟩ := b
      cases hl : letB (bt s 0)
      · have HN : Hid (false = nameB s) := Lib.hid (nameB_no fun h => by have := h.hd; rw [hl] at this; cases this)
        clear q
        go_enter Tryz.func63, Tryz.ntmps63
        go_wp2_with (first | (go_at_call 116; refine (dec_all s _ hs).mono ?_; rintro e w' ⟨rfl, rfl⟩) | (go_at_call 118; refine (dec_letter _ _ (by omega) (by omega)).mono ?_; rintro e w' ⟨rfl, rfl⟩))
        go_ret
        exact ⟨ret_bool HN.out, rfl⟩
      · have HN : Hid (true = nameB s) := Lib.hid (nameB_yes ⟨h20, p, q, hl⟩)
        clear q
        go_enter Tryz.func63, Tryz.ntmps63
        go_wp2_with (first | (go_at_call 116; refine (dec_all s _ hs).mono ?_; rintro e w' ⟨rfl, rfl⟩) | (go_at_call 118; refine (dec_letter _ _ (by omega) (by omega)).mono ?_; rintro e w' ⟨rfl, rfl⟩))
        go_ret
        exact ⟨ret_bool HN.out, rfl⟩
  · have HN : Hid (false = nameB s) := Lib.hid (nameB_no fun h => h20 h.len)
    go_enter Tryz.func63, Tryz.ntmps63
    go_wp2
    go_ret
    exact ⟨ret_bool HN.out, rfl⟩
set_option maxHeartbeats 2000000 in
theorem ref01_IsName (s : ByteArray) (w : World) (hs : s.size ≤ 9223372036854775807) :
    Calls Tryz.prog 112 #[.string s] w fun e w' => e = .returned (.bool (nameB s)) ∧ w' = w := by
  by_cases h20 : 0 < s.size ∧ s.size ≤ 20
  · obtain ⟨p, h20⟩ := h20
    have hne : ¬ s = ByteArray.empty := by rintro rfl; simp at p
    have hz : ((s.size : Int) == 0) = false := beq_eq_false_iff_ne.2 (by omega)
    have hd : decide (20 < (s.size : Int)) = false := decide_eq_false (by omega)
    have e := bt_get p
    have b := bt_bd s 0
    obtain ⟨b0, b1⟩ := b
    cases hl : letB (bt s 0)
    · have HN : Hid (false = nameB s) := Lib.hid (nameB_no fun h => by have := h.hd; rw [hl] at this; cases this)
      go_enter Tryz.func112, Tryz.ntmps112
      go_wp2_with (go_at_call 151; refine (ref01_letter _ _ (by omega) (by omega)).mono ?_; rintro e w' ⟨rfl, rfl⟩)
      go_ret
      exact ⟨ret_bool HN.out, rfl⟩
    · have HL := Lib.hid hl
      go_enter Tryz.func112, Tryz.ntmps112
      go_wp2_with (go_at_call 151; refine (ref01_letter _ _ (by omega) (by omega)).mono ?_; rintro e w' ⟨rfl, rfl⟩)
      clear hl e hz hd hne
      go_loop [3] (fun i => ∃ k : Nat, k ≤ s.size ∧ i = .int .i64 k ∧ AllW s k) (fun i => s.size - (intOf i).toNat)
      case atStart => exact ⟨0, Nat.zero_le _, rfl, fun i hi => absurd hi (Nat.not_lt_zero i)⟩
      case round =>
        obtain ⟨k, hk, rfl, hA⟩ := hrel
        have HA := Lib.hid hA
        clear hA
        by_cases hlt : k < s.size
        · have e := bt_get hlt
          have b := bt_bd s k
          obtain ⟨c0, c1⟩ := b
          cases hw : wrdB (bt s k)
          · have HN : Hid (false = nameB s) := Lib.hid (nameB_no fun h => by have := h.all k hlt; rw [hw] at this; cases this)
            have h3 := wrd_no hw
            obtain ⟨h31, h32, h33⟩ := h3
            clear hw
            go_wp2_with (first | (go_at_call 151; refine (ref01_letter _ _ (by omega) (by omega)).mono ?_; rintro e w' ⟨rfl, rfl⟩) | (go_at_call 152; refine (ref01_digit _ _ (by omega) (by omega)).mono ?_; rintro e w' ⟨rfl, rfl⟩))
            go_ret
            exact ⟨ret_bool HN.out, rfl⟩
          · have HN := Lib.hid hw
            have HY := Lib.hid (wrd_yes hw)
            clear hw
            rcases HY.out with h31 | ⟨h31, h32⟩ | ⟨h31, h32, h33⟩
            all_goals
              go_wp2_with (first | (go_at_call 151; refine (ref01_letter _ _ (by omega) (by omega)).mono ?_; rintro e w' ⟨rfl, rfl⟩) | (go_at_call 152; refine (ref01_digit _ _ (by omega) (by omega)).mono ?_; rintro e w' ⟨rfl, rfl⟩))
              go_round
              case rel => exact ⟨k + 1, by omega, by go_num, fun i hi => by
                by_cases e : i = k
                · subst e; exact HN.out
                · exact HA.out i (by omega)⟩
              case measure => simp [intOf]; omega
        · obtain rfl : k = s.size := by omega
          have HN : Hid (true = nameB s) := Lib.hid (nameB_yes ⟨h20, p, HA.out, HL.out⟩)
          go_wp2
          go_ret
          exact ⟨ret_bool HN.out, rfl⟩
  · have HN : Hid (false = nameB s) := Lib.hid (nameB_no fun h => h20 ⟨h.pos, h.len⟩)
    have h20' : s.size = 0 ∨ 20 < s.size := by omega
    clear h20
    rcases h20' with h20 | h20
    · obtain rfl : s = ByteArray.empty := ByteArray.ext (Array.eq_empty_of_size_eq_zero h20)
      go_enter Tryz.func112, Tryz.ntmps112
      go_wp2
      go_ret
      exact ⟨ret_bool HN.out, rfl⟩
    · have hne : ¬ s = ByteArray.empty := by rintro rfl; simp at h20
      go_enter Tryz.func112, Tryz.ntmps112
      go_wp2
      go_ret
      exact ⟨ret_bool HN.out, rfl⟩
end Go.Proofs.YtmomoeagnkjbiaaGreat
