/- Contracts and plain laws, several texts in one: Pg1; APlain; Angle; RtP; FxM; Trk; Pg2; Pg3; Sid1; Inc1; Pg4; Pg5; Rf1; Rf4 -/
import Derived.Test.YtnnmfdeeicpdlaaGreatProg
import Derived.WalkKit
import Derived.WalkSpells
import Derived.WalkLawsBesides
import Derived.Lib.Hide
import Derived.BigQuiet
import Derived.Deep.Slices
import Derived.Deep.Fields
import Derived.ChangeSame
import Derived.WideShapes
import Derived.ChangeShapes
import Derived.Lib.SmallJoins
import Derived.Deep.RegionWith
import Derived.Maps.Own
import Derived.Test.YtnnmfdeeicpdlaaGreatHAC
import Derived.Test.YtnnmfdeeicpdlaaGreatHAD
import Derived.Test.YtnnmfdeeicpdlaaGreatHAE
import Derived.Test.YtnnmfdeeicpdlaaGreatHAF
import Derived.Test.YtnnmfdeeicpdlaaGreatHAS
/- Names: package decimal's and the reference's. -/
namespace Go.Proofs.YtnnmfdeeicpdlaaGreat
set_option maxHeartbeats 1000000
open Go.RowKit

def letB (c : Int) : Bool := decide ((97 ≤ c ∧ c ≤ 122) ∨ (65 ≤ c ∧ c ≤ 90))
def digB (c : Int) : Bool := decide (48 ≤ c ∧ c ≤ 57)
def wrdB (c : Int) : Bool := letB c || digB c || c == 95
theorem letB_iff {c : Int} : letB c = true ↔ (97 ≤ c ∧ c ≤ 122) ∨ (65 ≤ c ∧ c ≤ 90) := by simp [letB]
theorem digB_iff {c : Int} : digB c = true ↔ 48 ≤ c ∧ c ≤ 57 := by simp [digB]
theorem dec_letter (c : Int) (w : World) (h0 : 0 ≤ c) (h1 : c ≤ 255) :
    Calls Tryz.prog 217 #[.int .u8 c] w fun e w' => e = .returned (.bool (letB c)) ∧ w' = w := by
  go_enter Tryz.func217, Tryz.ntmps217
  go_wp2
  all_goals go_ret
  all_goals exact ⟨ret_bool (by rw [Bool.eq_iff_iff, letB_iff]; simp; omega), rfl⟩
theorem dec_digit (c : Int) (w : World) (h0 : 0 ≤ c) (h1 : c ≤ 255) :
    Calls Tryz.prog 260 #[.int .u8 c] w fun e w' => e = .returned (.bool (digB c)) ∧ w' = w := by
  go_enter Tryz.func260, Tryz.ntmps260
  go_wp2
  all_goals go_ret
  all_goals exact ⟨ret_bool (by rw [Bool.eq_iff_iff, digB_iff]; simp; omega), rfl⟩
theorem dec_word (c : Int) (w : World) (h0 : 0 ≤ c) (h1 : c ≤ 255) :
    Calls Tryz.prog 216 #[.int .u8 c] w fun e w' => e = .returned (.bool (wrdB c)) ∧ w' = w := by
  go_enter Tryz.func216, Tryz.ntmps216
  go_wp2_with (first | (go_at_call 217; refine (dec_letter _ _ h0 h1).mono ?_; rintro e w' ⟨rfl, rfl⟩) | (go_at_call 260; refine (dec_digit _ _ h0 h1).mono ?_; rintro e w' ⟨rfl, rfl⟩))
  all_goals go_ret
  all_goals exact ⟨ret_bool (by simp [wrdB, *]), rfl⟩
def bt (s : ByteArray) (i : Nat) : Int := ((s.data.toList.getD i 0).toNat : Int)
theorem bt_get {s : ByteArray} {i : Nat} (h : i < s.size) : ((s[i]'h).toNat : Int) = bt s i := by
  unfold bt
  rw [List.getD_eq_getElem?_getD, List.getElem?_eq_getElem (by simpa using h)]
  rfl
theorem bt_bd (s : ByteArray) (i : Nat) : 0 ≤ bt s i ∧ bt s i ≤ 255 := by
  unfold bt
  have := (s.data.toList.getD i 0).toNat_lt
  omega
def AllW (s : ByteArray) (k : Nat) : Prop := ∀ i, i < k → wrdB (bt s i) = true
structure Name (s : ByteArray) : Prop where
  len : s.size ≤ 20
  pos : 0 < s.size
  all : AllW s s.size
  hd : letB (bt s 0) = true
noncomputable def nameB (s : ByteArray) : Bool := @decide (Name s) (Classical.propDecidable _)
theorem nameB_iff {s : ByteArray} : nameB s = true ↔ Name s := by unfold nameB; simp
theorem nameB_no {s : ByteArray} (h : ¬ Name s) : false = nameB s := by cases e : nameB s; rfl; exact absurd (nameB_iff.1 e) h
theorem nameB_yes {s : ByteArray} (h : Name s) : true = nameB s := (nameB_iff.2 h).symm
noncomputable def allwB (s : ByteArray) : Bool := @decide (0 < s.size ∧ AllW s s.size) (Classical.propDecidable _)
theorem allwB_iff {s : ByteArray} : allwB s = true ↔ 0 < s.size ∧ AllW s s.size := by unfold allwB; simp
theorem allwB_no {s : ByteArray} (h : ¬ (0 < s.size ∧ AllW s s.size)) : false = allwB s := by cases e : allwB s; rfl; exact absurd (allwB_iff.1 e) h
theorem str_all {s : ByteArray} (h : AllW s s.size) : (!s.toList.isEmpty) = allwB s := by
  rw [Bool.eq_iff_iff, allwB_iff, ByteArray.toList_eq]
  have e : s.size = s.data.toList.length := by simp
  rw [Bool.not_eq_true', List.isEmpty_eq_false_iff]
  constructor
  · intro h1; exact ⟨by rw [e]; exact List.length_pos_iff.2 h1, h⟩
  · intro h1 h2; rw [h2, List.length_nil] at e; have := h1.1; omega
theorem dec_all (s : ByteArray) (w : World) (hs : s.size ≤ 9223372036854775807) :
    Calls Tryz.prog 215 #[.string s, .func (.func 216) #[] #[]] w fun e w' => e = .returned (.bool (allwB s)) ∧ w' = w := by
  go_enter Tryz.func215, Tryz.ntmps215
  go_wp2_with fail
  go_loop [8] (fun i => ∃ k : Nat, k ≤ s.size ∧ i = .int .i64 k ∧ AllW s k) (fun i => s.size - (intOf i).toNat)
  case atStart => exact ⟨0, Nat.zero_le _, rfl, fun i hi => absurd hi (Nat.not_lt_zero i)⟩
  case round =>
    obtain ⟨k, hk, rfl, hA⟩ := hrel
    have HA := Lib.hid hA
    clear hA
    by_cases hlt : k < s.size
    · have e := bt_get hlt
      have b := bt_bd s k
      cases hw : wrdB (bt s k)
      · have HN : Hid (false = allwB s) := Lib.hid (allwB_no fun h => by have := h.2 k hlt; rw [hw] at this; cases this)
        go_wp2_with (go_at_call 216; refine (dec_word _ _ (by omega) (by omega)).mono ?_; rintro e w' ⟨rfl, rfl⟩)
        go_ret
        exact ⟨ret_bool HN.out, rfl⟩
      · have HN := Lib.hid hw
        go_wp2_with (go_at_call 216; refine (dec_word _ _ (by omega) (by omega)).mono ?_; rintro e w' ⟨rfl, rfl⟩)
        go_round
        case rel => exact ⟨k + 1, by omega, by go_num, fun i hi => by
          by_cases e : i = k
          · subst e; exact HN.out
          · exact HA.out i (by omega)⟩
        case measure => simp [intOf]; omega
    · obtain rfl : k = s.size := by omega
      have HN : Hid ((!s.toList.isEmpty) = allwB s) := Lib.hid (str_all HA.out)
      go_wp2
      go_ret
      exact ⟨ret_bool HN.out, rfl⟩
theorem dec_IsName (s : ByteArray) (w : World) (hs : s.size ≤ 9223372036854775807) :
    Calls Tryz.prog 155 #[.string s] w fun e w' => e = .returned (.bool (nameB s)) ∧ w' = w := by
  by_cases h20 : s.size ≤ 20
  · cases ha : allwB s
    · have HN : Hid (false = nameB s) := Lib.hid (nameB_no fun h => by have := allwB_iff.2 ⟨h.pos, h.all⟩; rw [ha] at this; cases this)
      go_enter Tryz.func155, Tryz.ntmps155
      go_wp2_with (go_at_call 215; refine (dec_all s _ hs).mono ?_; rintro e w' ⟨rfl, rfl⟩)
      go_ret
      exact ⟨ret_bool HN.out, rfl⟩
    · obtain ⟨p, q⟩ := allwB_iff.1 ha
      have e := bt_get p
      have b := bt_bd s 0
      obtain ⟨b0, b1⟩ := b
      cases hl : letB (bt s 0)
      · have HN : Hid (false = nameB s) := Lib.hid (nameB_no fun h => by have := h.hd; rw [hl] at this; cases this)
        clear q
        go_enter Tryz.func155, Tryz.ntmps155
        go_wp2_with (first | (go_at_call 215; refine (dec_all s _ hs).mono ?_; rintro e w' ⟨rfl, rfl⟩) | (go_at_call 217; refine (dec_letter _ _ (by omega) (by omega)).mono ?_; rintro e w' ⟨rfl, rfl⟩))
        go_ret
        exact ⟨ret_bool HN.out, rfl⟩
      · have HN : Hid (true = nameB s) := Lib.hid (nameB_yes ⟨h20, p, q, hl⟩)
        clear q
        go_enter Tryz.func155, Tryz.ntmps155
        go_wp2_with (first | (go_at_call 215; refine (dec_all s _ hs).mono ?_; rintro e w' ⟨rfl, rfl⟩) | (go_at_call 217; refine (dec_letter _ _ (by omega) (by omega)).mono ?_; rintro e w' ⟨rfl, rfl⟩))
        go_ret
        exact ⟨ret_bool HN.out, rfl⟩
  · have HN : Hid (false = nameB s) := Lib.hid (nameB_no fun h => h20 h.len)
    go_enter Tryz.func155, Tryz.ntmps155
    go_wp2
    go_ret
    exact ⟨ret_bool HN.out, rfl⟩
end Go.Proofs.YtnnmfdeeicpdlaaGreat
/- Audit, the plain law: steps, differences, possible lists, repairs. No program in sight. -/
namespace Go.Proofs.YtnnmfdeeicpdlaaGreat
open Go.RowKit

def nth (g : List Int) (i : Nat) : Int := g.getD i 0
theorem nth_set (l : List Int) (at_ : Nat) (v : Int) (h : at_ < l.length) (i : Nat) : nth (l.set at_ v) i = if i = at_ then v else nth l i := by
  unfold nth
  by_cases e : i = at_
  · subst e; rw [if_pos rfl]; simp [List.getD, h]
  · rw [if_neg e]
    simp only [List.getD]
    rw [List.getElem?_set_ne (fun h => e h.symm)]
end Go.Proofs.YtnnmfdeeicpdlaaGreat
/- Contracts of package angle and of its reference, as far as the translation has them. -/
namespace Go.Proofs.YtnnmfdeeicpdlaaGreat
set_option maxHeartbeats 400000
open Go.RowKit

def fitsB (n : Int) : Bool := decide (-1099511627776 ≤ n ∧ n ≤ 1099511627776)
theorem fits_yes {n : Int} (h1 : -1099511627776 ≤ n) : decide (n ≤ 1099511627776) = fitsB n := by
  unfold fitsB; simp [h1]
theorem fits_no {n : Int} (h1 : n < -1099511627776) : false = fitsB n := by
  unfold fitsB; simp; omega
def validB (lo hi : Int) : Bool := decide (lo ≤ hi ∧ -1099511627776 ≤ lo ∧ hi ≤ 1099511627776)
theorem validB_iff {lo hi : Int} : validB lo hi = true ↔ lo ≤ hi ∧ -1099511627776 ≤ lo ∧ hi ≤ 1099511627776 := by simp [validB]
theorem validB_eq {lo hi : Int} : validB lo hi = (decide (lo ≤ hi) && fitsB lo && fitsB hi) := by
  rw [Bool.eq_iff_iff]; simp [validB, fitsB]; omega
theorem angle_fits (n : Int) (w : World) :
    Calls Tryz.prog 115 #[.int .i64 n] w fun e w' => e = .returned (.bool (fitsB n)) ∧ w' = w := by
  go_enter Tryz.func115, Tryz.ntmps115
  go_wp2
  · go_ret
    exact ⟨ret_bool (fits_yes ‹_›), rfl⟩
  · go_ret
    exact ⟨ret_bool (fits_no ‹_›), rfl⟩
theorem valid_ways1 {lo hi : Int} (h : lo ≤ hi) (h2 : fitsB lo = true) : fitsB hi = validB lo hi := by simp [validB_eq, *]
theorem valid_ways2 {lo hi : Int} (h2 : ¬ fitsB lo = true) : false = validB lo hi := by simp [validB_eq, *]
theorem valid_ways3 {lo hi : Int} (h2 : hi < lo) : false = validB lo hi := by
  have : ¬ lo ≤ hi := by omega
  simp [validB_eq, *]
theorem angle_Valid (lo hi : Int) (w : World) :
    Calls Tryz.prog 39 #[(.agg #[.int .i64 (lo), .int .i64 (hi)])] w fun e w' => e = .returned (.bool (validB lo hi)) ∧ ∃ d, w' = bw w d := by
  refine lay_start ?_
  go_enter Tryz.func39, Tryz.ntmps39
  go_wp2_with (go_at_call 115; refine (angle_fits _ _).mono ?_; rintro e w' ⟨rfl, rfl⟩)
  all_goals go_ret
  all_goals exact ⟨ret_bool (by first | exact valid_ways1 ‹_› ‹_› | exact valid_ways2 ‹_› | exact valid_ways3 ‹_›), lay_ex _ _⟩
theorem ref05_Valid (lo hi : Int) (w : World) :
    Calls Tryz.prog 50 #[(.agg #[.int .i64 (lo), .int .i64 (hi)])] w fun e w' => e = .returned (.bool (validB lo hi)) ∧ ∃ d, w' = bw w d := by
  refine lay_start ?_
  go_enter Tryz.func50, Tryz.ntmps50
  go_wp2
  all_goals go_ret
  all_goals exact ⟨ret_bool (by rw [Bool.eq_iff_iff]; simp [validB]; omega), lay_ex _ _⟩
theorem angle_Wrap (n : Int) (w : World) :
    Calls Tryz.prog 91 #[.int .i64 n] w fun e w' => e = .returned (.int .i64 (n % 21600000)) ∧ w' = w := by
  have hb := tmod_bd n 21600000 (by decide)
  go_enter Tryz.func91, Tryz.ntmps91
  go_wp2
  · go_ret
    exact ⟨ret_int ((tmod_wrap n 21600000 (by decide)).1 ‹_›), rfl⟩
  · go_ret
    exact ⟨ret_int ((tmod_wrap n 21600000 (by decide)).2 ‹_›), rfl⟩
theorem ref05_Wrap (n : Int) (w : World) :
    Calls Tryz.prog 177 #[.int .i64 n] w fun e w' => e = .returned (.int .i64 (n % 21600000)) ∧ w' = w := by
  have hb := tmod_bd n 21600000 (by decide)
  go_enter Tryz.func177, Tryz.ntmps177
  go_wp2
  · go_ret
    exact ⟨ret_int ((tmod_wrap n 21600000 (by decide)).1 ‹_›), rfl⟩
  · go_ret
    exact ⟨ret_int ((tmod_wrap n 21600000 (by decide)).2 ‹_›), rfl⟩

def mn (x y : Int) : Int := if y < x then y else x
def mx (x y : Int) : Int := if x < y then y else x
theorem mn_eq (x y : Int) : mn x y = min x y := by unfold mn; split <;> omega
theorem mx_eq (x y : Int) : mx x y = max x y := by unfold mx; split <;> omega
section
variable {P : Program} {w : World}
theorem run_mn (ts : Array TypeId) (t : TypeId) (k k' : IntKind) (x y : Int) : (Builtin.min_ ts t #[.int k x, .int k' y]).run P w = .ok (.int k (mn x y)) w := run_min_int2 w ts t k k' x y
theorem run_mx (ts : Array TypeId) (t : TypeId) (k k' : IntKind) (x y : Int) : (Builtin.max_ ts t #[.int k x, .int k' y]).run P w = .ok (.int k (mx x y)) w := run_max_int2 w ts t k k' x y
end
attribute [go_sem ↓] run_mn run_mx

def turnLo (x0 y0 : Int) : Int := if 21600000 ≤ y0 - x0 then 0 else x0 % 21600000
def turnHi (x0 y0 : Int) : Int := if 21600000 ≤ y0 - x0 then 21600000 else x0 % 21600000 + (y0 - x0)
theorem angle_Turn (x0 y0 : Int) (w : World) (h1 : validB x0 y0 = true) :
    Calls Tryz.prog 21 #[(.agg #[.int .i64 (x0), .int .i64 (y0)])] w fun e w' => e = .returned (.tuple #[(.agg #[.int .i64 (turnLo x0 y0), .int .i64 (turnHi x0 y0)]), .int .i64 0]) ∧ ∃ d, w' = bw w d := by
  obtain ⟨g1, g2, g3⟩ := validB_iff.1 h1
  refine lay_start ?_
  go_enter Tryz.func21, Tryz.ntmps21
  go_wp2_with (first | (go_at_call 39; refine (angle_Valid _ _ _).mono ?_; rintro e w' ⟨rfl, d, rfl⟩) | (go_at_call 91; refine (angle_Wrap _ _).mono ?_; rintro e w' ⟨rfl, rfl⟩))
  all_goals exact bodyPost_ret (v := .tuple #[(.agg #[.int .i64 (turnLo x0 y0), .int .i64 (turnHi x0 y0)]), .int .i64 0]) (by simp [results, Tryz.results21, go_sem, turnLo, turnHi]; omega) rfl ⟨rfl, lay_ex _ _⟩
theorem ref05_Turn (x0 y0 : Int) (w : World) (h1 : -4611686018427387904 ≤ x0) (h2 : x0 ≤ y0) (h3 : y0 ≤ 4611686018427387903) :
    Calls Tryz.prog 90 #[(.agg #[.int .i64 (x0), .int .i64 (y0)])] w fun e w' => e = .returned (.agg #[.int .i64 (turnLo x0 y0), .int .i64 (turnHi x0 y0)]) ∧ ∃ d, w' = bw w d := by
  refine lay_start ?_
  go_enter Tryz.func90, Tryz.ntmps90
  go_wp2_with (go_at_call 177; refine (ref05_Wrap _ _).mono ?_; rintro e w' ⟨rfl, rfl⟩)
  all_goals exact bodyPost_ret (v := (.agg #[.int .i64 (turnLo x0 y0), .int .i64 (turnHi x0 y0)])) (by simp [results, Tryz.results90, go_sem, turnLo, turnHi]; omega) rfl ⟨rfl, lay_ex _ _⟩

theorem ref05_Sub (x0 y0 x1 y1 : Int) (w : World) (h1 : -9223372036854775807 ≤ x0 - y1) (h2 : x0 - y1 ≤ 9223372036854775807) (h3 : -9223372036854775807 ≤ y0 - x1) (h4 : y0 - x1 ≤ 9223372036854775807) :
    Calls Tryz.prog 58 #[(.agg #[.int .i64 (x0), .int .i64 (y0)]), (.agg #[.int .i64 (x1), .int .i64 (y1)])] w fun e w' => e = .returned (.agg #[.int .i64 (x0 - y1), .int .i64 (y0 - x1)]) ∧ ∃ d, w' = bw w d := by
  refine lay_start ?_
  go_enter Tryz.func58, Tryz.ntmps58
  go_wp2
  exact bodyPost_ret (v := (.agg #[.int .i64 (x0 - y1), .int .i64 (y0 - x1)])) (by simp [results, Tryz.results58, go_sem]) rfl ⟨rfl, lay_ex _ _⟩
end Go.Proofs.YtnnmfdeeicpdlaaGreat
/- Products of intervals, scaled by a rate: plain laws, no walk. -/
namespace Go.Proofs.YtnnmfdeeicpdlaaGreat
open Go.RowKit

def m4 (a0 a1 b0 b1 : Int) : Int := mn (mn (mn (a0 * b0) (a0 * b1)) (a1 * b0)) (a1 * b1)
def x4 (a0 a1 b0 b1 : Int) : Int := mx (mx (mx (a0 * b0) (a0 * b1)) (a1 * b0)) (a1 * b1)
theorem mn4_is (x y z u : Int) : (mn (mn (mn x y) z) u ≤ x ∧ mn (mn (mn x y) z) u ≤ y ∧ mn (mn (mn x y) z) u ≤ z ∧ mn (mn (mn x y) z) u ≤ u) ∧ (mn (mn (mn x y) z) u = x ∨ mn (mn (mn x y) z) u = y ∨ mn (mn (mn x y) z) u = z ∨ mn (mn (mn x y) z) u = u) := by
  simp only [mn_eq]; omega
theorem mx4_is (x y z u : Int) : (x ≤ mx (mx (mx x y) z) u ∧ y ≤ mx (mx (mx x y) z) u ∧ z ≤ mx (mx (mx x y) z) u ∧ u ≤ mx (mx (mx x y) z) u) ∧ (mx (mx (mx x y) z) u = x ∨ mx (mx (mx x y) z) u = y ∨ mx (mx (mx x y) z) u = z ∨ mx (mx (mx x y) z) u = u) := by
  simp only [mx_eq]; omega
theorem lin1 {a0 a1 x k : Int} (h0 : a0 ≤ x) (h1 : x ≤ a1) : (a0 * k ≤ x * k ∨ a1 * k ≤ x * k) ∧ (x * k ≤ a0 * k ∨ x * k ≤ a1 * k) := by
  rcases Int.le_total 0 k with h | h
  · exact ⟨.inl (Int.mul_le_mul_of_nonneg_right h0 h), .inr (Int.mul_le_mul_of_nonneg_right h1 h)⟩
  · exact ⟨.inr (Int.mul_le_mul_of_nonpos_right h1 h), .inl (Int.mul_le_mul_of_nonpos_right h0 h)⟩
theorem box_mul {a0 a1 b0 b1 x y : Int} (h0 : a0 ≤ x) (h1 : x ≤ a1) (g0 : b0 ≤ y) (g1 : y ≤ b1) : m4 a0 a1 b0 b1 ≤ x * y ∧ x * y ≤ x4 a0 a1 b0 b1 := by
  obtain ⟨e1, e2⟩ := lin1 (k := y) h0 h1
  obtain ⟨f1, f2⟩ := lin1 (k := a0) g0 g1
  obtain ⟨i1, i2⟩ := lin1 (k := a1) g0 g1
  rw [Int.mul_comm b0 a0, Int.mul_comm b1 a0, Int.mul_comm y a0] at f1 f2
  rw [Int.mul_comm b0 a1, Int.mul_comm b1 a1, Int.mul_comm y a1] at i1 i2
  have hm := (mn4_is (a0 * b0) (a0 * b1) (a1 * b0) (a1 * b1)).1
  have hx := (mx4_is (a0 * b0) (a0 * b1) (a1 * b0) (a1 * b1)).1
  unfold m4 x4
  omega
theorem box_part {a0 a1 b0 b1 c0 c1 d0 d1 : Int} (h0 : a0 ≤ c0) (h : c0 ≤ c1) (h1 : c1 ≤ a1) (g0 : b0 ≤ d0) (g : d0 ≤ d1) (g1 : d1 ≤ b1) : m4 a0 a1 b0 b1 ≤ m4 c0 c1 d0 d1 ∧ x4 c0 c1 d0 d1 ≤ x4 a0 a1 b0 b1 := by
  have p1 := box_mul (a0 := a0) (a1 := a1) (b0 := b0) (b1 := b1) (x := c0) (y := d0) h0 (by omega) g0 (by omega)
  have p2 := box_mul (a0 := a0) (a1 := a1) (b0 := b0) (b1 := b1) (x := c0) (y := d1) h0 (by omega) (show b0 ≤ d1 by omega) g1
  have p3 := box_mul (a0 := a0) (a1 := a1) (b0 := b0) (b1 := b1) (x := c1) (y := d0) (show a0 ≤ c1 by omega) h1 g0 (by omega)
  have p4 := box_mul (a0 := a0) (a1 := a1) (b0 := b0) (b1 := b1) (x := c1) (y := d1) (show a0 ≤ c1 by omega) h1 (show b0 ≤ d1 by omega) g1
  have hm := (mn4_is (c0 * d0) (c0 * d1) (c1 * d0) (c1 * d1)).2
  have hx := (mx4_is (c0 * d0) (c0 * d1) (c1 * d0) (c1 * d1)).2
  constructor
  · show m4 a0 a1 b0 b1 ≤ mn (mn (mn (c0 * d0) (c0 * d1)) (c1 * d0)) (c1 * d1); omega
  · show mx (mx (mx (c0 * d0) (c0 * d1)) (c1 * d0)) (c1 * d1) ≤ x4 a0 a1 b0 b1; omega
theorem prod_in {X x k : Int} (h0 : 0 ≤ X) (hX : -X ≤ x ∧ x ≤ X) (hK : -X ≤ k ∧ k ≤ X) : -(X * X) ≤ x * k ∧ x * k ≤ X * X := by
  have h1 : (x * k).natAbs ≤ X.natAbs * X.natAbs := by rw [Int.natAbs_mul]; exact Nat.mul_le_mul (by omega) (by omega)
  have h2 : ((X.natAbs * X.natAbs : Nat) : Int) = X * X := by rw [Int.natCast_mul, Int.natAbs_of_nonneg h0]
  rw [← h2]
  omega
theorem box_in {X a0 a1 b0 b1 : Int} (h0 : 0 ≤ X) (ha : -X ≤ a0 ∧ a0 ≤ X) (ha1 : -X ≤ a1 ∧ a1 ≤ X) (hb : -X ≤ b0 ∧ b0 ≤ X) (hb1 : -X ≤ b1 ∧ b1 ≤ X) : -(X * X) ≤ m4 a0 a1 b0 b1 ∧ m4 a0 a1 b0 b1 ≤ x4 a0 a1 b0 b1 ∧ x4 a0 a1 b0 b1 ≤ X * X := by
  have p1 := prod_in h0 ha hb
  have p2 := prod_in h0 ha hb1
  have p3 := prod_in h0 ha1 hb
  have p4 := prod_in h0 ha1 hb1
  have hm := mn4_is (a0 * b0) (a0 * b1) (a1 * b0) (a1 * b1)
  have hx := mx4_is (a0 * b0) (a0 * b1) (a1 * b0) (a1 * b1)
  unfold m4 x4
  omega
def mulL (a0 a1 b0 b1 : Int) : Int := m4 a0 a1 b0 b1 / 1073741824
def mulH (a0 a1 b0 b1 : Int) : Int := -((-(x4 a0 a1 b0 b1)) / 1073741824)
theorem mul_unit {a0 a1 b0 b1 : Int} (ha : -1073741824 ≤ a0) (ha1 : a0 ≤ a1) (ha2 : a1 ≤ 1073741824) (hb : -1073741824 ≤ b0) (hb1 : b0 ≤ b1) (hb2 : b1 ≤ 1073741824) :
    -1073741824 ≤ mulL a0 a1 b0 b1 ∧ mulL a0 a1 b0 b1 ≤ mulH a0 a1 b0 b1 ∧ mulH a0 a1 b0 b1 ≤ 1073741824 := by
  have h := box_in (X := 1073741824) (by decide) (a0 := a0) (a1 := a1) (b0 := b0) (b1 := b1) ⟨ha, by omega⟩ ⟨by omega, ha2⟩ ⟨hb, by omega⟩ ⟨by omega, hb2⟩
  unfold mulL mulH
  omega
theorem mul_part {a0 a1 b0 b1 c0 c1 d0 d1 : Int} (h0 : a0 ≤ c0) (h : c0 ≤ c1) (h1 : c1 ≤ a1) (g0 : b0 ≤ d0) (g : d0 ≤ d1) (g1 : d1 ≤ b1) : mulL a0 a1 b0 b1 ≤ mulL c0 c1 d0 d1 ∧ mulH c0 c1 d0 d1 ≤ mulH a0 a1 b0 b1 := by
  have := box_part h0 h h1 g0 g g1
  unfold mulL mulH
  omega
theorem mul_pos {a0 a1 b0 b1 : Int} (h0 : 0 ≤ a0) (h : a0 ≤ a1) (g0 : 0 ≤ b0) (g : b0 ≤ b1) : 0 ≤ mulL a0 a1 b0 b1 := by
  have p1 := Int.mul_nonneg h0 g0
  have p2 := Int.mul_nonneg h0 (show 0 ≤ b1 by omega)
  have p3 := Int.mul_nonneg (show 0 ≤ a1 by omega) g0
  have p4 := Int.mul_nonneg (show 0 ≤ a1 by omega) (show 0 ≤ b1 by omega)
  have hm := (mn4_is (a0 * b0) (a0 * b1) (a1 * b0) (a1 * b1)).2
  unfold mulL m4
  omega
theorem mul_neg {a0 a1 b0 b1 : Int} (h0 : 0 ≤ a0) (h : a0 ≤ a1) (g0 : b0 ≤ b1) (g : b1 ≤ 0) : mulH a0 a1 b0 b1 ≤ 0 := by
  have p1 := Int.mul_nonpos_of_nonneg_of_nonpos h0 (show b0 ≤ 0 by omega)
  have p2 := Int.mul_nonpos_of_nonneg_of_nonpos h0 g
  have p3 := Int.mul_nonpos_of_nonneg_of_nonpos (show 0 ≤ a1 by omega) (show b0 ≤ 0 by omega)
  have p4 := Int.mul_nonpos_of_nonneg_of_nonpos (show 0 ≤ a1 by omega) g
  have hx := (mx4_is (a0 * b0) (a0 * b1) (a1 * b0) (a1 * b1)).2
  unfold mulH x4
  omega
end Go.Proofs.YtnnmfdeeicpdlaaGreat
/- fixed: Valid, floor, ceil, fit, Mul, Sub, Add, without average's functions. -/
namespace Go.Proofs.YtnnmfdeeicpdlaaGreat
set_option maxRecDepth 100000
open Go.RowKit

section
variable {P : Program} {w : World}
theorem run_mn4 (ts : Array TypeId) (t : TypeId) (k k' k'' k3 : IntKind) (x y z u : Int) : (Builtin.min_ ts t #[.int k x, .int k' y, .int k'' z, .int k3 u]).run P w = .ok (.int k (mn (mn (mn x y) z) u)) w := by
  simp [Builtin.min_, Builtin.min2, mn]
  rfl
theorem run_mx4 (ts : Array TypeId) (t : TypeId) (k k' k'' k3 : IntKind) (x y z u : Int) : (Builtin.max_ ts t #[.int k x, .int k' y, .int k'' z, .int k3 u]).run P w = .ok (.int k (mx (mx (mx x y) z) u)) w := by
  simp [Builtin.max_, Builtin.max2, mx]
  rfl
end
attribute [go_sem ↓] run_mn4 run_mx4
def fxB (lo hi : Int) : Bool := decide (lo ≤ hi ∧ -2147483648 ≤ lo ∧ hi ≤ 2147483648)
theorem fxB_iff {lo hi : Int} : fxB lo hi = true ↔ lo ≤ hi ∧ -2147483648 ≤ lo ∧ hi ≤ 2147483648 := by simp [fxB]
theorem fx_ValidG (lo hi : Int) (w : World) :
    Calls Tryz.prog 116 #[(.agg #[.int .i64 (lo), .int .i64 (hi)])] w fun e w' => e = .returned (.bool (fxB lo hi)) ∧ ∃ d, w' = bw w d := by
  refine lay_start ?_
  go_enter Tryz.func116, Tryz.ntmps116
  go_wp2
  all_goals go_ret
  all_goals exact ⟨ret_bool (by rw [Bool.eq_iff_iff]; simp [fxB]; omega), lay_ex _ _⟩
theorem fx_bothG (a b c d : Int) (w : World) :
    Calls Tryz.prog 94 #[(.agg #[.int .i64 (a), .int .i64 (b)]), (.agg #[.int .i64 (c), .int .i64 (d)])] w fun e w' => e = .returned (.bool (fxB a b && fxB c d)) ∧ ∃ d, w' = bw w d := by
  have H1 := Lib.hid (fun W => fx_ValidG a b W)
  have H2 := Lib.hid (fun W => fx_ValidG c d W)
  generalize fxB a b = x at *
  generalize fxB c d = y at *
  cases x <;> cases y
  all_goals
    refine lay_start ?_
    go_enter Tryz.func94, Tryz.ntmps94
    go_wp2_with (go_at_call 116; first | (with_reducible refine (H1.out _).mono ?_; rintro e w' ⟨rfl, d1, rfl⟩) | (with_reducible refine (H2.out _).mono ?_; rintro e w' ⟨rfl, d2, rfl⟩))
    go_ret
    exact ⟨rfl, lay_ex _ _⟩
theorem fx_floorG (a b : Int) (w : World) (hb : 1 ≤ b) (h1 : -9223372036854775807 ≤ a) (h2 : a ≤ 9223372036854775807) :
    Calls Tryz.prog 96 #[.int .i64 a, .int .i64 b] w fun e w' => e = .returned (.int .i64 (a / b)) ∧ w' = w := by
  have hb0 : ¬ b < 0 := by omega
  by_cases hr : a.tmod b < 0
  · have e0 := floor_neg hb hr
    have hbd := ediv_bd hb 9223372036854775807 (by decide) h1 h2
    have hk : IntKind.i64.wrap (a / b) = a / b := IntWalk.i64_in _ (by omega)
    obtain ⟨q, hq⟩ : ∃ q, a / b = q := ⟨_, rfl⟩
    rw [hq] at e0 hk ⊢
    have ha : a < 0 := by
      rcases Int.lt_or_le a 0 with h | h
      · exact h
      · rw [Int.tmod_eq_emod_of_nonneg h] at hr; have := Int.emod_nonneg a (show b ≠ 0 by omega); omega
    have hz : (a.tmod b != 0) = true := bne_iff_ne.2 (by omega)
    go_enter Tryz.func96, Tryz.ntmps96
    go_wp2_with fail
    go_ret
    exact ⟨rfl, rfl⟩
  · have e0 := floor_pos (a := a) hb (by omega)
    obtain ⟨q, hq⟩ : ∃ q, a / b = q := ⟨_, rfl⟩
    have hbd := ediv_bd hb 9223372036854775807 (by decide) h1 h2
    have hk : IntKind.i64.wrap (a / b) = a / b := IntWalk.i64_in _ (by omega)
    rw [hq] at e0 hk ⊢
    by_cases ha : a < 0
    · have hz : (a.tmod b != 0) = false := by
        have h3 : a.tmod b = -((-a) % b) := by
          have := Int.neg_tmod (a := -a) (b := b)
          rw [Int.neg_neg] at this
          rw [this, Int.tmod_eq_emod_of_nonneg (by omega)]
        have h4 := Int.emod_nonneg (-a) (show b ≠ 0 by omega)
        have : a.tmod b = 0 := by omega
        rw [this]; rfl
      go_enter Tryz.func96, Tryz.ntmps96
      go_wp2_with fail
      go_ret
      exact ⟨rfl, rfl⟩
    · go_enter Tryz.func96, Tryz.ntmps96
      go_wp2_with fail
      all_goals
        go_ret
        exact ⟨rfl, rfl⟩
theorem fx_ceilG (a b : Int) (w : World) (hb : 1 ≤ b) (h1 : -9223372036854775807 ≤ a) (h2 : a ≤ 9223372036854775807) :
    Calls Tryz.prog 97 #[.int .i64 a, .int .i64 b] w fun e w' => e = .returned (.int .i64 (-((-a) / b))) ∧ w' = w := by
  have HF := Lib.hid (fun W => fx_floorG (-a) b W hb (by omega) (by omega))
  have k1 : IntKind.i64.wrap (-a) = -a := IntWalk.i64_in _ (by omega)
  have hbd := ediv_bd hb 9223372036854775807 (by decide) (show -9223372036854775807 ≤ -a by omega) (by omega)
  have k2 : IntKind.i64.wrap (-((-a) / b)) = -((-a) / b) := IntWalk.i64_in _ (by omega)
  obtain ⟨m, hm⟩ : ∃ m, -a = m := ⟨_, rfl⟩
  rw [hm] at HF k1 k2 hbd ⊢
  obtain ⟨q, hq⟩ : ∃ q, m / b = q := ⟨_, rfl⟩
  rw [hq] at HF k2 hbd ⊢
  obtain ⟨r, hr⟩ : ∃ r, -q = r := ⟨_, rfl⟩
  rw [hr] at k2 ⊢
  clear hbd hq h1 h2
  go_enter Tryz.func97, Tryz.ntmps97
  go_wp2_with (go_at_call 96; refine (HF.out _).mono ?_; rintro e w' ⟨rfl, rfl⟩)
  go_ret
  exact ⟨rfl, rfl⟩
theorem fx_fitG (lo hi : Int) (w : World) (h : fxB lo hi = true) :
    Calls Tryz.prog 95 #[.int .i64 lo, .int .i64 hi] w fun e w' => e = .returned (.tuple #[(.agg #[.int .i64 (lo), .int .i64 (hi)]), .int .i64 0]) ∧ ∃ d, w' = bw w d := by
  have HV := Lib.hid (fun W => fx_ValidG lo hi W)
  rw [h] at HV
  refine lay_start ?_
  go_enter Tryz.func95, Tryz.ntmps95
  go_wp2_with (go_at_call 116; refine (HV.out _).mono ?_; rintro e w' ⟨rfl, d, rfl⟩)
  exact bodyPost_ret (v := .tuple #[(.agg #[.int .i64 (lo), .int .i64 (hi)]), .int .i64 0]) (by simp [results, Tryz.results95, go_sem]) rfl ⟨rfl, lay_ex _ _⟩
set_option maxHeartbeats 1000000 in
theorem fx_MulG (a0 a1 b0 b1 : Int) (w : World) (ha : fxB a0 a1 = true) (hb : fxB b0 b1 = true) (hm : fxB (mulL a0 a1 b0 b1) (mulH a0 a1 b0 b1) = true) :
    Calls Tryz.prog 24 #[(.agg #[.int .i64 (a0), .int .i64 (a1)]), (.agg #[.int .i64 (b0), .int .i64 (b1)])] w fun e w' => e = .returned (.tuple #[(.agg #[.int .i64 (mulL a0 a1 b0 b1), .int .i64 (mulH a0 a1 b0 b1)]), .int .i64 0]) ∧ ∃ d, w' = bw w d := by
  have HB := Lib.hid (fun W => fx_bothG a0 a1 b0 b1 W)
  rw [ha, hb, Bool.and_self] at HB
  have hfa := fxB_iff.1 ha
  have hfb := fxB_iff.1 hb
  have hbx := box_in (X := 2147483648) (by decide) (a0 := a0) (a1 := a1) (b0 := b0) (b1 := b1) ⟨by omega, by omega⟩ ⟨by omega, by omega⟩ ⟨by omega, by omega⟩ ⟨by omega, by omega⟩
  have p1 := prod_in (X := 2147483648) (x := a0) (k := b0) (by decide) ⟨by omega, by omega⟩ ⟨by omega, by omega⟩
  have p2 := prod_in (X := 2147483648) (x := a0) (k := b1) (by decide) ⟨by omega, by omega⟩ ⟨by omega, by omega⟩
  have p3 := prod_in (X := 2147483648) (x := a1) (k := b0) (by decide) ⟨by omega, by omega⟩ ⟨by omega, by omega⟩
  have p4 := prod_in (X := 2147483648) (x := a1) (k := b1) (by decide) ⟨by omega, by omega⟩ ⟨by omega, by omega⟩
  have HT := Lib.hid (fun W => fx_fitG _ _ W hm)
  have HF := Lib.hid (fun W => fx_floorG (m4 a0 a1 b0 b1) 1073741824 W (by decide) (by omega) (by omega))
  have HC := Lib.hid (fun W => fx_ceilG (x4 a0 a1 b0 b1) 1073741824 W (by decide) (by omega) (by omega))
  rw [show m4 a0 a1 b0 b1 / 1073741824 = mulL a0 a1 b0 b1 from rfl] at HF
  rw [show -((-(x4 a0 a1 b0 b1)) / 1073741824) = mulH a0 a1 b0 b1 from rfl] at HC
  generalize mulL a0 a1 b0 b1 = Q at *
  generalize mulH a0 a1 b0 b1 = U at *
  have e1 : mn (mn (mn (a0 * b0) (a0 * b1)) (a1 * b0)) (a1 * b1) = m4 a0 a1 b0 b1 := rfl
  have e2 : mx (mx (mx (a0 * b0) (a0 * b1)) (a1 * b0)) (a1 * b1) = x4 a0 a1 b0 b1 := rfl
  generalize m4 a0 a1 b0 b1 = M at *
  generalize x4 a0 a1 b0 b1 = X at *
  have k1 : IntKind.i64.wrap (a0 * b0) = a0 * b0 := IntWalk.i64_in _ (by omega)
  have k2 : IntKind.i64.wrap (a0 * b1) = a0 * b1 := IntWalk.i64_in _ (by omega)
  have k3 : IntKind.i64.wrap (a1 * b0) = a1 * b0 := IntWalk.i64_in _ (by omega)
  have k4 : IntKind.i64.wrap (a1 * b1) = a1 * b1 := IntWalk.i64_in _ (by omega)
  clear hbx p1 p2 p3 p4 hfa hfb ha hb hm
  refine lay_start ?_
  go_enter Tryz.func24, Tryz.ntmps24
  go_wp2_with (go_at_call 94; refine (HB.out _).mono ?_; rintro e w' ⟨rfl, d, rfl⟩)
  refine region_bw (by kernel_rfl) (by kernel_rfl) ?_
  repeat (go_big_quiet_step ((first | fail)))
  refine wpQuiet_nil ?_
  rintro w' ⟨d, rfl⟩
  rw [lay_bw]
  go_wp2_with (first | (go_at_call 96; refine (HF.out _).mono ?_; rintro e w' ⟨rfl, rfl⟩) | (go_at_call 97; refine (HC.out _).mono ?_; rintro e w' ⟨rfl, rfl⟩) | (go_at_call 95; refine (HT.out _).mono ?_; rintro e w' ⟨rfl, d, rfl⟩))
  exact bodyPost_ret (v := .tuple #[(.agg #[.int .i64 (Q), .int .i64 (U)]), .int .i64 0]) (by simp [results, Tryz.results24, go_sem]) rfl ⟨rfl, lay_ex _ _⟩
end Go.Proofs.YtnnmfdeeicpdlaaGreat
/- Lists of ints and tracks that came in: how they read; opening them off a row. -/
namespace Go.Proofs.YtnnmfdeeicpdlaaGreat
open Go.RowKit

section
variable {H : Type} {enc : TypeId × Value → H} {P : Program}
structure TrkV where
  s : ByteArray
  g : List Int
  d : List Int
  p : Int
  q : Int
  r : Int
end
end Go.Proofs.YtnnmfdeeicpdlaaGreat
/- Lists of numbers in a range: package page's and the reference's; valid tracks. -/
namespace Go.Proofs.YtnnmfdeeicpdlaaGreat
open Go.RowKit

end Go.Proofs.YtnnmfdeeicpdlaaGreat
/- The reference's valid tracks. -/
namespace Go.Proofs.YtnnmfdeeicpdlaaGreat
open Go.RowKit

end Go.Proofs.YtnnmfdeeicpdlaaGreat
/- The hour angle of Aries at an instant (package sidereal). -/
namespace Go.Proofs.YtnnmfdeeicpdlaaGreat
open Go.RowKit

def ariV (t : Int) : Int := t * 21659138841977 + 58838400000000
def ariF (t : Int) : Int := 5998067 + ariV t / 86400000000000
def ariR (t : Int) : Int := ariV t % 86400000000000
theorem ari_q {n p q r : Nat} (hn : n ≤ 1000000000000000) (ep : p = n * 21659138841977) (eq : q = p / 86400000000000) (er : r = p % 86400000000000) :
    q ≤ 1000000000000000 ∧ r < 86400000000000 ∧ q * 86400000000000 + r = n * 21659138841977 := by
  refine ⟨?_, by omega, by omega⟩
  have h : p ≤ 1000000000000000 * 86400000000000 := by rw [ep]; exact Nat.mul_le_mul hn (by decide)
  have h2 : p / 86400000000000 ≤ 1000000000000000 * 86400000000000 / 86400000000000 := Nat.div_le_div_right h
  rw [Nat.mul_div_cancel _ (by decide)] at h2
  rw [eq]; exact h2
theorem ari_pos {t : Int} {n q r : Nat} (en : (n : Int) = max t (-t)) (h : q * 86400000000000 + r = n * 21659138841977) (hq : q ≤ 1000000000000000) (hr : r < 86400000000000) (ht : ¬ t < 0) :
    (q : Int) * 86400000000000 + ((r : Int) + 58838400000000) = ariV t ∧ (-86400000000000 < (r : Int) + 58838400000000 ∧ (r : Int) + 58838400000000 < 172800000000000 ∧ -2000000000000000 ≤ (q : Int) ∧ (q : Int) ≤ 2000000000000000) := by
  have e : t = (n : Int) := by omega
  clear en
  refine ⟨?_, by clear h; omega⟩
  unfold ariV
  rw [e]
  clear hq hr ht e
  omega
theorem ari_neg {t : Int} {n q r : Nat} (en : (n : Int) = max t (-t)) (h : q * 86400000000000 + r = n * 21659138841977) (hq : q ≤ 1000000000000000) (hr : r < 86400000000000) (ht : t < 0) :
    -(q : Int) * 86400000000000 + (-(r : Int) + 58838400000000) = ariV t ∧ (-86400000000000 < -(r : Int) + 58838400000000 ∧ -(r : Int) + 58838400000000 < 172800000000000 ∧ -2000000000000000 ≤ -(q : Int) ∧ -(q : Int) ≤ 2000000000000000) := by
  have e : t = -(n : Int) := by omega
  clear en
  refine ⟨?_, by clear h; omega⟩
  unfold ariV
  rw [e]
  clear hq hr ht e
  omega
def ariI (t a b : Int) : Prop := a * 86400000000000 + b = ariV t ∧ (-86400000000000 < b ∧ b < 172800000000000 ∧ -2000000000000000 ≤ a ∧ a ≤ 2000000000000000)
theorem ariV_lo {t : Int} (h0 : -1000000000000000 ≤ t) : -2000000000000000 * 21659138841977 ≤ ariV t := by unfold ariV; omega
theorem ariI_wr {t a b : Int} (h : ariI t a b) : wrap64 (a - 1) = a - 1 ∧ wrap64 (b + 86400000000000) = b + 86400000000000 ∧ wrap64 (5998067 + a) = 5998067 + a := by
  obtain ⟨-, h1, h2, h3, h4⟩ := h
  refine ⟨?_, ?_, ?_⟩ <;> (unfold wrap64; omega)
theorem ariI_step {t a b : Int} (h0 : -1000000000000000 ≤ t) (h : ariI t a b) (hb : b < 0) : ariI t (a - 1) (b + 86400000000000) := by
  obtain ⟨h, h1, h2, h3, h4⟩ := h
  have hV := ariV_lo h0
  refine ⟨?_, by clear h; omega, by clear h; omega, ?_, by clear h; omega⟩
  · generalize ariV t = V at *
    clear h1 h2 h3 h4 hV
    omega
  · generalize ariV t = V at *
    clear h2 h4 h0
    omega
theorem ariI_end {t a b : Int} (h : ariI t a b) (hb : ¬ b < 0) : 5998067 + a + b / 86400000000000 = ariF t ∧ b % 86400000000000 = ariR t ∧ wrap64 (b / 86400000000000) = b / 86400000000000 ∧ wrap64 (5998067 + a + b / 86400000000000) = 5998067 + a + b / 86400000000000 := by
  obtain ⟨h, h1, h2, h3, h4⟩ := h
  refine ⟨?_, ?_, ?_, ?_⟩
  · unfold ariF
    rw [← h, Int.add_comm (a * 86400000000000), Int.add_mul_ediv_right _ _ (by decide)]
    clear h
    omega
  · unfold ariR
    rw [← h, Int.add_comm (a * 86400000000000), Int.add_mul_emod_self_right]
  · clear h; unfold wrap64; omega
  · clear h; unfold wrap64; omega
theorem w64 {n : Int} (h : -9223372036854775808 ≤ n ∧ n ≤ 9223372036854775807) : wrap64 n = n := by unfold wrap64; omega
theorem ari_facts {q r : Nat} (hq : q ≤ 1000000000000000) (hr : r < 86400000000000) :
    wrap64 (q : Int) = (q : Int) ∧ wrap64 (r : Int) = (r : Int) ∧ wrap64 (-(q : Int)) = -(q : Int) ∧ wrap64 (-(r : Int)) = -(r : Int) ∧
    wrap64 ((r : Int) + 58838400000000) = (r : Int) + 58838400000000 ∧ wrap64 (-(r : Int) + 58838400000000) = -(r : Int) + 58838400000000 :=
  ⟨w64 (by omega), w64 (by omega), w64 (by omega), w64 (by omega), w64 (by omega), w64 (by omega)⟩
set_option maxHeartbeats 4000000 in
theorem sid_aries (t : Int) (w : World) (h0 : -1000000000000000 ≤ t) (h1 : t ≤ 1000000000000000) :
    Calls Tryz.prog 237 #[.int .i64 t] w fun e w' => e = .returned (.tuple #[.int .i64 (ariF t), .int .i64 (ariR t)]) ∧ ∃ d, w' = bw w d := by
  refine lay_start ?_
  obtain ⟨n, en⟩ : ∃ n : Nat, (n : Int) = max t (-t) := ⟨t.natAbs, by omega⟩
  have hn : n ≤ 1000000000000000 := by omega
  have c1 := Tryz.bits_Mul64 n 21659138841977 (by omega) (by omega) (lay w [])
  obtain ⟨p, ep⟩ : ∃ p, p = n * 21659138841977 := ⟨_, rfl⟩
  rw [← ep] at c1
  obtain ⟨ph, eph⟩ : ∃ ph, ph = p / 18446744073709551616 := ⟨_, rfl⟩
  obtain ⟨pl, epl⟩ : ∃ pl, pl = p % 18446744073709551616 := ⟨_, rfl⟩
  rw [← eph, ← epl] at c1
  obtain ⟨q, eq⟩ : ∃ q, q = p / 86400000000000 := ⟨_, rfl⟩
  obtain ⟨r, er⟩ : ∃ r, r = p % 86400000000000 := ⟨_, rfl⟩
  have c2 := div64' ph pl 86400000000000 q r (by omega) (by omega) (by omega) (by omega) (by omega) (lay w [])
  rw [show ((21659138841977 : Nat) : Int) = 21659138841977 from by decide] at c1
  rw [show ((86400000000000 : Nat) : Int) = 86400000000000 from by decide] at c2
  have en' : mx t (-t) = (n : Int) := by rw [en]; unfold mx; split <;> omega
  have en2 : IntKind.u64.wrap (n : Int) = (n : Int) := Mul64.wrapN _ (by omega)
  obtain ⟨hqb, hrb, hqr⟩ := ari_q hn ep eq er
  obtain ⟨f1, f2, f3, f4, f5, f6⟩ := ari_facts hqb hrb
  have HN := Lib.hid (And.intro (ari_pos en hqr hqb hrb) (ari_neg en hqr hqb hrb))
  clear en ep eph epl eq er hqb hrb hqr
  go_enter Tryz.func237, Tryz.ntmps237
  go_wp2_with (first | (go_at_call 79; refine c1.mono ?_; rintro e w' ⟨rfl, hw⟩; rw [hw]) | (go_at_call 80; refine c2.mono ?_; rintro e w' ⟨rfl, d, rfl⟩))
  all_goals
    go_loopw [9, 10] (fun v9 v10 wr => ∃ a b : Int, v9 = .int .i64 a ∧ v10 = .int .i64 b ∧ wr = lay w [.inr d] ∧ ariI t a b) (fun _ v10 _ => (200000000000000 - intOf v10).toNat)
    case atStart =>
      refine ⟨_, _, rfl, rfl, rfl, ?_⟩
      first | (rw [f1, f5]; exact HN.out.1 (by assumption)) | (rw [f3, f6]; exact HN.out.2 (by assumption))
    case round =>
      obtain ⟨a, b, rfl, rfl, hw, hI⟩ := hrel
      rw [hw]
      clear hw
      obtain ⟨g1, g2, g3⟩ := ariI_wr hI
      have HI := Lib.hid hI
      by_cases hneg : b < 0
      · have HS := Lib.hid (ariI_step h0 hI hneg)
        clear hI
        go_wp2_with fail
        go_roundw
        case rel =>
          refine ⟨_, _, rfl, rfl, by first | trivial | rfl, ?_⟩
          simp only [g1, g2]
          exact HS.out
        case measure =>
          obtain ⟨-, h1, h2, -, -⟩ := HI.out
          simp only [intOf, g2]
          clear g1 g2 g3 f1 f2 f3 f4 f5 f6
          omega
      · obtain ⟨z1, z2, z3, z4⟩ := ariI_end hI hneg
        have HZ := Lib.hid (And.intro z1 z2)
        clear hI z1 z2
        go_wp2_with fail
        go_ret2
        have e1 : wrap64 (5998067 + a + wrap64 (b.tdiv 86400000000000)) = ariF t := by rw [Int.tdiv_eq_ediv_of_nonneg (by first | exact hneg | exact Int.not_lt.1 hneg), z3, z4]; exact HZ.out.1
        refine ⟨?_, lay_ex w _⟩
        rw [e1, HZ.out.2]
        rfl
end Go.Proofs.YtnnmfdeeicpdlaaGreat
/- Contracts of package increments: Linear, Increment, and their references. -/
namespace Go.Proofs.YtnnmfdeeicpdlaaGreat
open Go.RowKit

end Go.Proofs.YtnnmfdeeicpdlaaGreat
/- The first day of 2000; a page of one track. -/
namespace Go.Proofs.YtnnmfdeeicpdlaaGreat
open Go.RowKit

end Go.Proofs.YtnnmfdeeicpdlaaGreat
/- A page of one track is valid just if the track is. -/
namespace Go.Proofs.YtnnmfdeeicpdlaaGreat
open Go.RowKit

end Go.Proofs.YtnnmfdeeicpdlaaGreat
/- Increments at an instant: the functions that pieces hands on. -/
namespace Go.Proofs.YtnnmfdeeicpdlaaGreat
open Go.RowKit

end Go.Proofs.YtnnmfdeeicpdlaaGreat
/- The unwrapped hour angles: increments.angles and the reference. -/
namespace Go.Proofs.YtnnmfdeeicpdlaaGreat
open Go.RowKit

def ang (g : List Int) : Nat → Int
  | 0 => 100 * nth g 0
  | k + 1 => ang g k + (100 * (nth g (k + 1) - nth g k)) % 21600000
end Go.Proofs.YtnnmfdeeicpdlaaGreat
