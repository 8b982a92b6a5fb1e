/- Contracts and plain laws, several texts in one: Av4; Angle; RtP; Div -/
import Derived.Test.YtmomoeagnkjbiaaGreatProg
import Derived.WalkKit
import Derived.WalkSpells
import Derived.WalkLawsBesides
import Derived.Lib.Hide
import Derived.BigQuiet
import Derived.Test.YtmomoeagnkjbiaaGreatBAA
import Derived.Test.YtmomoeagnkjbiaaGreatBAB
import Derived.Test.YtmomoeagnkjbiaaGreatBAE
import Derived.Test.YtmomoeagnkjbiaaGreatBAF
import Derived.Test.YtmomoeagnkjbiaaGreatBAG
import Derived.Test.YtmomoeagnkjbiaaGreatBAH
/- average: floor, residual, slopes, check. -/
namespace Go.Proofs.YtmomoeagnkjbiaaGreat
open Go.RowKit

set_option maxHeartbeats 400000 in
theorem av_floor (a b : Int) (w : World) (hb : 1 ≤ b) (h1 : -9223372036854775807 ≤ a) (h2 : a ≤ 9223372036854775807) :
    Calls Tryz.prog 56 #[.int .i64 a, .int .i64 b] w fun e w' => e = .returned (.int .i64 (a / b)) ∧ w' = w := by
  go_enter Tryz.func56, Tryz.ntmps56
  go_wp2
  · go_ret
    refine ⟨congrArg (fun x => Ending.returned (.int .i64 x)) ?_, rfl⟩
    rw [IntWalk.wrap64_in]
    · exact floor_neg hb ‹_›
    · rw [floor_neg hb ‹_›]; have := ediv_bd hb 9223372036854775807 (by decide) h1 h2; omega
  · go_ret
    exact ⟨congrArg (fun x => Ending.returned (.int .i64 x)) (floor_pos hb ‹_›), rfl⟩
/-- Bounds of a product. -/
theorem mul_in {x k : Int} (X K : Int) (hX : -X ≤ x ∧ x ≤ X) (hK : -K ≤ k ∧ k ≤ K) (h0 : 0 ≤ X) : -(X * K) ≤ x * k ∧ x * k ≤ X * K := by
  have h1 : (x * k).natAbs ≤ X.natAbs * K.natAbs := by rw [Int.natAbs_mul]; exact Nat.mul_le_mul (by omega) (by omega)
  have h2 : ((X.natAbs * K.natAbs : Nat) : Int) = X * K := by
    rw [Int.natCast_mul, Int.natAbs_of_nonneg h0, Int.natAbs_of_nonneg (by omega)]
  rw [← h2]
  omega
structure SlOk (n d : Int) : Prop where
  n1 : -1073741824 ≤ n
  n2 : n ≤ 1073741824
  d1 : 1 ≤ d
  d2 : d ≤ 1073741824
theorem res_bd {t n d : Int} (hs : SlOk n d) (t1 : -172800000 ≤ t ∧ t ≤ 172800000) : -371085174374400000 ≤ 2 * n * t ∧ 2 * n * t ≤ 371085174374400000 ∧ -371085174374400000 ≤ 1000 * d - 2 * n * t - 1000 * d ∧ -372158916198400000 ≤ (1000 * d - 2 * n * t) / (2000 * d) ∧ (1000 * d - 2 * n * t) / (2000 * d) ≤ 372158916198400000 := by
  obtain ⟨n1, n2, d1, d2⟩ := hs
  have h2 := mul_in (x := 2 * n) (k := t) 2147483648 172800000 (by omega) t1 (by decide)
  generalize 2 * n * t = P at *
  have h3 := ediv_bd (a := 1000 * d - P) (b := 2000 * d) (by omega) 372158916198400000 (by decide) (by omega) (by omega)
  omega
set_option maxRecDepth 100000 in
theorem av_residual (t h n d : Int) (w : World) (hs : SlOk n d) (t1 : -172800000 ≤ t ∧ t ≤ 172800000) (h1 : -1099511627776 ≤ h ∧ h ≤ 1099511627776) :
    Calls Tryz.prog 93 #[.int .i64 t, .int .i64 h, (.agg #[.int .i64 (n), .int .i64 (d)])] w fun e w' => e = .returned (.int .i64 (resI t h n d)) ∧ ∃ d, w' = bw w d := by
  obtain ⟨b1, b2, -, b3, b4⟩ := res_bd hs t1
  obtain ⟨n1, n2, d1, d2⟩ := hs
  unfold resI
  have HF := Lib.hid (fun W => av_floor (1000 * d - 2 * n * t) (2000 * d) W (by omega) (by omega) (by omega))
  have k1 : IntKind.i64.wrap (1000 * d) = 1000 * d := IntWalk.i64_in _ (by omega)
  have k2 : IntKind.i64.wrap (2 * n) = 2 * n := IntWalk.i64_in _ (by omega)
  have k3 : IntKind.i64.wrap (2 * n * t) = 2 * n * t := IntWalk.i64_in _ (by omega)
  have k4 : IntKind.i64.wrap (1000 * d - 2 * n * t) = 1000 * d - 2 * n * t := IntWalk.i64_in _ (by omega)
  have k5 : IntKind.i64.wrap (2000 * d) = 2000 * d := IntWalk.i64_in _ (by omega)
  have k6 : IntKind.i64.wrap (h + (1000 * d - 2 * n * t) / (2000 * d)) = h + (1000 * d - 2 * n * t) / (2000 * d) := IntWalk.i64_in _ (by omega)
  obtain ⟨Q, hQ⟩ : ∃ Q, (1000 * d - 2 * n * t) / (2000 * d) = Q := ⟨_, rfl⟩
  rw [hQ] at HF k6 ⊢
  obtain ⟨P, hP⟩ : ∃ P, 2 * n * t = P := ⟨_, rfl⟩
  have k3' : IntKind.i64.wrap (2 * n * t) = P := k3.trans hP
  clear k3
  rw [hP] at HF k4
  clear hQ b1 b2 b3 b4 hP
  refine lay_start ?_
  go_enter Tryz.func93, Tryz.ntmps93
  go_wp2_with (go_at_call 56; refine (HF.out _).mono ?_; rintro e w' ⟨rfl, rfl⟩)
  go_ret
  exact ⟨rfl, lay_ex _ _⟩
def slpB (n d : Int) : Bool := decide (-1000 * d ≤ n ∧ n ≤ 1000 * d)
set_option maxRecDepth 100000 in
theorem av_slopes (n d : Int) (w : World) (hs : SlOk n d) :
    Calls Tryz.prog 42 #[(.agg #[.int .i64 (n), .int .i64 (d)])] w fun e w' => e = .returned (.bool (slpB n d)) ∧ ∃ d, w' = bw w d := by
  obtain ⟨n1, n2, d1, d2⟩ := hs
  have HS := Lib.hid (fun W => av_size n W (by omega) (by omega))
  have k1 : IntKind.i64.wrap (1000 * d) = 1000 * d := IntWalk.i64_in _ (by omega)
  have e : slpB n d = decide (max n (-n) ≤ 1000 * d) := by unfold slpB; rw [decide_eq_decide]; omega
  rw [e]
  generalize max n (-n) = M at *
  clear e n1 n2 d1 d2
  refine lay_start ?_
  go_enter Tryz.func42, Tryz.ntmps42
  go_wp2_with fail
  refine region_bw (by kernel_rfl) (by kernel_rfl) ?_
  repeat (go_big_quiet_step ((first | (go_at_call 67; exact bq (HS.out _) (fun d => lay_join _ _ _ d)))))
  refine wpQuiet_nil ?_
  rintro w' ⟨d, rfl⟩
  rw [lay_bw]
  go_wp2_with fail
  go_ret
  exact ⟨rfl, lay_ex _ _⟩
/-- The error of times and readings. -/
def chkE (t h : List Int) : Int := if t.length ≠ h.length ∨ t.length < 1 ∨ 1000 < t.length then 3 else if outB t 86400000 = true ∨ outB h 10800000 = true then 2 else 0
set_option maxHeartbeats 1000000 in
set_option maxRecDepth 100000 in
theorem av_check (vt vh : Value) (t h : List Int) (w : World) (ht : Sl w vt t) (hh : Sl w vh h) :
    Calls Tryz.prog 38 #[vt, vh] w fun e w' => e = .returned (.int .i64 (chkE t h)) ∧ ∃ d, w' = bw w d := by
  have H1 := Lib.hid (fun W (q : Sl W vt t) => av_outside vt t 86400000 W q (by decide) (by decide))
  have H2 := Lib.hid (fun W (q : Sl W vh h) => av_outside vh h 10800000 W q (by decide) (by decide))
  have HT := Lib.hid ht
  have HH := Lib.hid hh
  obtain ⟨a1, c1, rfl, -⟩ := ht
  obtain ⟨a2, c2, rfl, -⟩ := hh
  unfold chkE
  obtain ⟨m, hm⟩ : ∃ m, t.length = m := ⟨_, rfl⟩
  obtain ⟨q, hq⟩ : ∃ q, h.length = q := ⟨_, rfl⟩
  rw [hm] at H1 HT ⊢
  rw [hq] at H2 HH ⊢
  clear hm hq
  by_cases e1 : m = q
  · subst e1
    have t1 : ((m : Int) == (m : Int)) = true := beq_iff_eq.2 rfl
    have t3 : ((m : Int) != (m : Int)) = false := by rw [bne, t1]; rfl
    by_cases e2 : m < 1
    · rw [if_pos (by omega)]
      have x1 : (m : Int) < 1 := by omega
      refine lay_start ?_
      go_enter Tryz.func38, Tryz.ntmps38
      go_wp2_with fail
      go_ret
      exact ⟨rfl, lay_ex _ _⟩
    · have x1 : ¬ (m : Int) < 1 := by omega
      by_cases e3 : 1000 < m
      · rw [if_pos (by omega)]
        have x2 : (1000 : Int) < (m : Int) := by omega
        refine lay_start ?_
        go_enter Tryz.func38, Tryz.ntmps38
        go_wp2_with fail
        go_ret
        exact ⟨rfl, lay_ex _ _⟩
      · rw [if_neg (by omega)]
        have x2 : ¬ (1000 : Int) < (m : Int) := by omega
        cases ho : outB t 86400000
        · cases ho2 : outB h 10800000
          · rw [ho] at H1
            rw [ho2] at H2
            rw [if_neg (by simp)]
            clear ho ho2
            refine lay_start ?_
            go_enter Tryz.func38, Tryz.ntmps38
            go_wp2_with (go_at_call 66; first | (with_reducible refine (H1.out _ (HT.out.lay _)).mono ?_; rintro e w' ⟨rfl, dA, rfl⟩) | (with_reducible refine (H2.out _ (HH.out.lay _)).mono ?_; rintro e w' ⟨rfl, dB, rfl⟩))
            go_ret
            exact ⟨rfl, lay_ex _ _⟩
          · rw [ho] at H1
            rw [ho2] at H2
            rw [if_pos (by simp)]
            clear ho ho2
            refine lay_start ?_
            go_enter Tryz.func38, Tryz.ntmps38
            go_wp2_with (go_at_call 66; first | (with_reducible refine (H1.out _ (HT.out.lay _)).mono ?_; rintro e w' ⟨rfl, dA, rfl⟩) | (with_reducible refine (H2.out _ (HH.out.lay _)).mono ?_; rintro e w' ⟨rfl, dB, rfl⟩))
            go_ret
            exact ⟨rfl, lay_ex _ _⟩
        · rw [ho] at H1
          rw [if_pos (by simp)]
          clear ho
          refine lay_start ?_
          go_enter Tryz.func38, Tryz.ntmps38
          go_wp2_with (go_at_call 66; with_reducible refine (H1.out _ (HT.out.lay _)).mono ?_; rintro e w' ⟨rfl, dA, rfl⟩)
          go_ret
          exact ⟨rfl, lay_ex _ _⟩
  · rw [if_pos (by omega)]
    have t1 : ((m : Int) == (q : Int)) = false := beq_eq_false_iff_ne.2 (by omega)
    have t3 : ((m : Int) != (q : Int)) = true := by rw [bne, t1]; rfl
    refine lay_start ?_
    go_enter Tryz.func38, Tryz.ntmps38
    go_wp2_with fail
    go_ret
    exact ⟨rfl, lay_ex _ _⟩
end Go.Proofs.YtmomoeagnkjbiaaGreat
/- Contracts of package angle and of its reference, as far as the translation has them. -/
namespace Go.Proofs.YtmomoeagnkjbiaaGreat
open Go.RowKit

def fitsB (n : Int) : Bool := decide (-1099511627776 ≤ n ∧ n ≤ 1099511627776)
theorem fits_yes {n : Int} (h1 : -1099511627776 ≤ n) : decide (n ≤ 1099511627776) = fitsB n := by
  unfold fitsB; simp [h1]
theorem fits_no {n : Int} (h1 : n < -1099511627776) : false = fitsB n := by
  unfold fitsB; simp; omega
def validB (lo hi : Int) : Bool := decide (lo ≤ hi ∧ -1099511627776 ≤ lo ∧ hi ≤ 1099511627776)
theorem validB_iff {lo hi : Int} : validB lo hi = true ↔ lo ≤ hi ∧ -1099511627776 ≤ lo ∧ hi ≤ 1099511627776 := by simp [validB]
theorem validB_eq {lo hi : Int} : validB lo hi = (decide (lo ≤ hi) && fitsB lo && fitsB hi) := by
  rw [Bool.eq_iff_iff]; simp [validB, fitsB]; omega
set_option maxHeartbeats 400000 in
theorem angle_fits (n : Int) (w : World) :
    Calls Tryz.prog 68 #[.int .i64 n] w fun e w' => e = .returned (.bool (fitsB n)) ∧ w' = w := by
  go_enter Tryz.func68, Tryz.ntmps68
  go_wp2
  · go_ret
    exact ⟨ret_bool (fits_yes ‹_›), rfl⟩
  · go_ret
    exact ⟨ret_bool (fits_no ‹_›), rfl⟩
theorem valid_ways1 {lo hi : Int} (h : lo ≤ hi) (h2 : fitsB lo = true) : fitsB hi = validB lo hi := by simp [validB_eq, *]
theorem valid_ways2 {lo hi : Int} (h2 : ¬ fitsB lo = true) : false = validB lo hi := by simp [validB_eq, *]
theorem valid_ways3 {lo hi : Int} (h2 : hi < lo) : false = validB lo hi := by
  have : ¬ lo ≤ hi := by omega
  simp [validB_eq, *]
set_option maxHeartbeats 400000 in
theorem angle_Valid (lo hi : Int) (w : World) :
    Calls Tryz.prog 27 #[(.agg #[.int .i64 (lo), .int .i64 (hi)])] w fun e w' => e = .returned (.bool (validB lo hi)) ∧ ∃ d, w' = bw w d := by
  refine lay_start ?_
  go_enter Tryz.func27, Tryz.ntmps27
  go_wp2_with (go_at_call 68; refine (angle_fits _ _).mono ?_; rintro e w' ⟨rfl, rfl⟩)
  all_goals go_ret
  all_goals exact ⟨ret_bool (by first | exact valid_ways1 ‹_› ‹_› | exact valid_ways2 ‹_› | exact valid_ways3 ‹_›), lay_ex _ _⟩
set_option maxHeartbeats 400000 in
theorem ref05_Valid (lo hi : Int) (w : World) :
    Calls Tryz.prog 11 #[(.agg #[.int .i64 (lo), .int .i64 (hi)])] w fun e w' => e = .returned (.bool (validB lo hi)) ∧ ∃ d, w' = bw w d := by
  refine lay_start ?_
  go_enter Tryz.func11, Tryz.ntmps11
  go_wp2
  all_goals go_ret
  all_goals exact ⟨ret_bool (by rw [Bool.eq_iff_iff]; simp [validB]; omega), lay_ex _ _⟩
set_option maxHeartbeats 400000 in
theorem ref05_Floor (a b : Int) (w : World) (hb : 1 ≤ b) (h1 : -9223372036854775807 ≤ a) (h2 : a ≤ 9223372036854775807) :
    Calls Tryz.prog 109 #[.int .i64 a, .int .i64 b] w fun e w' => e = .returned (.int .i64 (a / b)) ∧ w' = w := by
  go_enter Tryz.func109, Tryz.ntmps109
  go_wp2
  · go_ret
    refine ⟨ret_int ?_, rfl⟩
    rw [IntWalk.wrap64_in]
    · exact floor_neg hb ‹_›
    · rw [floor_neg hb ‹_›]; have := ediv_bd hb 9223372036854775807 (by decide) h1 h2; omega
  · go_ret
    exact ⟨ret_int (floor_pos hb ‹_›), rfl⟩
set_option maxHeartbeats 400000 in
theorem ref05_Ceil (a b : Int) (w : World) (hb : 1 ≤ b) (h1 : -9223372036854775807 ≤ a) (h2 : a ≤ 9223372036854775807) :
    Calls Tryz.prog 111 #[.int .i64 a, .int .i64 b] w fun e w' => e = .returned (.int .i64 (cdiv a b)) ∧ w' = w := by
  go_enter Tryz.func111, Tryz.ntmps111
  go_wp2
  · go_ret
    refine ⟨ret_int ?_, rfl⟩
    rw [IntWalk.wrap64_in]
    · exact cdiv_pos hb ‹_›
    · rw [cdiv_pos hb ‹_›]; have := cdiv_bd hb 9223372036854775807 (by decide) h1 h2; omega
  · go_ret
    exact ⟨ret_int (cdiv_neg hb ‹_›), rfl⟩

/-- Go's min and max of two ints, behind names that the walk does not open. -/
def mn (x y : Int) : Int := if y < x then y else x
def mx (x y : Int) : Int := if x < y then y else x
theorem mn_eq (x y : Int) : mn x y = min x y := by unfold mn; split <;> omega
theorem mx_eq (x y : Int) : mx x y = max x y := by unfold mx; split <;> omega
section
variable {P : Program} {w : World}
theorem run_mn (ts : Array TypeId) (t : TypeId) (k k' : IntKind) (x y : Int) : (Builtin.min_ ts t #[.int k x, .int k' y]).run P w = .ok (.int k (mn x y)) w := run_min_int2 w ts t k k' x y
theorem run_mx (ts : Array TypeId) (t : TypeId) (k k' : IntKind) (x y : Int) : (Builtin.max_ ts t #[.int k x, .int k' y]).run P w = .ok (.int k (mx x y)) w := run_max_int2 w ts t k k' x y
end
attribute [go_sem ↓] run_mn run_mx

theorem validB_false {lo hi : Int} : validB lo hi = false ↔ ¬ (lo ≤ hi ∧ -1099511627776 ≤ lo ∧ hi ≤ 1099511627776) := by simp [validB]
def insideB (x0 y0 x1 y1 : Int) : Bool := decide (x1 ≤ x0 ∧ y0 ≤ y1)
def inside2B (x0 y0 x1 y1 : Int) : Bool := validB x0 y0 && validB x1 y1 && insideB x0 y0 x1 y1
theorem inside2B_iff {x0 y0 x1 y1 : Int} : inside2B x0 y0 x1 y1 = true ↔ validB x0 y0 = true ∧ validB x1 y1 = true ∧ x1 ≤ x0 ∧ y0 ≤ y1 := by simp [inside2B, insideB, and_assoc]
theorem insideB_iff {x0 y0 x1 y1 : Int} : insideB x0 y0 x1 y1 = true ↔ x1 ≤ x0 ∧ y0 ≤ y1 := by simp [insideB]
def meetLo (x0 y0 x1 y1 : Int) : Int := if max x0 x1 ≤ min y0 y1 then max x0 x1 else 0
def meetHi (x0 y0 x1 y1 : Int) : Int := if max x0 x1 ≤ min y0 y1 then min y0 y1 else 0
def meetE (x0 y0 x1 y1 : Int) : Int := if max x0 x1 ≤ min y0 y1 then 0 else 23
theorem meet_bad {x0 y0 x1 y1 : Int} (h : mn y0 y1 < mx x0 x1) : meetLo x0 y0 x1 y1 = 0 ∧ meetHi x0 y0 x1 y1 = 0 ∧ meetE x0 y0 x1 y1 = 23 := by
  rw [mn_eq, mx_eq] at h
  unfold meetLo meetHi meetE; omega
theorem meet_good {x0 y0 x1 y1 : Int} (h : mx x0 x1 ≤ mn y0 y1) : meetLo x0 y0 x1 y1 = mx x0 x1 ∧ meetHi x0 y0 x1 y1 = mn y0 y1 ∧ meetE x0 y0 x1 y1 = 0 := by
  rw [mn_eq, mx_eq] at *
  unfold meetLo meetHi meetE; omega
def meetsB (x0 y0 x1 y1 : Int) : Bool := decide (x0 ≤ y1 ∧ x1 ≤ y0)
def turnLo (x0 y0 : Int) : Int := if 21600000 ≤ y0 - x0 then 0 else x0 % 21600000
def turnHi (x0 y0 : Int) : Int := if 21600000 ≤ y0 - x0 then 21600000 else x0 % 21600000 + (y0 - x0)

end Go.Proofs.YtmomoeagnkjbiaaGreat
/- Products of intervals, scaled by a rate: plain laws, no walk. -/
namespace Go.Proofs.YtmomoeagnkjbiaaGreat
open Go.RowKit

def m4 (a0 a1 b0 b1 : Int) : Int := mn (mn (mn (a0 * b0) (a0 * b1)) (a1 * b0)) (a1 * b1)
def x4 (a0 a1 b0 b1 : Int) : Int := mx (mx (mx (a0 * b0) (a0 * b1)) (a1 * b0)) (a1 * b1)
theorem mn4_is (x y z u : Int) : (mn (mn (mn x y) z) u ≤ x ∧ mn (mn (mn x y) z) u ≤ y ∧ mn (mn (mn x y) z) u ≤ z ∧ mn (mn (mn x y) z) u ≤ u) ∧ (mn (mn (mn x y) z) u = x ∨ mn (mn (mn x y) z) u = y ∨ mn (mn (mn x y) z) u = z ∨ mn (mn (mn x y) z) u = u) := by
  simp only [mn_eq]; omega
theorem mx4_is (x y z u : Int) : (x ≤ mx (mx (mx x y) z) u ∧ y ≤ mx (mx (mx x y) z) u ∧ z ≤ mx (mx (mx x y) z) u ∧ u ≤ mx (mx (mx x y) z) u) ∧ (mx (mx (mx x y) z) u = x ∨ mx (mx (mx x y) z) u = y ∨ mx (mx (mx x y) z) u = z ∨ mx (mx (mx x y) z) u = u) := by
  simp only [mx_eq]; omega
theorem lin1 {a0 a1 x k : Int} (h0 : a0 ≤ x) (h1 : x ≤ a1) : (a0 * k ≤ x * k ∨ a1 * k ≤ x * k) ∧ (x * k ≤ a0 * k ∨ x * k ≤ a1 * k) := by
  rcases Int.le_total 0 k with h | h
  · exact ⟨.inl (Int.mul_le_mul_of_nonneg_right h0 h), .inr (Int.mul_le_mul_of_nonneg_right h1 h)⟩
  · exact ⟨.inr (Int.mul_le_mul_of_nonpos_right h1 h), .inl (Int.mul_le_mul_of_nonpos_right h0 h)⟩
theorem box_mul {a0 a1 b0 b1 x y : Int} (h0 : a0 ≤ x) (h1 : x ≤ a1) (g0 : b0 ≤ y) (g1 : y ≤ b1) : m4 a0 a1 b0 b1 ≤ x * y ∧ x * y ≤ x4 a0 a1 b0 b1 := by
  obtain ⟨e1, e2⟩ := lin1 (k := y) h0 h1
  obtain ⟨f1, f2⟩ := lin1 (k := a0) g0 g1
  obtain ⟨i1, i2⟩ := lin1 (k := a1) g0 g1
  rw [Int.mul_comm b0 a0, Int.mul_comm b1 a0, Int.mul_comm y a0] at f1 f2
  rw [Int.mul_comm b0 a1, Int.mul_comm b1 a1, Int.mul_comm y a1] at i1 i2
  have hm := (mn4_is (a0 * b0) (a0 * b1) (a1 * b0) (a1 * b1)).1
  have hx := (mx4_is (a0 * b0) (a0 * b1) (a1 * b0) (a1 * b1)).1
  unfold m4 x4
  omega
theorem box_part {a0 a1 b0 b1 c0 c1 d0 d1 : Int} (h0 : a0 ≤ c0) (h : c0 ≤ c1) (h1 : c1 ≤ a1) (g0 : b0 ≤ d0) (g : d0 ≤ d1) (g1 : d1 ≤ b1) : m4 a0 a1 b0 b1 ≤ m4 c0 c1 d0 d1 ∧ x4 c0 c1 d0 d1 ≤ x4 a0 a1 b0 b1 := by
  have p1 := box_mul (a0 := a0) (a1 := a1) (b0 := b0) (b1 := b1) (x := c0) (y := d0) h0 (by omega) g0 (by omega)
  have p2 := box_mul (a0 := a0) (a1 := a1) (b0 := b0) (b1 := b1) (x := c0) (y := d1) h0 (by omega) (show b0 ≤ d1 by omega) g1
  have p3 := box_mul (a0 := a0) (a1 := a1) (b0 := b0) (b1 := b1) (x := c1) (y := d0) (show a0 ≤ c1 by omega) h1 g0 (by omega)
  have p4 := box_mul (a0 := a0) (a1 := a1) (b0 := b0) (b1 := b1) (x := c1) (y := d1) (show a0 ≤ c1 by omega) h1 (show b0 ≤ d1 by omega) g1
  have hm := (mn4_is (c0 * d0) (c0 * d1) (c1 * d0) (c1 * d1)).2
  have hx := (mx4_is (c0 * d0) (c0 * d1) (c1 * d0) (c1 * d1)).2
  constructor
  · show m4 a0 a1 b0 b1 ≤ mn (mn (mn (c0 * d0) (c0 * d1)) (c1 * d0)) (c1 * d1); omega
  · show mx (mx (mx (c0 * d0) (c0 * d1)) (c1 * d0)) (c1 * d1) ≤ x4 a0 a1 b0 b1; omega
theorem prod_in {X x k : Int} (h0 : 0 ≤ X) (hX : -X ≤ x ∧ x ≤ X) (hK : -X ≤ k ∧ k ≤ X) : -(X * X) ≤ x * k ∧ x * k ≤ X * X := by
  have h1 : (x * k).natAbs ≤ X.natAbs * X.natAbs := by rw [Int.natAbs_mul]; exact Nat.mul_le_mul (by omega) (by omega)
  have h2 : ((X.natAbs * X.natAbs : Nat) : Int) = X * X := by rw [Int.natCast_mul, Int.natAbs_of_nonneg h0]
  rw [← h2]
  omega
theorem box_in {X a0 a1 b0 b1 : Int} (h0 : 0 ≤ X) (ha : -X ≤ a0 ∧ a0 ≤ X) (ha1 : -X ≤ a1 ∧ a1 ≤ X) (hb : -X ≤ b0 ∧ b0 ≤ X) (hb1 : -X ≤ b1 ∧ b1 ≤ X) : -(X * X) ≤ m4 a0 a1 b0 b1 ∧ m4 a0 a1 b0 b1 ≤ x4 a0 a1 b0 b1 ∧ x4 a0 a1 b0 b1 ≤ X * X := by
  have p1 := prod_in h0 ha hb
  have p2 := prod_in h0 ha hb1
  have p3 := prod_in h0 ha1 hb
  have p4 := prod_in h0 ha1 hb1
  have hm := mn4_is (a0 * b0) (a0 * b1) (a1 * b0) (a1 * b1)
  have hx := mx4_is (a0 * b0) (a0 * b1) (a1 * b0) (a1 * b1)
  unfold m4 x4
  omega
/-- The product of intervals of numbers over 2^30, rounded outward. -/
def mulL (a0 a1 b0 b1 : Int) : Int := m4 a0 a1 b0 b1 / 1073741824
def mulH (a0 a1 b0 b1 : Int) : Int := -((-(x4 a0 a1 b0 b1)) / 1073741824)
/-- 250000 times a number over 2^30, rounded down or up. -/
def sclL (p : Int) : Int := p * 250000 / 1073741824
def sclH (p : Int) : Int := -((-(p * 250000)) / 1073741824)
theorem mul_unit {a0 a1 b0 b1 : Int} (ha : -1073741824 ≤ a0) (ha1 : a0 ≤ a1) (ha2 : a1 ≤ 1073741824) (hb : -1073741824 ≤ b0) (hb1 : b0 ≤ b1) (hb2 : b1 ≤ 1073741824) :
    -1073741824 ≤ mulL a0 a1 b0 b1 ∧ mulL a0 a1 b0 b1 ≤ mulH a0 a1 b0 b1 ∧ mulH a0 a1 b0 b1 ≤ 1073741824 := by
  have h := box_in (X := 1073741824) (by decide) (a0 := a0) (a1 := a1) (b0 := b0) (b1 := b1) ⟨ha, by omega⟩ ⟨by omega, ha2⟩ ⟨hb, by omega⟩ ⟨by omega, hb2⟩
  unfold mulL mulH
  omega
theorem scl_unit {p q : Int} (hp : -1073741824 ≤ p) (h : p ≤ q) (hq : q ≤ 1073741824) : -250000 ≤ sclL p ∧ sclL p ≤ sclH q ∧ sclH q ≤ 250000 := by
  unfold sclL sclH
  omega
theorem mul_part {a0 a1 b0 b1 c0 c1 d0 d1 : Int} (h0 : a0 ≤ c0) (h : c0 ≤ c1) (h1 : c1 ≤ a1) (g0 : b0 ≤ d0) (g : d0 ≤ d1) (g1 : d1 ≤ b1) : mulL a0 a1 b0 b1 ≤ mulL c0 c1 d0 d1 ∧ mulH c0 c1 d0 d1 ≤ mulH a0 a1 b0 b1 := by
  have := box_part h0 h h1 g0 g g1
  unfold mulL mulH
  omega
theorem scl_mono {p q : Int} (h : p ≤ q) : sclL p ≤ sclL q ∧ sclH p ≤ sclH q := by unfold sclL sclH; omega
theorem mul_pos {a0 a1 b0 b1 : Int} (h0 : 0 ≤ a0) (h : a0 ≤ a1) (g0 : 0 ≤ b0) (g : b0 ≤ b1) : 0 ≤ mulL a0 a1 b0 b1 := by
  have p1 := Int.mul_nonneg h0 g0
  have p2 := Int.mul_nonneg h0 (show 0 ≤ b1 by omega)
  have p3 := Int.mul_nonneg (show 0 ≤ a1 by omega) g0
  have p4 := Int.mul_nonneg (show 0 ≤ a1 by omega) (show 0 ≤ b1 by omega)
  have hm := (mn4_is (a0 * b0) (a0 * b1) (a1 * b0) (a1 * b1)).2
  unfold mulL m4
  omega
theorem mul_neg {a0 a1 b0 b1 : Int} (h0 : 0 ≤ a0) (h : a0 ≤ a1) (g0 : b0 ≤ b1) (g : b1 ≤ 0) : mulH a0 a1 b0 b1 ≤ 0 := by
  have p1 := Int.mul_nonpos_of_nonneg_of_nonpos h0 (show b0 ≤ 0 by omega)
  have p2 := Int.mul_nonpos_of_nonneg_of_nonpos h0 g
  have p3 := Int.mul_nonpos_of_nonneg_of_nonpos (show 0 ≤ a1 by omega) (show b0 ≤ 0 by omega)
  have p4 := Int.mul_nonpos_of_nonneg_of_nonpos (show 0 ≤ a1 by omega) g
  have hx := (mx4_is (a0 * b0) (a0 * b1) (a1 * b0) (a1 * b1)).2
  unfold mulH x4
  omega
theorem scl_pos {p : Int} (h : 0 ≤ p) : 0 ≤ sclL p := by unfold sclL; omega
theorem scl_neg {p : Int} (h : p ≤ 0) : sclH p ≤ 0 := by unfold sclH; omega
end Go.Proofs.YtmomoeagnkjbiaaGreat
/- The quotient of two words by one, as math/bits reckons it: the plain law (Knuth's digits, of any base B). No program in sight. -/
namespace Go.Proofs.YtmomoeagnkjbiaaGreat

/-- A digit's guess and its rest. -/
structure DI (B U y1 y0 c q r : Nat) : Prop where
  eq : q * y1 + r = U
  up : U * B + c < (q + 1) * (y1 * B + y0)
  qb : q ≤ B + 1
theorem di_init {B U y1 y0 c : Nat} (h1 : B ≤ 2 * y1) (h0 : y0 < B) (hU : U < y1 * B + y0) (hc : c < B) : DI B U y1 y0 c (U / y1) (U % y1) ∧ U % y1 < y1 := by
  have hlt : U % y1 < y1 := Nat.mod_lt _ (by omega)
  have he : U / y1 * y1 + U % y1 = U := by rw [Nat.mul_comm]; exact Nat.div_add_mod U y1
  refine ⟨⟨he, ?_, ?_⟩, hlt⟩
  · have h2 : U + 1 ≤ (U / y1 + 1) * y1 := by rw [Nat.succ_mul]; omega
    have h3 : (U + 1) * B ≤ (U / y1 + 1) * y1 * B := Nat.mul_le_mul_right _ h2
    have h4 : (U / y1 + 1) * (y1 * B + y0) = (U / y1 + 1) * y1 * B + (U / y1 + 1) * y0 := by rw [Nat.mul_add, Nat.mul_assoc]
    rw [h4]
    rw [Nat.succ_mul] at h3
    generalize (U / y1 + 1) * y1 * B = A at *
    generalize (U / y1 + 1) * y0 = C at *
    generalize U * B = D at *
    omega
  · have e : y1 * (B + 2) = y1 * B + y1 * 2 := Nat.mul_add _ _ _
    have h2 : U < y1 * (B + 2) := by
      rw [e]
      generalize y1 * B = A at *
      omega
    have := Nat.div_lt_of_lt_mul h2
    omega
theorem di_step {B U y1 y0 c q r : Nat} (h : DI B U y1 y0 c q r) (hU : U < y1 * B + y0) (hc : c < B) (hcond : B ≤ q ∨ r * B + c < q * y0) : 0 < q ∧ DI B U y1 y0 c (q - 1) (r + y1) ∧ q - 1 ≤ B := by
  have hq : 0 < q := by
    rcases hcond with h1 | h1
    · omega
    · rcases Nat.eq_zero_or_pos q with e | e
      · rw [e, Nat.zero_mul] at h1; omega
      · exact e
  obtain ⟨p, rfl⟩ : ∃ p, q = p + 1 := ⟨q - 1, by omega⟩
  have he := h.eq
  rw [Nat.succ_mul] at he
  refine ⟨hq, ⟨by rw [Nat.add_sub_cancel]; omega, ?_, by have := h.qb; omega⟩, by have := h.qb; omega⟩
  rw [Nat.add_sub_cancel]
  rcases hcond with h1 | h1
  · have h2 : (U + 1) * B ≤ (y1 * B + y0) * B := Nat.mul_le_mul_right _ hU
    have h3 : B * (y1 * B + y0) ≤ (p + 1) * (y1 * B + y0) := Nat.mul_le_mul_right _ h1
    rw [Nat.succ_mul] at h2
    rw [Nat.mul_comm B] at h3
    generalize (p + 1) * (y1 * B + y0) = A at *
    generalize (y1 * B + y0) * B = C at *
    generalize U * B = D at *
    omega
  · have h4 : (p + 1) * (y1 * B + y0) = (p + 1) * y1 * B + (p + 1) * y0 := by rw [Nat.mul_add, Nat.mul_assoc]
    have h5 : U * B = (p + 1) * y1 * B + r * B := by rw [← Nat.add_mul, h.eq]
    rw [h4, h5]
    generalize (p + 1) * y1 * B = A at *
    generalize (p + 1) * y0 = C at *
    generalize r * B = D at *
    omega
theorem di_done {B U y1 y0 c q r : Nat} (h : DI B U y1 y0 c q r) (hle : q * y0 ≤ r * B + c) : (U * B + c) / (y1 * B + y0) = q ∧ q * (y1 * B + y0) ≤ U * B + c := by
  have h4 : q * (y1 * B + y0) = q * y1 * B + q * y0 := by rw [Nat.mul_add, Nat.mul_assoc]
  have h5 : U * B = q * y1 * B + r * B := by rw [← Nat.add_mul, h.eq]
  have hup := h.up
  have hle2 : q * (y1 * B + y0) ≤ U * B + c := by
    rw [h4, h5]
    generalize q * y1 * B = A at *
    generalize q * y0 = C at *
    generalize r * B = D at *
    omega
  exact ⟨Nat.div_eq_of_lt_le hle2 hup, hle2⟩
theorem di_break {B y0 c q r : Nat} (h0 : y0 < B) (hq : q ≤ B) (hr : B ≤ r) : q * y0 ≤ r * B + c :=
  Nat.le_trans (Nat.mul_le_mul hq (Nat.le_of_lt h0)) (Nat.le_trans (Nat.mul_le_mul_right B hr) (Nat.le_add_right _ _))
/-- Two digits make the quotient. -/
theorem two_digits {B U c1 c0 y : Nat} (hy : 0 < y) : ((U * B + c1) * B + c0) / y = (U * B + c1) / y * B + ((U * B + c1) % y * B + c0) / y ∧
    ((U * B + c1) * B + c0) % y = ((U * B + c1) % y * B + c0) % y := by
  have h := Nat.div_add_mod (U * B + c1) y
  generalize U * B + c1 = T at *
  have e : T * B + c0 = y * (T / y * B) + (T % y * B + c0) := by
    have h2 : T * B = y * (T / y) * B + T % y * B := by rw [← Nat.add_mul, h]
    rw [h2, ← Nat.mul_assoc, Nat.add_assoc]
  constructor
  · rw [e, Nat.mul_add_div hy]
  · rw [e, Nat.mul_add_mod]
/-- The shift of both by the same count. -/
theorem shifted (M y s : Nat) : (M * 2 ^ s) / (y * 2 ^ s) = M / y ∧ (M * 2 ^ s) % (y * 2 ^ s) / 2 ^ s = M % y := by
  have hp : 0 < 2 ^ s := Nat.pow_pos (by decide)
  constructor
  · exact Nat.mul_div_mul_right M y hp
  · rw [Nat.mul_mod_mul_right, Nat.mul_div_cancel _ hp]
end Go.Proofs.YtmomoeagnkjbiaaGreat
