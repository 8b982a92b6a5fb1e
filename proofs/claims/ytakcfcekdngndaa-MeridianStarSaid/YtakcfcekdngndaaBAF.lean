/- Contracts and plain laws, several texts in one: Angle; TgB -/
import Derived.Test.YtakcfcekdngndaaProg
import Derived.WalkKit
import Derived.WalkSpells
import Derived.WalkLawsBesides
import Derived.Lib.Hide
import Derived.BigQuiet
import Derived.Test.YtakcfcekdngndaaBAA
import Derived.Test.YtakcfcekdngndaaBAE
/- Contracts of package angle and of its reference, as far as the translation has them. -/
namespace Go.Proofs.Ytakcfcekdngndaa
open Go.RowKit

def fitsB (n : Int) : Bool := decide (-1099511627776 ≤ n ∧ n ≤ 1099511627776)
theorem fits_yes {n : Int} (h1 : -1099511627776 ≤ n) : decide (n ≤ 1099511627776) = fitsB n := by
  unfold fitsB; simp [h1]
theorem fits_no {n : Int} (h1 : n < -1099511627776) : false = fitsB n := by
  unfold fitsB; simp; omega
def validB (lo hi : Int) : Bool := decide (lo ≤ hi ∧ -1099511627776 ≤ lo ∧ hi ≤ 1099511627776)
theorem validB_iff {lo hi : Int} : validB lo hi = true ↔ lo ≤ hi ∧ -1099511627776 ≤ lo ∧ hi ≤ 1099511627776 := by simp [validB]
theorem validB_eq {lo hi : Int} : validB lo hi = (decide (lo ≤ hi) && fitsB lo && fitsB hi) := by
  rw [Bool.eq_iff_iff]; simp [validB, fitsB]; omega
set_option maxHeartbeats 400000 in
theorem angle_fits (n : Int) (w : World) :
    Calls Try.prog 50 #[.int .i64 n] w fun e w' => e = .returned (.bool (fitsB n)) ∧ w' = w := by
  go_enter Try.func50, Try.ntmps50
  go_wp2
  · go_ret
    exact ⟨ret_bool (fits_yes ‹_›), rfl⟩
  · go_ret
    exact ⟨ret_bool (fits_no ‹_›), rfl⟩
theorem valid_ways1 {lo hi : Int} (h : lo ≤ hi) (h2 : fitsB lo = true) : fitsB hi = validB lo hi := by simp [validB_eq, *]
theorem valid_ways2 {lo hi : Int} (h2 : ¬ fitsB lo = true) : false = validB lo hi := by simp [validB_eq, *]
theorem valid_ways3 {lo hi : Int} (h2 : hi < lo) : false = validB lo hi := by
  have : ¬ lo ≤ hi := by omega
  simp [validB_eq, *]
set_option maxHeartbeats 400000 in
theorem angle_Valid (lo hi : Int) (w : World) :
    Calls Try.prog 29 #[(.agg #[.int .i64 (lo), .int .i64 (hi)])] w fun e w' => e = .returned (.bool (validB lo hi)) ∧ ∃ d, w' = bw w d := by
  refine lay_start ?_
  go_enter Try.func29, Try.ntmps29
  go_wp2_with (go_at_call 50; refine (angle_fits _ _).mono ?_; rintro e w' ⟨rfl, rfl⟩)
  all_goals go_ret
  all_goals exact ⟨ret_bool (by first | exact valid_ways1 ‹_› ‹_› | exact valid_ways2 ‹_› | exact valid_ways3 ‹_›), lay_ex _ _⟩
set_option maxHeartbeats 400000 in
theorem ref05_Valid (lo hi : Int) (w : World) :
    Calls Try.prog 15 #[(.agg #[.int .i64 (lo), .int .i64 (hi)])] w fun e w' => e = .returned (.bool (validB lo hi)) ∧ ∃ d, w' = bw w d := by
  refine lay_start ?_
  go_enter Try.func15, Try.ntmps15
  go_wp2
  all_goals go_ret
  all_goals exact ⟨ret_bool (by rw [Bool.eq_iff_iff]; simp [validB]; omega), lay_ex _ _⟩
set_option maxHeartbeats 400000 in
theorem angle_Wrap (n : Int) (w : World) :
    Calls Try.prog 80 #[.int .i64 n] w fun e w' => e = .returned (.int .i64 (n % 21600000)) ∧ w' = w := by
  have hb := tmod_bd n 21600000 (by decide)
  go_enter Try.func80, Try.ntmps80
  go_wp2
  · go_ret
    exact ⟨ret_int ((tmod_wrap n 21600000 (by decide)).1 ‹_›), rfl⟩
  · go_ret
    exact ⟨ret_int ((tmod_wrap n 21600000 (by decide)).2 ‹_›), rfl⟩

/-- Go's min and max of two ints, behind names that the walk does not open. -/
def mn (x y : Int) : Int := if y < x then y else x
def mx (x y : Int) : Int := if x < y then y else x
theorem mn_eq (x y : Int) : mn x y = min x y := by unfold mn; split <;> omega
theorem mx_eq (x y : Int) : mx x y = max x y := by unfold mx; split <;> omega
section
variable {P : Program} {w : World}
theorem run_mn (ts : Array TypeId) (t : TypeId) (k k' : IntKind) (x y : Int) : (Builtin.min_ ts t #[.int k x, .int k' y]).run P w = .ok (.int k (mn x y)) w := run_min_int2 w ts t k k' x y
theorem run_mx (ts : Array TypeId) (t : TypeId) (k k' : IntKind) (x y : Int) : (Builtin.max_ ts t #[.int k x, .int k' y]).run P w = .ok (.int k (mx x y)) w := run_max_int2 w ts t k k' x y
end
attribute [go_sem ↓] run_mn run_mx

theorem validB_false {lo hi : Int} : validB lo hi = false ↔ ¬ (lo ≤ hi ∧ -1099511627776 ≤ lo ∧ hi ≤ 1099511627776) := by simp [validB]
def insideB (x0 y0 x1 y1 : Int) : Bool := decide (x1 ≤ x0 ∧ y0 ≤ y1)
def inside2B (x0 y0 x1 y1 : Int) : Bool := validB x0 y0 && validB x1 y1 && insideB x0 y0 x1 y1
theorem inside2B_iff {x0 y0 x1 y1 : Int} : inside2B x0 y0 x1 y1 = true ↔ validB x0 y0 = true ∧ validB x1 y1 = true ∧ x1 ≤ x0 ∧ y0 ≤ y1 := by simp [inside2B, insideB, and_assoc]
theorem insideB_iff {x0 y0 x1 y1 : Int} : insideB x0 y0 x1 y1 = true ↔ x1 ≤ x0 ∧ y0 ≤ y1 := by simp [insideB]
set_option maxHeartbeats 400000 in
theorem ref05_Inside (x0 y0 x1 y1 : Int) (w : World) :
    Calls Try.prog 12 #[(.agg #[.int .i64 (x0), .int .i64 (y0)]), (.agg #[.int .i64 (x1), .int .i64 (y1)])] w fun e w' => e = .returned (.bool (insideB x0 y0 x1 y1)) ∧ ∃ d, w' = bw w d := by
  refine lay_start ?_
  go_enter Try.func12, Try.ntmps12
  go_wp2
  all_goals go_ret
  all_goals exact ⟨ret_bool (by rw [Bool.eq_iff_iff]; simp [insideB]; omega), lay_ex _ _⟩
def meetLo (x0 y0 x1 y1 : Int) : Int := if max x0 x1 ≤ min y0 y1 then max x0 x1 else 0
def meetHi (x0 y0 x1 y1 : Int) : Int := if max x0 x1 ≤ min y0 y1 then min y0 y1 else 0
def meetE (x0 y0 x1 y1 : Int) : Int := if max x0 x1 ≤ min y0 y1 then 0 else 23
theorem meet_bad {x0 y0 x1 y1 : Int} (h : mn y0 y1 < mx x0 x1) : meetLo x0 y0 x1 y1 = 0 ∧ meetHi x0 y0 x1 y1 = 0 ∧ meetE x0 y0 x1 y1 = 23 := by
  rw [mn_eq, mx_eq] at h
  unfold meetLo meetHi meetE; omega
theorem meet_good {x0 y0 x1 y1 : Int} (h : mx x0 x1 ≤ mn y0 y1) : meetLo x0 y0 x1 y1 = mx x0 x1 ∧ meetHi x0 y0 x1 y1 = mn y0 y1 ∧ meetE x0 y0 x1 y1 = 0 := by
  rw [mn_eq, mx_eq] at *
  unfold meetLo meetHi meetE; omega
set_option maxHeartbeats 400000 in
theorem angle_Meet (x0 y0 x1 y1 : Int) (w : World) (h1 : validB x0 y0 = true) (h2 : validB x1 y1 = true) :
    Calls Try.prog 36 #[(.agg #[.int .i64 (x0), .int .i64 (y0)]), (.agg #[.int .i64 (x1), .int .i64 (y1)])] w fun e w' => e = .returned (.tuple #[(.agg #[.int .i64 (meetLo x0 y0 x1 y1), .int .i64 (meetHi x0 y0 x1 y1)]), .int .i64 (meetE x0 y0 x1 y1)]) ∧ ∃ d, w' = bw w d := by
  by_cases h3 : mn y0 y1 < mx x0 x1
  · have HG := Lib.hid (meet_bad h3)
    refine lay_start ?_
    go_enter Try.func36, Try.ntmps36
    go_wp2_with (go_at_call 29; refine (angle_Valid _ _ _).mono ?_; rintro e w' ⟨rfl, d, rfl⟩)
    obtain ⟨g1, g2, g3⟩ := HG.out
    exact bodyPost_ret (v := .tuple #[(.agg #[.int .i64 (meetLo x0 y0 x1 y1), .int .i64 (meetHi x0 y0 x1 y1)]), .int .i64 (meetE x0 y0 x1 y1)]) (by simp [results, Try.results36, go_sem, g1, g2, g3]) rfl ⟨rfl, lay_ex _ _⟩
  · have HG := Lib.hid (meet_good (x0 := x0) (y0 := y0) (x1 := x1) (y1 := y1) (by omega))
    refine lay_start ?_
    go_enter Try.func36, Try.ntmps36
    go_wp2_with (go_at_call 29; refine (angle_Valid _ _ _).mono ?_; rintro e w' ⟨rfl, d, rfl⟩)
    obtain ⟨g1, g2, g3⟩ := HG.out
    exact bodyPost_ret (v := .tuple #[(.agg #[.int .i64 (meetLo x0 y0 x1 y1), .int .i64 (meetHi x0 y0 x1 y1)]), .int .i64 (meetE x0 y0 x1 y1)]) (by simp [results, Try.results36, go_sem, g1, g2, g3]) rfl ⟨rfl, lay_ex _ _⟩
set_option maxHeartbeats 400000 in
theorem ref05_Meet (x0 y0 x1 y1 : Int) (w : World) :
    Calls Try.prog 17 #[(.agg #[.int .i64 (x0), .int .i64 (y0)]), (.agg #[.int .i64 (x1), .int .i64 (y1)])] w fun e w' => e = .returned (.agg #[.int .i64 (mx x0 x1), .int .i64 (mn y0 y1)]) ∧ ∃ d, w' = bw w d := by
  refine lay_start ?_
  go_enter Try.func17, Try.ntmps17
  go_wp2
  all_goals exact bodyPost_ret (v := (.agg #[.int .i64 (mx x0 x1), .int .i64 (mn y0 y1)])) (by simp [results, Try.results17, go_sem, mn, mx]; omega) rfl ⟨rfl, lay_ex _ _⟩
def meetsB (x0 y0 x1 y1 : Int) : Bool := decide (x0 ≤ y1 ∧ x1 ≤ y0)
set_option maxHeartbeats 400000 in
theorem ref05_Meets (x0 y0 x1 y1 : Int) (w : World) :
    Calls Try.prog 16 #[(.agg #[.int .i64 (x0), .int .i64 (y0)]), (.agg #[.int .i64 (x1), .int .i64 (y1)])] w fun e w' => e = .returned (.bool (meetsB x0 y0 x1 y1)) ∧ ∃ d, w' = bw w d := by
  refine lay_start ?_
  go_enter Try.func16, Try.ntmps16
  go_wp2
  all_goals go_ret
  all_goals exact ⟨ret_bool (by rw [Bool.eq_iff_iff]; simp [meetsB]; omega), lay_ex _ _⟩
def turnLo (x0 y0 : Int) : Int := if 21600000 ≤ y0 - x0 then 0 else x0 % 21600000
def turnHi (x0 y0 : Int) : Int := if 21600000 ≤ y0 - x0 then 21600000 else x0 % 21600000 + (y0 - x0)
set_option maxHeartbeats 400000 in
theorem angle_Turn (x0 y0 : Int) (w : World) (h1 : validB x0 y0 = true) :
    Calls Try.prog 77 #[(.agg #[.int .i64 (x0), .int .i64 (y0)])] w fun e w' => e = .returned (.tuple #[(.agg #[.int .i64 (turnLo x0 y0), .int .i64 (turnHi x0 y0)]), .int .i64 0]) ∧ ∃ d, w' = bw w d := by
  obtain ⟨g1, g2, g3⟩ := validB_iff.1 h1
  refine lay_start ?_
  go_enter Try.func77, Try.ntmps77
  go_wp2_with (first | (go_at_call 29; refine (angle_Valid _ _ _).mono ?_; rintro e w' ⟨rfl, d, rfl⟩) | (go_at_call 80; refine (angle_Wrap _ _).mono ?_; rintro e w' ⟨rfl, rfl⟩))
  all_goals exact bodyPost_ret (v := .tuple #[(.agg #[.int .i64 (turnLo x0 y0), .int .i64 (turnHi x0 y0)]), .int .i64 0]) (by simp [results, Try.results77, go_sem, turnLo, turnHi]; omega) rfl ⟨rfl, lay_ex _ _⟩

end Go.Proofs.Ytakcfcekdngndaa
/- Sines and cosines over arcs: what the program returns. -/
namespace Go.Proofs.Ytakcfcekdngndaa
open Go.RowKit

theorem sinQ_le {n : Nat} (h : n ≤ 5400000) : sinQ n ≤ 1073741824 := by
  unfold sinQ
  split
  · omega
  · split
    · omega
    · split
      · omega
      · split
        · exact Nat.le_of_lt (octS_lt (by omega) (by omega) (by omega))
        · exact Nat.le_of_lt (octC_lt (by omega) (by omega))
/-- The angle of the first quadrant, and whether the sine is negative. -/
def foldT (n : Int) : Nat := if 10800000 < n % 21600000 then (if 16200000 < n % 21600000 then (21600000 - n % 21600000).toNat else (n % 21600000 - 10800000).toNat) else (if 5400000 < n % 21600000 then (10800000 - n % 21600000).toNat else (n % 21600000).toNat)
def souB (n : Int) : Bool := decide (10800000 < n % 21600000)
def oneQ (n : Nat) : Int := if exaQ n then 0 else 1
def bLo (n : Int) : Int := if souB n then -((sinQ (foldT n) : Int) + oneQ (foldT n)) else (sinQ (foldT n) : Int)
def bHi (n : Int) : Int := if souB n then -(sinQ (foldT n) : Int) else (sinQ (foldT n) : Int) + oneQ (foldT n)
theorem foldT_le (n : Int) : foldT n ≤ 5400000 := by
  unfold foldT
  split <;> split <;> omega
theorem oneQ_in (n : Nat) : 0 ≤ oneQ n ∧ oneQ n ≤ 1 := by unfold oneQ; split <;> omega
theorem bLo_in (n : Int) : -1073741825 ≤ bLo n ∧ bLo n ≤ 1073741824 := by
  have h := sinQ_le (foldT_le n)
  have h1 := oneQ_in (foldT n)
  unfold bLo
  split <;> omega
theorem bHi_in (n : Int) : -1073741824 ≤ bHi n ∧ bHi n ≤ 1073741825 := by
  have h := sinQ_le (foldT_le n)
  have h1 := oneQ_in (foldT n)
  unfold bHi
  split <;> omega
theorem tmod_turn (n : Int) : n.tmod 21600000 = n % 21600000 ∨ (n.tmod 21600000 < 0 ∧ n.tmod 21600000 + 21600000 = n % 21600000) := by
  by_cases h : 0 ≤ n
  · left; exact Int.tmod_eq_emod_of_nonneg h
  · have h1 : n.tmod 21600000 = -((-n) % 21600000) := by
      have := Int.neg_tmod (a := -n) (b := 21600000)
      rw [Int.neg_neg] at this
      rw [this, Int.tmod_eq_emod_of_nonneg (by omega)]
    rw [h1]
    omega
set_option maxRecDepth 100000 in
theorem tg_turned (n : Int) (w : World) :
    Calls Try.prog 89 #[.int .i64 n] w fun e w' => e = .returned (.int .i64 (n % 21600000)) ∧ w' = w := by
  obtain ⟨r, hr⟩ : ∃ r, n.tmod 21600000 = r := ⟨_, rfl⟩
  obtain ⟨q, hq⟩ : ∃ q, n % 21600000 = q := ⟨_, rfl⟩
  have hc := tmod_turn n
  rw [hr, hq] at hc
  have hq2 : 0 ≤ q ∧ q < 21600000 := by omega
  rw [hq]
  have k1 : IntKind.i64.wrap r = r := IntWalk.i64_in _ (by omega)
  rcases hc with hc | ⟨hc, hc2⟩
  · subst hc
    have h0 : ¬ r < 0 := by omega
    go_enter Try.func89, Try.ntmps89
    go_wp2_with fail
    go_ret
    exact ⟨rfl, rfl⟩
  · have k2 : IntKind.i64.wrap q = q := IntWalk.i64_in _ (by omega)
    go_enter Try.func89, Try.ntmps89
    go_wp2_with fail
    go_ret
    exact ⟨rfl, rfl⟩
set_option maxHeartbeats 1000000 in
set_option maxRecDepth 100000 in
theorem tg_bounds (n : Int) (w : World) :
    Calls Try.prog 81 #[.int .i64 n] w fun e w' => e = .returned (.tuple #[.int .i64 (bLo n), .int .i64 (bHi n)]) ∧ ∃ d, w' = bw w d := by
  refine lay_start ?_
  have HT := Lib.hid (fun W => tg_turned n W)
  have hf := foldT_le n
  have hs := sinQ_le hf
  have HS := Lib.hid (fun W => tg_sine (foldT n) hf W)
  have h1 : bLo n = if souB n then -((sinQ (foldT n) : Int) + oneQ (foldT n)) else (sinQ (foldT n) : Int) := rfl
  have h2 : bHi n = if souB n then -(sinQ (foldT n) : Int) else (sinQ (foldT n) : Int) + oneQ (foldT n) := rfl
  have h3 : foldT n = if 10800000 < n % 21600000 then (if 16200000 < n % 21600000 then (21600000 - n % 21600000).toNat else (n % 21600000 - 10800000).toNat) else (if 5400000 < n % 21600000 then (10800000 - n % 21600000).toNat else (n % 21600000).toNat) := rfl
  have h4 : souB n = decide (10800000 < n % 21600000) := rfl
  have h5 : oneQ (foldT n) = if exaQ (foldT n) then 0 else 1 := rfl
  obtain ⟨q, hq⟩ : ∃ q, n % 21600000 = q := ⟨_, rfl⟩
  have hq2 : 0 ≤ q ∧ q < 21600000 := by omega
  rw [hq] at HT h3 h4
  clear hq
  generalize foldT n = f at *
  generalize sinQ f = s at *
  generalize exaQ f = x at *
  rw [h1, h2]
  clear h1 h2
  rw [h4]
  have ks : IntKind.i64.wrap (s : Int) = (s : Int) := IntWalk.i64_in _ (by omega)
  obtain ⟨s1, hs1⟩ : ∃ s1 : Int, (s : Int) + 1 = s1 := ⟨_, rfl⟩
  have ks1 : IntKind.i64.wrap s1 = s1 := IntWalk.i64_in _ (by omega)
  obtain ⟨m1, hm1⟩ : ∃ m1 : Int, -s1 = m1 := ⟨_, rfl⟩
  have km1 : IntKind.i64.wrap m1 = m1 := IntWalk.i64_in _ (by omega)
  obtain ⟨m0, hm0⟩ : ∃ m0 : Int, -(s : Int) = m0 := ⟨_, rfl⟩
  have km0 : IntKind.i64.wrap m0 = m0 := IntWalk.i64_in _ (by omega)
  by_cases c1 : 10800000 < q
  · have e1 : decide (10800000 < q) = true := decide_eq_true c1
    obtain ⟨p, hp⟩ : ∃ p : Int, q - 10800000 = p := ⟨_, rfl⟩
    have kp : IntKind.i64.wrap p = p := IntWalk.i64_in _ (by omega)
    rw [if_pos c1] at h3
    by_cases c2 : 5400000 < p
    · obtain ⟨g, hg⟩ : ∃ g : Int, 10800000 - p = g := ⟨_, rfl⟩
      have kg : IntKind.i64.wrap g = g := IntWalk.i64_in _ (by omega)
      have hfg : (f : Int) = g := by rw [h3, if_pos (by omega)]; omega
      rw [hfg] at HS
      clear h3 hf
      cases x
      · rw [e1, show oneQ f = 1 from h5]
        clear h5 h4
        first | simp only [if_true] | simp only [Bool.false_eq_true, if_false]
        first | rw [hs1] | skip
        first | rw [hm1] | skip
        first | rw [hm0] | skip
        go_enter Try.func81, Try.ntmps81
        go_wp2_with (first | (go_at_call 89; refine (HT.out _).mono ?_; rintro e w' ⟨rfl, hw⟩; rw [hw]) | (go_at_call 90; refine (HS.out _).mono ?_; rintro e w' ⟨rfl, d, rfl⟩))
        refine bodyPost_ret (v := .tuple #[.int .i64 m1, .int .i64 m0]) (by simp [results, Try.results81, go_sem]) rfl ⟨?_, lay_ex _ _⟩
        first | rfl | (simp; omega) | simp
      · rw [e1, show oneQ f = 0 from h5]
        clear h5 h4
        first | simp only [if_true] | simp only [Bool.false_eq_true, if_false]
        first | rw [hs1] | skip
        first | rw [hm1] | skip
        first | rw [hm0] | skip
        go_enter Try.func81, Try.ntmps81
        go_wp2_with (first | (go_at_call 89; refine (HT.out _).mono ?_; rintro e w' ⟨rfl, hw⟩; rw [hw]) | (go_at_call 90; refine (HS.out _).mono ?_; rintro e w' ⟨rfl, d, rfl⟩))
        refine bodyPost_ret (v := .tuple #[.int .i64 m0, .int .i64 m0]) (by simp [results, Try.results81, go_sem]) rfl ⟨?_, lay_ex _ _⟩
        first | rfl | (simp; omega) | simp
    · have hfg : (f : Int) = p := by rw [h3, if_neg (by omega)]; omega
      rw [hfg] at HS
      clear h3 hf
      cases x
      · rw [e1, show oneQ f = 1 from h5]
        clear h5 h4
        first | simp only [if_true] | simp only [Bool.false_eq_true, if_false]
        first | rw [hs1] | skip
        first | rw [hm1] | skip
        first | rw [hm0] | skip
        go_enter Try.func81, Try.ntmps81
        go_wp2_with (first | (go_at_call 89; refine (HT.out _).mono ?_; rintro e w' ⟨rfl, hw⟩; rw [hw]) | (go_at_call 90; refine (HS.out _).mono ?_; rintro e w' ⟨rfl, d, rfl⟩))
        refine bodyPost_ret (v := .tuple #[.int .i64 m1, .int .i64 m0]) (by simp [results, Try.results81, go_sem]) rfl ⟨?_, lay_ex _ _⟩
        first | rfl | (simp; omega) | simp
      · rw [e1, show oneQ f = 0 from h5]
        clear h5 h4
        first | simp only [if_true] | simp only [Bool.false_eq_true, if_false]
        first | rw [hs1] | skip
        first | rw [hm1] | skip
        first | rw [hm0] | skip
        go_enter Try.func81, Try.ntmps81
        go_wp2_with (first | (go_at_call 89; refine (HT.out _).mono ?_; rintro e w' ⟨rfl, hw⟩; rw [hw]) | (go_at_call 90; refine (HS.out _).mono ?_; rintro e w' ⟨rfl, d, rfl⟩))
        refine bodyPost_ret (v := .tuple #[.int .i64 m0, .int .i64 m0]) (by simp [results, Try.results81, go_sem]) rfl ⟨?_, lay_ex _ _⟩
        first | rfl | (simp; omega) | simp
  · have e1 : decide (10800000 < q) = false := decide_eq_false c1
    rw [if_neg c1] at h3
    by_cases c2 : 5400000 < q
    · obtain ⟨g, hg⟩ : ∃ g : Int, 10800000 - q = g := ⟨_, rfl⟩
      have kg : IntKind.i64.wrap g = g := IntWalk.i64_in _ (by omega)
      have hfg : (f : Int) = g := by rw [h3, if_pos (by omega)]; omega
      rw [hfg] at HS
      clear h3 hf
      cases x
      · rw [e1, show oneQ f = 1 from h5]
        clear h5 h4
        first | simp only [if_true] | simp only [Bool.false_eq_true, if_false]
        first | rw [hs1] | skip
        first | rw [hm1] | skip
        first | rw [hm0] | skip
        go_enter Try.func81, Try.ntmps81
        go_wp2_with (first | (go_at_call 89; refine (HT.out _).mono ?_; rintro e w' ⟨rfl, hw⟩; rw [hw]) | (go_at_call 90; refine (HS.out _).mono ?_; rintro e w' ⟨rfl, d, rfl⟩))
        refine bodyPost_ret (v := .tuple #[.int .i64 (s : Int), .int .i64 s1]) (by simp [results, Try.results81, go_sem]) rfl ⟨?_, lay_ex _ _⟩
        first | rfl | (simp; omega) | simp
      · rw [e1, show oneQ f = 0 from h5]
        clear h5 h4
        first | simp only [if_true] | simp only [Bool.false_eq_true, if_false]
        first | rw [hs1] | skip
        first | rw [hm1] | skip
        first | rw [hm0] | skip
        go_enter Try.func81, Try.ntmps81
        go_wp2_with (first | (go_at_call 89; refine (HT.out _).mono ?_; rintro e w' ⟨rfl, hw⟩; rw [hw]) | (go_at_call 90; refine (HS.out _).mono ?_; rintro e w' ⟨rfl, d, rfl⟩))
        refine bodyPost_ret (v := .tuple #[.int .i64 (s : Int), .int .i64 (s : Int)]) (by simp [results, Try.results81, go_sem]) rfl ⟨?_, lay_ex _ _⟩
        first | rfl | (simp; omega) | simp
    · have hfg : (f : Int) = q := by rw [h3, if_neg (by omega)]; omega
      rw [hfg] at HS
      clear h3 hf
      cases x
      · rw [e1, show oneQ f = 1 from h5]
        clear h5 h4
        first | simp only [if_true] | simp only [Bool.false_eq_true, if_false]
        first | rw [hs1] | skip
        first | rw [hm1] | skip
        first | rw [hm0] | skip
        go_enter Try.func81, Try.ntmps81
        go_wp2_with (first | (go_at_call 89; refine (HT.out _).mono ?_; rintro e w' ⟨rfl, hw⟩; rw [hw]) | (go_at_call 90; refine (HS.out _).mono ?_; rintro e w' ⟨rfl, d, rfl⟩))
        refine bodyPost_ret (v := .tuple #[.int .i64 (s : Int), .int .i64 s1]) (by simp [results, Try.results81, go_sem]) rfl ⟨?_, lay_ex _ _⟩
        first | rfl | (simp; omega) | simp
      · rw [e1, show oneQ f = 0 from h5]
        clear h5 h4
        first | simp only [if_true] | simp only [Bool.false_eq_true, if_false]
        first | rw [hs1] | skip
        first | rw [hm1] | skip
        first | rw [hm0] | skip
        go_enter Try.func81, Try.ntmps81
        go_wp2_with (first | (go_at_call 89; refine (HT.out _).mono ?_; rintro e w' ⟨rfl, hw⟩; rw [hw]) | (go_at_call 90; refine (HS.out _).mono ?_; rintro e w' ⟨rfl, d, rfl⟩))
        refine bodyPost_ret (v := .tuple #[.int .i64 (s : Int), .int .i64 (s : Int)]) (by simp [results, Try.results81, go_sem]) rfl ⟨?_, lay_ex _ _⟩
        first | rfl | (simp; omega) | simp
/-- Does an arc contain an angle, but for whole turns? -/
def metB (lo hi n : Int) : Bool := decide ((n - lo) % 21600000 ≤ hi - lo)
set_option maxRecDepth 100000 in
theorem tg_meets (lo hi n : Int) (h1 : -2199023255552 ≤ lo) (h2 : lo ≤ hi) (h3 : hi ≤ 2199023255552) (h4 : 0 ≤ n) (h5 : n ≤ 21600000) (w : World) :
    Calls Try.prog 82 #[(.agg #[.int .i64 (lo), .int .i64 (hi)]), .int .i64 n] w fun e w' => e = .returned (.bool (metB lo hi n)) ∧ ∃ d, w' = bw w d := by
  refine lay_start ?_
  obtain ⟨D, hD⟩ : ∃ D : Int, n - lo = D := ⟨_, rfl⟩
  obtain ⟨E, hE⟩ : ∃ E : Int, hi - lo = E := ⟨_, rfl⟩
  have HT := Lib.hid (fun W => tg_turned D W)
  obtain ⟨q, hq⟩ : ∃ q, D % 21600000 = q := ⟨_, rfl⟩
  rw [show metB lo hi n = decide (q ≤ E) by unfold metB; rw [hD, hE, hq]]
  rw [hq] at HT
  have kD : IntKind.i64.wrap D = D := IntWalk.i64_in _ (by omega)
  have kE : IntKind.i64.wrap E = E := IntWalk.i64_in _ (by omega)
  clear hq
  go_enter Try.func82, Try.ntmps82
  go_wp2_with fail
  refine region_bw (by kernel_rfl) (by kernel_rfl) ?_
  repeat (go_big_quiet_step ((first | (go_at_call 89; exact bqs (HT.out _) ⟨_, rfl⟩))))
  refine wpQuiet_nil ?_
  rintro w' ⟨d, rfl⟩
  rw [lay_bw]
  go_wp2_with fail
  go_ret
  exact ⟨rfl, lay_ex _ _⟩
set_option maxRecDepth 100000 in
theorem tg_further (lo hi : Int) (h1 : -2199023255552 ≤ lo) (h2 : lo ≤ hi) (h3 : hi ≤ 2199023255552) (w : World) :
    Calls Try.prog 64 #[(.agg #[.int .i64 (lo), .int .i64 (hi)])] w fun e w' => e = .returned (.agg #[.int .i64 (lo + 5400000), .int .i64 (hi + 5400000)]) ∧ ∃ d, w' = bw w d := by
  refine lay_start ?_
  have k1 : IntKind.i64.wrap (lo + 5400000) = lo + 5400000 := IntWalk.i64_in _ (by omega)
  have k2 : IntKind.i64.wrap (hi + 5400000) = hi + 5400000 := IntWalk.i64_in _ (by omega)
  go_enter Try.func64, Try.ntmps64
  go_wp2_with fail
  exact bodyPost_ret (v := (.agg #[.int .i64 (lo + 5400000), .int .i64 (hi + 5400000)])) (by simp [results, Try.results64, go_sem]) rfl ⟨rfl, lay_ex _ _⟩
set_option maxRecDepth 100000 in
theorem tg_valid (lo hi : Int) (w : World) :
    Calls Try.prog 62 #[(.agg #[.int .i64 (lo), .int .i64 (hi)])] w fun e w' => e = .returned (.bool (validB lo hi)) ∧ ∃ d, w' = bw w d := by
  refine lay_start ?_
  go_enter Try.func62, Try.ntmps62
  go_wp2
  all_goals go_ret
  all_goals exact ⟨ret_bool (by rw [Bool.eq_iff_iff]; simp [validB]; omega), lay_ex _ _⟩
/-- The enclosure of the sine over an arc. -/
def encL (lo hi : Int) : Int := if metB lo hi 16200000 then -1073741824 else mn (bLo lo) (bLo hi)
def encH (lo hi : Int) : Int := if metB lo hi 5400000 then 1073741824 else mx (bHi lo) (bHi hi)
set_option maxHeartbeats 1000000 in
set_option maxRecDepth 100000 in
theorem tg_enclosure (lo hi : Int) (h1 : -2199023255552 ≤ lo) (h2 : lo ≤ hi) (h3 : hi ≤ 2199023255552) (w : World) :
    Calls Try.prog 63 #[(.agg #[.int .i64 (lo), .int .i64 (hi)])] w fun e w' => e = .returned (.agg #[.int .i64 (encL lo hi), .int .i64 (encH lo hi)]) ∧ ∃ d, w' = bw w d := by
  refine lay_start ?_
  have HB1 := Lib.hid (fun W => tg_bounds lo W)
  have HB2 := Lib.hid (fun W => tg_bounds hi W)
  have HM1 := Lib.hid (fun W => tg_meets lo hi 5400000 h1 h2 h3 (by decide) (by decide) W)
  have HM2 := Lib.hid (fun W => tg_meets lo hi 16200000 h1 h2 h3 (by decide) (by decide) W)
  have e1 : encL lo hi = if metB lo hi 16200000 then -1073741824 else mn (bLo lo) (bLo hi) := rfl
  have e2 : encH lo hi = if metB lo hi 5400000 then 1073741824 else mx (bHi lo) (bHi hi) := rfl
  rw [e1, e2]
  clear e1 e2
  generalize bLo lo = p at *
  generalize bLo hi = q at *
  generalize bHi lo = r at *
  generalize bHi hi = s at *
  cases hm1 : metB lo hi 5400000 <;> cases hm2 : metB lo hi 16200000
  all_goals
    rw [hm1] at HM1
    rw [hm2] at HM2
    clear hm1 hm2
    go_enter Try.func63, Try.ntmps63
    go_wp2_with (first | (go_at_call 81; first | (with_reducible refine (HB1.out _).mono ?_; rintro e w' ⟨rfl, d, rfl⟩) | (with_reducible refine (HB2.out _).mono ?_; rintro e w' ⟨rfl, d', rfl⟩)) | (go_at_call 82; first | (with_reducible refine (HM1.out _).mono ?_; rintro e w' ⟨rfl, d, rfl⟩) | (with_reducible refine (HM2.out _).mono ?_; rintro e w' ⟨rfl, d', rfl⟩)))
  · exact bodyPost_ret (v := (.agg #[.int .i64 (mn p q), .int .i64 (mx r s)])) (by simp [results, Try.results63, go_sem]) rfl ⟨rfl, lay_ex _ _⟩
  · exact bodyPost_ret (v := (.agg #[.int .i64 (-1073741824), .int .i64 (mx r s)])) (by simp [results, Try.results63, go_sem]) rfl ⟨rfl, lay_ex _ _⟩
  · exact bodyPost_ret (v := (.agg #[.int .i64 (mn p q), .int .i64 (1073741824)])) (by simp [results, Try.results63, go_sem]) rfl ⟨rfl, lay_ex _ _⟩
  · exact bodyPost_ret (v := (.agg #[.int .i64 (-1073741824), .int .i64 (1073741824)])) (by simp [results, Try.results63, go_sem]) rfl ⟨rfl, lay_ex _ _⟩
attribute [irreducible] encL encH bLo bHi
set_option maxRecDepth 100000 in
theorem tg_Sin (lo hi : Int) (hv : validB lo hi = true) (w : World) :
    Calls Try.prog 40 #[(.agg #[.int .i64 (lo), .int .i64 (hi)])] w fun e w' => e = .returned (.tuple #[(.agg #[.int .i64 (encL lo hi), .int .i64 (encH lo hi)]), .int .i64 0]) ∧ ∃ d, w' = bw w d := by
  refine lay_start ?_
  have h := validB_iff.1 hv
  have HV := Lib.hid (fun W => tg_valid lo hi W)
  rw [hv] at HV
  have HE := Lib.hid (fun W => tg_enclosure lo hi (by omega) h.1 (by omega) W)
  clear h hv
  generalize encL lo hi = p at *
  generalize encH lo hi = q at *
  go_enter Try.func40, Try.ntmps40
  go_wp2_with (first | (go_at_call 62; refine (HV.out _).mono ?_; rintro e w' ⟨rfl, d, rfl⟩) | (go_at_call 63; refine (HE.out _).mono ?_; rintro e w' ⟨rfl, d, rfl⟩))
  exact bodyPost_ret (v := .tuple #[(.agg #[.int .i64 (p), .int .i64 (q)]), .int .i64 0]) (by simp [results, Try.results40, go_sem]) rfl ⟨rfl, lay_ex _ _⟩
set_option maxRecDepth 100000 in
theorem tg_Cos (lo hi : Int) (hv : validB lo hi = true) (w : World) :
    Calls Try.prog 41 #[(.agg #[.int .i64 (lo), .int .i64 (hi)])] w fun e w' => e = .returned (.tuple #[(.agg #[.int .i64 (encL (lo + 5400000) (hi + 5400000)), .int .i64 (encH (lo + 5400000) (hi + 5400000))]), .int .i64 0]) ∧ ∃ d, w' = bw w d := by
  refine lay_start ?_
  have h := validB_iff.1 hv
  have HV := Lib.hid (fun W => tg_valid lo hi W)
  rw [hv] at HV
  have HF := Lib.hid (fun W => tg_further lo hi (by omega) h.1 (by omega) W)
  have HE := Lib.hid (fun W => tg_enclosure (lo + 5400000) (hi + 5400000) (by omega) (by omega) (by omega) W)
  clear h hv
  generalize encL (lo + 5400000) (hi + 5400000) = p at *
  generalize encH (lo + 5400000) (hi + 5400000) = q at *
  go_enter Try.func41, Try.ntmps41
  go_wp2_with (first | (go_at_call 62; refine (HV.out _).mono ?_; rintro e w' ⟨rfl, d, rfl⟩) | (go_at_call 64; refine (HF.out _).mono ?_; rintro e w' ⟨rfl, d, rfl⟩) | (go_at_call 63; refine (HE.out _).mono ?_; rintro e w' ⟨rfl, d, rfl⟩))
  exact bodyPost_ret (v := .tuple #[(.agg #[.int .i64 (p), .int .i64 (q)]), .int .i64 0]) (by simp [results, Try.results41, go_sem]) rfl ⟨rfl, lay_ex _ _⟩
end Go.Proofs.Ytakcfcekdngndaa
