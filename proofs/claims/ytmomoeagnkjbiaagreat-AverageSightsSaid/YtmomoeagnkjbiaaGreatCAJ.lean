/- Contracts and plain laws, several texts in one: Sg0 -/
import Derived.Test.YtmomoeagnkjbiaaGreatProg
import Derived.WalkKit
import Derived.WalkSpells
import Derived.WalkLawsBesides
import Derived.Lib.Hide
import Derived.BigQuiet
import Derived.Test.YtmomoeagnkjbiaaGreatCAA
import Derived.Test.YtmomoeagnkjbiaaGreatCAB
import Derived.Test.YtmomoeagnkjbiaaGreatCAH
import Derived.Test.YtmomoeagnkjbiaaGreatCAI
/- Sights by value: which are valid, in the program and in the reference. -/
namespace Go.Proofs.YtmomoeagnkjbiaaGreat
open Go.RowKit

/-- A sight by value. -/
structure SgV where
  body : ByteArray
  limb : Int
  lo : Int
  hi : Int
  hs : Int
  wi : Int
  hz : Int
  ey : Int
  sh : Int
  te : Int
  pr : Int
def SgV.cells (s : SgV) : List Value := [.string s.body, .int .i64 s.limb, .int .i64 s.lo, .int .i64 s.hi, .int .i64 s.hs, .int .i64 s.wi, .int .i64 s.hz, .int .i64 s.ey, .int .i64 s.sh, .int .i64 s.te, .int .i64 s.pr]
def SgV.val (s : SgV) : Value := .agg s.cells.toArray
theorem sg_val (s : SgV) : s.val = .agg #[.string s.body, .int .i64 s.limb, .int .i64 s.lo, .int .i64 s.hi, .int .i64 s.hs, .int .i64 s.wi, .int .i64 s.hz, .int .i64 s.ey, .int .i64 s.sh, .int .i64 s.te, .int .i64 s.pr] := rfl
def i64B (n : Int) : Prop := -9223372036854775808 ≤ n ∧ n ≤ 9223372036854775807
structure SgOk (s : SgV) : Prop where
  body : s.body.size ≤ 9223372036854775807
  lo : i64B s.lo
  hi : i64B s.hi
  hs : i64B s.hs
  wi : i64B s.wi
def fromB (n lo hi : Int) : Bool := decide (lo ≤ n) && decide (n ≤ hi)
theorem fromB_iff {n lo hi : Int} : fromB n lo hi = true ↔ lo ≤ n ∧ n ≤ hi := by unfold fromB; simp
set_option maxHeartbeats 400000 in
theorem cor_from (n lo hi : Int) (w : World) :
    Calls Tryz.prog 64 #[.int .i64 n, .int .i64 lo, .int .i64 hi] w fun e w' => e = .returned (.bool (fromB n lo hi)) ∧ w' = w := by
  unfold fromB
  by_cases h1 : lo ≤ n
  · by_cases h2 : n ≤ hi
    · rw [decide_eq_true h1, decide_eq_true h2]
      go_enter Tryz.func64, Tryz.ntmps64
      go_wp2_with fail
      go_ret
      exact ⟨rfl, rfl⟩
    · rw [decide_eq_true h1, decide_eq_false h2]
      go_enter Tryz.func64, Tryz.ntmps64
      go_wp2_with fail
      go_ret
      exact ⟨rfl, rfl⟩
  · rw [decide_eq_false h1]
    go_enter Tryz.func64, Tryz.ntmps64
    go_wp2_with fail
    go_ret
    exact ⟨rfl, rfl⟩
/-- Where the waterline may be. -/
def shoB (s : SgV) : Bool := if s.hz = 2 ∧ s.ey ≠ 0 then false else if s.hz = 3 then fromB s.sh 1 100000 else decide (s.sh = 0)
/-- A valid sight. -/
noncomputable def sgB (s : SgV) : Bool := nameB s.body && (fromB s.limb 1 3 && (timB s.lo s.hi && (fromB s.hs (-60000) 7800000 && (fromB s.wi 0 60000 && (fromB s.hz 1 3 && (fromB s.te (-500) 600 && (fromB s.pr 5000 11000 && (fromB s.ey 0 10000 && shoB s))))))))
set_option maxHeartbeats 4000000 in
set_option maxRecDepth 100000 in
theorem cor_Valid (s : SgV) (w : World) (hs : SgOk s) :
    Calls Tryz.prog 25 #[s.val] w fun e w' => e = .returned (.bool (sgB s)) ∧ ∃ d, w' = bw w d := by
  have H0 := Lib.hid (fun W => dec_IsName s.body W hs.body)
  have H1 := Lib.hid (fun W => cor_from s.limb 1 3 W)
  have H2 := Lib.hid (fun W => clock_Valid s.lo s.hi W)
  have H3 := Lib.hid (fun W => cor_from s.hs (-60000) 7800000 W)
  have H4 := Lib.hid (fun W => cor_from s.wi 0 60000 W)
  have H5 := Lib.hid (fun W => cor_from s.hz 1 3 W)
  have H6 := Lib.hid (fun W => cor_from s.te (-500) 600 W)
  have H7 := Lib.hid (fun W => cor_from s.pr 5000 11000 W)
  have H8 := Lib.hid (fun W => cor_from s.ey 0 10000 W)
  have H9 := Lib.hid (fun W => cor_from s.sh 1 100000 W)
  rw [sg_val]
  unfold sgB shoB
  clear hs
  obtain ⟨body, limb, lo, hi, hs, wi, hz, ey, sh, te, pr⟩ := s
  dsimp only at *
  generalize nameB body = b0 at *
  generalize fromB limb 1 3 = b1 at *
  generalize timB lo hi = b2 at *
  generalize fromB hs (-60000) 7800000 = b3 at *
  generalize fromB wi 0 60000 = b4 at *
  generalize fromB hz 1 3 = b5 at *
  generalize fromB te (-500) 600 = b6 at *
  generalize fromB pr 5000 11000 = b7 at *
  generalize fromB ey 0 10000 = b8 at *
  generalize fromB sh 1 100000 = b9 at *
  cases b0
  · try simp only [Bool.true_and]
    try simp only [Bool.false_and]
    refine lay_start ?_
    go_enter Tryz.func25, Tryz.ntmps25
    go_wp2_with (first | (go_at_call 63; refine (H0.out _).mono ?_; rintro e w1 ⟨rfl, hw1⟩; rw [hw1]) | (go_at_call 65; refine (H2.out _).mono ?_; rintro e w' ⟨rfl, dT, rfl⟩) | (go_at_call 64; first | (with_reducible refine (H1.out _).mono ?_; rintro e w1 ⟨rfl, hw1⟩; rw [hw1]) | (with_reducible refine (H3.out _).mono ?_; rintro e w1 ⟨rfl, hw1⟩; rw [hw1]) | (with_reducible refine (H4.out _).mono ?_; rintro e w1 ⟨rfl, hw1⟩; rw [hw1]) | (with_reducible refine (H5.out _).mono ?_; rintro e w1 ⟨rfl, hw1⟩; rw [hw1]) | (with_reducible refine (H6.out _).mono ?_; rintro e w1 ⟨rfl, hw1⟩; rw [hw1]) | (with_reducible refine (H7.out _).mono ?_; rintro e w1 ⟨rfl, hw1⟩; rw [hw1]) | (with_reducible refine (H8.out _).mono ?_; rintro e w1 ⟨rfl, hw1⟩; rw [hw1]) | (with_reducible refine (H9.out _).mono ?_; rintro e w1 ⟨rfl, hw1⟩; rw [hw1])))
    go_ret
    exact ⟨rfl, lay_ex _ _⟩
  cases b1
  · try simp only [Bool.true_and]
    try simp only [Bool.false_and]
    refine lay_start ?_
    go_enter Tryz.func25, Tryz.ntmps25
    go_wp2_with (first | (go_at_call 63; refine (H0.out _).mono ?_; rintro e w1 ⟨rfl, hw1⟩; rw [hw1]) | (go_at_call 65; refine (H2.out _).mono ?_; rintro e w' ⟨rfl, dT, rfl⟩) | (go_at_call 64; first | (with_reducible refine (H1.out _).mono ?_; rintro e w1 ⟨rfl, hw1⟩; rw [hw1]) | (with_reducible refine (H3.out _).mono ?_; rintro e w1 ⟨rfl, hw1⟩; rw [hw1]) | (with_reducible refine (H4.out _).mono ?_; rintro e w1 ⟨rfl, hw1⟩; rw [hw1]) | (with_reducible refine (H5.out _).mono ?_; rintro e w1 ⟨rfl, hw1⟩; rw [hw1]) | (with_reducible refine (H6.out _).mono ?_; rintro e w1 ⟨rfl, hw1⟩; rw [hw1]) | (with_reducible refine (H7.out _).mono ?_; rintro e w1 ⟨rfl, hw1⟩; rw [hw1]) | (with_reducible refine (H8.out _).mono ?_; rintro e w1 ⟨rfl, hw1⟩; rw [hw1]) | (with_reducible refine (H9.out _).mono ?_; rintro e w1 ⟨rfl, hw1⟩; rw [hw1])))
    go_ret
    exact ⟨rfl, lay_ex _ _⟩
  cases b2
  · try simp only [Bool.true_and]
    try simp only [Bool.false_and]
    refine lay_start ?_
    go_enter Tryz.func25, Tryz.ntmps25
    go_wp2_with (first | (go_at_call 63; refine (H0.out _).mono ?_; rintro e w1 ⟨rfl, hw1⟩; rw [hw1]) | (go_at_call 65; refine (H2.out _).mono ?_; rintro e w' ⟨rfl, dT, rfl⟩) | (go_at_call 64; first | (with_reducible refine (H1.out _).mono ?_; rintro e w1 ⟨rfl, hw1⟩; rw [hw1]) | (with_reducible refine (H3.out _).mono ?_; rintro e w1 ⟨rfl, hw1⟩; rw [hw1]) | (with_reducible refine (H4.out _).mono ?_; rintro e w1 ⟨rfl, hw1⟩; rw [hw1]) | (with_reducible refine (H5.out _).mono ?_; rintro e w1 ⟨rfl, hw1⟩; rw [hw1]) | (with_reducible refine (H6.out _).mono ?_; rintro e w1 ⟨rfl, hw1⟩; rw [hw1]) | (with_reducible refine (H7.out _).mono ?_; rintro e w1 ⟨rfl, hw1⟩; rw [hw1]) | (with_reducible refine (H8.out _).mono ?_; rintro e w1 ⟨rfl, hw1⟩; rw [hw1]) | (with_reducible refine (H9.out _).mono ?_; rintro e w1 ⟨rfl, hw1⟩; rw [hw1])))
    go_ret
    exact ⟨rfl, lay_ex _ _⟩
  cases b3
  · try simp only [Bool.true_and]
    try simp only [Bool.false_and]
    refine lay_start ?_
    go_enter Tryz.func25, Tryz.ntmps25
    go_wp2_with (first | (go_at_call 63; refine (H0.out _).mono ?_; rintro e w1 ⟨rfl, hw1⟩; rw [hw1]) | (go_at_call 65; refine (H2.out _).mono ?_; rintro e w' ⟨rfl, dT, rfl⟩) | (go_at_call 64; first | (with_reducible refine (H1.out _).mono ?_; rintro e w1 ⟨rfl, hw1⟩; rw [hw1]) | (with_reducible refine (H3.out _).mono ?_; rintro e w1 ⟨rfl, hw1⟩; rw [hw1]) | (with_reducible refine (H4.out _).mono ?_; rintro e w1 ⟨rfl, hw1⟩; rw [hw1]) | (with_reducible refine (H5.out _).mono ?_; rintro e w1 ⟨rfl, hw1⟩; rw [hw1]) | (with_reducible refine (H6.out _).mono ?_; rintro e w1 ⟨rfl, hw1⟩; rw [hw1]) | (with_reducible refine (H7.out _).mono ?_; rintro e w1 ⟨rfl, hw1⟩; rw [hw1]) | (with_reducible refine (H8.out _).mono ?_; rintro e w1 ⟨rfl, hw1⟩; rw [hw1]) | (with_reducible refine (H9.out _).mono ?_; rintro e w1 ⟨rfl, hw1⟩; rw [hw1])))
    go_ret
    exact ⟨rfl, lay_ex _ _⟩
  cases b4
  · try simp only [Bool.true_and]
    try simp only [Bool.false_and]
    refine lay_start ?_
    go_enter Tryz.func25, Tryz.ntmps25
    go_wp2_with (first | (go_at_call 63; refine (H0.out _).mono ?_; rintro e w1 ⟨rfl, hw1⟩; rw [hw1]) | (go_at_call 65; refine (H2.out _).mono ?_; rintro e w' ⟨rfl, dT, rfl⟩) | (go_at_call 64; first | (with_reducible refine (H1.out _).mono ?_; rintro e w1 ⟨rfl, hw1⟩; rw [hw1]) | (with_reducible refine (H3.out _).mono ?_; rintro e w1 ⟨rfl, hw1⟩; rw [hw1]) | (with_reducible refine (H4.out _).mono ?_; rintro e w1 ⟨rfl, hw1⟩; rw [hw1]) | (with_reducible refine (H5.out _).mono ?_; rintro e w1 ⟨rfl, hw1⟩; rw [hw1]) | (with_reducible refine (H6.out _).mono ?_; rintro e w1 ⟨rfl, hw1⟩; rw [hw1]) | (with_reducible refine (H7.out _).mono ?_; rintro e w1 ⟨rfl, hw1⟩; rw [hw1]) | (with_reducible refine (H8.out _).mono ?_; rintro e w1 ⟨rfl, hw1⟩; rw [hw1]) | (with_reducible refine (H9.out _).mono ?_; rintro e w1 ⟨rfl, hw1⟩; rw [hw1])))
    go_ret
    exact ⟨rfl, lay_ex _ _⟩
  cases b5
  · try simp only [Bool.true_and]
    try simp only [Bool.false_and]
    refine lay_start ?_
    go_enter Tryz.func25, Tryz.ntmps25
    go_wp2_with (first | (go_at_call 63; refine (H0.out _).mono ?_; rintro e w1 ⟨rfl, hw1⟩; rw [hw1]) | (go_at_call 65; refine (H2.out _).mono ?_; rintro e w' ⟨rfl, dT, rfl⟩) | (go_at_call 64; first | (with_reducible refine (H1.out _).mono ?_; rintro e w1 ⟨rfl, hw1⟩; rw [hw1]) | (with_reducible refine (H3.out _).mono ?_; rintro e w1 ⟨rfl, hw1⟩; rw [hw1]) | (with_reducible refine (H4.out _).mono ?_; rintro e w1 ⟨rfl, hw1⟩; rw [hw1]) | (with_reducible refine (H5.out _).mono ?_; rintro e w1 ⟨rfl, hw1⟩; rw [hw1]) | (with_reducible refine (H6.out _).mono ?_; rintro e w1 ⟨rfl, hw1⟩; rw [hw1]) | (with_reducible refine (H7.out _).mono ?_; rintro e w1 ⟨rfl, hw1⟩; rw [hw1]) | (with_reducible refine (H8.out _).mono ?_; rintro e w1 ⟨rfl, hw1⟩; rw [hw1]) | (with_reducible refine (H9.out _).mono ?_; rintro e w1 ⟨rfl, hw1⟩; rw [hw1])))
    go_ret
    exact ⟨rfl, lay_ex _ _⟩
  cases b6
  · try simp only [Bool.true_and]
    try simp only [Bool.false_and]
    refine lay_start ?_
    go_enter Tryz.func25, Tryz.ntmps25
    go_wp2_with (first | (go_at_call 63; refine (H0.out _).mono ?_; rintro e w1 ⟨rfl, hw1⟩; rw [hw1]) | (go_at_call 65; refine (H2.out _).mono ?_; rintro e w' ⟨rfl, dT, rfl⟩) | (go_at_call 64; first | (with_reducible refine (H1.out _).mono ?_; rintro e w1 ⟨rfl, hw1⟩; rw [hw1]) | (with_reducible refine (H3.out _).mono ?_; rintro e w1 ⟨rfl, hw1⟩; rw [hw1]) | (with_reducible refine (H4.out _).mono ?_; rintro e w1 ⟨rfl, hw1⟩; rw [hw1]) | (with_reducible refine (H5.out _).mono ?_; rintro e w1 ⟨rfl, hw1⟩; rw [hw1]) | (with_reducible refine (H6.out _).mono ?_; rintro e w1 ⟨rfl, hw1⟩; rw [hw1]) | (with_reducible refine (H7.out _).mono ?_; rintro e w1 ⟨rfl, hw1⟩; rw [hw1]) | (with_reducible refine (H8.out _).mono ?_; rintro e w1 ⟨rfl, hw1⟩; rw [hw1]) | (with_reducible refine (H9.out _).mono ?_; rintro e w1 ⟨rfl, hw1⟩; rw [hw1])))
    go_ret
    exact ⟨rfl, lay_ex _ _⟩
  cases b7
  · try simp only [Bool.true_and]
    try simp only [Bool.false_and]
    refine lay_start ?_
    go_enter Tryz.func25, Tryz.ntmps25
    go_wp2_with (first | (go_at_call 63; refine (H0.out _).mono ?_; rintro e w1 ⟨rfl, hw1⟩; rw [hw1]) | (go_at_call 65; refine (H2.out _).mono ?_; rintro e w' ⟨rfl, dT, rfl⟩) | (go_at_call 64; first | (with_reducible refine (H1.out _).mono ?_; rintro e w1 ⟨rfl, hw1⟩; rw [hw1]) | (with_reducible refine (H3.out _).mono ?_; rintro e w1 ⟨rfl, hw1⟩; rw [hw1]) | (with_reducible refine (H4.out _).mono ?_; rintro e w1 ⟨rfl, hw1⟩; rw [hw1]) | (with_reducible refine (H5.out _).mono ?_; rintro e w1 ⟨rfl, hw1⟩; rw [hw1]) | (with_reducible refine (H6.out _).mono ?_; rintro e w1 ⟨rfl, hw1⟩; rw [hw1]) | (with_reducible refine (H7.out _).mono ?_; rintro e w1 ⟨rfl, hw1⟩; rw [hw1]) | (with_reducible refine (H8.out _).mono ?_; rintro e w1 ⟨rfl, hw1⟩; rw [hw1]) | (with_reducible refine (H9.out _).mono ?_; rintro e w1 ⟨rfl, hw1⟩; rw [hw1])))
    go_ret
    exact ⟨rfl, lay_ex _ _⟩
  cases b8
  · try simp only [Bool.true_and]
    try simp only [Bool.false_and]
    refine lay_start ?_
    go_enter Tryz.func25, Tryz.ntmps25
    go_wp2_with (first | (go_at_call 63; refine (H0.out _).mono ?_; rintro e w1 ⟨rfl, hw1⟩; rw [hw1]) | (go_at_call 65; refine (H2.out _).mono ?_; rintro e w' ⟨rfl, dT, rfl⟩) | (go_at_call 64; first | (with_reducible refine (H1.out _).mono ?_; rintro e w1 ⟨rfl, hw1⟩; rw [hw1]) | (with_reducible refine (H3.out _).mono ?_; rintro e w1 ⟨rfl, hw1⟩; rw [hw1]) | (with_reducible refine (H4.out _).mono ?_; rintro e w1 ⟨rfl, hw1⟩; rw [hw1]) | (with_reducible refine (H5.out _).mono ?_; rintro e w1 ⟨rfl, hw1⟩; rw [hw1]) | (with_reducible refine (H6.out _).mono ?_; rintro e w1 ⟨rfl, hw1⟩; rw [hw1]) | (with_reducible refine (H7.out _).mono ?_; rintro e w1 ⟨rfl, hw1⟩; rw [hw1]) | (with_reducible refine (H8.out _).mono ?_; rintro e w1 ⟨rfl, hw1⟩; rw [hw1]) | (with_reducible refine (H9.out _).mono ?_; rintro e w1 ⟨rfl, hw1⟩; rw [hw1])))
    go_ret
    exact ⟨rfl, lay_ex _ _⟩
  simp only [Bool.true_and]
  by_cases c1 : hz = 2
  · subst c1
    have t0 : ((2 : Int) == 3) = false := by decide
    by_cases c2 : ey = 0
    · subst c2
      rw [if_neg (by simp), if_neg (by decide)]
      have e : decide (sh = 0) = (sh == 0) := by rw [Bool.eq_iff_iff]; simp
      rw [e]
      try simp only [Bool.true_and]
      try simp only [Bool.false_and]
      refine lay_start ?_
      go_enter Tryz.func25, Tryz.ntmps25
      go_wp2_with (first | (go_at_call 63; refine (H0.out _).mono ?_; rintro e w1 ⟨rfl, hw1⟩; rw [hw1]) | (go_at_call 65; refine (H2.out _).mono ?_; rintro e w' ⟨rfl, dT, rfl⟩) | (go_at_call 64; first | (with_reducible refine (H1.out _).mono ?_; rintro e w1 ⟨rfl, hw1⟩; rw [hw1]) | (with_reducible refine (H3.out _).mono ?_; rintro e w1 ⟨rfl, hw1⟩; rw [hw1]) | (with_reducible refine (H4.out _).mono ?_; rintro e w1 ⟨rfl, hw1⟩; rw [hw1]) | (with_reducible refine (H5.out _).mono ?_; rintro e w1 ⟨rfl, hw1⟩; rw [hw1]) | (with_reducible refine (H6.out _).mono ?_; rintro e w1 ⟨rfl, hw1⟩; rw [hw1]) | (with_reducible refine (H7.out _).mono ?_; rintro e w1 ⟨rfl, hw1⟩; rw [hw1]) | (with_reducible refine (H8.out _).mono ?_; rintro e w1 ⟨rfl, hw1⟩; rw [hw1]) | (with_reducible refine (H9.out _).mono ?_; rintro e w1 ⟨rfl, hw1⟩; rw [hw1])))
      go_ret
      exact ⟨rfl, lay_ex _ _⟩
    · rw [if_pos ⟨rfl, c2⟩]
      have t1 : (ey == 0) = false := beq_eq_false_iff_ne.2 c2
      have t2 : (ey != 0) = true := by rw [bne, t1]; rfl
      try simp only [Bool.true_and]
      try simp only [Bool.false_and]
      refine lay_start ?_
      go_enter Tryz.func25, Tryz.ntmps25
      go_wp2_with (first | (go_at_call 63; refine (H0.out _).mono ?_; rintro e w1 ⟨rfl, hw1⟩; rw [hw1]) | (go_at_call 65; refine (H2.out _).mono ?_; rintro e w' ⟨rfl, dT, rfl⟩) | (go_at_call 64; first | (with_reducible refine (H1.out _).mono ?_; rintro e w1 ⟨rfl, hw1⟩; rw [hw1]) | (with_reducible refine (H3.out _).mono ?_; rintro e w1 ⟨rfl, hw1⟩; rw [hw1]) | (with_reducible refine (H4.out _).mono ?_; rintro e w1 ⟨rfl, hw1⟩; rw [hw1]) | (with_reducible refine (H5.out _).mono ?_; rintro e w1 ⟨rfl, hw1⟩; rw [hw1]) | (with_reducible refine (H6.out _).mono ?_; rintro e w1 ⟨rfl, hw1⟩; rw [hw1]) | (with_reducible refine (H7.out _).mono ?_; rintro e w1 ⟨rfl, hw1⟩; rw [hw1]) | (with_reducible refine (H8.out _).mono ?_; rintro e w1 ⟨rfl, hw1⟩; rw [hw1]) | (with_reducible refine (H9.out _).mono ?_; rintro e w1 ⟨rfl, hw1⟩; rw [hw1])))
      go_ret
      exact ⟨rfl, lay_ex _ _⟩
  · rw [if_neg (by intro h; exact c1 h.1)]
    have t1 : (hz == 2) = false := beq_eq_false_iff_ne.2 c1
    by_cases c2 : hz = 3
    · subst c2
      rw [if_pos rfl]
      try simp only [Bool.true_and]
      try simp only [Bool.false_and]
      refine lay_start ?_
      go_enter Tryz.func25, Tryz.ntmps25
      go_wp2_with (first | (go_at_call 63; refine (H0.out _).mono ?_; rintro e w1 ⟨rfl, hw1⟩; rw [hw1]) | (go_at_call 65; refine (H2.out _).mono ?_; rintro e w' ⟨rfl, dT, rfl⟩) | (go_at_call 64; first | (with_reducible refine (H1.out _).mono ?_; rintro e w1 ⟨rfl, hw1⟩; rw [hw1]) | (with_reducible refine (H3.out _).mono ?_; rintro e w1 ⟨rfl, hw1⟩; rw [hw1]) | (with_reducible refine (H4.out _).mono ?_; rintro e w1 ⟨rfl, hw1⟩; rw [hw1]) | (with_reducible refine (H5.out _).mono ?_; rintro e w1 ⟨rfl, hw1⟩; rw [hw1]) | (with_reducible refine (H6.out _).mono ?_; rintro e w1 ⟨rfl, hw1⟩; rw [hw1]) | (with_reducible refine (H7.out _).mono ?_; rintro e w1 ⟨rfl, hw1⟩; rw [hw1]) | (with_reducible refine (H8.out _).mono ?_; rintro e w1 ⟨rfl, hw1⟩; rw [hw1]) | (with_reducible refine (H9.out _).mono ?_; rintro e w1 ⟨rfl, hw1⟩; rw [hw1])))
      go_ret
      exact ⟨rfl, lay_ex _ _⟩
    · rw [if_neg c2]
      have t2 : (hz == 3) = false := beq_eq_false_iff_ne.2 c2
      have e : decide (sh = 0) = (sh == 0) := by rw [Bool.eq_iff_iff]; simp
      rw [e]
      try simp only [Bool.true_and]
      try simp only [Bool.false_and]
      refine lay_start ?_
      go_enter Tryz.func25, Tryz.ntmps25
      go_wp2_with (first | (go_at_call 63; refine (H0.out _).mono ?_; rintro e w1 ⟨rfl, hw1⟩; rw [hw1]) | (go_at_call 65; refine (H2.out _).mono ?_; rintro e w' ⟨rfl, dT, rfl⟩) | (go_at_call 64; first | (with_reducible refine (H1.out _).mono ?_; rintro e w1 ⟨rfl, hw1⟩; rw [hw1]) | (with_reducible refine (H3.out _).mono ?_; rintro e w1 ⟨rfl, hw1⟩; rw [hw1]) | (with_reducible refine (H4.out _).mono ?_; rintro e w1 ⟨rfl, hw1⟩; rw [hw1]) | (with_reducible refine (H5.out _).mono ?_; rintro e w1 ⟨rfl, hw1⟩; rw [hw1]) | (with_reducible refine (H6.out _).mono ?_; rintro e w1 ⟨rfl, hw1⟩; rw [hw1]) | (with_reducible refine (H7.out _).mono ?_; rintro e w1 ⟨rfl, hw1⟩; rw [hw1]) | (with_reducible refine (H8.out _).mono ?_; rintro e w1 ⟨rfl, hw1⟩; rw [hw1]) | (with_reducible refine (H9.out _).mono ?_; rintro e w1 ⟨rfl, hw1⟩; rw [hw1])))
      go_ret
      exact ⟨rfl, lay_ex _ _⟩
end Go.Proofs.YtmomoeagnkjbiaaGreat
