/- IncrementsTrue walked: the ways where a condition is not met; all ways together. -/
import Derived.Test.YtknammeehedbdaaProg
import Derived.Test.YtknammeehedbdaaLay
import Derived.Test.YtknammeehedbdaaRegion
import Derived.Test.YtknammeehedbdaaMix
import Derived.WalkKit
import Derived.WalkSpells
import Derived.WalkLawsBesides
import Derived.Lib.Hide
import Derived.BigQuiet
import Derived.Test.YtknammeehedbdaaTw2
namespace Go.Proofs.Ytknammeehedbdaa
open Go.RowKit

theorem law14_inside_b (ms : Int) (b : Bool) (w : World) (h : insideB14 ms = b) :
    Calls Try.prog 26 #[.int .i64 ms] w fun e w' => e = .returned (.bool b) ∧ w' = w := h ▸ law14_inside ms w
set_option maxHeartbeats 4000000 in
set_option maxRecDepth 100000 in
theorem law14_True (start : Int) (_ : (Lit.int .i64 start).wf = true) (dec : Int) (_ : (Lit.int .i64 dec).wf = true) (vs : Value) (ls : List Int) {w : World} (hs : Lst16 w vs ls) (bend : Int) (hbw : (Lit.int .u16 bend).wf = true) (ms : Int) (_ : (Lit.int .i64 ms).wf = true) (away : Int) (haw : (Lit.int .i8 away).wf = true) :
    Calls Try.prog 8 #[.int .i64 start, .int .i64 dec, vs, .int .u16 bend, .int .i64 ms, .int .i8 away] w fun e w' => e = .returned (.bool true) ∧ ∃ d, w' = bw w d := by
  have hb0 : 0 ≤ bend := by simp [Lit.wf, IntKind.min, IntKind.max, IntKind.bits, IntKind.signed] at hbw; omega
  have ha : -128 ≤ away ∧ away ≤ 127 := by simpa [Lit.wf, IntKind.min, IntKind.max, IntKind.bits, IntKind.signed] using haw
  by_cases hall : 24 ≤ ls.length ∧ (0 ≤ ms ∧ ms ≤ 86400000) ∧ 0 ≤ start ∧ start < 21600000 ∧ -2400000 ≤ dec ∧ dec ≤ 2400000 ∧ bend ≤ 1000
  · obtain ⟨h1, h2, h3, h4, h5, h6, h7⟩ := hall
    exact true_main start dec vs ls hs bend ms away h1 h2 h3 h4 h5 h6 hb0 h7 ha.1 ha.2
  · obtain ⟨a, cap, rfl, hl1, -, -⟩ := hs
    obtain ⟨m, hm⟩ : ∃ m, ls.length = m := ⟨_, rfl⟩
    rw [hm] at hall hl1 ⊢
    have x0 : (0 : Int) ≤ (m : Int) := by omega
    by_cases c1 : m < 24
    · have t1 : decide ((m : Int) < 24) = true := decide_eq_true (by omega)
      clear hall
      refine lay_start ?_
      go_enter Try.func8, Try.ntmps8
      go_wp2_with (go_at_call 11; refine (law14_awake _).mono ?_; rintro e w' ⟨rfl, d, rfl⟩)
      go_ret
      exact ⟨rfl, lay_ex _ _⟩
    have t1 : decide ((m : Int) < 24) = false := decide_eq_false (by omega)
    by_cases c2' : ¬ (0 ≤ ms ∧ ms ≤ 86400000)
    · have HI := Lib.hid (fun W => law14_inside_b ms false W (by simp [insideB14]; omega))
      clear hall
      refine lay_start ?_
      go_enter Try.func8, Try.ntmps8
      go_wp2_with (first | (go_at_call 11; refine (law14_awake _).mono ?_; rintro e w' ⟨rfl, d, rfl⟩) | (go_at_call 26; refine (HI.out _).mono ?_; rintro e w' ⟨rfl, rfl⟩))
      go_ret
      exact ⟨rfl, lay_ex _ _⟩
    have c2 := Decidable.not_not.1 c2'
    have HI := Lib.hid (fun W => law14_inside_t ms W c2)
    by_cases c3 : start < 0
    · have t2 : decide (start < 0) = true := decide_eq_true (by omega)
      clear hall
      refine lay_start ?_
      go_enter Try.func8, Try.ntmps8
      go_wp2_with (first | (go_at_call 11; refine (law14_awake _).mono ?_; rintro e w' ⟨rfl, d, rfl⟩) | (go_at_call 26; refine (HI.out _).mono ?_; rintro e w' ⟨rfl, rfl⟩))
      go_ret
      exact ⟨rfl, lay_ex _ _⟩
    have t2 : decide (start < 0) = false := decide_eq_false (by omega)
    by_cases c4 : 21600000 ≤ start
    · have t3 : decide (21600000 ≤ start) = true := decide_eq_true (by omega)
      clear hall
      refine lay_start ?_
      go_enter Try.func8, Try.ntmps8
      go_wp2_with (first | (go_at_call 11; refine (law14_awake _).mono ?_; rintro e w' ⟨rfl, d, rfl⟩) | (go_at_call 26; refine (HI.out _).mono ?_; rintro e w' ⟨rfl, rfl⟩))
      go_ret
      exact ⟨rfl, lay_ex _ _⟩
    have t3 : decide (21600000 ≤ start) = false := decide_eq_false (by omega)
    by_cases c5 : dec < -2400000
    · have t4 : decide (dec < -2400000) = true := decide_eq_true (by omega)
      clear hall
      refine lay_start ?_
      go_enter Try.func8, Try.ntmps8
      go_wp2_with (first | (go_at_call 11; refine (law14_awake _).mono ?_; rintro e w' ⟨rfl, d, rfl⟩) | (go_at_call 26; refine (HI.out _).mono ?_; rintro e w' ⟨rfl, rfl⟩))
      go_ret
      exact ⟨rfl, lay_ex _ _⟩
    have t4 : decide (dec < -2400000) = false := decide_eq_false (by omega)
    by_cases c6 : 2400000 < dec
    · have t5 : decide (2400000 < dec) = true := decide_eq_true (by omega)
      clear hall
      refine lay_start ?_
      go_enter Try.func8, Try.ntmps8
      go_wp2_with (first | (go_at_call 11; refine (law14_awake _).mono ?_; rintro e w' ⟨rfl, d, rfl⟩) | (go_at_call 26; refine (HI.out _).mono ?_; rintro e w' ⟨rfl, rfl⟩))
      go_ret
      exact ⟨rfl, lay_ex _ _⟩
    have t5 : decide (2400000 < dec) = false := decide_eq_false (by omega)
    have t6 : decide (1000 < bend) = true := decide_eq_true (by omega)
    clear hall
    refine lay_start ?_
    go_enter Try.func8, Try.ntmps8
    go_wp2_with (first | (go_at_call 11; refine (law14_awake _).mono ?_; rintro e w' ⟨rfl, d, rfl⟩) | (go_at_call 26; refine (HI.out _).mono ?_; rintro e w' ⟨rfl, rfl⟩))
    go_ret
    exact ⟨rfl, lay_ex _ _⟩
end Go.Proofs.Ytknammeehedbdaa
