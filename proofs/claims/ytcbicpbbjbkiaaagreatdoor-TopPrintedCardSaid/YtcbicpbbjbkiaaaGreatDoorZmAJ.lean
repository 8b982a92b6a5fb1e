/- Contracts and plain laws, several texts in one: TpV -/
import Derived.Test.YtcbicpbbjbkiaaaGreatDoorProg
import Derived.WalkKit
import Derived.WalkSpells
import Derived.WalkLawsBesides
import Derived.Lib.Hide
import Derived.BigQuiet
import Derived.Test.YtcbicpbbjbkiaaaGreatDoorZmAA
import Derived.Test.YtcbicpbbjbkiaaaGreatDoorZmAF
import Derived.Test.YtcbicpbbjbkiaaaGreatDoorZmAI
namespace Go.Proofs.YtcbicpbbjbkiaaaGreatDoor
open Go.RowKit

theorem cor_from (n lo hi : Int) (w : World) :
  Calls Tryz.prog 158 #[.int .i64 n, .int .i64 lo, .int .i64 hi] w fun e w' => e = .returned (.bool (decide (lo ≤ n) && decide (n ≤ hi))) ∧ ∃ d, w' = bw w d := by
 refine lay_start ?_
 go_enter Tryz.func158, Tryz.ntmps158
 go_wp2
 all_goals go_ret
 all_goals exact ⟨ret_bool (by rw [Bool.eq_iff_iff]; simp; try omega), lay_ex _ _⟩
def SigOk (hs by_ : Int) : Prop := (-60000 ≤ hs ∧ hs ≤ 7800000) ∧ (0 ≤ by_ ∧ by_ ≤ 60000)
set_option maxHeartbeats 4000000 in
set_option maxRecDepth 100000 in
theorem cor_Valid (s : ByteArray) (lm t0 t1 hs by_ hz ey sh tp pr : Int) (w : World) (hb : s.size ≤ 9223372036854775807) :
  Calls Tryz.prog 85 #[.agg #[.string s, .int .i64 lm, .int .i64 t0, .int .i64 t1, .int .i64 hs, .int .i64 by_, .int .i64 hz, .int .i64 ey, .int .i64 sh, .int .i64 tp, .int .i64 pr]] w fun e w' => (∃ q : Bool, e = .returned (.bool q) ∧ (q = true → SigOk hs by_)) ∧ ∃ d, w' = bw w d := by
 have HN := Lib.hid (fun W => dec_IsName s W hb)
 have HC := Lib.hid (fun W => clock_Valid t0 t1 W)
 have HF := Lib.hid (fun n a b W => cor_from n a b W)
 have HO : Hid ((-60000 ≤ hs ∧ hs ≤ 7800000) → (0 ≤ by_ ∧ by_ ≤ 60000) → SigOk hs by_) := Lib.hid (fun h1 h2 => ⟨h1, h2⟩)
 clear hb
 generalize nameB s = q1 at *
 generalize timB t0 t1 = q2 at *
 by_cases h1 : -60000 ≤ hs ∧ hs ≤ 7800000
 ·by_cases h2 : 0 ≤ by_ ∧ by_ ≤ 60000
  ·have HK : Hid (SigOk hs by_) := Lib.hid ⟨h1, h2⟩
   clear h1 h2
   cases q1
   all_goals cases q2
   all_goals
    refine lay_start ?_
    go_enter Tryz.func85, Tryz.ntmps85
    go_wp2_with (first | (go_at_call 119; refine (HN.out _).mono ?_; rintro e w' ⟨rfl, rfl⟩) | (go_at_call 132; refine (HC.out _).mono ?_; rintro e w' ⟨rfl, dc, rfl⟩; rw [lay_bw]) | (go_at_call 158; first | (refine (HF.out _ _ _ _).mono ?_; rintro e w' ⟨rfl, dc, rfl⟩; rw [lay_bw])))
   all_goals first | (refine bodyPost_ret (v := .bool false) ?_ rfl ⟨⟨false, rfl, fun _ => HK.out⟩, lay_ex _ _⟩; simp [results, Tryz.results85, go_sem]; done) | (refine bodyPost_ret (v := .bool (sh == 0)) ?_ rfl ⟨⟨(sh == 0), rfl, fun _ => HK.out⟩, lay_ex _ _⟩; simp [results, Tryz.results85, go_sem]; done) | (refine bodyPost_ret (v := .bool (decide (1 ≤ sh) && decide (sh ≤ 100000))) ?_ rfl ⟨⟨(decide (1 ≤ sh) && decide (sh ≤ 100000)), rfl, fun _ => HK.out⟩, lay_ex _ _⟩; simp [results, Tryz.results85, go_sem]; done) | (refine bodyPost_ret (v := .bool true) ?_ rfl ⟨⟨true, rfl, fun _ => HK.out⟩, lay_ex _ _⟩; simp [results, Tryz.results85, go_sem]; done) | (assumption ; omega)
  ·have HX : Hid (∀ W, Calls Tryz.prog 158 #[.int .i64 by_, .int .i64 0, .int .i64 60000] W fun e w' => e = .returned (.bool false) ∧ ∃ d, w' = bw W d) := Lib.hid (fun W => by
    have := cor_from by_ 0 60000 W
    rw [show (decide (0 ≤ by_) && decide (by_ ≤ 60000)) = false by rw [Bool.eq_false_iff]; intro h; rw [Bool.and_eq_true, decide_eq_true_eq, decide_eq_true_eq] at h; exact h2 h] at this
    exact this)
   clear h1 h2
   cases q1
   all_goals cases q2
   all_goals
    refine lay_start ?_
    go_enter Tryz.func85, Tryz.ntmps85
    go_wp2_with (first | (go_at_call 119; refine (HN.out _).mono ?_; rintro e w' ⟨rfl, rfl⟩) | (go_at_call 132; refine (HC.out _).mono ?_; rintro e w' ⟨rfl, dc, rfl⟩; rw [lay_bw]) | (go_at_call 158; first | ((with_reducible refine (HX.out _).mono ?_); rintro e w' ⟨rfl, dc, rfl⟩; rw [lay_bw]) | (refine (HF.out _ _ _ _).mono ?_; rintro e w' ⟨rfl, dc, rfl⟩; rw [lay_bw])))
   all_goals first | (refine bodyPost_ret (v := .bool false) ?_ rfl ⟨⟨false, rfl, fun h => by cases h⟩, lay_ex _ _⟩; simp [results, Tryz.results85, go_sem]; done) | (assumption ; omega)
 ·have HX : Hid (∀ W, Calls Tryz.prog 158 #[.int .i64 hs, .int .i64 (-60000), .int .i64 7800000] W fun e w' => e = .returned (.bool false) ∧ ∃ d, w' = bw W d) := Lib.hid (fun W => by
   have := cor_from hs (-60000) 7800000 W
   rw [show (decide (-60000 ≤ hs) && decide (hs ≤ 7800000)) = false by rw [Bool.eq_false_iff]; intro h; rw [Bool.and_eq_true, decide_eq_true_eq, decide_eq_true_eq] at h; exact h1 h] at this
   exact this)
  clear h1
  cases q1
  all_goals cases q2
  all_goals
   refine lay_start ?_
   go_enter Tryz.func85, Tryz.ntmps85
   go_wp2_with (first | (go_at_call 119; refine (HN.out _).mono ?_; rintro e w' ⟨rfl, rfl⟩) | (go_at_call 132; refine (HC.out _).mono ?_; rintro e w' ⟨rfl, dc, rfl⟩; rw [lay_bw]) | (go_at_call 158; first | ((with_reducible refine (HX.out _).mono ?_); rintro e w' ⟨rfl, dc, rfl⟩; rw [lay_bw]) | (refine (HF.out _ _ _ _).mono ?_; rintro e w' ⟨rfl, dc, rfl⟩; rw [lay_bw])))
  all_goals first | (refine bodyPost_ret (v := .bool false) ?_ rfl ⟨⟨false, rfl, fun h => by cases h⟩, lay_ex _ _⟩; simp [results, Tryz.results85, go_sem]; done) | (assumption ; omega)
end Go.Proofs.YtcbicpbbjbkiaaaGreatDoor
