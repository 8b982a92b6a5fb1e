/- Contracts and plain laws, several texts in one: F4S; R25; Rw; R6H; Hz2; Hz3 -/
import Derived.Test.YtnnmfdeeicpdlaaGreatProg
import Derived.WalkKit
import Derived.WalkSpells
import Derived.WalkLawsBesides
import Derived.Lib.Hide
import Derived.BigQuiet
import Derived.Test.YtnnmfdeeicpdlaaGreatSAA
import Derived.Test.YtnnmfdeeicpdlaaGreatSAG
import Derived.Test.YtnnmfdeeicpdlaaGreatSAH
import Derived.Test.YtnnmfdeeicpdlaaGreatSAM
import Derived.Test.YtnnmfdeeicpdlaaGreatSAY
/- The reference's Sub, Add, fit at any ends. -/
namespace Go.Proofs.YtnnmfdeeicpdlaaGreat
open Go.RowKit

end Go.Proofs.YtnnmfdeeicpdlaaGreat
/- The reference's Times, Plus and Minus. -/
namespace Go.Proofs.YtnnmfdeeicpdlaaGreat
open Go.RowKit

end Go.Proofs.YtnnmfdeeicpdlaaGreat
/- The reference's sines and cosines over arcs: has, sine, Sin, Cos. -/
namespace Go.Proofs.YtnnmfdeeicpdlaaGreat
open Go.RowKit

end Go.Proofs.YtnnmfdeeicpdlaaGreat
/- Haversines over arcs: the reference's. -/
namespace Go.Proofs.YtnnmfdeeicpdlaaGreat
open Go.RowKit

end Go.Proofs.YtnnmfdeeicpdlaaGreat
/- The reference's Altitude of a triangle. -/
namespace Go.Proofs.YtnnmfdeeicpdlaaGreat
open Go.RowKit

end Go.Proofs.YtnnmfdeeicpdlaaGreat
/- Places (package place and the reference), sides, limits. -/
namespace Go.Proofs.YtnnmfdeeicpdlaaGreat
set_option maxHeartbeats 1000000
open Go.RowKit

def lonW (x y : Int) : Bool := decide ((x = -10800000 ∧ y = 10800000) ∨ (-10800000 ≤ x ∧ x < 10800000 ∧ x ≤ y ∧ IntKind.i64.wrap (y - x) < 21600000))
def lonB (x y : Int) : Bool := decide ((x = -10800000 ∧ y = 10800000) ∨ (-10800000 ≤ x ∧ x < 10800000 ∧ x ≤ y ∧ y < x + 21600000))
def plcR (u v x y : Int) : Bool := latB u v && lonB x y
def plcW (u v x y : Int) : Bool := latB u v && lonW x y
def ptB (u x : Int) : Bool := decide (-5400000 ≤ u ∧ u ≤ 5400000 ∧ -10800000 ≤ x ∧ x < 10800000)
theorem ptB_iff {u x : Int} : ptB u x = true ↔ -5400000 ≤ u ∧ u ≤ 5400000 ∧ -10800000 ≤ x ∧ x < 10800000 := by simp [ptB]
theorem lonB_valid {x y : Int} (h : lonB x y = true) : validB x y = true ∧ lonW x y = true := by
  have h' := of_decide_eq_true h
  refine ⟨validB_iff.2 (by omega), decide_eq_true ?_⟩
  rcases h' with h' | ⟨h1, h2, h3, h4⟩
  · exact .inl h'
  · exact .inr ⟨h1, h2, h3, by rw [IntWalk.i64_in _ (by omega)]; omega⟩
theorem lonW_valid {x y : Int} (h : lonW x y = true) (hv : validB x y = true) : lonB x y = true := by
  have h' := of_decide_eq_true h
  have hv' := validB_iff.1 hv
  refine decide_eq_true ?_
  rcases h' with h' | ⟨h1, h2, h3, h4⟩
  · exact .inl h'
  · rw [IntWalk.i64_in _ (by omega)] at h4
    exact .inr ⟨h1, h2, h3, by omega⟩
theorem pt_plc {u x : Int} (h : ptB u x = true) : plcR u u x x = true ∧ latB u u = true ∧ validB x x = true := by
  have h' := ptB_iff.1 h
  have h1 : latB u u = true := latB_iff.2 (by omega)
  have h2 : lonB x x = true := decide_eq_true (.inr (by omega))
  refine ⟨by unfold plcR; rw [h1, h2]; rfl, h1, (lonB_valid h2).1⟩
def sdI (a b n : Int) : Int := if n < a then 1 else if b < n then -1 else 0
theorem plc_lat (x0 y0 : Int) (w : World) :
    Calls Tryz.prog 212 #[(.agg #[.int .i64 (x0), .int .i64 (y0)])] w fun e w' => e = .returned (.bool (latB x0 y0)) ∧ ∃ d, w' = bw w d := by
  refine lay_start ?_
  go_enter Tryz.func212, Tryz.ntmps212
  go_wp2
  all_goals go_ret
  all_goals exact ⟨ret_bool (by rw [Bool.eq_iff_iff]; simp [latB]; try omega), lay_ex _ _⟩
theorem plc_every (w : World) :
    Calls Tryz.prog 312 #[] w fun e w' => e = .returned (.agg #[.int .i64 (-10800000), .int .i64 (10800000)]) ∧ ∃ d, w' = bw w d := by
  refine lay_start ?_
  go_enter Tryz.func312, Tryz.ntmps312
  go_wp2
  exact bodyPost_ret (v := (.agg #[.int .i64 (-10800000), .int .i64 (10800000)])) (by simp [results, Tryz.results312, go_sem]) rfl ⟨rfl, lay_ex _ _⟩
theorem plc_all (x0 y0 : Int) (w : World) :
    Calls Tryz.prog 257 #[(.agg #[.int .i64 (x0), .int .i64 (y0)])] w fun e w' => e = .returned (.bool (decide (x0 = -10800000 ∧ y0 = 10800000))) ∧ ∃ d, w' = bw w d := by
  by_cases h1 : x0 = -10800000
  · subst h1
    by_cases h2 : y0 = 10800000
    · subst h2
      refine lay_start ?_
      go_enter Tryz.func257, Tryz.ntmps257
      go_wp2_with fail
      refine region_bw (by kernel_rfl) (by kernel_rfl) ?_
      repeat (go_big_quiet_step ((first | (go_at_call 312; first | exact bq (plc_every _) (fun d => lay_join _ _ _ d) | exact bq (plc_every _) (fun d => ⟨d, rfl⟩)))))
      refine wpQuiet_nil ?_
      rintro w' ⟨d, rfl⟩
      rw [lay_bw]
      go_wp2_with fail
      go_ret
      exact ⟨ret_bool (by simp), lay_ex _ _⟩
    · have e2 : (y0 == 10800000) = false := beq_eq_false_iff_ne.2 h2
      refine lay_start ?_
      go_enter Tryz.func257, Tryz.ntmps257
      go_wp2_with fail
      refine region_bw (by kernel_rfl) (by kernel_rfl) ?_
      repeat (go_big_quiet_step ((first | (go_at_call 312; first | exact bq (plc_every _) (fun d => lay_join _ _ _ d) | exact bq (plc_every _) (fun d => ⟨d, rfl⟩)))))
      refine wpQuiet_nil ?_
      rintro w' ⟨d, rfl⟩
      rw [lay_bw]
      go_wp2_with fail
      go_ret
      exact ⟨ret_bool (by simp [h2]), lay_ex _ _⟩
  · have e1 : (x0 == -10800000) = false := beq_eq_false_iff_ne.2 h1
    refine lay_start ?_
    go_enter Tryz.func257, Tryz.ntmps257
    go_wp2_with fail
    refine region_bw (by kernel_rfl) (by kernel_rfl) ?_
    repeat (go_big_quiet_step ((first | (go_at_call 312; first | exact bq (plc_every _) (fun d => lay_join _ _ _ d) | exact bq (plc_every _) (fun d => ⟨d, rfl⟩)))))
    refine wpQuiet_nil ?_
    rintro w' ⟨d, rfl⟩
    rw [lay_bw]
    go_wp2_with fail
    go_ret
    exact ⟨ret_bool (by simp [h1]), lay_ex _ _⟩
theorem plc_lon (x y : Int) (w : World) :
    Calls Tryz.prog 213 #[(.agg #[.int .i64 (x), .int .i64 (y)])] w fun e w' => e = .returned (.bool (lonW x y)) ∧ ∃ d, w' = bw w d := by
  have HA := Lib.hid (fun W => plc_all x y W)
  by_cases h : x = -10800000 ∧ y = 10800000
  · rw [decide_eq_true h] at HA
    have e : lonW x y = true := decide_eq_true (.inl h)
    rw [e]
    clear e h
    refine lay_start ?_
    go_enter Tryz.func213, Tryz.ntmps213
    go_wp2_with (go_at_call 257; refine (HA.out _).mono ?_; rintro e w' ⟨rfl, d1, rfl⟩; rw [lay_bw])
    all_goals go_ret
    all_goals exact ⟨rfl, lay_ex _ _⟩
  · rw [decide_eq_false h] at HA
    obtain ⟨z, hz⟩ : ∃ z, IntKind.i64.wrap (y - x) = z := ⟨_, rfl⟩
    have e : lonW x y = decide (-10800000 ≤ x ∧ x < 10800000 ∧ x ≤ y ∧ z < 21600000) := by
      unfold lonW
      rw [decide_eq_decide, hz]
      exact ⟨fun g => g.resolve_left h, .inr⟩
    rw [e]
    clear e h
    refine lay_start ?_
    go_enter Tryz.func213, Tryz.ntmps213
    go_wp2_with (go_at_call 257; refine (HA.out _).mono ?_; rintro e w' ⟨rfl, d1, rfl⟩; rw [lay_bw])
    all_goals go_ret
    all_goals exact ⟨ret_bool (by rw [Bool.eq_iff_iff]; simp; try omega), lay_ex _ _⟩
theorem plc_Valid (u v x y : Int) (w : World) :
    Calls Tryz.prog 150 #[(.agg #[.int .i64 (u), .int .i64 (v), .int .i64 (x), .int .i64 (y)])] w fun e w' => e = .returned (.bool (plcW u v x y)) ∧ ∃ d, w' = bw w d := by
  have HA := Lib.hid (fun W => plc_lat u v W)
  have HB := Lib.hid (fun W => plc_lon x y W)
  unfold plcW
  generalize latB u v = p at *
  generalize lonW x y = q at *
  cases p
  all_goals
    refine lay_start ?_
    go_enter Tryz.func150, Tryz.ntmps150
    go_wp2_with (first | (go_at_call 212; refine (HA.out _).mono ?_; rintro e w' ⟨rfl, d1, rfl⟩; rw [lay_bw]) | (go_at_call 213; refine (HB.out _).mono ?_; rintro e w' ⟨rfl, d2, rfl⟩; rw [lay_bw]))
    all_goals go_ret
    all_goals exact ⟨by simp, lay_ex _ _⟩
theorem plc_Point (u x : Int) (w : World) :
    Calls Tryz.prog 225 #[(.agg #[.int .i64 (u), .int .i64 (x)])] w fun e w' => e = .returned (.bool (ptB u x)) ∧ ∃ d, w' = bw w d := by
  refine lay_start ?_
  go_enter Tryz.func225, Tryz.ntmps225
  go_wp2
  all_goals go_ret
  all_goals exact ⟨ret_bool (by rw [Bool.eq_iff_iff]; simp [ptB]; try omega), lay_ex _ _⟩
theorem plc_Of (u x : Int) (w : World) :
    Calls Tryz.prog 166 #[(.agg #[.int .i64 (u), .int .i64 (x)])] w fun e w' => e = .returned (if ptB u x = true then .tuple #[(.agg #[.int .i64 (u), .int .i64 (u), .int .i64 (x), .int .i64 (x)]), .int .i64 0] else .tuple #[(.agg #[.int .i64 (0), .int .i64 (0), .int .i64 (0), .int .i64 (0)]), .int .i64 1]) ∧ ∃ d, w' = bw w d := by
  have HA := Lib.hid (fun W => plc_Point u x W)
  generalize ptB u x = p at *
  cases p
  · refine lay_start ?_
    go_enter Tryz.func166, Tryz.ntmps166
    go_wp2_with (go_at_call 225; refine (HA.out _).mono ?_; rintro e w' ⟨rfl, d1, rfl⟩; rw [lay_bw])
    exact bodyPost_ret (v := .tuple #[(.agg #[.int .i64 (0), .int .i64 (0), .int .i64 (0), .int .i64 (0)]), .int .i64 1]) (by simp [results, Tryz.results166, go_sem]) rfl ⟨by simp, lay_ex _ _⟩
  · refine lay_start ?_
    go_enter Tryz.func166, Tryz.ntmps166
    go_wp2_with (go_at_call 225; refine (HA.out _).mono ?_; rintro e w' ⟨rfl, d1, rfl⟩; rw [lay_bw])
    exact bodyPost_ret (v := .tuple #[(.agg #[.int .i64 (u), .int .i64 (u), .int .i64 (x), .int .i64 (x)]), .int .i64 0]) (by simp [results, Tryz.results166, go_sem]) rfl ⟨by simp, lay_ex _ _⟩
theorem hz_side (l h n : Int) (w : World) :
    Calls Tryz.prog 152 #[(.agg #[.int .i64 (l), .int .i64 (h)]), .int .i64 n] w fun e w' => e = .returned (.int .i64 (sdI l h n)) ∧ ∃ d, w' = bw w d := by
  unfold sdI
  by_cases h1 : n < l
  · rw [if_pos h1]
    refine lay_start ?_
    go_enter Tryz.func152, Tryz.ntmps152
    go_wp2
    go_ret
    exact ⟨rfl, lay_ex _ _⟩
  · rw [if_neg h1]
    by_cases h2 : h < n
    · rw [if_pos h2]
      refine lay_start ?_
      go_enter Tryz.func152, Tryz.ntmps152
      go_wp2
      go_ret
      exact ⟨rfl, lay_ex _ _⟩
    · rw [if_neg h2]
      refine lay_start ?_
      go_enter Tryz.func152, Tryz.ntmps152
      go_wp2
      go_ret
      exact ⟨rfl, lay_ex _ _⟩
theorem hz_instant (t : Int) (w : World) :
    Calls Tryz.prog 75 #[.int .i64 t] w fun e w' => e = .returned (.bool (insB t)) ∧ ∃ d, w' = bw w d := by
  refine lay_start ?_
  go_enter Tryz.func75, Tryz.ntmps75
  go_wp2_with fail
  all_goals go_ret
  all_goals exact ⟨ret_bool (by unfold insB; rw [Bool.eq_iff_iff]; simp; try omega), lay_ex _ _⟩
end Go.Proofs.YtnnmfdeeicpdlaaGreat
