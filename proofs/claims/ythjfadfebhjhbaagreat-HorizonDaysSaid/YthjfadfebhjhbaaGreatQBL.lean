/- Contracts and plain laws, several texts in one: Hz3; Chn -/
import Derived.Test.YthjfadfebhjhbaaGreatProg
import Derived.WalkKit
import Derived.WalkSpells
import Derived.WalkLawsBesides
import Derived.Lib.Hide
import Derived.BigQuiet
import Derived.Test.YthjfadfebhjhbaaGreatQAA
import Derived.Test.YthjfadfebhjhbaaGreatQAB
import Derived.Test.YthjfadfebhjhbaaGreatQAI
import Derived.Test.YthjfadfebhjhbaaGreatQBF
/- Places (package place and the reference), sides, limits. -/
namespace Go.Proofs.YthjfadfebhjhbaaGreat
open Go.RowKit

def lonW (x y : Int) : Bool := decide ((x = -10800000 ∧ y = 10800000) ∨ (-10800000 ≤ x ∧ x < 10800000 ∧ x ≤ y ∧ IntKind.i64.wrap (y - x) < 21600000))
def lonB (x y : Int) : Bool := decide ((x = -10800000 ∧ y = 10800000) ∨ (-10800000 ≤ x ∧ x < 10800000 ∧ x ≤ y ∧ y < x + 21600000))
def plcR (u v x y : Int) : Bool := latB u v && lonB x y
def plcW (u v x y : Int) : Bool := latB u v && lonW x y
def ptB (u x : Int) : Bool := decide (-5400000 ≤ u ∧ u ≤ 5400000 ∧ -10800000 ≤ x ∧ x < 10800000)
theorem ptB_iff {u x : Int} : ptB u x = true ↔ -5400000 ≤ u ∧ u ≤ 5400000 ∧ -10800000 ≤ x ∧ x < 10800000 := by simp [ptB]
theorem lonB_valid {x y : Int} (h : lonB x y = true) : validB x y = true ∧ lonW x y = true := by
  have h' := of_decide_eq_true h
  refine ⟨validB_iff.2 (by omega), decide_eq_true ?_⟩
  rcases h' with h' | ⟨h1, h2, h3, h4⟩
  · exact .inl h'
  · exact .inr ⟨h1, h2, h3, by rw [IntWalk.i64_in _ (by omega)]; omega⟩
theorem lonW_valid {x y : Int} (h : lonW x y = true) (hv : validB x y = true) : lonB x y = true := by
  have h' := of_decide_eq_true h
  have hv' := validB_iff.1 hv
  refine decide_eq_true ?_
  rcases h' with h' | ⟨h1, h2, h3, h4⟩
  · exact .inl h'
  · rw [IntWalk.i64_in _ (by omega)] at h4
    exact .inr ⟨h1, h2, h3, by omega⟩
theorem pt_plc {u x : Int} (h : ptB u x = true) : plcR u u x x = true ∧ latB u u = true ∧ validB x x = true := by
  have h' := ptB_iff.1 h
  have h1 : latB u u = true := latB_iff.2 (by omega)
  have h2 : lonB x x = true := decide_eq_true (.inr (by omega))
  refine ⟨by unfold plcR; rw [h1, h2]; rfl, h1, (lonB_valid h2).1⟩
def sdI (a b n : Int) : Int := if n < a then 1 else if b < n then -1 else 0
set_option maxHeartbeats 1000000 in
theorem plc_lat (x0 y0 : Int) (w : World) :
    Calls Tryz.prog 73 #[(.agg #[.int .i64 (x0), .int .i64 (y0)])] w fun e w' => e = .returned (.bool (latB x0 y0)) ∧ ∃ d, w' = bw w d := by
  refine lay_start ?_
  go_enter Tryz.func73, Tryz.ntmps73
  go_wp2
  all_goals go_ret
  all_goals exact ⟨ret_bool (by rw [Bool.eq_iff_iff]; simp [latB]; try omega), lay_ex _ _⟩
set_option maxHeartbeats 1000000 in
theorem plc_every (w : World) :
    Calls Tryz.prog 154 #[] w fun e w' => e = .returned (.agg #[.int .i64 (-10800000), .int .i64 (10800000)]) ∧ ∃ d, w' = bw w d := by
  refine lay_start ?_
  go_enter Tryz.func154, Tryz.ntmps154
  go_wp2
  exact bodyPost_ret (v := (.agg #[.int .i64 (-10800000), .int .i64 (10800000)])) (by simp [results, Tryz.results154, go_sem]) rfl ⟨rfl, lay_ex _ _⟩
set_option maxHeartbeats 1000000 in
theorem plc_all (x0 y0 : Int) (w : World) :
    Calls Tryz.prog 114 #[(.agg #[.int .i64 (x0), .int .i64 (y0)])] w fun e w' => e = .returned (.bool (decide (x0 = -10800000 ∧ y0 = 10800000))) ∧ ∃ d, w' = bw w d := by
  by_cases h1 : x0 = -10800000
  · subst h1
    by_cases h2 : y0 = 10800000
    · subst h2
      refine lay_start ?_
      go_enter Tryz.func114, Tryz.ntmps114
      go_wp2_with fail
      refine region_bw (by kernel_rfl) (by kernel_rfl) ?_
      repeat (go_big_quiet_step ((first | (go_at_call 154; first | exact bq (plc_every _) (fun d => lay_join _ _ _ d) | exact bq (plc_every _) (fun d => ⟨d, rfl⟩)))))
      refine wpQuiet_nil ?_
      rintro w' ⟨d, rfl⟩
      rw [lay_bw]
      go_wp2_with fail
      go_ret
      exact ⟨ret_bool (by simp), lay_ex _ _⟩
    · have e2 : (y0 == 10800000) = false := beq_eq_false_iff_ne.2 h2
      refine lay_start ?_
      go_enter Tryz.func114, Tryz.ntmps114
      go_wp2_with fail
      refine region_bw (by kernel_rfl) (by kernel_rfl) ?_
      repeat (go_big_quiet_step ((first | (go_at_call 154; first | exact bq (plc_every _) (fun d => lay_join _ _ _ d) | exact bq (plc_every _) (fun d => ⟨d, rfl⟩)))))
      refine wpQuiet_nil ?_
      rintro w' ⟨d, rfl⟩
      rw [lay_bw]
      go_wp2_with fail
      go_ret
      exact ⟨ret_bool (by simp [h2]), lay_ex _ _⟩
  · have e1 : (x0 == -10800000) = false := beq_eq_false_iff_ne.2 h1
    refine lay_start ?_
    go_enter Tryz.func114, Tryz.ntmps114
    go_wp2_with fail
    refine region_bw (by kernel_rfl) (by kernel_rfl) ?_
    repeat (go_big_quiet_step ((first | (go_at_call 154; first | exact bq (plc_every _) (fun d => lay_join _ _ _ d) | exact bq (plc_every _) (fun d => ⟨d, rfl⟩)))))
    refine wpQuiet_nil ?_
    rintro w' ⟨d, rfl⟩
    rw [lay_bw]
    go_wp2_with fail
    go_ret
    exact ⟨ret_bool (by simp [h1]), lay_ex _ _⟩
set_option maxHeartbeats 1000000 in
theorem plc_lon (x y : Int) (w : World) :
    Calls Tryz.prog 74 #[(.agg #[.int .i64 (x), .int .i64 (y)])] w fun e w' => e = .returned (.bool (lonW x y)) ∧ ∃ d, w' = bw w d := by
  have HA := Lib.hid (fun W => plc_all x y W)
  by_cases h : x = -10800000 ∧ y = 10800000
  · rw [decide_eq_true h] at HA
    have e : lonW x y = true := decide_eq_true (.inl h)
    rw [e]
    clear e h
    refine lay_start ?_
    go_enter Tryz.func74, Tryz.ntmps74
    go_wp2_with (go_at_call 114; refine (HA.out _).mono ?_; rintro e w' ⟨rfl, d1, rfl⟩; rw [lay_bw])
    all_goals go_ret
    all_goals exact ⟨rfl, lay_ex _ _⟩
  · rw [decide_eq_false h] at HA
    obtain ⟨z, hz⟩ : ∃ z, IntKind.i64.wrap (y - x) = z := ⟨_, rfl⟩
    have e : lonW x y = decide (-10800000 ≤ x ∧ x < 10800000 ∧ x ≤ y ∧ z < 21600000) := by
      unfold lonW
      rw [decide_eq_decide, hz]
      exact ⟨fun g => g.resolve_left h, .inr⟩
    rw [e]
    clear e h
    refine lay_start ?_
    go_enter Tryz.func74, Tryz.ntmps74
    go_wp2_with (go_at_call 114; refine (HA.out _).mono ?_; rintro e w' ⟨rfl, d1, rfl⟩; rw [lay_bw])
    all_goals go_ret
    all_goals exact ⟨ret_bool (by rw [Bool.eq_iff_iff]; simp; try omega), lay_ex _ _⟩
set_option maxHeartbeats 1000000 in
theorem plc_Valid (u v x y : Int) (w : World) :
    Calls Tryz.prog 33 #[(.agg #[.int .i64 (u), .int .i64 (v), .int .i64 (x), .int .i64 (y)])] w fun e w' => e = .returned (.bool (plcW u v x y)) ∧ ∃ d, w' = bw w d := by
  have HA := Lib.hid (fun W => plc_lat u v W)
  have HB := Lib.hid (fun W => plc_lon x y W)
  unfold plcW
  generalize latB u v = p at *
  generalize lonW x y = q at *
  cases p
  all_goals
    refine lay_start ?_
    go_enter Tryz.func33, Tryz.ntmps33
    go_wp2_with (first | (go_at_call 73; refine (HA.out _).mono ?_; rintro e w' ⟨rfl, d1, rfl⟩; rw [lay_bw]) | (go_at_call 74; refine (HB.out _).mono ?_; rintro e w' ⟨rfl, d2, rfl⟩; rw [lay_bw]))
    all_goals go_ret
    all_goals exact ⟨by simp, lay_ex _ _⟩
set_option maxHeartbeats 1000000 in
theorem plc_Point (u x : Int) (w : World) :
    Calls Tryz.prog 119 #[(.agg #[.int .i64 (u), .int .i64 (x)])] w fun e w' => e = .returned (.bool (ptB u x)) ∧ ∃ d, w' = bw w d := by
  refine lay_start ?_
  go_enter Tryz.func119, Tryz.ntmps119
  go_wp2
  all_goals go_ret
  all_goals exact ⟨ret_bool (by rw [Bool.eq_iff_iff]; simp [ptB]; try omega), lay_ex _ _⟩
set_option maxHeartbeats 1000000 in
theorem plc_Of (u x : Int) (w : World) :
    Calls Tryz.prog 77 #[(.agg #[.int .i64 (u), .int .i64 (x)])] w fun e w' => e = .returned (if ptB u x = true then .tuple #[(.agg #[.int .i64 (u), .int .i64 (u), .int .i64 (x), .int .i64 (x)]), .int .i64 0] else .tuple #[(.agg #[.int .i64 (0), .int .i64 (0), .int .i64 (0), .int .i64 (0)]), .int .i64 1]) ∧ ∃ d, w' = bw w d := by
  have HA := Lib.hid (fun W => plc_Point u x W)
  generalize ptB u x = p at *
  cases p
  · refine lay_start ?_
    go_enter Tryz.func77, Tryz.ntmps77
    go_wp2_with (go_at_call 119; refine (HA.out _).mono ?_; rintro e w' ⟨rfl, d1, rfl⟩; rw [lay_bw])
    exact bodyPost_ret (v := .tuple #[(.agg #[.int .i64 (0), .int .i64 (0), .int .i64 (0), .int .i64 (0)]), .int .i64 1]) (by simp [results, Tryz.results77, go_sem]) rfl ⟨by simp, lay_ex _ _⟩
  · refine lay_start ?_
    go_enter Tryz.func77, Tryz.ntmps77
    go_wp2_with (go_at_call 119; refine (HA.out _).mono ?_; rintro e w' ⟨rfl, d1, rfl⟩; rw [lay_bw])
    exact bodyPost_ret (v := .tuple #[(.agg #[.int .i64 (u), .int .i64 (u), .int .i64 (x), .int .i64 (x)]), .int .i64 0]) (by simp [results, Tryz.results77, go_sem]) rfl ⟨by simp, lay_ex _ _⟩
set_option maxHeartbeats 1000000 in
theorem r8_Point (u x : Int) (w : World) :
    Calls Tryz.prog 47 #[(.agg #[.int .i64 (u), .int .i64 (x)])] w fun e w' => e = .returned (.bool (ptB u x)) ∧ ∃ d, w' = bw w d := by
  refine lay_start ?_
  go_enter Tryz.func47, Tryz.ntmps47
  go_wp2
  all_goals go_ret
  all_goals exact ⟨ret_bool (by rw [Bool.eq_iff_iff]; simp [ptB]; try omega), lay_ex _ _⟩
set_option maxHeartbeats 1000000 in
theorem r50_Valid (u x : Int) (w : World) :
    Calls Tryz.prog 16 #[(.agg #[.int .i64 (u), .int .i64 (x)])] w fun e w' => e = .returned (.bool (ptB u x)) ∧ ∃ d, w' = bw w d := by
  have HA := Lib.hid (fun W => r8_Point u x W)
  generalize ptB u x = p at *
  refine lay_start ?_
  go_enter Tryz.func16, Tryz.ntmps16
  go_wp2_with (go_at_call 47; refine (HA.out _).mono ?_; rintro e w' ⟨rfl, d1, rfl⟩; rw [lay_bw])
  go_ret
  exact ⟨rfl, lay_ex _ _⟩
set_option maxHeartbeats 1000000 in
theorem r50_Point (u x : Int) (w : World) :
    Calls Tryz.prog 18 #[(.agg #[.int .i64 (u), .int .i64 (x)])] w fun e w' => e = .returned (.agg #[.int .i64 (u), .int .i64 (u), .int .i64 (x), .int .i64 (x)]) ∧ ∃ d, w' = bw w d := by
  refine lay_start ?_
  go_enter Tryz.func18, Tryz.ntmps18
  go_wp2
  exact bodyPost_ret (v := (.agg #[.int .i64 (u), .int .i64 (u), .int .i64 (x), .int .i64 (x)])) (by simp [results, Tryz.results18, go_sem]) rfl ⟨rfl, lay_ex _ _⟩
set_option maxHeartbeats 1000000 in
theorem r50_Side (l h n : Int) (w : World) :
    Calls Tryz.prog 15 #[(.agg #[.int .i64 (l), .int .i64 (h)]), .int .i64 n] w fun e w' => e = .returned (.int .i64 (sdI l h n)) ∧ ∃ d, w' = bw w d := by
  unfold sdI
  by_cases h1 : n < l
  · rw [if_pos h1]
    refine lay_start ?_
    go_enter Tryz.func15, Tryz.ntmps15
    go_wp2
    go_ret
    exact ⟨rfl, lay_ex _ _⟩
  · rw [if_neg h1]
    by_cases h2 : h < n
    · rw [if_pos h2]
      refine lay_start ?_
      go_enter Tryz.func15, Tryz.ntmps15
      go_wp2
      go_ret
      exact ⟨rfl, lay_ex _ _⟩
    · rw [if_neg h2]
      refine lay_start ?_
      go_enter Tryz.func15, Tryz.ntmps15
      go_wp2
      go_ret
      exact ⟨rfl, lay_ex _ _⟩
set_option maxHeartbeats 1000000 in
theorem hz_side (l h n : Int) (w : World) :
    Calls Tryz.prog 35 #[(.agg #[.int .i64 (l), .int .i64 (h)]), .int .i64 n] w fun e w' => e = .returned (.int .i64 (sdI l h n)) ∧ ∃ d, w' = bw w d := by
  unfold sdI
  by_cases h1 : n < l
  · rw [if_pos h1]
    refine lay_start ?_
    go_enter Tryz.func35, Tryz.ntmps35
    go_wp2
    go_ret
    exact ⟨rfl, lay_ex _ _⟩
  · rw [if_neg h1]
    by_cases h2 : h < n
    · rw [if_pos h2]
      refine lay_start ?_
      go_enter Tryz.func35, Tryz.ntmps35
      go_wp2
      go_ret
      exact ⟨rfl, lay_ex _ _⟩
    · rw [if_neg h2]
      refine lay_start ?_
      go_enter Tryz.func35, Tryz.ntmps35
      go_wp2
      go_ret
      exact ⟨rfl, lay_ex _ _⟩
set_option maxHeartbeats 1000000 in
theorem hz_instant (t : Int) (w : World) :
    Calls Tryz.prog 37 #[.int .i64 t] w fun e w' => e = .returned (.bool (insB t)) ∧ ∃ d, w' = bw w d := by
  refine lay_start ?_
  go_enter Tryz.func37, Tryz.ntmps37
  go_wp2_with fail
  all_goals go_ret
  all_goals exact ⟨ret_bool (by unfold insB; rw [Bool.eq_iff_iff]; simp; try omega), lay_ex _ _⟩
end Go.Proofs.YthjfadfebhjhbaaGreat
/- A cell that keeps its value: storing what is there changes nothing. No program in sight. -/
namespace Go.Proofs.YthjfadfebhjhbaaGreat
open Go.RowKit

theorem set_same {W : World} {b i : Nat} {v : Value} (h : W.cell? ⟨b, i, none⟩ = some v) : W.setCell ⟨b, i, none⟩ v = W := by
  have hh : W.heap.modify b (fun o => match o with | .cells c elem frozen => .cells (if (none : Option Nat).isSome then c else c.setIfInBounds i v) elem frozen | o => o) = W.heap := by
    refine Array.ext (by simp) fun j h1 h2 => ?_
    rw [Array.getElem_modify]
    split
    · rename_i e
      subst e
      unfold World.cell? at h
      rw [Array.getElem?_eq_getElem h2] at h
      dsimp only at h
      split at h
      · rename_i c e f he
        rw [Option.some.injEq] at he
        rw [he]
        simp only [Option.isSome_none, Bool.false_eq_true, if_false] at h ⊢
        obtain ⟨hi, hv⟩ := Array.getElem?_eq_some_iff.1 h
        rw [Array.setIfInBounds_def, dif_pos hi, ← hv, Array.set_getElem_self]
      · cases h
    · rfl
  obtain ⟨heap, tape, drawn, os, output⟩ := W
  unfold World.setCell
  dsimp only at hh ⊢
  exact congrArg (fun x => ({ heap := x, tape := tape, drawn := drawn, os := os, output := output } : World)) hh
structure ChW (b : Nat) (W : World) : Prop where
  lt : b < W.heap.size
  cell : W.cell? ⟨b, 0, none⟩ = some (.int .i64 0)
  froz : W.frozen? ⟨b, 0, none⟩ = false
theorem ChW.ext {b : Nat} {W W' : World} (h : ChW b W) (hb : Below W.heap.size W W') : ChW b W' :=
  ⟨Nat.lt_of_lt_of_le h.lt hb.size, (hb.cell (p := ⟨b, 0, none⟩) h.lt).trans h.cell, (hb.frozen (p := ⟨b, 0, none⟩) h.lt).trans h.froz⟩
theorem ChW.bw {b : Nat} {W : World} (h : ChW b W) (d : Ext) : ChW b (bw W d) := h.ext (bw_below W d)
theorem ChW.lay {b : Nat} {W : World} (h : ChW b W) (L : List (Obj ⊕ Ext)) : ChW b (lay W L) := h.ext (lay_extends W L)
theorem ChW.set {b : Nat} {W : World} (h : ChW b W) : W.setCell ⟨b, 0, none⟩ (.int .i64 0) = W := set_same h.cell
theorem ChW.on {b : Nat} {w : World} {L : List (Obj ⊕ Ext)} (h : ChW b (Go.Proofs.YthjfadfebhjhbaaGreat.lay w L)) (L' : List (Obj ⊕ Ext)) : ChW b (Go.Proofs.YthjfadfebhjhbaaGreat.lay w (L' ++ L)) := by
  rw [lay_append]
  exact h.lay L'
theorem chW_new (w : World) (L : List (Obj ⊕ Ext)) (t : TypeId) (p : List Nat) (hp : shp L = p) : ChW (posn w p) (lay w (.inl (Obj.cells #[.int .i64 0] t) :: L)) := by
  subst hp
  have hg : (lay w (.inl (Obj.cells #[.int .i64 0] t) :: L)).heap[posn w (shp L)]? = some (Obj.cells #[.int .i64 0] t) := lay_get w (.inl (Obj.cells #[.int .i64 0] t) :: L) 0 _ rfl
  refine ⟨(Array.getElem?_eq_some_iff.1 hg).1, ?_, ?_⟩
  · unfold World.cell?; dsimp only; rw [hg]; rfl
  · unfold World.frozen?; dsimp only; rw [hg]; rfl
end Go.Proofs.YthjfadfebhjhbaaGreat
