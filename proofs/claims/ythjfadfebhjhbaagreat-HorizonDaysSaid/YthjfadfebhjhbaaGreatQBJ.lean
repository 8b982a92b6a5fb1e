/- Contracts and plain laws, several texts in one: F4M; F4S; R25; Rw -/
import Derived.Test.YthjfadfebhjhbaaGreatProg
import Derived.WalkKit
import Derived.WalkSpells
import Derived.WalkLawsBesides
import Derived.Lib.Hide
import Derived.BigQuiet
import Derived.Test.YthjfadfebhjhbaaGreatQAA
import Derived.Test.YthjfadfebhjhbaaGreatQAB
import Derived.Test.YthjfadfebhjhbaaGreatQBE
import Derived.Test.YthjfadfebhjhbaaGreatQBI
/- The reference's intervals: Mul, Sub, Add, without average's functions. -/
namespace Go.Proofs.YthjfadfebhjhbaaGreat
open Go.RowKit

set_option maxRecDepth 100000 in
theorem r4_Least (a b : Int) (w : World) :
    Calls Tryz.prog 218 #[.int .i64 a, .int .i64 b] w fun e w' => e = .returned (.int .i64 (mn a b)) ∧ ∃ d, w' = bw w d := by
  refine lay_start ?_
  rw [show mn a b = if b < a then b else a from rfl]
  by_cases h : b < a
  · rw [if_pos h]
    go_enter Tryz.func218, Tryz.ntmps218
    go_wp2_with fail
    go_ret
    exact ⟨rfl, lay_ex _ _⟩
  · rw [if_neg h]
    go_enter Tryz.func218, Tryz.ntmps218
    go_wp2_with fail
    go_ret
    exact ⟨rfl, lay_ex _ _⟩
set_option maxRecDepth 100000 in
theorem r4_Most (a b : Int) (w : World) :
    Calls Tryz.prog 219 #[.int .i64 a, .int .i64 b] w fun e w' => e = .returned (.int .i64 (mx a b)) ∧ ∃ d, w' = bw w d := by
  refine lay_start ?_
  rw [show mx a b = if a < b then b else a from rfl]
  by_cases h : a < b
  · rw [if_pos h]
    go_enter Tryz.func219, Tryz.ntmps219
    go_wp2_with fail
    go_ret
    exact ⟨rfl, lay_ex _ _⟩
  · rw [if_neg h]
    go_enter Tryz.func219, Tryz.ntmps219
    go_wp2_with fail
    go_ret
    exact ⟨rfl, lay_ex _ _⟩
set_option maxHeartbeats 400000 in
theorem r4_Floor (a b : Int) (w : World) (hb : 1 ≤ b) (h1 : -9223372036854775807 ≤ a) (h2 : a ≤ 9223372036854775807) :
    Calls Tryz.prog 220 #[.int .i64 a, .int .i64 b] w fun e w' => e = .returned (.int .i64 (a / b)) ∧ ∃ d, w' = bw w d := by
  refine lay_start ?_
  go_enter Tryz.func220, Tryz.ntmps220
  go_wp2
  · go_ret
    refine ⟨congrArg (fun x => Ending.returned (.int .i64 x)) ?_, lay_ex _ _⟩
    rw [IntWalk.wrap64_in]
    · exact floor_neg hb ‹_›
    · rw [floor_neg hb ‹_›]; have := ediv_bd hb 9223372036854775807 (by decide) h1 h2; omega
  · go_ret
    exact ⟨congrArg (fun x => Ending.returned (.int .i64 x)) (floor_pos hb ‹_›), lay_ex _ _⟩
set_option maxRecDepth 100000 in
theorem r4_Ceil (a b : Int) (w : World) (hb : 1 ≤ b) (h1 : -9223372036854775807 ≤ a) (h2 : a ≤ 9223372036854775807) :
    Calls Tryz.prog 221 #[.int .i64 a, .int .i64 b] w fun e w' => e = .returned (.int .i64 (-((-a) / b))) ∧ ∃ d, w' = bw w d := by
  have HF := Lib.hid (fun W => r4_Floor (-a) b W hb (by omega) (by omega))
  have k1 : IntKind.i64.wrap (-a) = -a := IntWalk.i64_in _ (by omega)
  have hbd := ediv_bd hb 9223372036854775807 (by decide) (show -9223372036854775807 ≤ -a by omega) (by omega)
  have k2 : IntKind.i64.wrap (-((-a) / b)) = -((-a) / b) := IntWalk.i64_in _ (by omega)
  obtain ⟨m, hm⟩ : ∃ m, -a = m := ⟨_, rfl⟩
  rw [hm] at HF k1 k2 hbd ⊢
  obtain ⟨q, hq⟩ : ∃ q, m / b = q := ⟨_, rfl⟩
  rw [hq] at HF k2 hbd ⊢
  obtain ⟨r, hr⟩ : ∃ r, -q = r := ⟨_, rfl⟩
  rw [hr] at k2 ⊢
  clear hbd hq h1 h2
  refine lay_start ?_
  go_enter Tryz.func221, Tryz.ntmps221
  go_wp2_with (go_at_call 220; refine (HF.out _).mono ?_; rintro e w' ⟨rfl, d, rfl⟩)
  go_ret
  exact ⟨rfl, lay_ex _ _⟩
set_option maxRecDepth 100000 in
theorem r4_fit (lo hi : Int) (w : World) (h : fxB lo hi = true) :
    Calls Tryz.prog 217 #[.int .i64 lo, .int .i64 hi] w fun e w' => e = .returned (.tuple #[(.agg #[.int .i64 (lo), .int .i64 (hi)]), .int .i64 0]) ∧ ∃ d, w' = bw w d := by
  have hf := fxB_iff.1 h
  have g1 : ¬ lo < -2147483648 := by omega
  have g2 : ¬ 2147483648 < hi := by omega
  clear hf h
  refine lay_start ?_
  go_enter Tryz.func217, Tryz.ntmps217
  go_wp2_with fail
  exact bodyPost_ret (v := .tuple #[(.agg #[.int .i64 (lo), .int .i64 (hi)]), .int .i64 0]) (by simp [results, Tryz.results217, go_sem]) rfl ⟨rfl, lay_ex _ _⟩
theorem mn_tree (x y z u : Int) : mn (mn x y) (mn z u) = mn (mn (mn x y) z) u := by simp only [mn_eq]; omega
theorem mx_tree (x y z u : Int) : mx (mx x y) (mx z u) = mx (mx (mx x y) z) u := by simp only [mx_eq]; omega
set_option maxHeartbeats 1000000 in
set_option maxRecDepth 100000 in
theorem r4_Mul (a0 a1 b0 b1 : Int) (w : World) (ha : fxB a0 a1 = true) (hb : fxB b0 b1 = true) (hm : fxB (mulL a0 a1 b0 b1) (mulH a0 a1 b0 b1) = true) :
    Calls Tryz.prog 176 #[(.agg #[.int .i64 (a0), .int .i64 (a1)]), (.agg #[.int .i64 (b0), .int .i64 (b1)])] w fun e w' => e = .returned (.tuple #[(.agg #[.int .i64 (mulL a0 a1 b0 b1), .int .i64 (mulH a0 a1 b0 b1)]), .int .i64 0]) ∧ ∃ d, w' = bw w d := by
  have hfa := fxB_iff.1 ha
  have hfb := fxB_iff.1 hb
  have hbx := box_in (X := 2147483648) (by decide) (a0 := a0) (a1 := a1) (b0 := b0) (b1 := b1) ⟨by omega, by omega⟩ ⟨by omega, by omega⟩ ⟨by omega, by omega⟩ ⟨by omega, by omega⟩
  have p1 := prod_in (X := 2147483648) (x := a0) (k := b0) (by decide) ⟨by omega, by omega⟩ ⟨by omega, by omega⟩
  have p2 := prod_in (X := 2147483648) (x := a0) (k := b1) (by decide) ⟨by omega, by omega⟩ ⟨by omega, by omega⟩
  have p3 := prod_in (X := 2147483648) (x := a1) (k := b0) (by decide) ⟨by omega, by omega⟩ ⟨by omega, by omega⟩
  have p4 := prod_in (X := 2147483648) (x := a1) (k := b1) (by decide) ⟨by omega, by omega⟩ ⟨by omega, by omega⟩
  have HT := Lib.hid (fun W => r4_fit _ _ W hm)
  have HF := Lib.hid (fun W => r4_Floor (m4 a0 a1 b0 b1) 1073741824 W (by decide) (by omega) (by omega))
  have HC := Lib.hid (fun W => r4_Ceil (x4 a0 a1 b0 b1) 1073741824 W (by decide) (by omega) (by omega))
  rw [show m4 a0 a1 b0 b1 / 1073741824 = mulL a0 a1 b0 b1 from rfl] at HF
  rw [show -((-(x4 a0 a1 b0 b1)) / 1073741824) = mulH a0 a1 b0 b1 from rfl] at HC
  generalize mulL a0 a1 b0 b1 = Q at *
  generalize mulH a0 a1 b0 b1 = U at *
  have e1 : mn (mn (a0 * b0) (a0 * b1)) (mn (a1 * b0) (a1 * b1)) = m4 a0 a1 b0 b1 := mn_tree _ _ _ _
  have e2 : mx (mx (a0 * b0) (a0 * b1)) (mx (a1 * b0) (a1 * b1)) = x4 a0 a1 b0 b1 := mx_tree _ _ _ _
  generalize m4 a0 a1 b0 b1 = M at *
  generalize x4 a0 a1 b0 b1 = X at *
  have k1 : IntKind.i64.wrap (a0 * b0) = a0 * b0 := IntWalk.i64_in _ (by omega)
  have k2 : IntKind.i64.wrap (a0 * b1) = a0 * b1 := IntWalk.i64_in _ (by omega)
  have k3 : IntKind.i64.wrap (a1 * b0) = a1 * b0 := IntWalk.i64_in _ (by omega)
  have k4 : IntKind.i64.wrap (a1 * b1) = a1 * b1 := IntWalk.i64_in _ (by omega)
  clear hbx p1 p2 p3 p4 hfa hfb ha hb hm
  refine lay_start ?_
  go_enter Tryz.func176, Tryz.ntmps176
  go_wp2_with fail
  refine region_bw (by kernel_rfl) (by kernel_rfl) ?_
  repeat (go_big_quiet_step ((first | fail)))
  refine wpQuiet_nil ?_
  rintro w' ⟨d, rfl⟩
  rw [lay_bw]
  go_wp2_with (first | (go_at_call 218; refine (r4_Least _ _ _).mono ?_; rintro e w' ⟨rfl, d1, rfl⟩) | (go_at_call 219; refine (r4_Most _ _ _).mono ?_; rintro e w' ⟨rfl, d2, rfl⟩) | (go_at_call 220; refine (HF.out _).mono ?_; rintro e w' ⟨rfl, d3, rfl⟩) | (go_at_call 221; refine (HC.out _).mono ?_; rintro e w' ⟨rfl, d4, rfl⟩) | (go_at_call 217; refine (HT.out _).mono ?_; rintro e w' ⟨rfl, d5, rfl⟩))
  exact bodyPost_ret (v := .tuple #[(.agg #[.int .i64 (Q), .int .i64 (U)]), .int .i64 0]) (by simp [results, Tryz.results176, go_sem]) rfl ⟨rfl, lay_ex _ _⟩
end Go.Proofs.YthjfadfebhjhbaaGreat
/- The reference's Sub, Add, fit at any ends. -/
namespace Go.Proofs.YthjfadfebhjhbaaGreat
open Go.RowKit

set_option maxRecDepth 100000 in
theorem r4_Add (a0 a1 b0 b1 : Int) (w : World) (ha : fxB a0 a1 = true) (hb : fxB b0 b1 = true) (hm : fxB (a0 + b0) (a1 + b1) = true) :
    Calls Tryz.prog 175 #[(.agg #[.int .i64 (a0), .int .i64 (a1)]), (.agg #[.int .i64 (b0), .int .i64 (b1)])] w fun e w' => e = .returned (.tuple #[(.agg #[.int .i64 (a0 + b0), .int .i64 (a1 + b1)]), .int .i64 0]) ∧ ∃ d, w' = bw w d := by
  have HT := Lib.hid (fun W => r4_fit _ _ W hm)
  have hfa := fxB_iff.1 ha
  have hfb := fxB_iff.1 hb
  have k1 : IntKind.i64.wrap (a0 + b0) = a0 + b0 := IntWalk.i64_in _ (by omega)
  have k2 : IntKind.i64.wrap (a1 + b1) = a1 + b1 := IntWalk.i64_in _ (by omega)
  clear hfa hfb ha hb hm
  refine lay_start ?_
  go_enter Tryz.func175, Tryz.ntmps175
  go_wp2_with (go_at_call 217; refine (HT.out _).mono ?_; rintro e w' ⟨rfl, d1, rfl⟩)
  exact bodyPost_ret (v := .tuple #[(.agg #[.int .i64 (a0 + b0), .int .i64 (a1 + b1)]), .int .i64 0]) (by simp [results, Tryz.results175, go_sem]) rfl ⟨rfl, lay_ex _ _⟩
end Go.Proofs.YthjfadfebhjhbaaGreat
/- The reference's Times, Plus and Minus. -/
namespace Go.Proofs.YthjfadfebhjhbaaGreat
open Go.RowKit

set_option maxRecDepth 100000 in
theorem r25_Times (a0 a1 b0 b1 : Int) (w : World) (ha : fxB a0 a1 = true) (hb : fxB b0 b1 = true) (hm : fxB (mulL a0 a1 b0 b1) (mulH a0 a1 b0 b1) = true) :
    Calls Tryz.prog 139 #[(.agg #[.int .i64 (a0), .int .i64 (a1)]), (.agg #[.int .i64 (b0), .int .i64 (b1)])] w fun e w' => e = .returned (.agg #[.int .i64 (mulL a0 a1 b0 b1), .int .i64 (mulH a0 a1 b0 b1)]) ∧ ∃ d, w' = bw w d := by
  have HT := Lib.hid (fun W => r4_Mul a0 a1 b0 b1 W ha hb hm)
  generalize mulL a0 a1 b0 b1 = p at *
  generalize mulH a0 a1 b0 b1 = q at *
  clear ha hb hm
  refine lay_start ?_
  go_enter Tryz.func139, Tryz.ntmps139
  go_wp2_with (go_at_call 176; refine (HT.out _).mono ?_; rintro e w' ⟨rfl, d, rfl⟩; rw [lay_bw])
  exact bodyPost_ret (v := (.agg #[.int .i64 (p), .int .i64 (q)])) (by simp [results, Tryz.results139, go_sem]) rfl ⟨rfl, lay_ex _ _⟩
set_option maxRecDepth 100000 in
theorem r25_Plus (a0 a1 b0 b1 : Int) (w : World) (ha : fxB a0 a1 = true) (hb : fxB b0 b1 = true) (hm : fxB (a0 + b0) (a1 + b1) = true) :
    Calls Tryz.prog 138 #[(.agg #[.int .i64 (a0), .int .i64 (a1)]), (.agg #[.int .i64 (b0), .int .i64 (b1)])] w fun e w' => e = .returned (.agg #[.int .i64 (a0 + b0), .int .i64 (a1 + b1)]) ∧ ∃ d, w' = bw w d := by
  have HT := Lib.hid (fun W => r4_Add a0 a1 b0 b1 W ha hb hm)
  generalize a0 + b0 = p at *
  generalize a1 + b1 = q at *
  clear ha hb hm
  refine lay_start ?_
  go_enter Tryz.func138, Tryz.ntmps138
  go_wp2_with (go_at_call 175; refine (HT.out _).mono ?_; rintro e w' ⟨rfl, d, rfl⟩; rw [lay_bw])
  exact bodyPost_ret (v := (.agg #[.int .i64 (p), .int .i64 (q)])) (by simp [results, Tryz.results138, go_sem]) rfl ⟨rfl, lay_ex _ _⟩
end Go.Proofs.YthjfadfebhjhbaaGreat
/- The reference's sines and cosines over arcs: has, sine, Sin, Cos. -/
namespace Go.Proofs.YthjfadfebhjhbaaGreat
open Go.RowKit

theorem met_turn (lo hi : Int) : metB lo hi (-5400000) = metB lo hi 16200000 := by
  unfold metB
  rw [show ((-5400000 : Int) - lo) % 21600000 = (16200000 - lo) % 21600000 by omega]
set_option maxHeartbeats 1000000 in
set_option maxRecDepth 100000 in
theorem r6_has (lo hi n : Int) (h1 : -2199023255552 ≤ lo) (h2 : lo ≤ hi) (h3 : hi ≤ 2199023255552) (h4 : -21600000 ≤ n) (h5 : n ≤ 21600000) (w : World) :
    Calls Tryz.prog 223 #[(.agg #[.int .i64 (lo), .int .i64 (hi)]), .int .i64 n] w fun e w' => e = .returned (.bool (metB lo hi n)) ∧ ∃ d, w' = bw w d := by
  refine lay_start ?_
  obtain ⟨D, hD⟩ : ∃ D : Int, n - lo = D := ⟨_, rfl⟩
  have kD : IntKind.i64.wrap D = D := IntWalk.i64_in _ (by omega)
  have hc := tmod_turn D
  obtain ⟨t, ht⟩ : ∃ t, D.tmod 21600000 = t := ⟨_, rfl⟩
  rw [ht] at hc
  obtain ⟨q, hq⟩ : ∃ q, D % 21600000 = q := ⟨_, rfl⟩
  rw [hq] at hc
  have hq2 : 0 ≤ q ∧ q < 21600000 := by omega
  have kt : IntKind.i64.wrap t = t := IntWalk.i64_in _ (by omega)
  have kq : IntKind.i64.wrap q = q := IntWalk.i64_in _ (by omega)
  obtain ⟨E, hE⟩ : ∃ E : Int, lo + q = E := ⟨_, rfl⟩
  have kE : IntKind.i64.wrap E = E := IntWalk.i64_in _ (by omega)
  rw [show metB lo hi n = decide (E ≤ hi) by unfold metB; rw [hD, hq]; exact decide_eq_decide.2 (by omega)]
  have hst : t = q ∧ ¬ t < 0 ∨ t < 0 ∧ t + 21600000 = q := by omega
  clear hc hq2 h1 h2 h3 h4 h5 hq
  rcases hst with ⟨rfl, hs⟩ | ⟨hs, hs2⟩
  all_goals
    go_enter Tryz.func223, Tryz.ntmps223
    go_wp2_with fail
    go_ret
    exact ⟨rfl, lay_ex _ _⟩
set_option maxHeartbeats 1000000 in
set_option maxRecDepth 100000 in
theorem r6_sine (lo hi : Int) (h1 : -2199023255552 ≤ lo) (h2 : lo ≤ hi) (h3 : hi ≤ 2199023255552) (w : World) :
    Calls Tryz.prog 177 #[(.agg #[.int .i64 (lo), .int .i64 (hi)])] w fun e w' => e = .returned (.agg #[.int .i64 (encL lo hi), .int .i64 (encH lo hi)]) ∧ ∃ d, w' = bw w d := by
  refine lay_start ?_
  have HB1 := Lib.hid (fun W => r6_ends lo W)
  have HB2 := Lib.hid (fun W => r6_ends hi W)
  have HM1 := Lib.hid (fun W => r6_has lo hi 5400000 h1 h2 h3 (by decide) (by decide) W)
  have HM2 := Lib.hid (fun W => r6_has lo hi (-5400000) h1 h2 h3 (by decide) (by decide) W)
  rw [met_turn] at HM2
  rw [encL_at, encH_at]
  generalize bLo lo = p at *
  generalize bLo hi = q at *
  generalize bHi lo = r at *
  generalize bHi hi = s at *
  clear h1 h2 h3
  cases hm1 : metB lo hi 5400000 <;> cases hm2 : metB lo hi 16200000
  all_goals
    rw [hm1] at HM1
    rw [hm2] at HM2
    clear hm1 hm2
    simp only [Bool.false_eq_true, if_true, if_false]
    go_enter Tryz.func177, Tryz.ntmps177
    go_wp2_with (first | (go_at_call 222; first | (with_reducible refine (HB1.out _).mono ?_; rintro e w' ⟨rfl, d1, rfl⟩) | (with_reducible refine (HB2.out _).mono ?_; rintro e w' ⟨rfl, d2, rfl⟩)) | (go_at_call 223; first | (with_reducible refine (HM1.out _).mono ?_; rintro e w' ⟨rfl, d3, rfl⟩) | (with_reducible refine (HM2.out _).mono ?_; rintro e w' ⟨rfl, d4, rfl⟩)))
  · exact bodyPost_ret (v := (.agg #[.int .i64 (mn p q), .int .i64 (mx r s)])) (by simp [results, Tryz.results177, go_sem]) rfl ⟨rfl, lay_ex _ _⟩
  · exact bodyPost_ret (v := (.agg #[.int .i64 (-1073741824), .int .i64 (mx r s)])) (by simp [results, Tryz.results177, go_sem]) rfl ⟨rfl, lay_ex _ _⟩
  · exact bodyPost_ret (v := (.agg #[.int .i64 (mn p q), .int .i64 (1073741824)])) (by simp [results, Tryz.results177, go_sem]) rfl ⟨rfl, lay_ex _ _⟩
  · exact bodyPost_ret (v := (.agg #[.int .i64 (-1073741824), .int .i64 (1073741824)])) (by simp [results, Tryz.results177, go_sem]) rfl ⟨rfl, lay_ex _ _⟩
set_option maxRecDepth 100000 in
theorem r6_Sin (lo hi : Int) (hv : validB lo hi = true) (w : World) :
    Calls Tryz.prog 140 #[(.agg #[.int .i64 (lo), .int .i64 (hi)])] w fun e w' => e = .returned (.agg #[.int .i64 (encL lo hi), .int .i64 (encH lo hi)]) ∧ ∃ d, w' = bw w d := by
  refine lay_start ?_
  have h := validB_iff.1 hv
  have HE := Lib.hid (fun W => r6_sine lo hi (by omega) h.1 (by omega) W)
  clear h hv
  generalize encL lo hi = p at *
  generalize encH lo hi = q at *
  go_enter Tryz.func140, Tryz.ntmps140
  go_wp2_with (first | (go_at_call 177; refine (HE.out _).mono ?_; rintro e w' ⟨rfl, d, rfl⟩))
  exact bodyPost_ret (v := (.agg #[.int .i64 (p), .int .i64 (q)])) (by simp [results, Tryz.results140, go_sem]) rfl ⟨rfl, lay_ex _ _⟩
set_option maxRecDepth 100000 in
theorem r6_Cos (lo hi : Int) (hv : validB lo hi = true) (w : World) :
    Calls Tryz.prog 141 #[(.agg #[.int .i64 (lo), .int .i64 (hi)])] w fun e w' => e = .returned (.agg #[.int .i64 (encL (lo + 5400000) (hi + 5400000)), .int .i64 (encH (lo + 5400000) (hi + 5400000))]) ∧ ∃ d, w' = bw w d := by
  refine lay_start ?_
  have h := validB_iff.1 hv
  have HE := Lib.hid (fun W => r6_sine (lo + 5400000) (hi + 5400000) (by omega) (by omega) (by omega) W)
  have k1 : IntKind.i64.wrap (lo + 5400000) = lo + 5400000 := IntWalk.i64_in _ (by omega)
  have k2 : IntKind.i64.wrap (hi + 5400000) = hi + 5400000 := IntWalk.i64_in _ (by omega)
  clear h hv
  generalize encL (lo + 5400000) (hi + 5400000) = p at *
  generalize encH (lo + 5400000) (hi + 5400000) = q at *
  go_enter Tryz.func141, Tryz.ntmps141
  go_wp2_with (first | (go_at_call 177; refine (HE.out _).mono ?_; rintro e w' ⟨rfl, d, rfl⟩))
  exact bodyPost_ret (v := (.agg #[.int .i64 (p), .int .i64 (q)])) (by simp [results, Tryz.results141, go_sem]) rfl ⟨rfl, lay_ex _ _⟩
end Go.Proofs.YthjfadfebhjhbaaGreat
