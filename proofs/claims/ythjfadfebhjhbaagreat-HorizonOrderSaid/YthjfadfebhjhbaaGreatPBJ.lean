/- Contracts and plain laws, several texts in one: As9; F4M; F4S; R25 -/
import Derived.Test.YthjfadfebhjhbaaGreatProg
import Derived.WalkKit
import Derived.WalkSpells
import Derived.WalkLawsBesides
import Derived.Lib.Hide
import Derived.BigQuiet
import Derived.Test.YthjfadfebhjhbaaGreatPAA
import Derived.Test.YthjfadfebhjhbaaGreatPAB
import Derived.Test.YthjfadfebhjhbaaGreatPBE
import Derived.Test.YthjfadfebhjhbaaGreatPBI
/- The reference's arcsines: Valid, Ceil, Asin, Acos, Ahav. -/
namespace Go.Proofs.YthjfadfebhjhbaaGreat
open Go.RowKit

theorem r7_Valid (lo hi : Int) (w : World) :
    Calls Tryz.prog 135 #[(.agg #[.int .i64 (lo), .int .i64 (hi)])] w fun e w' => e = .returned (.bool (fxB lo hi)) ∧ ∃ d, w' = bw w d := by
  refine lay_start ?_
  go_enter Tryz.func135, Tryz.ntmps135
  go_wp2
  all_goals go_ret
  all_goals exact ⟨ret_bool (by rw [Bool.eq_iff_iff]; simp [fxB]; omega), lay_ex _ _⟩
set_option maxRecDepth 100000 in
theorem r7_Ceil (v : Int) (hv : -1073741824 ≤ -v) (h2 : -2147483648 ≤ v) (w : World) :
    Calls Tryz.prog 137 #[.int .i64 v] w fun e w' => e = .returned (.int .i64 (-(asnI (-v)))) ∧ ∃ d, w' = bw w d := by
  have HF := Lib.hid (fun W => r7_Floor (-v) hv W)
  have hi := asnI_in hv
  obtain ⟨m, hm⟩ : ∃ m, -v = m := ⟨_, rfl⟩
  have k1 : IntKind.i64.wrap (-v) = m := by rw [hm]; exact IntWalk.i64_in _ (by omega)
  rw [hm] at HF hi
  rw [hm]
  generalize asnI m = r at *
  have k2 : IntKind.i64.wrap (-r) = -r := IntWalk.i64_in _ (by omega)
  clear hv h2 hi hm
  refine lay_start ?_
  go_enter Tryz.func137, Tryz.ntmps137
  go_wp2_with (go_at_call 136; refine (HF.out _).mono ?_; rintro e w' ⟨rfl, d1, rfl⟩; rw [lay_bw])
  go_ret
  exact ⟨rfl, lay_ex _ _⟩
set_option maxHeartbeats 1000000 in
set_option maxRecDepth 100000 in
theorem r7_Asin (lo hi : Int) (w : World) :
    Calls Tryz.prog 96 #[(.agg #[.int .i64 (lo), .int .i64 (hi)])] w fun e w' => e = .returned (.tuple #[(.agg #[.int .i64 (asL lo hi), .int .i64 (asH lo hi)]), .int .i64 (asE lo hi)]) ∧ ∃ d, w' = bw w d := by
  have HV := Lib.hid (fun W => r7_Valid lo hi W)
  unfold asL asH
  rw [asE_at]
  cases h : fxB lo hi
  · rw [h] at HV
    clear h
    rw [if_pos rfl, if_neg (show ¬ ((1 : Int) = 0) by decide), if_neg (show ¬ ((1 : Int) = 0) by decide)]
    refine lay_start ?_
    go_enter Tryz.func96, Tryz.ntmps96
    go_wp2_with (go_at_call 135; refine (HV.out _).mono ?_; rintro e w' ⟨rfl, d, rfl⟩)
    exact bodyPost_ret (v := .tuple #[(.agg #[.int .i64 (0), .int .i64 (0)]), .int .i64 1]) (by simp [results, Tryz.results96, go_sem]) rfl ⟨rfl, lay_ex _ _⟩
  · rw [h] at HV
    have hb := fxB_iff.1 h
    have hx : -1073741824 ≤ mx lo (-1073741824) := by rw [mx_eq]; omega
    have hn : mn hi 1073741824 ≤ 1073741824 := by rw [mn_eq]; omega
    have hn2 : -2147483648 ≤ mn hi 1073741824 := by rw [mn_eq]; omega
    have hd : (mn hi 1073741824 < mx lo (-1073741824)) ∨ ¬ mn hi 1073741824 < mx lo (-1073741824) := by omega
    have H1 := Lib.hid (fun W => r7_Floor (mx lo (-1073741824)) hx W)
    have H2 := Lib.hid (fun W => r7_Ceil (mn hi 1073741824) (by omega) hn2 W)
    have w1 : (lo < -1073741824 ∧ mx lo (-1073741824) = -1073741824) ∨ (¬ lo < -1073741824 ∧ mx lo (-1073741824) = lo) := by rw [mx_eq]; omega
    have w2 : (1073741824 < hi ∧ mn hi 1073741824 = 1073741824) ∨ (¬ 1073741824 < hi ∧ mn hi 1073741824 = hi) := by rw [mn_eq]; omega
    rw [if_neg (show ¬ (true = false) by decide)]
    clear h hb hx hn hn2
    generalize mx lo (-1073741824) = x at *
    generalize mn hi 1073741824 = y at *
    generalize asnI x = u at *
    generalize -(asnI (-y)) = v at *
    rcases hd with hd | hd
    · rw [if_pos hd, if_neg (show ¬ ((2 : Int) = 0) by decide), if_neg (show ¬ ((2 : Int) = 0) by decide)]
      clear H1 H2
      rcases w1 with ⟨w1, rfl⟩ | ⟨w1, rfl⟩
      all_goals rcases w2 with ⟨w2, rfl⟩ | ⟨w2, rfl⟩
      · exact False.elim (by omega)
      all_goals
        refine lay_start ?_
        go_enter Tryz.func96, Tryz.ntmps96
        go_wp2_with (first | (go_at_call 135; refine (HV.out _).mono ?_; rintro e w' ⟨rfl, d, rfl⟩))
      all_goals exact bodyPost_ret (v := .tuple #[(.agg #[.int .i64 (0), .int .i64 (0)]), .int .i64 2]) (by simp [results, Tryz.results96, go_sem]) rfl ⟨rfl, lay_ex _ _⟩
    · rw [if_neg hd, if_pos rfl, if_pos rfl]
      rcases w1 with ⟨w1, rfl⟩ | ⟨w1, rfl⟩
      all_goals rcases w2 with ⟨w2, rfl⟩ | ⟨w2, rfl⟩
      all_goals
        refine lay_start ?_
        go_enter Tryz.func96, Tryz.ntmps96
        go_wp2_with (first | (go_at_call 135; refine (HV.out _).mono ?_; rintro e w' ⟨rfl, d, rfl⟩) | (go_at_call 136; refine (H1.out _).mono ?_; rintro e w' ⟨rfl, d, rfl⟩) | (go_at_call 137; refine (H2.out _).mono ?_; rintro e w' ⟨rfl, d, rfl⟩))
      all_goals exact bodyPost_ret (v := .tuple #[(.agg #[.int .i64 (u), .int .i64 (v)]), .int .i64 0]) (by simp [results, Tryz.results96, go_sem]) rfl ⟨rfl, lay_ex _ _⟩
end Go.Proofs.YthjfadfebhjhbaaGreat
/- The reference's intervals: Mul, Sub, Add, without average's functions. -/
namespace Go.Proofs.YthjfadfebhjhbaaGreat
open Go.RowKit

set_option maxRecDepth 100000 in
theorem r4_Least (a b : Int) (w : World) :
    Calls Tryz.prog 218 #[.int .i64 a, .int .i64 b] w fun e w' => e = .returned (.int .i64 (mn a b)) ∧ ∃ d, w' = bw w d := by
  refine lay_start ?_
  rw [show mn a b = if b < a then b else a from rfl]
  by_cases h : b < a
  · rw [if_pos h]
    go_enter Tryz.func218, Tryz.ntmps218
    go_wp2_with fail
    go_ret
    exact ⟨rfl, lay_ex _ _⟩
  · rw [if_neg h]
    go_enter Tryz.func218, Tryz.ntmps218
    go_wp2_with fail
    go_ret
    exact ⟨rfl, lay_ex _ _⟩
set_option maxRecDepth 100000 in
theorem r4_Most (a b : Int) (w : World) :
    Calls Tryz.prog 219 #[.int .i64 a, .int .i64 b] w fun e w' => e = .returned (.int .i64 (mx a b)) ∧ ∃ d, w' = bw w d := by
  refine lay_start ?_
  rw [show mx a b = if a < b then b else a from rfl]
  by_cases h : a < b
  · rw [if_pos h]
    go_enter Tryz.func219, Tryz.ntmps219
    go_wp2_with fail
    go_ret
    exact ⟨rfl, lay_ex _ _⟩
  · rw [if_neg h]
    go_enter Tryz.func219, Tryz.ntmps219
    go_wp2_with fail
    go_ret
    exact ⟨rfl, lay_ex _ _⟩
set_option maxHeartbeats 400000 in
theorem r4_Floor (a b : Int) (w : World) (hb : 1 ≤ b) (h1 : -9223372036854775807 ≤ a) (h2 : a ≤ 9223372036854775807) :
    Calls Tryz.prog 220 #[.int .i64 a, .int .i64 b] w fun e w' => e = .returned (.int .i64 (a / b)) ∧ ∃ d, w' = bw w d := by
  refine lay_start ?_
  go_enter Tryz.func220, Tryz.ntmps220
  go_wp2
  · go_ret
    refine ⟨congrArg (fun x => Ending.returned (.int .i64 x)) ?_, lay_ex _ _⟩
    rw [IntWalk.wrap64_in]
    · exact floor_neg hb ‹_›
    · rw [floor_neg hb ‹_›]; have := ediv_bd hb 9223372036854775807 (by decide) h1 h2; omega
  · go_ret
    exact ⟨congrArg (fun x => Ending.returned (.int .i64 x)) (floor_pos hb ‹_›), lay_ex _ _⟩
set_option maxRecDepth 100000 in
theorem r4_Ceil (a b : Int) (w : World) (hb : 1 ≤ b) (h1 : -9223372036854775807 ≤ a) (h2 : a ≤ 9223372036854775807) :
    Calls Tryz.prog 221 #[.int .i64 a, .int .i64 b] w fun e w' => e = .returned (.int .i64 (-((-a) / b))) ∧ ∃ d, w' = bw w d := by
  have HF := Lib.hid (fun W => r4_Floor (-a) b W hb (by omega) (by omega))
  have k1 : IntKind.i64.wrap (-a) = -a := IntWalk.i64_in _ (by omega)
  have hbd := ediv_bd hb 9223372036854775807 (by decide) (show -9223372036854775807 ≤ -a by omega) (by omega)
  have k2 : IntKind.i64.wrap (-((-a) / b)) = -((-a) / b) := IntWalk.i64_in _ (by omega)
  obtain ⟨m, hm⟩ : ∃ m, -a = m := ⟨_, rfl⟩
  rw [hm] at HF k1 k2 hbd ⊢
  obtain ⟨q, hq⟩ : ∃ q, m / b = q := ⟨_, rfl⟩
  rw [hq] at HF k2 hbd ⊢
  obtain ⟨r, hr⟩ : ∃ r, -q = r := ⟨_, rfl⟩
  rw [hr] at k2 ⊢
  clear hbd hq h1 h2
  refine lay_start ?_
  go_enter Tryz.func221, Tryz.ntmps221
  go_wp2_with (go_at_call 220; refine (HF.out _).mono ?_; rintro e w' ⟨rfl, d, rfl⟩)
  go_ret
  exact ⟨rfl, lay_ex _ _⟩
set_option maxRecDepth 100000 in
theorem r4_fit (lo hi : Int) (w : World) (h : fxB lo hi = true) :
    Calls Tryz.prog 217 #[.int .i64 lo, .int .i64 hi] w fun e w' => e = .returned (.tuple #[(.agg #[.int .i64 (lo), .int .i64 (hi)]), .int .i64 0]) ∧ ∃ d, w' = bw w d := by
  have hf := fxB_iff.1 h
  have g1 : ¬ lo < -2147483648 := by omega
  have g2 : ¬ 2147483648 < hi := by omega
  clear hf h
  refine lay_start ?_
  go_enter Tryz.func217, Tryz.ntmps217
  go_wp2_with fail
  exact bodyPost_ret (v := .tuple #[(.agg #[.int .i64 (lo), .int .i64 (hi)]), .int .i64 0]) (by simp [results, Tryz.results217, go_sem]) rfl ⟨rfl, lay_ex _ _⟩
theorem mn_tree (x y z u : Int) : mn (mn x y) (mn z u) = mn (mn (mn x y) z) u := by simp only [mn_eq]; omega
theorem mx_tree (x y z u : Int) : mx (mx x y) (mx z u) = mx (mx (mx x y) z) u := by simp only [mx_eq]; omega
set_option maxHeartbeats 1000000 in
set_option maxRecDepth 100000 in
theorem r4_Mul (a0 a1 b0 b1 : Int) (w : World) (ha : fxB a0 a1 = true) (hb : fxB b0 b1 = true) (hm : fxB (mulL a0 a1 b0 b1) (mulH a0 a1 b0 b1) = true) :
    Calls Tryz.prog 176 #[(.agg #[.int .i64 (a0), .int .i64 (a1)]), (.agg #[.int .i64 (b0), .int .i64 (b1)])] w fun e w' => e = .returned (.tuple #[(.agg #[.int .i64 (mulL a0 a1 b0 b1), .int .i64 (mulH a0 a1 b0 b1)]), .int .i64 0]) ∧ ∃ d, w' = bw w d := by
  have hfa := fxB_iff.1 ha
  have hfb := fxB_iff.1 hb
  have hbx := box_in (X := 2147483648) (by decide) (a0 := a0) (a1 := a1) (b0 := b0) (b1 := b1) ⟨by omega, by omega⟩ ⟨by omega, by omega⟩ ⟨by omega, by omega⟩ ⟨by omega, by omega⟩
  have p1 := prod_in (X := 2147483648) (x := a0) (k := b0) (by decide) ⟨by omega, by omega⟩ ⟨by omega, by omega⟩
  have p2 := prod_in (X := 2147483648) (x := a0) (k := b1) (by decide) ⟨by omega, by omega⟩ ⟨by omega, by omega⟩
  have p3 := prod_in (X := 2147483648) (x := a1) (k := b0) (by decide) ⟨by omega, by omega⟩ ⟨by omega, by omega⟩
  have p4 := prod_in (X := 2147483648) (x := a1) (k := b1) (by decide) ⟨by omega, by omega⟩ ⟨by omega, by omega⟩
  have HT := Lib.hid (fun W => r4_fit _ _ W hm)
  have HF := Lib.hid (fun W => r4_Floor (m4 a0 a1 b0 b1) 1073741824 W (by decide) (by omega) (by omega))
  have HC := Lib.hid (fun W => r4_Ceil (x4 a0 a1 b0 b1) 1073741824 W (by decide) (by omega) (by omega))
  rw [show m4 a0 a1 b0 b1 / 1073741824 = mulL a0 a1 b0 b1 from rfl] at HF
  rw [show -((-(x4 a0 a1 b0 b1)) / 1073741824) = mulH a0 a1 b0 b1 from rfl] at HC
  generalize mulL a0 a1 b0 b1 = Q at *
  generalize mulH a0 a1 b0 b1 = U at *
  have e1 : mn (mn (a0 * b0) (a0 * b1)) (mn (a1 * b0) (a1 * b1)) = m4 a0 a1 b0 b1 := mn_tree _ _ _ _
  have e2 : mx (mx (a0 * b0) (a0 * b1)) (mx (a1 * b0) (a1 * b1)) = x4 a0 a1 b0 b1 := mx_tree _ _ _ _
  generalize m4 a0 a1 b0 b1 = M at *
  generalize x4 a0 a1 b0 b1 = X at *
  have k1 : IntKind.i64.wrap (a0 * b0) = a0 * b0 := IntWalk.i64_in _ (by omega)
  have k2 : IntKind.i64.wrap (a0 * b1) = a0 * b1 := IntWalk.i64_in _ (by omega)
  have k3 : IntKind.i64.wrap (a1 * b0) = a1 * b0 := IntWalk.i64_in _ (by omega)
  have k4 : IntKind.i64.wrap (a1 * b1) = a1 * b1 := IntWalk.i64_in _ (by omega)
  clear hbx p1 p2 p3 p4 hfa hfb ha hb hm
  refine lay_start ?_
  go_enter Tryz.func176, Tryz.ntmps176
  go_wp2_with fail
  refine region_bw (by kernel_rfl) (by kernel_rfl) ?_
  repeat (go_big_quiet_step ((first | fail)))
  refine wpQuiet_nil ?_
  rintro w' ⟨d, rfl⟩
  rw [lay_bw]
  go_wp2_with (first | (go_at_call 218; refine (r4_Least _ _ _).mono ?_; rintro e w' ⟨rfl, d1, rfl⟩) | (go_at_call 219; refine (r4_Most _ _ _).mono ?_; rintro e w' ⟨rfl, d2, rfl⟩) | (go_at_call 220; refine (HF.out _).mono ?_; rintro e w' ⟨rfl, d3, rfl⟩) | (go_at_call 221; refine (HC.out _).mono ?_; rintro e w' ⟨rfl, d4, rfl⟩) | (go_at_call 217; refine (HT.out _).mono ?_; rintro e w' ⟨rfl, d5, rfl⟩))
  exact bodyPost_ret (v := .tuple #[(.agg #[.int .i64 (Q), .int .i64 (U)]), .int .i64 0]) (by simp [results, Tryz.results176, go_sem]) rfl ⟨rfl, lay_ex _ _⟩
end Go.Proofs.YthjfadfebhjhbaaGreat
/- The reference's Sub, Add, fit at any ends. -/
namespace Go.Proofs.YthjfadfebhjhbaaGreat
open Go.RowKit

set_option maxRecDepth 100000 in
theorem r4_Add (a0 a1 b0 b1 : Int) (w : World) (ha : fxB a0 a1 = true) (hb : fxB b0 b1 = true) (hm : fxB (a0 + b0) (a1 + b1) = true) :
    Calls Tryz.prog 175 #[(.agg #[.int .i64 (a0), .int .i64 (a1)]), (.agg #[.int .i64 (b0), .int .i64 (b1)])] w fun e w' => e = .returned (.tuple #[(.agg #[.int .i64 (a0 + b0), .int .i64 (a1 + b1)]), .int .i64 0]) ∧ ∃ d, w' = bw w d := by
  have HT := Lib.hid (fun W => r4_fit _ _ W hm)
  have hfa := fxB_iff.1 ha
  have hfb := fxB_iff.1 hb
  have k1 : IntKind.i64.wrap (a0 + b0) = a0 + b0 := IntWalk.i64_in _ (by omega)
  have k2 : IntKind.i64.wrap (a1 + b1) = a1 + b1 := IntWalk.i64_in _ (by omega)
  clear hfa hfb ha hb hm
  refine lay_start ?_
  go_enter Tryz.func175, Tryz.ntmps175
  go_wp2_with (go_at_call 217; refine (HT.out _).mono ?_; rintro e w' ⟨rfl, d1, rfl⟩)
  exact bodyPost_ret (v := .tuple #[(.agg #[.int .i64 (a0 + b0), .int .i64 (a1 + b1)]), .int .i64 0]) (by simp [results, Tryz.results175, go_sem]) rfl ⟨rfl, lay_ex _ _⟩
end Go.Proofs.YthjfadfebhjhbaaGreat
/- The reference's Times, Plus and Minus. -/
namespace Go.Proofs.YthjfadfebhjhbaaGreat
open Go.RowKit

set_option maxRecDepth 100000 in
theorem r25_Times (a0 a1 b0 b1 : Int) (w : World) (ha : fxB a0 a1 = true) (hb : fxB b0 b1 = true) (hm : fxB (mulL a0 a1 b0 b1) (mulH a0 a1 b0 b1) = true) :
    Calls Tryz.prog 139 #[(.agg #[.int .i64 (a0), .int .i64 (a1)]), (.agg #[.int .i64 (b0), .int .i64 (b1)])] w fun e w' => e = .returned (.agg #[.int .i64 (mulL a0 a1 b0 b1), .int .i64 (mulH a0 a1 b0 b1)]) ∧ ∃ d, w' = bw w d := by
  have HT := Lib.hid (fun W => r4_Mul a0 a1 b0 b1 W ha hb hm)
  generalize mulL a0 a1 b0 b1 = p at *
  generalize mulH a0 a1 b0 b1 = q at *
  clear ha hb hm
  refine lay_start ?_
  go_enter Tryz.func139, Tryz.ntmps139
  go_wp2_with (go_at_call 176; refine (HT.out _).mono ?_; rintro e w' ⟨rfl, d, rfl⟩; rw [lay_bw])
  exact bodyPost_ret (v := (.agg #[.int .i64 (p), .int .i64 (q)])) (by simp [results, Tryz.results139, go_sem]) rfl ⟨rfl, lay_ex _ _⟩
set_option maxRecDepth 100000 in
theorem r25_Plus (a0 a1 b0 b1 : Int) (w : World) (ha : fxB a0 a1 = true) (hb : fxB b0 b1 = true) (hm : fxB (a0 + b0) (a1 + b1) = true) :
    Calls Tryz.prog 138 #[(.agg #[.int .i64 (a0), .int .i64 (a1)]), (.agg #[.int .i64 (b0), .int .i64 (b1)])] w fun e w' => e = .returned (.agg #[.int .i64 (a0 + b0), .int .i64 (a1 + b1)]) ∧ ∃ d, w' = bw w d := by
  have HT := Lib.hid (fun W => r4_Add a0 a1 b0 b1 W ha hb hm)
  generalize a0 + b0 = p at *
  generalize a1 + b1 = q at *
  clear ha hb hm
  refine lay_start ?_
  go_enter Tryz.func138, Tryz.ntmps138
  go_wp2_with (go_at_call 175; refine (HT.out _).mono ?_; rintro e w' ⟨rfl, d, rfl⟩; rw [lay_bw])
  exact bodyPost_ret (v := (.agg #[.int .i64 (p), .int .i64 (q)])) (by simp [results, Tryz.results138, go_sem]) rfl ⟨rfl, lay_ex _ _⟩
end Go.Proofs.YthjfadfebhjhbaaGreat
