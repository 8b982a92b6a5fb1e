/- Contracts and plain laws, several texts in one: As9; F4M; F4S; R25; Hz2 -/
import Derived.Test.YtnnmfdeeicpdlaaGreatProg
import Derived.WalkKit
import Derived.WalkSpells
import Derived.WalkLawsBesides
import Derived.Lib.Hide
import Derived.BigQuiet
import Derived.Test.YtnnmfdeeicpdlaaGreatHAC
import Derived.Test.YtnnmfdeeicpdlaaGreatHAD
import Derived.Test.YtnnmfdeeicpdlaaGreatHAE
import Derived.Test.YtnnmfdeeicpdlaaGreatHAX
import Derived.Test.YtnnmfdeeicpdlaaGreatHAZ
import Derived.Test.YtnnmfdeeicpdlaaGreatHBB
import Derived.Test.YtnnmfdeeicpdlaaGreatHBC
import Derived.Test.YtnnmfdeeicpdlaaGreatHBD
import Derived.Test.YtnnmfdeeicpdlaaGreatHBV
/- The reference's arcsines: Valid, Ceil, Asin, Acos, Ahav. -/
namespace Go.Proofs.YtnnmfdeeicpdlaaGreat
set_option maxRecDepth 100000
open Go.RowKit

theorem r7_Valid (lo hi : Int) (w : World) :
    Calls Tryz.prog 123 #[(.agg #[.int .i64 (lo), .int .i64 (hi)])] w fun e w' => e = .returned (.bool (fxB lo hi)) ∧ ∃ d, w' = bw w d := by
  refine lay_start ?_
  go_enter Tryz.func123, Tryz.ntmps123
  go_wp2
  all_goals go_ret
  all_goals exact ⟨ret_bool (by rw [Bool.eq_iff_iff]; simp [fxB]; omega), lay_ex _ _⟩
theorem r7_Ceil (v : Int) (hv : -1073741824 ≤ -v) (h2 : -2147483648 ≤ v) (w : World) :
    Calls Tryz.prog 136 #[.int .i64 v] w fun e w' => e = .returned (.int .i64 (-(asnI (-v)))) ∧ ∃ d, w' = bw w d := by
  have HF := Lib.hid (fun W => r7_Floor (-v) hv W)
  have hi := asnI_in hv
  obtain ⟨m, hm⟩ : ∃ m, -v = m := ⟨_, rfl⟩
  have k1 : IntKind.i64.wrap (-v) = m := by rw [hm]; exact IntWalk.i64_in _ (by omega)
  rw [hm] at HF hi
  rw [hm]
  generalize asnI m = r at *
  have k2 : IntKind.i64.wrap (-r) = -r := IntWalk.i64_in _ (by omega)
  clear hv h2 hi hm
  refine lay_start ?_
  go_enter Tryz.func136, Tryz.ntmps136
  go_wp2_with (go_at_call 135; refine (HF.out _).mono ?_; rintro e w' ⟨rfl, d1, rfl⟩; rw [lay_bw])
  go_ret
  exact ⟨rfl, lay_ex _ _⟩
set_option maxHeartbeats 1000000 in
theorem r7_Asin (lo hi : Int) (w : World) :
    Calls Tryz.prog 56 #[(.agg #[.int .i64 (lo), .int .i64 (hi)])] w fun e w' => e = .returned (.tuple #[(.agg #[.int .i64 (asL lo hi), .int .i64 (asH lo hi)]), .int .i64 (asE lo hi)]) ∧ ∃ d, w' = bw w d := by
  have HV := Lib.hid (fun W => r7_Valid lo hi W)
  unfold asL asH
  rw [asE_at]
  cases h : fxB lo hi
  · rw [h] at HV
    clear h
    rw [if_pos rfl, if_neg (show ¬ ((1 : Int) = 0) by decide), if_neg (show ¬ ((1 : Int) = 0) by decide)]
    refine lay_start ?_
    go_enter Tryz.func56, Tryz.ntmps56
    go_wp2_with (go_at_call 123; refine (HV.out _).mono ?_; rintro e w' ⟨rfl, d, rfl⟩)
    exact bodyPost_ret (v := .tuple #[(.agg #[.int .i64 (0), .int .i64 (0)]), .int .i64 1]) (by simp [results, Tryz.results56, go_sem]) rfl ⟨rfl, lay_ex _ _⟩
  · rw [h] at HV
    have hb := fxB_iff.1 h
    have hx : -1073741824 ≤ mx lo (-1073741824) := by rw [mx_eq]; omega
    have hn : mn hi 1073741824 ≤ 1073741824 := by rw [mn_eq]; omega
    have hn2 : -2147483648 ≤ mn hi 1073741824 := by rw [mn_eq]; omega
    have hd : (mn hi 1073741824 < mx lo (-1073741824)) ∨ ¬ mn hi 1073741824 < mx lo (-1073741824) := by omega
    have H1 := Lib.hid (fun W => r7_Floor (mx lo (-1073741824)) hx W)
    have H2 := Lib.hid (fun W => r7_Ceil (mn hi 1073741824) (by omega) hn2 W)
    have w1 : (lo < -1073741824 ∧ mx lo (-1073741824) = -1073741824) ∨ (¬ lo < -1073741824 ∧ mx lo (-1073741824) = lo) := by rw [mx_eq]; omega
    have w2 : (1073741824 < hi ∧ mn hi 1073741824 = 1073741824) ∨ (¬ 1073741824 < hi ∧ mn hi 1073741824 = hi) := by rw [mn_eq]; omega
    rw [if_neg (show ¬ (true = false) by decide)]
    clear h hb hx hn hn2
    generalize mx lo (-1073741824) = x at *
    generalize mn hi 1073741824 = y at *
    generalize asnI x = u at *
    generalize -(asnI (-y)) = v at *
    rcases hd with hd | hd
    · rw [if_pos hd, if_neg (show ¬ ((2 : Int) = 0) by decide), if_neg (show ¬ ((2 : Int) = 0) by decide)]
      clear H1 H2
      rcases w1 with ⟨w1, rfl⟩ | ⟨w1, rfl⟩
      all_goals rcases w2 with ⟨w2, rfl⟩ | ⟨w2, rfl⟩
      · exact False.elim (by omega)
      all_goals
        refine lay_start ?_
        go_enter Tryz.func56, Tryz.ntmps56
        go_wp2_with (first | (go_at_call 123; refine (HV.out _).mono ?_; rintro e w' ⟨rfl, d, rfl⟩))
      all_goals exact bodyPost_ret (v := .tuple #[(.agg #[.int .i64 (0), .int .i64 (0)]), .int .i64 2]) (by simp [results, Tryz.results56, go_sem]) rfl ⟨rfl, lay_ex _ _⟩
    · rw [if_neg hd, if_pos rfl, if_pos rfl]
      rcases w1 with ⟨w1, rfl⟩ | ⟨w1, rfl⟩
      all_goals rcases w2 with ⟨w2, rfl⟩ | ⟨w2, rfl⟩
      all_goals
        refine lay_start ?_
        go_enter Tryz.func56, Tryz.ntmps56
        go_wp2_with (first | (go_at_call 123; refine (HV.out _).mono ?_; rintro e w' ⟨rfl, d, rfl⟩) | (go_at_call 135; refine (H1.out _).mono ?_; rintro e w' ⟨rfl, d, rfl⟩) | (go_at_call 136; refine (H2.out _).mono ?_; rintro e w' ⟨rfl, d, rfl⟩))
      all_goals exact bodyPost_ret (v := .tuple #[(.agg #[.int .i64 (u), .int .i64 (v)]), .int .i64 0]) (by simp [results, Tryz.results56, go_sem]) rfl ⟨rfl, lay_ex _ _⟩
end Go.Proofs.YtnnmfdeeicpdlaaGreat
/- The reference's intervals: Mul, Sub, Add, without average's functions. -/
namespace Go.Proofs.YtnnmfdeeicpdlaaGreat
set_option maxHeartbeats 1000000
set_option maxRecDepth 100000
open Go.RowKit

theorem r4_Least (a b : Int) (w : World) :
    Calls Tryz.prog 130 #[.int .i64 a, .int .i64 b] w fun e w' => e = .returned (.int .i64 (mn a b)) ∧ ∃ d, w' = bw w d := by
  refine lay_start ?_
  rw [show mn a b = if b < a then b else a from rfl]
  by_cases h : b < a
  · rw [if_pos h]
    go_enter Tryz.func130, Tryz.ntmps130
    go_wp2_with fail
    go_ret
    exact ⟨rfl, lay_ex _ _⟩
  · rw [if_neg h]
    go_enter Tryz.func130, Tryz.ntmps130
    go_wp2_with fail
    go_ret
    exact ⟨rfl, lay_ex _ _⟩
theorem r4_Most (a b : Int) (w : World) :
    Calls Tryz.prog 132 #[.int .i64 a, .int .i64 b] w fun e w' => e = .returned (.int .i64 (mx a b)) ∧ ∃ d, w' = bw w d := by
  refine lay_start ?_
  rw [show mx a b = if a < b then b else a from rfl]
  by_cases h : a < b
  · rw [if_pos h]
    go_enter Tryz.func132, Tryz.ntmps132
    go_wp2_with fail
    go_ret
    exact ⟨rfl, lay_ex _ _⟩
  · rw [if_neg h]
    go_enter Tryz.func132, Tryz.ntmps132
    go_wp2_with fail
    go_ret
    exact ⟨rfl, lay_ex _ _⟩
theorem r4_Floor (a b : Int) (w : World) (hb : 1 ≤ b) (h1 : -9223372036854775807 ≤ a) (h2 : a ≤ 9223372036854775807) :
    Calls Tryz.prog 131 #[.int .i64 a, .int .i64 b] w fun e w' => e = .returned (.int .i64 (a / b)) ∧ ∃ d, w' = bw w d := by
  refine lay_start ?_
  go_enter Tryz.func131, Tryz.ntmps131
  go_wp2
  · go_ret
    refine ⟨congrArg (fun x => Ending.returned (.int .i64 x)) ?_, lay_ex _ _⟩
    rw [IntWalk.wrap64_in]
    · exact floor_neg hb ‹_›
    · rw [floor_neg hb ‹_›]; have := ediv_bd hb 9223372036854775807 (by decide) h1 h2; omega
  · go_ret
    exact ⟨congrArg (fun x => Ending.returned (.int .i64 x)) (floor_pos hb ‹_›), lay_ex _ _⟩
theorem r4_Ceil (a b : Int) (w : World) (hb : 1 ≤ b) (h1 : -9223372036854775807 ≤ a) (h2 : a ≤ 9223372036854775807) :
    Calls Tryz.prog 133 #[.int .i64 a, .int .i64 b] w fun e w' => e = .returned (.int .i64 (-((-a) / b))) ∧ ∃ d, w' = bw w d := by
  have HF := Lib.hid (fun W => r4_Floor (-a) b W hb (by omega) (by omega))
  have k1 : IntKind.i64.wrap (-a) = -a := IntWalk.i64_in _ (by omega)
  have hbd := ediv_bd hb 9223372036854775807 (by decide) (show -9223372036854775807 ≤ -a by omega) (by omega)
  have k2 : IntKind.i64.wrap (-((-a) / b)) = -((-a) / b) := IntWalk.i64_in _ (by omega)
  obtain ⟨m, hm⟩ : ∃ m, -a = m := ⟨_, rfl⟩
  rw [hm] at HF k1 k2 hbd ⊢
  obtain ⟨q, hq⟩ : ∃ q, m / b = q := ⟨_, rfl⟩
  rw [hq] at HF k2 hbd ⊢
  obtain ⟨r, hr⟩ : ∃ r, -q = r := ⟨_, rfl⟩
  rw [hr] at k2 ⊢
  clear hbd hq h1 h2
  refine lay_start ?_
  go_enter Tryz.func133, Tryz.ntmps133
  go_wp2_with (go_at_call 131; refine (HF.out _).mono ?_; rintro e w' ⟨rfl, d, rfl⟩)
  go_ret
  exact ⟨rfl, lay_ex _ _⟩
theorem r4_fit (lo hi : Int) (w : World) (h : fxB lo hi = true) :
    Calls Tryz.prog 134 #[.int .i64 lo, .int .i64 hi] w fun e w' => e = .returned (.tuple #[(.agg #[.int .i64 (lo), .int .i64 (hi)]), .int .i64 0]) ∧ ∃ d, w' = bw w d := by
  have hf := fxB_iff.1 h
  have g1 : ¬ lo < -2147483648 := by omega
  have g2 : ¬ 2147483648 < hi := by omega
  clear hf h
  refine lay_start ?_
  go_enter Tryz.func134, Tryz.ntmps134
  go_wp2_with fail
  exact bodyPost_ret (v := .tuple #[(.agg #[.int .i64 (lo), .int .i64 (hi)]), .int .i64 0]) (by simp [results, Tryz.results134, go_sem]) rfl ⟨rfl, lay_ex _ _⟩
theorem mn_tree (x y z u : Int) : mn (mn x y) (mn z u) = mn (mn (mn x y) z) u := by simp only [mn_eq]; omega
theorem mx_tree (x y z u : Int) : mx (mx x y) (mx z u) = mx (mx (mx x y) z) u := by simp only [mx_eq]; omega
theorem r4_Mul (a0 a1 b0 b1 : Int) (w : World) (ha : fxB a0 a1 = true) (hb : fxB b0 b1 = true) (hm : fxB (mulL a0 a1 b0 b1) (mulH a0 a1 b0 b1) = true) :
    Calls Tryz.prog 127 #[(.agg #[.int .i64 (a0), .int .i64 (a1)]), (.agg #[.int .i64 (b0), .int .i64 (b1)])] w fun e w' => e = .returned (.tuple #[(.agg #[.int .i64 (mulL a0 a1 b0 b1), .int .i64 (mulH a0 a1 b0 b1)]), .int .i64 0]) ∧ ∃ d, w' = bw w d := by
  have hfa := fxB_iff.1 ha
  have hfb := fxB_iff.1 hb
  have hbx := box_in (X := 2147483648) (by decide) (a0 := a0) (a1 := a1) (b0 := b0) (b1 := b1) ⟨by omega, by omega⟩ ⟨by omega, by omega⟩ ⟨by omega, by omega⟩ ⟨by omega, by omega⟩
  have p1 := prod_in (X := 2147483648) (x := a0) (k := b0) (by decide) ⟨by omega, by omega⟩ ⟨by omega, by omega⟩
  have p2 := prod_in (X := 2147483648) (x := a0) (k := b1) (by decide) ⟨by omega, by omega⟩ ⟨by omega, by omega⟩
  have p3 := prod_in (X := 2147483648) (x := a1) (k := b0) (by decide) ⟨by omega, by omega⟩ ⟨by omega, by omega⟩
  have p4 := prod_in (X := 2147483648) (x := a1) (k := b1) (by decide) ⟨by omega, by omega⟩ ⟨by omega, by omega⟩
  have HT := Lib.hid (fun W => r4_fit _ _ W hm)
  have HF := Lib.hid (fun W => r4_Floor (m4 a0 a1 b0 b1) 1073741824 W (by decide) (by omega) (by omega))
  have HC := Lib.hid (fun W => r4_Ceil (x4 a0 a1 b0 b1) 1073741824 W (by decide) (by omega) (by omega))
  rw [show m4 a0 a1 b0 b1 / 1073741824 = mulL a0 a1 b0 b1 from rfl] at HF
  rw [show -((-(x4 a0 a1 b0 b1)) / 1073741824) = mulH a0 a1 b0 b1 from rfl] at HC
  generalize mulL a0 a1 b0 b1 = Q at *
  generalize mulH a0 a1 b0 b1 = U at *
  have e1 : mn (mn (a0 * b0) (a0 * b1)) (mn (a1 * b0) (a1 * b1)) = m4 a0 a1 b0 b1 := mn_tree _ _ _ _
  have e2 : mx (mx (a0 * b0) (a0 * b1)) (mx (a1 * b0) (a1 * b1)) = x4 a0 a1 b0 b1 := mx_tree _ _ _ _
  generalize m4 a0 a1 b0 b1 = M at *
  generalize x4 a0 a1 b0 b1 = X at *
  have k1 : IntKind.i64.wrap (a0 * b0) = a0 * b0 := IntWalk.i64_in _ (by omega)
  have k2 : IntKind.i64.wrap (a0 * b1) = a0 * b1 := IntWalk.i64_in _ (by omega)
  have k3 : IntKind.i64.wrap (a1 * b0) = a1 * b0 := IntWalk.i64_in _ (by omega)
  have k4 : IntKind.i64.wrap (a1 * b1) = a1 * b1 := IntWalk.i64_in _ (by omega)
  clear hbx p1 p2 p3 p4 hfa hfb ha hb hm
  refine lay_start ?_
  go_enter Tryz.func127, Tryz.ntmps127
  go_wp2_with fail
  refine region_bw (by kernel_rfl) (by kernel_rfl) ?_
  repeat (go_big_quiet_step ((first | fail)))
  refine wpQuiet_nil ?_
  rintro w' ⟨d, rfl⟩
  rw [lay_bw]
  go_wp2_with (first | (go_at_call 130; refine (r4_Least _ _ _).mono ?_; rintro e w' ⟨rfl, d1, rfl⟩) | (go_at_call 132; refine (r4_Most _ _ _).mono ?_; rintro e w' ⟨rfl, d2, rfl⟩) | (go_at_call 131; refine (HF.out _).mono ?_; rintro e w' ⟨rfl, d3, rfl⟩) | (go_at_call 133; refine (HC.out _).mono ?_; rintro e w' ⟨rfl, d4, rfl⟩) | (go_at_call 134; refine (HT.out _).mono ?_; rintro e w' ⟨rfl, d5, rfl⟩))
  exact bodyPost_ret (v := .tuple #[(.agg #[.int .i64 (Q), .int .i64 (U)]), .int .i64 0]) (by simp [results, Tryz.results127, go_sem]) rfl ⟨rfl, lay_ex _ _⟩
end Go.Proofs.YtnnmfdeeicpdlaaGreat
/- The reference's Sub, Add, fit at any ends. -/
namespace Go.Proofs.YtnnmfdeeicpdlaaGreat
set_option maxRecDepth 100000
open Go.RowKit

theorem r4_Sub (a0 a1 b0 b1 : Int) (w : World) (ha : fxB a0 a1 = true) (hb : fxB b0 b1 = true) (hm : fxB (a0 - b1) (a1 - b0) = true) :
    Calls Tryz.prog 173 #[(.agg #[.int .i64 (a0), .int .i64 (a1)]), (.agg #[.int .i64 (b0), .int .i64 (b1)])] w fun e w' => e = .returned (.tuple #[(.agg #[.int .i64 (a0 - b1), .int .i64 (a1 - b0)]), .int .i64 0]) ∧ ∃ d, w' = bw w d := by
  have HT := Lib.hid (fun W => r4_fit _ _ W hm)
  have hfa := fxB_iff.1 ha
  have hfb := fxB_iff.1 hb
  have k1 : IntKind.i64.wrap (a0 - b1) = a0 - b1 := IntWalk.i64_in _ (by omega)
  have k2 : IntKind.i64.wrap (a1 - b0) = a1 - b0 := IntWalk.i64_in _ (by omega)
  clear hfa hfb ha hb hm
  refine lay_start ?_
  go_enter Tryz.func173, Tryz.ntmps173
  go_wp2_with (go_at_call 134; refine (HT.out _).mono ?_; rintro e w' ⟨rfl, d1, rfl⟩)
  exact bodyPost_ret (v := .tuple #[(.agg #[.int .i64 (a0 - b1), .int .i64 (a1 - b0)]), .int .i64 0]) (by simp [results, Tryz.results173, go_sem]) rfl ⟨rfl, lay_ex _ _⟩
theorem r4_Add (a0 a1 b0 b1 : Int) (w : World) (ha : fxB a0 a1 = true) (hb : fxB b0 b1 = true) (hm : fxB (a0 + b0) (a1 + b1) = true) :
    Calls Tryz.prog 320 #[(.agg #[.int .i64 (a0), .int .i64 (a1)]), (.agg #[.int .i64 (b0), .int .i64 (b1)])] w fun e w' => e = .returned (.tuple #[(.agg #[.int .i64 (a0 + b0), .int .i64 (a1 + b1)]), .int .i64 0]) ∧ ∃ d, w' = bw w d := by
  have HT := Lib.hid (fun W => r4_fit _ _ W hm)
  have hfa := fxB_iff.1 ha
  have hfb := fxB_iff.1 hb
  have k1 : IntKind.i64.wrap (a0 + b0) = a0 + b0 := IntWalk.i64_in _ (by omega)
  have k2 : IntKind.i64.wrap (a1 + b1) = a1 + b1 := IntWalk.i64_in _ (by omega)
  clear hfa hfb ha hb hm
  refine lay_start ?_
  go_enter Tryz.func320, Tryz.ntmps320
  go_wp2_with (go_at_call 134; refine (HT.out _).mono ?_; rintro e w' ⟨rfl, d1, rfl⟩)
  exact bodyPost_ret (v := .tuple #[(.agg #[.int .i64 (a0 + b0), .int .i64 (a1 + b1)]), .int .i64 0]) (by simp [results, Tryz.results320, go_sem]) rfl ⟨rfl, lay_ex _ _⟩
end Go.Proofs.YtnnmfdeeicpdlaaGreat
/- The reference's Times, Plus and Minus. -/
namespace Go.Proofs.YtnnmfdeeicpdlaaGreat
set_option maxRecDepth 100000
open Go.RowKit

theorem r25_Times (a0 a1 b0 b1 : Int) (w : World) (ha : fxB a0 a1 = true) (hb : fxB b0 b1 = true) (hm : fxB (mulL a0 a1 b0 b1) (mulH a0 a1 b0 b1) = true) :
    Calls Tryz.prog 53 #[(.agg #[.int .i64 (a0), .int .i64 (a1)]), (.agg #[.int .i64 (b0), .int .i64 (b1)])] w fun e w' => e = .returned (.agg #[.int .i64 (mulL a0 a1 b0 b1), .int .i64 (mulH a0 a1 b0 b1)]) ∧ ∃ d, w' = bw w d := by
  have HT := Lib.hid (fun W => r4_Mul a0 a1 b0 b1 W ha hb hm)
  generalize mulL a0 a1 b0 b1 = p at *
  generalize mulH a0 a1 b0 b1 = q at *
  clear ha hb hm
  refine lay_start ?_
  go_enter Tryz.func53, Tryz.ntmps53
  go_wp2_with (go_at_call 127; refine (HT.out _).mono ?_; rintro e w' ⟨rfl, d, rfl⟩; rw [lay_bw])
  exact bodyPost_ret (v := (.agg #[.int .i64 (p), .int .i64 (q)])) (by simp [results, Tryz.results53, go_sem]) rfl ⟨rfl, lay_ex _ _⟩
theorem r25_Plus (a0 a1 b0 b1 : Int) (w : World) (ha : fxB a0 a1 = true) (hb : fxB b0 b1 = true) (hm : fxB (a0 + b0) (a1 + b1) = true) :
    Calls Tryz.prog 273 #[(.agg #[.int .i64 (a0), .int .i64 (a1)]), (.agg #[.int .i64 (b0), .int .i64 (b1)])] w fun e w' => e = .returned (.agg #[.int .i64 (a0 + b0), .int .i64 (a1 + b1)]) ∧ ∃ d, w' = bw w d := by
  have HT := Lib.hid (fun W => r4_Add a0 a1 b0 b1 W ha hb hm)
  generalize a0 + b0 = p at *
  generalize a1 + b1 = q at *
  clear ha hb hm
  refine lay_start ?_
  go_enter Tryz.func273, Tryz.ntmps273
  go_wp2_with (go_at_call 320; refine (HT.out _).mono ?_; rintro e w' ⟨rfl, d, rfl⟩; rw [lay_bw])
  exact bodyPost_ret (v := (.agg #[.int .i64 (p), .int .i64 (q)])) (by simp [results, Tryz.results273, go_sem]) rfl ⟨rfl, lay_ex _ _⟩
theorem r25_Minus (a0 a1 b0 b1 : Int) (w : World) (ha : fxB a0 a1 = true) (hb : fxB b0 b1 = true) (hm : fxB (a0 - b1) (a1 - b0) = true) :
    Calls Tryz.prog 86 #[(.agg #[.int .i64 (a0), .int .i64 (a1)]), (.agg #[.int .i64 (b0), .int .i64 (b1)])] w fun e w' => e = .returned (.agg #[.int .i64 (a0 - b1), .int .i64 (a1 - b0)]) ∧ ∃ d, w' = bw w d := by
  have HT := Lib.hid (fun W => r4_Sub a0 a1 b0 b1 W ha hb hm)
  generalize a0 - b1 = p at *
  generalize a1 - b0 = q at *
  clear ha hb hm
  refine lay_start ?_
  go_enter Tryz.func86, Tryz.ntmps86
  go_wp2_with (go_at_call 173; refine (HT.out _).mono ?_; rintro e w' ⟨rfl, d, rfl⟩; rw [lay_bw])
  exact bodyPost_ret (v := (.agg #[.int .i64 (p), .int .i64 (q)])) (by simp [results, Tryz.results86, go_sem]) rfl ⟨rfl, lay_ex _ _⟩
end Go.Proofs.YtnnmfdeeicpdlaaGreat
/- The reference's Altitude of a triangle. -/
namespace Go.Proofs.YtnnmfdeeicpdlaaGreat
set_option maxHeartbeats 4000000
set_option maxRecDepth 100000
open Go.RowKit

theorem r25_Sine (a0 a1 b0 b1 c0 c1 : Int) (w : World) (va : validB a0 a1 = true) (vb : validB b0 b1 = true) (vc : validB c0 c1 = true) :
    Calls Tryz.prog 228 #[(.agg #[.int .i64 (a0), .int .i64 (a1), .int .i64 (b0), .int .i64 (b1), .int .i64 (c0), .int .i64 (c1)])] w fun e w' => e = .returned (.agg #[.int .i64 (altS0 a0 a1 b0 b1 c0 c1), .int .i64 (altS1 a0 a1 b0 b1 c0 c1)]) ∧ ∃ d, w' = bw w d := by
  have HSa := Lib.hid (fun W => r6_Sin _ _ va W)
  have HSb := Lib.hid (fun W => r6_Sin _ _ vb W)
  have HCa : Hid (∀ W, Calls _ _ #[(.agg #[.int .i64 (a0), .int .i64 (a1)])] W fun e w' => e = .returned (.agg #[.int .i64 (cosL a0 a1), .int .i64 (cosH a0 a1)]) ∧ _) := Lib.hid (fun W => r6_Cos _ _ va W)
  have HCb : Hid (∀ W, Calls _ _ #[(.agg #[.int .i64 (b0), .int .i64 (b1)])] W fun e w' => e = .returned (.agg #[.int .i64 (cosL b0 b1), .int .i64 (cosH b0 b1)]) ∧ _) := Lib.hid (fun W => r6_Cos _ _ vb W)
  have HCc : Hid (∀ W, Calls _ _ #[(.agg #[.int .i64 (c0), .int .i64 (c1)])] W fun e w' => e = .returned (.agg #[.int .i64 (cosL c0 c1), .int .i64 (cosH c0 c1)]) ∧ _) := Lib.hid (fun W => r6_Cos _ _ vc W)
  have HM1 : Hid (∀ W, Calls _ _ #[_, _] W fun e w' => e = .returned (.agg #[.int .i64 (ccL a0 a1 b0 b1), .int .i64 (ccH a0 a1 b0 b1)]) ∧ _) := Lib.hid (fun W => r25_Times (cosL a0 a1) (cosH a0 a1) (cosL b0 b1) (cosH b0 b1) W (unit_fx (cos_in2 _ _)) (unit_fx (cos_in2 _ _)) (unit_fx (cc_in _ _ _ _)))
  have HM2 : Hid (∀ W, Calls _ _ #[_, _] W fun e w' => e = .returned (.agg #[.int .i64 (c3L a0 a1 b0 b1 c0 c1), .int .i64 (c3H a0 a1 b0 b1 c0 c1)]) ∧ _) := Lib.hid (fun W => r25_Times (ccL a0 a1 b0 b1) (ccH a0 a1 b0 b1) (cosL c0 c1) (cosH c0 c1) W (unit_fx (cc_in _ _ _ _)) (unit_fx (cos_in2 _ _)) (unit_fx (c3_in _ _ _ _ _ _)))
  have HM3 : Hid (∀ W, Calls _ _ #[_, _] W fun e w' => e = .returned (.agg #[.int .i64 (ssL a0 a1 b0 b1), .int .i64 (ssH a0 a1 b0 b1)]) ∧ _) := Lib.hid (fun W => r25_Times (encL a0 a1) (encH a0 a1) (encL b0 b1) (encH b0 b1) W (unit_fx enc_in) (unit_fx enc_in) (unit_fx (ss_in _ _ _ _)))
  have HP : Hid (∀ W, Calls _ _ #[_, _] W fun e w' => e = .returned (.agg #[.int .i64 (altS0 a0 a1 b0 b1 c0 c1), .int .i64 (altS1 a0 a1 b0 b1 c0 c1)]) ∧ _) := Lib.hid (fun W => r25_Plus (ssL a0 a1 b0 b1) (ssH a0 a1 b0 b1) (c3L a0 a1 b0 b1 c0 c1) (c3H a0 a1 b0 b1 c0 c1) W (unit_fx (ss_in _ _ _ _)) (unit_fx (c3_in _ _ _ _ _ _)) (alt_fx _ _ _ _ _ _))
  clear va vb vc
  generalize altS0 a0 a1 b0 b1 c0 c1 = n0 at *
  generalize altS1 a0 a1 b0 b1 c0 c1 = n1 at *
  generalize c3L a0 a1 b0 b1 c0 c1 = u0 at *
  generalize c3H a0 a1 b0 b1 c0 c1 = u1 at *
  generalize ccL a0 a1 b0 b1 = m0 at *
  generalize ccH a0 a1 b0 b1 = m1 at *
  generalize ssL a0 a1 b0 b1 = k0 at *
  generalize ssH a0 a1 b0 b1 = k1 at *
  generalize cosL a0 a1 = p0 at *
  generalize cosH a0 a1 = p1 at *
  generalize cosL b0 b1 = q0 at *
  generalize cosH b0 b1 = q1 at *
  generalize cosL c0 c1 = t0 at *
  generalize cosH c0 c1 = t1 at *
  generalize encL a0 a1 = g0 at *
  generalize encH a0 a1 = g1 at *
  generalize encL b0 b1 = h0 at *
  generalize encH b0 b1 = h1 at *
  refine lay_start ?_
  go_enter Tryz.func228, Tryz.ntmps228
  go_wp2_with fail
  refine region_bw_tail 19 (by kernel_rfl) (by kernel_rfl) ?_
  simp only [List.take_succ_cons, List.take_zero, List.drop_succ_cons, List.drop_zero]
  repeat (go_big_quiet_step ((first | (go_at_call 54; first | ((with_reducible refine bq (HSa.out _) ?_); first | exact (fun d => lay_join _ _ _ d) | exact (fun d => ⟨d, rfl⟩)) | ((with_reducible refine bq (HSb.out _) ?_); first | exact (fun d => lay_join _ _ _ d) | exact (fun d => ⟨d, rfl⟩))) | (go_at_call 51; first | ((with_reducible refine bq (HCa.out _) ?_); first | exact (fun d => lay_join _ _ _ d) | exact (fun d => ⟨d, rfl⟩)) | ((with_reducible refine bq (HCb.out _) ?_); first | exact (fun d => lay_join _ _ _ d) | exact (fun d => ⟨d, rfl⟩)) | ((with_reducible refine bq (HCc.out _) ?_); first | exact (fun d => lay_join _ _ _ d) | exact (fun d => ⟨d, rfl⟩))) | (go_at_call 53; first | ((with_reducible refine bq (HM1.out _) ?_); first | exact (fun d => lay_join _ _ _ d) | exact (fun d => ⟨d, rfl⟩)) | ((with_reducible refine bq (HM2.out _) ?_); first | exact (fun d => lay_join _ _ _ d) | exact (fun d => ⟨d, rfl⟩)) | ((with_reducible refine bq (HM3.out _) ?_); first | exact (fun d => lay_join _ _ _ d) | exact (fun d => ⟨d, rfl⟩))) | (go_at_call 273; ((with_reducible refine bq (HP.out _) ?_); first | exact (fun d => lay_join _ _ _ d) | exact (fun d => ⟨d, rfl⟩))))))
  refine wpQuiet_nil ?_
  rintro w' ⟨d, rfl⟩
  rw [lay_bw]
  go_wp2_with fail
  exact bodyPost_ret (v := (.agg #[.int .i64 (n0), .int .i64 (n1)])) (by simp [results, Tryz.results228, go_sem]) rfl ⟨rfl, lay_ex _ _⟩
theorem r25_Altitude (a0 a1 b0 b1 c0 c1 : Int) (w : World) (va : validB a0 a1 = true) (vb : validB b0 b1 = true) (vc : validB c0 c1 = true) :
    Calls Tryz.prog 175 #[(.agg #[.int .i64 (a0), .int .i64 (a1), .int .i64 (b0), .int .i64 (b1), .int .i64 (c0), .int .i64 (c1)])] w fun e w' => e = .returned (.agg #[.int .i64 (asL (altS0 a0 a1 b0 b1 c0 c1) (altS1 a0 a1 b0 b1 c0 c1)), .int .i64 (asH (altS0 a0 a1 b0 b1 c0 c1) (altS1 a0 a1 b0 b1 c0 c1))]) ∧ ∃ d, w' = bw w d := by
  have HS := Lib.hid (fun W => r25_Sine a0 a1 b0 b1 c0 c1 W va vb vc)
  have HA := Lib.hid (fun W => r7_Asin (altS0 a0 a1 b0 b1 c0 c1) (altS1 a0 a1 b0 b1 c0 c1) W)
  clear va vb vc
  generalize asL (altS0 a0 a1 b0 b1 c0 c1) (altS1 a0 a1 b0 b1 c0 c1) = r0 at *
  generalize asH (altS0 a0 a1 b0 b1 c0 c1) (altS1 a0 a1 b0 b1 c0 c1) = r1 at *
  generalize asE (altS0 a0 a1 b0 b1 c0 c1) (altS1 a0 a1 b0 b1 c0 c1) = re at *
  generalize altS0 a0 a1 b0 b1 c0 c1 = n0 at *
  generalize altS1 a0 a1 b0 b1 c0 c1 = n1 at *
  refine lay_start ?_
  go_enter Tryz.func175, Tryz.ntmps175
  go_wp2_with (first | (go_at_call 228; refine (HS.out _).mono ?_; rintro e w' ⟨rfl, d1, rfl⟩; rw [lay_bw]) | (go_at_call 56; refine (HA.out _).mono ?_; rintro e w' ⟨rfl, d2, rfl⟩; rw [lay_bw]))
  exact bodyPost_ret (v := (.agg #[.int .i64 (r0), .int .i64 (r1)])) (by simp [results, Tryz.results175, go_sem]) rfl ⟨rfl, lay_ex _ _⟩
end Go.Proofs.YtnnmfdeeicpdlaaGreat
