/- Contracts and plain laws, several texts in one: F4S; R25; Rw; R6H -/
import Derived.Test.YtakcfcekdngndaaGreatProg
import Derived.WalkKit
import Derived.WalkSpells
import Derived.WalkLawsBesides
import Derived.Lib.Hide
import Derived.BigQuiet
import Derived.Test.YtakcfcekdngndaaGreatBAA
import Derived.Test.YtakcfcekdngndaaGreatBAB
import Derived.Test.YtakcfcekdngndaaGreatBAH
import Derived.Test.YtakcfcekdngndaaGreatBAJ
import Derived.Test.YtakcfcekdngndaaGreatBAM
import Derived.Test.YtakcfcekdngndaaGreatBAO
/- The reference's Sub, Add, fit at any ends. -/
namespace Go.Proofs.YtakcfcekdngndaaGreat
open Go.RowKit

set_option maxRecDepth 100000 in
theorem r4_Sub (a0 a1 b0 b1 : Int) (w : World) (ha : fxB a0 a1 = true) (hb : fxB b0 b1 = true) (hm : fxB (a0 - b1) (a1 - b0) = true) :
    Calls Tryz.prog 77 #[(.agg #[.int .i64 (a0), .int .i64 (a1)]), (.agg #[.int .i64 (b0), .int .i64 (b1)])] w fun e w' => e = .returned (.tuple #[(.agg #[.int .i64 (a0 - b1), .int .i64 (a1 - b0)]), .int .i64 0]) ∧ ∃ d, w' = bw w d := by
  have HT := Lib.hid (fun W => r4_fit _ _ W hm)
  have hfa := fxB_iff.1 ha
  have hfb := fxB_iff.1 hb
  have k1 : IntKind.i64.wrap (a0 - b1) = a0 - b1 := IntWalk.i64_in _ (by omega)
  have k2 : IntKind.i64.wrap (a1 - b0) = a1 - b0 := IntWalk.i64_in _ (by omega)
  clear hfa hfb ha hb hm
  refine lay_start ?_
  go_enter Tryz.func77, Tryz.ntmps77
  go_wp2_with (go_at_call 95; refine (HT.out _).mono ?_; rintro e w' ⟨rfl, d1, rfl⟩)
  exact bodyPost_ret (v := .tuple #[(.agg #[.int .i64 (a0 - b1), .int .i64 (a1 - b0)]), .int .i64 0]) (by simp [results, Tryz.results77, go_sem]) rfl ⟨rfl, lay_ex _ _⟩
set_option maxRecDepth 100000 in
theorem r4_fitX (lo hi : Int) (hle : lo ≤ hi) (w : World) :
    Calls Tryz.prog 95 #[.int .i64 lo, .int .i64 hi] w fun e w' => e = .returned (.tuple #[(.agg #[.int .i64 (if fxB lo hi then lo else 0), .int .i64 (if fxB lo hi then hi else 0)]), .int .i64 (if fxB lo hi then 0 else 5)]) ∧ ∃ d, w' = bw w d := by
  cases h : fxB lo hi
  · have hn : ¬ (lo ≤ hi ∧ -2147483648 ≤ lo ∧ hi ≤ 2147483648) := fun g => by rw [fxB_iff.2 g] at h; cases h
    by_cases g1 : lo < -2147483648
    · clear h hn hle
      refine lay_start ?_
      go_enter Tryz.func95, Tryz.ntmps95
      go_wp2_with fail
      exact bodyPost_ret (v := .tuple #[(.agg #[.int .i64 (0), .int .i64 (0)]), .int .i64 5]) (by simp [results, Tryz.results95, go_sem]) rfl ⟨rfl, lay_ex _ _⟩
    · have g2 : 2147483648 < hi := by omega
      clear h hn hle
      refine lay_start ?_
      go_enter Tryz.func95, Tryz.ntmps95
      go_wp2_with fail
      exact bodyPost_ret (v := .tuple #[(.agg #[.int .i64 (0), .int .i64 (0)]), .int .i64 5]) (by simp [results, Tryz.results95, go_sem]) rfl ⟨rfl, lay_ex _ _⟩
  · exact r4_fit lo hi w h
end Go.Proofs.YtakcfcekdngndaaGreat
/- The reference's Times, Plus and Minus. -/
namespace Go.Proofs.YtakcfcekdngndaaGreat
open Go.RowKit

set_option maxRecDepth 100000 in
theorem r25_Times (a0 a1 b0 b1 : Int) (w : World) (ha : fxB a0 a1 = true) (hb : fxB b0 b1 = true) (hm : fxB (mulL a0 a1 b0 b1) (mulH a0 a1 b0 b1) = true) :
    Calls Tryz.prog 37 #[(.agg #[.int .i64 (a0), .int .i64 (a1)]), (.agg #[.int .i64 (b0), .int .i64 (b1)])] w fun e w' => e = .returned (.agg #[.int .i64 (mulL a0 a1 b0 b1), .int .i64 (mulH a0 a1 b0 b1)]) ∧ ∃ d, w' = bw w d := by
  have HT := Lib.hid (fun W => r4_Mul a0 a1 b0 b1 W ha hb hm)
  generalize mulL a0 a1 b0 b1 = p at *
  generalize mulH a0 a1 b0 b1 = q at *
  clear ha hb hm
  refine lay_start ?_
  go_enter Tryz.func37, Tryz.ntmps37
  go_wp2_with (go_at_call 73; refine (HT.out _).mono ?_; rintro e w' ⟨rfl, d, rfl⟩; rw [lay_bw])
  exact bodyPost_ret (v := (.agg #[.int .i64 (p), .int .i64 (q)])) (by simp [results, Tryz.results37, go_sem]) rfl ⟨rfl, lay_ex _ _⟩
set_option maxRecDepth 100000 in
theorem r25_Minus (a0 a1 b0 b1 : Int) (w : World) (ha : fxB a0 a1 = true) (hb : fxB b0 b1 = true) (hm : fxB (a0 - b1) (a1 - b0) = true) :
    Calls Tryz.prog 40 #[(.agg #[.int .i64 (a0), .int .i64 (a1)]), (.agg #[.int .i64 (b0), .int .i64 (b1)])] w fun e w' => e = .returned (.agg #[.int .i64 (a0 - b1), .int .i64 (a1 - b0)]) ∧ ∃ d, w' = bw w d := by
  have HT := Lib.hid (fun W => r4_Sub a0 a1 b0 b1 W ha hb hm)
  generalize a0 - b1 = p at *
  generalize a1 - b0 = q at *
  clear ha hb hm
  refine lay_start ?_
  go_enter Tryz.func40, Tryz.ntmps40
  go_wp2_with (go_at_call 77; refine (HT.out _).mono ?_; rintro e w' ⟨rfl, d, rfl⟩; rw [lay_bw])
  exact bodyPost_ret (v := (.agg #[.int .i64 (p), .int .i64 (q)])) (by simp [results, Tryz.results40, go_sem]) rfl ⟨rfl, lay_ex _ _⟩
end Go.Proofs.YtakcfcekdngndaaGreat
/- The reference's sines and cosines over arcs: has, sine, Sin, Cos. -/
namespace Go.Proofs.YtakcfcekdngndaaGreat
open Go.RowKit

theorem met_turn (lo hi : Int) : metB lo hi (-5400000) = metB lo hi 16200000 := by
  unfold metB
  rw [show ((-5400000 : Int) - lo) % 21600000 = (16200000 - lo) % 21600000 by omega]
set_option maxHeartbeats 1000000 in
set_option maxRecDepth 100000 in
theorem r6_has (lo hi n : Int) (h1 : -2199023255552 ≤ lo) (h2 : lo ≤ hi) (h3 : hi ≤ 2199023255552) (h4 : -21600000 ≤ n) (h5 : n ≤ 21600000) (w : World) :
    Calls Tryz.prog 72 #[(.agg #[.int .i64 (lo), .int .i64 (hi)]), .int .i64 n] w fun e w' => e = .returned (.bool (metB lo hi n)) ∧ ∃ d, w' = bw w d := by
  refine lay_start ?_
  obtain ⟨D, hD⟩ : ∃ D : Int, n - lo = D := ⟨_, rfl⟩
  have kD : IntKind.i64.wrap D = D := IntWalk.i64_in _ (by omega)
  have hc := tmod_turn D
  obtain ⟨t, ht⟩ : ∃ t, D.tmod 21600000 = t := ⟨_, rfl⟩
  rw [ht] at hc
  obtain ⟨q, hq⟩ : ∃ q, D % 21600000 = q := ⟨_, rfl⟩
  rw [hq] at hc
  have hq2 : 0 ≤ q ∧ q < 21600000 := by omega
  have kt : IntKind.i64.wrap t = t := IntWalk.i64_in _ (by omega)
  have kq : IntKind.i64.wrap q = q := IntWalk.i64_in _ (by omega)
  obtain ⟨E, hE⟩ : ∃ E : Int, lo + q = E := ⟨_, rfl⟩
  have kE : IntKind.i64.wrap E = E := IntWalk.i64_in _ (by omega)
  rw [show metB lo hi n = decide (E ≤ hi) by unfold metB; rw [hD, hq]; exact decide_eq_decide.2 (by omega)]
  have hst : t = q ∧ ¬ t < 0 ∨ t < 0 ∧ t + 21600000 = q := by omega
  clear hc hq2 h1 h2 h3 h4 h5 hq
  rcases hst with ⟨rfl, hs⟩ | ⟨hs, hs2⟩
  all_goals
    go_enter Tryz.func72, Tryz.ntmps72
    go_wp2_with fail
    go_ret
    exact ⟨rfl, lay_ex _ _⟩
set_option maxHeartbeats 1000000 in
set_option maxRecDepth 100000 in
theorem r6_sine (lo hi : Int) (h1 : -2199023255552 ≤ lo) (h2 : lo ≤ hi) (h3 : hi ≤ 2199023255552) (w : World) :
    Calls Tryz.prog 74 #[(.agg #[.int .i64 (lo), .int .i64 (hi)])] w fun e w' => e = .returned (.agg #[.int .i64 (encL lo hi), .int .i64 (encH lo hi)]) ∧ ∃ d, w' = bw w d := by
  refine lay_start ?_
  have HB1 := Lib.hid (fun W => r6_ends lo W)
  have HB2 := Lib.hid (fun W => r6_ends hi W)
  have HM1 := Lib.hid (fun W => r6_has lo hi 5400000 h1 h2 h3 (by decide) (by decide) W)
  have HM2 := Lib.hid (fun W => r6_has lo hi (-5400000) h1 h2 h3 (by decide) (by decide) W)
  rw [met_turn] at HM2
  rw [encL_at, encH_at]
  generalize bLo lo = p at *
  generalize bLo hi = q at *
  generalize bHi lo = r at *
  generalize bHi hi = s at *
  clear h1 h2 h3
  cases hm1 : metB lo hi 5400000 <;> cases hm2 : metB lo hi 16200000
  all_goals
    rw [hm1] at HM1
    rw [hm2] at HM2
    clear hm1 hm2
    simp only [Bool.false_eq_true, if_true, if_false]
    go_enter Tryz.func74, Tryz.ntmps74
    go_wp2_with (first | (go_at_call 105; first | (with_reducible refine (HB1.out _).mono ?_; rintro e w' ⟨rfl, d1, rfl⟩) | (with_reducible refine (HB2.out _).mono ?_; rintro e w' ⟨rfl, d2, rfl⟩)) | (go_at_call 72; first | (with_reducible refine (HM1.out _).mono ?_; rintro e w' ⟨rfl, d3, rfl⟩) | (with_reducible refine (HM2.out _).mono ?_; rintro e w' ⟨rfl, d4, rfl⟩)))
  · exact bodyPost_ret (v := (.agg #[.int .i64 (mn p q), .int .i64 (mx r s)])) (by simp [results, Tryz.results74, go_sem]) rfl ⟨rfl, lay_ex _ _⟩
  · exact bodyPost_ret (v := (.agg #[.int .i64 (-1073741824), .int .i64 (mx r s)])) (by simp [results, Tryz.results74, go_sem]) rfl ⟨rfl, lay_ex _ _⟩
  · exact bodyPost_ret (v := (.agg #[.int .i64 (mn p q), .int .i64 (1073741824)])) (by simp [results, Tryz.results74, go_sem]) rfl ⟨rfl, lay_ex _ _⟩
  · exact bodyPost_ret (v := (.agg #[.int .i64 (-1073741824), .int .i64 (1073741824)])) (by simp [results, Tryz.results74, go_sem]) rfl ⟨rfl, lay_ex _ _⟩
set_option maxRecDepth 100000 in
theorem r6_Sin (lo hi : Int) (hv : validB lo hi = true) (w : World) :
    Calls Tryz.prog 55 #[(.agg #[.int .i64 (lo), .int .i64 (hi)])] w fun e w' => e = .returned (.agg #[.int .i64 (encL lo hi), .int .i64 (encH lo hi)]) ∧ ∃ d, w' = bw w d := by
  refine lay_start ?_
  have h := validB_iff.1 hv
  have HE := Lib.hid (fun W => r6_sine lo hi (by omega) h.1 (by omega) W)
  clear h hv
  generalize encL lo hi = p at *
  generalize encH lo hi = q at *
  go_enter Tryz.func55, Tryz.ntmps55
  go_wp2_with (first | (go_at_call 74; refine (HE.out _).mono ?_; rintro e w' ⟨rfl, d, rfl⟩))
  exact bodyPost_ret (v := (.agg #[.int .i64 (p), .int .i64 (q)])) (by simp [results, Tryz.results55, go_sem]) rfl ⟨rfl, lay_ex _ _⟩
set_option maxRecDepth 100000 in
theorem r6_Cos (lo hi : Int) (hv : validB lo hi = true) (w : World) :
    Calls Tryz.prog 38 #[(.agg #[.int .i64 (lo), .int .i64 (hi)])] w fun e w' => e = .returned (.agg #[.int .i64 (encL (lo + 5400000) (hi + 5400000)), .int .i64 (encH (lo + 5400000) (hi + 5400000))]) ∧ ∃ d, w' = bw w d := by
  refine lay_start ?_
  have h := validB_iff.1 hv
  have HE := Lib.hid (fun W => r6_sine (lo + 5400000) (hi + 5400000) (by omega) (by omega) (by omega) W)
  have k1 : IntKind.i64.wrap (lo + 5400000) = lo + 5400000 := IntWalk.i64_in _ (by omega)
  have k2 : IntKind.i64.wrap (hi + 5400000) = hi + 5400000 := IntWalk.i64_in _ (by omega)
  clear h hv
  generalize encL (lo + 5400000) (hi + 5400000) = p at *
  generalize encH (lo + 5400000) (hi + 5400000) = q at *
  go_enter Tryz.func38, Tryz.ntmps38
  go_wp2_with (first | (go_at_call 74; refine (HE.out _).mono ?_; rintro e w' ⟨rfl, d, rfl⟩))
  exact bodyPost_ret (v := (.agg #[.int .i64 (p), .int .i64 (q)])) (by simp [results, Tryz.results38, go_sem]) rfl ⟨rfl, lay_ex _ _⟩
end Go.Proofs.YtakcfcekdngndaaGreat
/- Haversines over arcs: the reference's. -/
namespace Go.Proofs.YtakcfcekdngndaaGreat
open Go.RowKit

set_option maxRecDepth 100000 in
theorem r6_haversine (n : Int) (w : World) (h : -4611686018427387904 ≤ n ∧ n ≤ 4611686018427387904) :
    Calls Tryz.prog 71 #[.int .i64 n] w fun e w' => e = .returned (.tuple #[.int .i64 (hvL n), .int .i64 (hvH n)]) ∧ ∃ d, w' = bw w d := by
  have HF := Lib.hid (fun W => r6_Floor (n + 5400000) W)
  have k0 : IntKind.i64.wrap (n + 5400000) = n + 5400000 := IntWalk.i64_in _ (by omega)
  have h1 := @bb_no (n + 5400000)
  have h2 := @bb_ex (n + 5400000)
  have hbl := bb_le (n + 5400000)
  have g1 := @hv_ex n
  have g2 := @hv_no n
  have hin := hv_in n
  clear h
  generalize exaQ (foldT (n + 5400000)) = x at *
  generalize bLo (n + 5400000) = b at *
  generalize bHi (n + 5400000) = c at *
  generalize hvL n = L at *
  generalize hvH n = H at *
  cases x
  · have e := (h1 rfl).1
    subst e
    obtain ⟨z1, z2⟩ := g2 rfl
    have k1 : IntKind.i64.wrap (1073741824 - b) = 1073741824 - b := IntWalk.i64_in _ (by omega)
    have k2 : IntKind.i64.wrap (1073741824 - b - 1) = 1073741824 - b - 1 := IntWalk.i64_in _ (by omega)
    have k3 : (1073741824 - b - 1).tdiv 2 = L := by rw [Int.tdiv_eq_ediv_of_nonneg (by omega)]; exact z1.symm
    have k5 : IntKind.i64.wrap L = L := IntWalk.i64_in _ (by omega)
    have k4 : IntKind.i64.wrap (L + 1) = H := by rw [IntWalk.i64_in _ (by omega)]; omega
    clear h1 h2 g1 g2 z1 z2 hbl hin
    refine lay_start ?_
    go_enter Tryz.func71, Tryz.ntmps71
    go_wp2_with (go_at_call 104; refine (HF.out _).mono ?_; rintro e w' ⟨rfl, d1, rfl⟩)
    go_ret2
    exact ⟨rfl, lay_ex _ _⟩
  · have e := (h2 rfl).1
    subst e
    obtain ⟨z1, z2⟩ := g1 rfl
    have k1 : IntKind.i64.wrap (1073741824 - c) = 1073741824 - c := IntWalk.i64_in _ (by omega)
    have k3 : (1073741824 - c).tdiv 2 = L := by rw [Int.tdiv_eq_ediv_of_nonneg (by omega)]; exact z1.symm
    obtain rfl : L = H := by omega
    have k5 : IntKind.i64.wrap L = L := IntWalk.i64_in _ (by omega)
    clear h1 h2 g1 g2 z1 z2 hbl hin
    refine lay_start ?_
    go_enter Tryz.func71, Tryz.ntmps71
    go_wp2_with (go_at_call 104; refine (HF.out _).mono ?_; rintro e w' ⟨rfl, d1, rfl⟩)
    go_ret2
    exact ⟨rfl, lay_ex _ _⟩
set_option maxHeartbeats 1000000 in
set_option maxRecDepth 100000 in
theorem r6_Hav (lo hi : Int) (hv : validB lo hi = true) (w : World) :
    Calls Tryz.prog 34 #[(.agg #[.int .i64 (lo), .int .i64 (hi)])] w fun e w' => e = .returned (.agg #[.int .i64 (havL lo hi), .int .i64 (havH lo hi)]) ∧ ∃ d, w' = bw w d := by
  have h := validB_iff.1 hv
  have H1 := Lib.hid (fun W => r6_haversine lo W (by omega))
  have H2 := Lib.hid (fun W => r6_haversine hi W (by omega))
  have M1 := Lib.hid (fun W => r6_has lo hi 10800000 (by omega) h.1 (by omega) (by decide) (by decide) W)
  have M2 := Lib.hid (fun W => r6_has lo hi 0 (by omega) h.1 (by omega) (by decide) (by decide) W)
  rw [havL_at, havH_at]
  generalize hvL lo = x at *
  generalize hvH lo = y at *
  generalize hvL hi = u at *
  generalize hvH hi = v at *
  clear h hv
  refine lay_start ?_
  cases m1 : metB lo hi 10800000
  all_goals
    cases m2 : metB lo hi 0
  all_goals
    rw [m1] at M1
    rw [m2] at M2
    clear m1 m2
    go_enter Tryz.func34, Tryz.ntmps34
    go_wp2_with (first | (go_at_call 71; first | (with_reducible refine (H1.out _).mono ?_; rintro e w' ⟨rfl, d1, rfl⟩) | (with_reducible refine (H2.out _).mono ?_; rintro e w' ⟨rfl, d2, rfl⟩)) | (go_at_call 72; first | (with_reducible refine (M1.out _).mono ?_; rintro e w' ⟨rfl, d3, rfl⟩) | (with_reducible refine (M2.out _).mono ?_; rintro e w' ⟨rfl, d4, rfl⟩)))
  · exact bodyPost_ret (v := (.agg #[.int .i64 (mn x u), .int .i64 (mx y v)])) (by simp [results, Tryz.results34, go_sem]) rfl ⟨rfl, lay_ex _ _⟩
  · exact bodyPost_ret (v := (.agg #[.int .i64 (0), .int .i64 (mx y v)])) (by simp [results, Tryz.results34, go_sem]) rfl ⟨rfl, lay_ex _ _⟩
  · exact bodyPost_ret (v := (.agg #[.int .i64 (mn x u), .int .i64 (1073741824)])) (by simp [results, Tryz.results34, go_sem]) rfl ⟨rfl, lay_ex _ _⟩
  · exact bodyPost_ret (v := (.agg #[.int .i64 (0), .int .i64 (1073741824)])) (by simp [results, Tryz.results34, go_sem]) rfl ⟨rfl, lay_ex _ _⟩
end Go.Proofs.YtakcfcekdngndaaGreat
