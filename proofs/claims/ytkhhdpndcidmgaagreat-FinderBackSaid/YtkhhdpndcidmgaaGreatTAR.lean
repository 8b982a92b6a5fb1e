/- Contracts and plain laws, several texts in one: TgB -/
import Derived.Test.YtkhhdpndcidmgaaGreatProg
import Derived.WalkKit
import Derived.WalkSpells
import Derived.WalkLawsBesides
import Derived.Lib.Hide
import Derived.BigQuiet
import Derived.Test.YtkhhdpndcidmgaaGreatTAE
import Derived.Test.YtkhhdpndcidmgaaGreatTAF
import Derived.Test.YtkhhdpndcidmgaaGreatTAI
import Derived.Test.YtkhhdpndcidmgaaGreatTAJ
import Derived.Test.YtkhhdpndcidmgaaGreatTAQ
/- Sines and cosines over arcs: what the program returns. -/
namespace Go.Proofs.YtkhhdpndcidmgaaGreat
set_option maxHeartbeats 1000000
set_option maxRecDepth 100000
open Go.RowKit

theorem sinQ_le {n : Nat} (h : n ≤ 5400000) : sinQ n ≤ 1073741824 := by
  unfold sinQ
  split
  · omega
  · split
    · omega
    · split
      · omega
      · split
        · exact Nat.le_of_lt (octS_lt (by omega) (by omega) (by omega))
        · exact Nat.le_of_lt (octC_lt (by omega) (by omega))
def foldT (n : Int) : Nat := if 10800000 < n % 21600000 then (if 16200000 < n % 21600000 then (21600000 - n % 21600000).toNat else (n % 21600000 - 10800000).toNat) else (if 5400000 < n % 21600000 then (10800000 - n % 21600000).toNat else (n % 21600000).toNat)
def souB (n : Int) : Bool := decide (10800000 < n % 21600000)
def oneQ (n : Nat) : Int := if exaQ n then 0 else 1
def bLo (n : Int) : Int := if souB n then -((sinQ (foldT n) : Int) + oneQ (foldT n)) else (sinQ (foldT n) : Int)
def bHi (n : Int) : Int := if souB n then -(sinQ (foldT n) : Int) else (sinQ (foldT n) : Int) + oneQ (foldT n)
theorem foldT_le (n : Int) : foldT n ≤ 5400000 := by
  unfold foldT
  split <;> split <;> omega
theorem oneQ_in (n : Nat) : 0 ≤ oneQ n ∧ oneQ n ≤ 1 := by unfold oneQ; split <;> omega
theorem tmod_turn (n : Int) : n.tmod 21600000 = n % 21600000 ∨ (n.tmod 21600000 < 0 ∧ n.tmod 21600000 + 21600000 = n % 21600000) := by
  by_cases h : 0 ≤ n
  · left; exact Int.tmod_eq_emod_of_nonneg h
  · have h1 : n.tmod 21600000 = -((-n) % 21600000) := by
      have := Int.neg_tmod (a := -n) (b := 21600000)
      rw [Int.neg_neg] at this
      rw [this, Int.tmod_eq_emod_of_nonneg (by omega)]
    rw [h1]
    omega
theorem tg_turned (n : Int) (w : World) :
    Calls Tryz.prog 115 #[.int .i64 n] w fun e w' => e = .returned (.int .i64 (n % 21600000)) ∧ w' = w := by
  obtain ⟨r, hr⟩ : ∃ r, n.tmod 21600000 = r := ⟨_, rfl⟩
  obtain ⟨q, hq⟩ : ∃ q, n % 21600000 = q := ⟨_, rfl⟩
  have hc := tmod_turn n
  rw [hr, hq] at hc
  have hq2 : 0 ≤ q ∧ q < 21600000 := by omega
  rw [hq]
  have k1 : IntKind.i64.wrap r = r := IntWalk.i64_in _ (by omega)
  rcases hc with hc | ⟨hc, hc2⟩
  · subst hc
    have h0 : ¬ r < 0 := by omega
    go_enter Tryz.func115, Tryz.ntmps115
    go_wp2_with fail
    go_ret
    exact ⟨rfl, rfl⟩
  · have k2 : IntKind.i64.wrap q = q := IntWalk.i64_in _ (by omega)
    go_enter Tryz.func115, Tryz.ntmps115
    go_wp2_with fail
    go_ret
    exact ⟨rfl, rfl⟩
theorem tg_bounds (n : Int) (w : World) :
    Calls Tryz.prog 77 #[.int .i64 n] w fun e w' => e = .returned (.tuple #[.int .i64 (bLo n), .int .i64 (bHi n)]) ∧ ∃ d, w' = bw w d := by
  refine lay_start ?_
  have HT := Lib.hid (fun W => tg_turned n W)
  have hf := foldT_le n
  have hs := sinQ_le hf
  have HS := Lib.hid (fun W => tg_sine (foldT n) hf W)
  have h1 : bLo n = if souB n then -((sinQ (foldT n) : Int) + oneQ (foldT n)) else (sinQ (foldT n) : Int) := rfl
  have h2 : bHi n = if souB n then -(sinQ (foldT n) : Int) else (sinQ (foldT n) : Int) + oneQ (foldT n) := rfl
  have h3 : foldT n = if 10800000 < n % 21600000 then (if 16200000 < n % 21600000 then (21600000 - n % 21600000).toNat else (n % 21600000 - 10800000).toNat) else (if 5400000 < n % 21600000 then (10800000 - n % 21600000).toNat else (n % 21600000).toNat) := rfl
  have h4 : souB n = decide (10800000 < n % 21600000) := rfl
  have h5 : oneQ (foldT n) = if exaQ (foldT n) then 0 else 1 := rfl
  obtain ⟨q, hq⟩ : ∃ q, n % 21600000 = q := ⟨_, rfl⟩
  have hq2 : 0 ≤ q ∧ q < 21600000 := by omega
  rw [hq] at HT h3 h4
  clear hq
  generalize foldT n = f at *
  generalize sinQ f = s at *
  generalize exaQ f = x at *
  rw [h1, h2]
  clear h1 h2
  rw [h4]
  have ks : IntKind.i64.wrap (s : Int) = (s : Int) := IntWalk.i64_in _ (by omega)
  obtain ⟨s1, hs1⟩ : ∃ s1 : Int, (s : Int) + 1 = s1 := ⟨_, rfl⟩
  have ks1 : IntKind.i64.wrap s1 = s1 := IntWalk.i64_in _ (by omega)
  obtain ⟨m1, hm1⟩ : ∃ m1 : Int, -s1 = m1 := ⟨_, rfl⟩
  have km1 : IntKind.i64.wrap m1 = m1 := IntWalk.i64_in _ (by omega)
  obtain ⟨m0, hm0⟩ : ∃ m0 : Int, -(s : Int) = m0 := ⟨_, rfl⟩
  have km0 : IntKind.i64.wrap m0 = m0 := IntWalk.i64_in _ (by omega)
  by_cases c1 : 10800000 < q
  · have e1 : decide (10800000 < q) = true := decide_eq_true c1
    obtain ⟨p, hp⟩ : ∃ p : Int, q - 10800000 = p := ⟨_, rfl⟩
    have kp : IntKind.i64.wrap p = p := IntWalk.i64_in _ (by omega)
    rw [if_pos c1] at h3
    by_cases c2 : 5400000 < p
    · obtain ⟨g, hg⟩ : ∃ g : Int, 10800000 - p = g := ⟨_, rfl⟩
      have kg : IntKind.i64.wrap g = g := IntWalk.i64_in _ (by omega)
      have hfg : (f : Int) = g := by rw [h3, if_pos (by omega)]; omega
      rw [hfg] at HS
      clear h3 hf
      cases x
      · rw [e1, show oneQ f = 1 from h5]
        clear h5 h4
        first | simp only [if_true] | simp only [Bool.false_eq_true, if_false]
        first | rw [hs1] | skip
        first | rw [hm1] | skip
        first | rw [hm0] | skip
        go_enter Tryz.func77, Tryz.ntmps77
        go_wp2_with (first | (go_at_call 115; refine (HT.out _).mono ?_; rintro e w' ⟨rfl, hw⟩; rw [hw]) | (go_at_call 116; refine (HS.out _).mono ?_; rintro e w' ⟨rfl, d, rfl⟩))
        refine bodyPost_ret (v := .tuple #[.int .i64 m1, .int .i64 m0]) (by simp [results, Tryz.results77, go_sem]) rfl ⟨?_, lay_ex _ _⟩
        first | rfl | (simp; omega) | simp
      · rw [e1, show oneQ f = 0 from h5]
        clear h5 h4
        first | simp only [if_true] | simp only [Bool.false_eq_true, if_false]
        first | rw [hs1] | skip
        first | rw [hm1] | skip
        first | rw [hm0] | skip
        go_enter Tryz.func77, Tryz.ntmps77
        go_wp2_with (first | (go_at_call 115; refine (HT.out _).mono ?_; rintro e w' ⟨rfl, hw⟩; rw [hw]) | (go_at_call 116; refine (HS.out _).mono ?_; rintro e w' ⟨rfl, d, rfl⟩))
        refine bodyPost_ret (v := .tuple #[.int .i64 m0, .int .i64 m0]) (by simp [results, Tryz.results77, go_sem]) rfl ⟨?_, lay_ex _ _⟩
        first | rfl | (simp; omega) | simp
    · have hfg : (f : Int) = p := by rw [h3, if_neg (by omega)]; omega
      rw [hfg] at HS
      clear h3 hf
      cases x
      · rw [e1, show oneQ f = 1 from h5]
        clear h5 h4
        first | simp only [if_true] | simp only [Bool.false_eq_true, if_false]
        first | rw [hs1] | skip
        first | rw [hm1] | skip
        first | rw [hm0] | skip
        go_enter Tryz.func77, Tryz.ntmps77
        go_wp2_with (first | (go_at_call 115; refine (HT.out _).mono ?_; rintro e w' ⟨rfl, hw⟩; rw [hw]) | (go_at_call 116; refine (HS.out _).mono ?_; rintro e w' ⟨rfl, d, rfl⟩))
        refine bodyPost_ret (v := .tuple #[.int .i64 m1, .int .i64 m0]) (by simp [results, Tryz.results77, go_sem]) rfl ⟨?_, lay_ex _ _⟩
        first | rfl | (simp; omega) | simp
      · rw [e1, show oneQ f = 0 from h5]
        clear h5 h4
        first | simp only [if_true] | simp only [Bool.false_eq_true, if_false]
        first | rw [hs1] | skip
        first | rw [hm1] | skip
        first | rw [hm0] | skip
        go_enter Tryz.func77, Tryz.ntmps77
        go_wp2_with (first | (go_at_call 115; refine (HT.out _).mono ?_; rintro e w' ⟨rfl, hw⟩; rw [hw]) | (go_at_call 116; refine (HS.out _).mono ?_; rintro e w' ⟨rfl, d, rfl⟩))
        refine bodyPost_ret (v := .tuple #[.int .i64 m0, .int .i64 m0]) (by simp [results, Tryz.results77, go_sem]) rfl ⟨?_, lay_ex _ _⟩
        first | rfl | (simp; omega) | simp
  · have e1 : decide (10800000 < q) = false := decide_eq_false c1
    rw [if_neg c1] at h3
    by_cases c2 : 5400000 < q
    · obtain ⟨g, hg⟩ : ∃ g : Int, 10800000 - q = g := ⟨_, rfl⟩
      have kg : IntKind.i64.wrap g = g := IntWalk.i64_in _ (by omega)
      have hfg : (f : Int) = g := by rw [h3, if_pos (by omega)]; omega
      rw [hfg] at HS
      clear h3 hf
      cases x
      · rw [e1, show oneQ f = 1 from h5]
        clear h5 h4
        first | simp only [if_true] | simp only [Bool.false_eq_true, if_false]
        first | rw [hs1] | skip
        first | rw [hm1] | skip
        first | rw [hm0] | skip
        go_enter Tryz.func77, Tryz.ntmps77
        go_wp2_with (first | (go_at_call 115; refine (HT.out _).mono ?_; rintro e w' ⟨rfl, hw⟩; rw [hw]) | (go_at_call 116; refine (HS.out _).mono ?_; rintro e w' ⟨rfl, d, rfl⟩))
        refine bodyPost_ret (v := .tuple #[.int .i64 (s : Int), .int .i64 s1]) (by simp [results, Tryz.results77, go_sem]) rfl ⟨?_, lay_ex _ _⟩
        first | rfl | (simp; omega) | simp
      · rw [e1, show oneQ f = 0 from h5]
        clear h5 h4
        first | simp only [if_true] | simp only [Bool.false_eq_true, if_false]
        first | rw [hs1] | skip
        first | rw [hm1] | skip
        first | rw [hm0] | skip
        go_enter Tryz.func77, Tryz.ntmps77
        go_wp2_with (first | (go_at_call 115; refine (HT.out _).mono ?_; rintro e w' ⟨rfl, hw⟩; rw [hw]) | (go_at_call 116; refine (HS.out _).mono ?_; rintro e w' ⟨rfl, d, rfl⟩))
        refine bodyPost_ret (v := .tuple #[.int .i64 (s : Int), .int .i64 (s : Int)]) (by simp [results, Tryz.results77, go_sem]) rfl ⟨?_, lay_ex _ _⟩
        first | rfl | (simp; omega) | simp
    · have hfg : (f : Int) = q := by rw [h3, if_neg (by omega)]; omega
      rw [hfg] at HS
      clear h3 hf
      cases x
      · rw [e1, show oneQ f = 1 from h5]
        clear h5 h4
        first | simp only [if_true] | simp only [Bool.false_eq_true, if_false]
        first | rw [hs1] | skip
        first | rw [hm1] | skip
        first | rw [hm0] | skip
        go_enter Tryz.func77, Tryz.ntmps77
        go_wp2_with (first | (go_at_call 115; refine (HT.out _).mono ?_; rintro e w' ⟨rfl, hw⟩; rw [hw]) | (go_at_call 116; refine (HS.out _).mono ?_; rintro e w' ⟨rfl, d, rfl⟩))
        refine bodyPost_ret (v := .tuple #[.int .i64 (s : Int), .int .i64 s1]) (by simp [results, Tryz.results77, go_sem]) rfl ⟨?_, lay_ex _ _⟩
        first | rfl | (simp; omega) | simp
      · rw [e1, show oneQ f = 0 from h5]
        clear h5 h4
        first | simp only [if_true] | simp only [Bool.false_eq_true, if_false]
        first | rw [hs1] | skip
        first | rw [hm1] | skip
        first | rw [hm0] | skip
        go_enter Tryz.func77, Tryz.ntmps77
        go_wp2_with (first | (go_at_call 115; refine (HT.out _).mono ?_; rintro e w' ⟨rfl, hw⟩; rw [hw]) | (go_at_call 116; refine (HS.out _).mono ?_; rintro e w' ⟨rfl, d, rfl⟩))
        refine bodyPost_ret (v := .tuple #[.int .i64 (s : Int), .int .i64 (s : Int)]) (by simp [results, Tryz.results77, go_sem]) rfl ⟨?_, lay_ex _ _⟩
        first | rfl | (simp; omega) | simp
def metB (lo hi n : Int) : Bool := decide ((n - lo) % 21600000 ≤ hi - lo)
theorem tg_meets (lo hi n : Int) (h1 : -2199023255552 ≤ lo) (h2 : lo ≤ hi) (h3 : hi ≤ 2199023255552) (h4 : 0 ≤ n) (h5 : n ≤ 21600000) (w : World) :
    Calls Tryz.prog 78 #[(.agg #[.int .i64 (lo), .int .i64 (hi)]), .int .i64 n] w fun e w' => e = .returned (.bool (metB lo hi n)) ∧ ∃ d, w' = bw w d := by
  refine lay_start ?_
  obtain ⟨D, hD⟩ : ∃ D : Int, n - lo = D := ⟨_, rfl⟩
  obtain ⟨E, hE⟩ : ∃ E : Int, hi - lo = E := ⟨_, rfl⟩
  have HT := Lib.hid (fun W => tg_turned D W)
  obtain ⟨q, hq⟩ : ∃ q, D % 21600000 = q := ⟨_, rfl⟩
  rw [show metB lo hi n = decide (q ≤ E) by unfold metB; rw [hD, hE, hq]]
  rw [hq] at HT
  have kD : IntKind.i64.wrap D = D := IntWalk.i64_in _ (by omega)
  have kE : IntKind.i64.wrap E = E := IntWalk.i64_in _ (by omega)
  clear hq
  go_enter Tryz.func78, Tryz.ntmps78
  go_wp2_with fail
  refine region_bw (by kernel_rfl) (by kernel_rfl) ?_
  repeat (go_big_quiet_step ((first | (go_at_call 115; exact bqs (HT.out _) ⟨_, rfl⟩))))
  refine wpQuiet_nil ?_
  rintro w' ⟨d, rfl⟩
  rw [lay_bw]
  go_wp2_with fail
  go_ret
  exact ⟨rfl, lay_ex _ _⟩
theorem tg_further (lo hi : Int) (h1 : -2199023255552 ≤ lo) (h2 : lo ≤ hi) (h3 : hi ≤ 2199023255552) (w : World) :
    Calls Tryz.prog 42 #[(.agg #[.int .i64 (lo), .int .i64 (hi)])] w fun e w' => e = .returned (.agg #[.int .i64 (lo + 5400000), .int .i64 (hi + 5400000)]) ∧ ∃ d, w' = bw w d := by
  refine lay_start ?_
  have k1 : IntKind.i64.wrap (lo + 5400000) = lo + 5400000 := IntWalk.i64_in _ (by omega)
  have k2 : IntKind.i64.wrap (hi + 5400000) = hi + 5400000 := IntWalk.i64_in _ (by omega)
  go_enter Tryz.func42, Tryz.ntmps42
  go_wp2_with fail
  exact bodyPost_ret (v := (.agg #[.int .i64 (lo + 5400000), .int .i64 (hi + 5400000)])) (by simp [results, Tryz.results42, go_sem]) rfl ⟨rfl, lay_ex _ _⟩
theorem tg_valid (lo hi : Int) (w : World) :
    Calls Tryz.prog 40 #[(.agg #[.int .i64 (lo), .int .i64 (hi)])] w fun e w' => e = .returned (.bool (validB lo hi)) ∧ ∃ d, w' = bw w d := by
  refine lay_start ?_
  go_enter Tryz.func40, Tryz.ntmps40
  go_wp2
  all_goals go_ret
  all_goals exact ⟨ret_bool (by rw [Bool.eq_iff_iff]; simp [validB]; omega), lay_ex _ _⟩
def encL (lo hi : Int) : Int := if metB lo hi 16200000 then -1073741824 else mn (bLo lo) (bLo hi)
def encH (lo hi : Int) : Int := if metB lo hi 5400000 then 1073741824 else mx (bHi lo) (bHi hi)
theorem tg_enclosure (lo hi : Int) (h1 : -2199023255552 ≤ lo) (h2 : lo ≤ hi) (h3 : hi ≤ 2199023255552) (w : World) :
    Calls Tryz.prog 41 #[(.agg #[.int .i64 (lo), .int .i64 (hi)])] w fun e w' => e = .returned (.agg #[.int .i64 (encL lo hi), .int .i64 (encH lo hi)]) ∧ ∃ d, w' = bw w d := by
  refine lay_start ?_
  have HB1 := Lib.hid (fun W => tg_bounds lo W)
  have HB2 := Lib.hid (fun W => tg_bounds hi W)
  have HM1 := Lib.hid (fun W => tg_meets lo hi 5400000 h1 h2 h3 (by decide) (by decide) W)
  have HM2 := Lib.hid (fun W => tg_meets lo hi 16200000 h1 h2 h3 (by decide) (by decide) W)
  have e1 : encL lo hi = if metB lo hi 16200000 then -1073741824 else mn (bLo lo) (bLo hi) := rfl
  have e2 : encH lo hi = if metB lo hi 5400000 then 1073741824 else mx (bHi lo) (bHi hi) := rfl
  rw [e1, e2]
  clear e1 e2
  generalize bLo lo = p at *
  generalize bLo hi = q at *
  generalize bHi lo = r at *
  generalize bHi hi = s at *
  cases hm1 : metB lo hi 5400000 <;> cases hm2 : metB lo hi 16200000
  all_goals
    rw [hm1] at HM1
    rw [hm2] at HM2
    clear hm1 hm2
    go_enter Tryz.func41, Tryz.ntmps41
    go_wp2_with (first | (go_at_call 77; first | (with_reducible refine (HB1.out _).mono ?_; rintro e w' ⟨rfl, d, rfl⟩) | (with_reducible refine (HB2.out _).mono ?_; rintro e w' ⟨rfl, d', rfl⟩)) | (go_at_call 78; first | (with_reducible refine (HM1.out _).mono ?_; rintro e w' ⟨rfl, d, rfl⟩) | (with_reducible refine (HM2.out _).mono ?_; rintro e w' ⟨rfl, d', rfl⟩)))
  · exact bodyPost_ret (v := (.agg #[.int .i64 (mn p q), .int .i64 (mx r s)])) (by simp [results, Tryz.results41, go_sem]) rfl ⟨rfl, lay_ex _ _⟩
  · exact bodyPost_ret (v := (.agg #[.int .i64 (-1073741824), .int .i64 (mx r s)])) (by simp [results, Tryz.results41, go_sem]) rfl ⟨rfl, lay_ex _ _⟩
  · exact bodyPost_ret (v := (.agg #[.int .i64 (mn p q), .int .i64 (1073741824)])) (by simp [results, Tryz.results41, go_sem]) rfl ⟨rfl, lay_ex _ _⟩
  · exact bodyPost_ret (v := (.agg #[.int .i64 (-1073741824), .int .i64 (1073741824)])) (by simp [results, Tryz.results41, go_sem]) rfl ⟨rfl, lay_ex _ _⟩
attribute [irreducible] encL encH bLo bHi
theorem tg_Sin (lo hi : Int) (hv : validB lo hi = true) (w : World) :
    Calls Tryz.prog 13 #[(.agg #[.int .i64 (lo), .int .i64 (hi)])] w fun e w' => e = .returned (.tuple #[(.agg #[.int .i64 (encL lo hi), .int .i64 (encH lo hi)]), .int .i64 0]) ∧ ∃ d, w' = bw w d := by
  refine lay_start ?_
  have h := validB_iff.1 hv
  have HV := Lib.hid (fun W => tg_valid lo hi W)
  rw [hv] at HV
  have HE := Lib.hid (fun W => tg_enclosure lo hi (by omega) h.1 (by omega) W)
  clear h hv
  generalize encL lo hi = p at *
  generalize encH lo hi = q at *
  go_enter Tryz.func13, Tryz.ntmps13
  go_wp2_with (first | (go_at_call 40; refine (HV.out _).mono ?_; rintro e w' ⟨rfl, d, rfl⟩) | (go_at_call 41; refine (HE.out _).mono ?_; rintro e w' ⟨rfl, d, rfl⟩))
  exact bodyPost_ret (v := .tuple #[(.agg #[.int .i64 (p), .int .i64 (q)]), .int .i64 0]) (by simp [results, Tryz.results13, go_sem]) rfl ⟨rfl, lay_ex _ _⟩
theorem tg_Cos (lo hi : Int) (hv : validB lo hi = true) (w : World) :
    Calls Tryz.prog 14 #[(.agg #[.int .i64 (lo), .int .i64 (hi)])] w fun e w' => e = .returned (.tuple #[(.agg #[.int .i64 (encL (lo + 5400000) (hi + 5400000)), .int .i64 (encH (lo + 5400000) (hi + 5400000))]), .int .i64 0]) ∧ ∃ d, w' = bw w d := by
  refine lay_start ?_
  have h := validB_iff.1 hv
  have HV := Lib.hid (fun W => tg_valid lo hi W)
  rw [hv] at HV
  have HF := Lib.hid (fun W => tg_further lo hi (by omega) h.1 (by omega) W)
  have HE := Lib.hid (fun W => tg_enclosure (lo + 5400000) (hi + 5400000) (by omega) (by omega) (by omega) W)
  clear h hv
  generalize encL (lo + 5400000) (hi + 5400000) = p at *
  generalize encH (lo + 5400000) (hi + 5400000) = q at *
  go_enter Tryz.func14, Tryz.ntmps14
  go_wp2_with (first | (go_at_call 40; refine (HV.out _).mono ?_; rintro e w' ⟨rfl, d, rfl⟩) | (go_at_call 42; refine (HF.out _).mono ?_; rintro e w' ⟨rfl, d, rfl⟩) | (go_at_call 41; refine (HE.out _).mono ?_; rintro e w' ⟨rfl, d, rfl⟩))
  exact bodyPost_ret (v := .tuple #[(.agg #[.int .i64 (p), .int .i64 (q)]), .int .i64 0]) (by simp [results, Tryz.results14, go_sem]) rfl ⟨rfl, lay_ex _ _⟩
end Go.Proofs.YtkhhdpndcidmgaaGreat
