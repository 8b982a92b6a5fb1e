/- Contracts and plain laws, several texts in one: AmL -/
import Derived.Test.YtakcfcekdngndaaProg
import Derived.WalkKit
import Derived.WalkSpells
import Derived.WalkLawsBesides
import Derived.Lib.Hide
import Derived.BigQuiet
import Derived.Test.YtakcfcekdngndaaBAA
import Derived.Test.YtakcfcekdngndaaBAI
import Derived.Test.YtakcfcekdngndaaBAK
/- The law CompassAmplitude. -/
namespace Go.Proofs.Ytakcfcekdngndaa
open Go.RowKit

set_option maxHeartbeats 4000000 in
set_option maxRecDepth 100000 in
theorem law34_Amplitude {w : World} (c : Int) (_ : (Lit.int .i64 c).wf = true) (d : Int) (_ : (Lit.int .i64 d).wf = true) (m : Int) (_ : (Lit.int .i64 m).wf = true) :
    Calls Try.prog 5 #[.int .i64 c, .int .i64 d, .int .i64 m] w fun e w' => e = .returned (.bool true) ∧ ∃ d, w' = bw w d := by
  have HAt := Lib.hid (fun n W => law_at n W)
  by_cases hin : 0 ≤ c ∧ c ≤ 5400000 ∧ -5400000 ≤ d ∧ d ≤ 5400000 ∧ 0 ≤ m ∧ m ≤ 5400000 - c
  · obtain ⟨h1, h2, h3, h4, h5, h6⟩ := hin
    have hz := amp_zero h3 h4
    have ho := amp_odd (c := c) (d := d) (by omega) h2 h3 h4
    have hmo := fun (hd : 0 ≤ d) (e1 : ampE c c d d = 0) (e2 : ampE (c + m) (c + m) d d = 0) => amp_more h1 h5 (by omega) hd h4 e1 e2
    have H0 := Lib.hid (fun W => comp_Amp 0 0 d d W (by decide) (latB_iff.2 (by omega)))
    have H1 := Lib.hid (fun W => comp_Amp c c d d W (latB_iff.2 (by omega)) (latB_iff.2 (by omega)))
    have H2 := Lib.hid (fun W => comp_Amp (-c) (-c) (-d) (-d) W (latB_iff.2 (by omega)) (latB_iff.2 (by omega)))
    have H3 := Lib.hid (fun W => comp_Amp (c + m) (c + m) d d W (latB_iff.2 (by omega)) (latB_iff.2 (by omega)))
    rw [hz.1] at H0
    rw [ho.1] at H2
    obtain ⟨-, z1, z2⟩ := hz
    have ho2 := ho.2
    clear ho
    have k0 : IntKind.i64.wrap (5400000 - c) = 5400000 - c := IntWalk.i64_in _ (by omega)
    obtain ⟨c', hc'⟩ : ∃ c', -c = c' := ⟨_, rfl⟩
    obtain ⟨d', hd'⟩ : ∃ d', -d = d' := ⟨_, rfl⟩
    have k1 : IntKind.i64.wrap (-c) = c' := by rw [hc']; exact IntWalk.i64_in _ (by omega)
    have k2 : IntKind.i64.wrap (-d) = d' := by rw [hd']; exact IntWalk.i64_in _ (by omega)
    obtain ⟨cm, hcm⟩ : ∃ cm, c + m = cm := ⟨_, rfl⟩
    have k3 : IntKind.i64.wrap (c + m) = cm := by rw [hcm]; exact IntWalk.i64_in _ (by omega)
    rw [hcm] at H3 hmo
    rw [hc', hd'] at H2 ho2
    have hi : ∀ a b, -5400000 ≤ ampL a a b b ∧ ampL a a b b ≤ 5400000 ∧ -5400000 ≤ ampH a a b b ∧ ampH a a b b ≤ 5400000 := fun a b => amp_in a b
    have i1 := hi c d
    have i2 := hi c' d'
    clear hi
    generalize ampL 0 0 d d = x0 at *
    generalize ampH 0 0 d d = y0 at *
    generalize ampL c c d d = x1 at *
    generalize ampH c c d d = y1 at *
    generalize ampE c c d d = e1 at *
    generalize ampL c' c' d' d' = x2 at *
    generalize ampH c' c' d' d' = y2 at *
    generalize ampL cm cm d d = x3 at *
    generalize ampH cm cm d d = y3 at *
    generalize ampE cm cm d d = e3 at *
    have n1 : ¬ c < 0 := by omega
    have n2 : ¬ 5400000 < c := by omega
    have n3 : ¬ d < -5400000 := by omega
    have n4 : ¬ 5400000 < d := by omega
    have n5 : ¬ m < 0 := by omega
    have n6 : ¬ 5400000 - c < m := by omega
    have n7 : ¬ d < x0 := by omega
    have n8 : ¬ y0 < d := by omega
    have q1 : (e1 != e1) = false := by simp
    have q2 : (e1 == e1) = true := by simp
    by_cases g1 : e1 = 0
    · obtain ⟨o1, o2⟩ := ho2 g1
      subst g1
      have k4 : IntKind.i64.wrap (-y1) = x2 := by rw [o1]; exact IntWalk.i64_in _ (by omega)
      have k5 : IntKind.i64.wrap (-x1) = y2 := by rw [o2]; exact IntWalk.i64_in _ (by omega)
      have q3 : (x2 != x2) = false := by simp
      have q4 : (y2 != y2) = false := by simp
      have q5 : (x2 == x2) = true := by simp
      have q6 : (y2 == y2) = true := by simp
      by_cases g3 : e3 = 0
      · subst g3
        by_cases g4 : d < 0
        · clear h1 h2 h3 h4 h5 h6 z1 z2 ho2 hmo hc' hd' hcm i1 i2 o1 o2
          refine lay_start ?_
          go_enter Try.func5, Try.ntmps5
          go_wp2_with (first | (go_at_call 18; refine (law_awake _).mono ?_; rintro e w' ⟨rfl, dA, rfl⟩; rw [lay_bw]) | (go_at_call 20; refine (HAt.out _ _).mono ?_; rintro e w' ⟨rfl, dB, rfl⟩; rw [lay_bw]) | (go_at_call 19; first | (with_reducible refine (H0.out _).mono ?_; rintro e w' ⟨rfl, dC, rfl⟩; rw [lay_bw]) | (with_reducible refine (H1.out _).mono ?_; rintro e w' ⟨rfl, dD, rfl⟩; rw [lay_bw]) | (with_reducible refine (H2.out _).mono ?_; rintro e w' ⟨rfl, dE, rfl⟩; rw [lay_bw]) | (with_reducible refine (H3.out _).mono ?_; rintro e w' ⟨rfl, dF, rfl⟩; rw [lay_bw])))
          go_ret
          exact ⟨rfl, lay_ex _ _⟩
        · have g5 : x1 ≤ y3 := hmo (by omega) rfl rfl
          clear h1 h2 h3 h4 h5 h6 z1 z2 ho2 hmo hc' hd' hcm i1 i2 o1 o2
          refine lay_start ?_
          go_enter Try.func5, Try.ntmps5
          go_wp2_with (first | (go_at_call 18; refine (law_awake _).mono ?_; rintro e w' ⟨rfl, dA, rfl⟩; rw [lay_bw]) | (go_at_call 20; refine (HAt.out _ _).mono ?_; rintro e w' ⟨rfl, dB, rfl⟩; rw [lay_bw]) | (go_at_call 19; first | (with_reducible refine (H0.out _).mono ?_; rintro e w' ⟨rfl, dC, rfl⟩; rw [lay_bw]) | (with_reducible refine (H1.out _).mono ?_; rintro e w' ⟨rfl, dD, rfl⟩; rw [lay_bw]) | (with_reducible refine (H2.out _).mono ?_; rintro e w' ⟨rfl, dE, rfl⟩; rw [lay_bw]) | (with_reducible refine (H3.out _).mono ?_; rintro e w' ⟨rfl, dF, rfl⟩; rw [lay_bw])))
          go_ret
          exact ⟨rfl, lay_ex _ _⟩
      · have q7 : (e3 != 0) = true := by simp [g3]
        have q8 : (e3 == 0) = false := beq_eq_false_iff_ne.2 g3
        clear h1 h2 h3 h4 h5 h6 z1 z2 ho2 hmo hc' hd' hcm i1 i2 o1 o2
        refine lay_start ?_
        go_enter Try.func5, Try.ntmps5
        go_wp2_with (first | (go_at_call 18; refine (law_awake _).mono ?_; rintro e w' ⟨rfl, dA, rfl⟩; rw [lay_bw]) | (go_at_call 20; refine (HAt.out _ _).mono ?_; rintro e w' ⟨rfl, dB, rfl⟩; rw [lay_bw]) | (go_at_call 19; first | (with_reducible refine (H0.out _).mono ?_; rintro e w' ⟨rfl, dC, rfl⟩; rw [lay_bw]) | (with_reducible refine (H1.out _).mono ?_; rintro e w' ⟨rfl, dD, rfl⟩; rw [lay_bw]) | (with_reducible refine (H2.out _).mono ?_; rintro e w' ⟨rfl, dE, rfl⟩; rw [lay_bw]) | (with_reducible refine (H3.out _).mono ?_; rintro e w' ⟨rfl, dF, rfl⟩; rw [lay_bw])))
        go_ret
        exact ⟨rfl, lay_ex _ _⟩
    · have q7 : (e1 != 0) = true := by simp [g1]
      have q8 : (e1 == 0) = false := beq_eq_false_iff_ne.2 g1
      clear h1 h2 h3 h4 h5 h6 z1 z2 ho2 hmo hc' hd' hcm i1 i2
      refine lay_start ?_
      go_enter Try.func5, Try.ntmps5
      go_wp2_with (first | (go_at_call 18; refine (law_awake _).mono ?_; rintro e w' ⟨rfl, dA, rfl⟩; rw [lay_bw]) | (go_at_call 20; refine (HAt.out _ _).mono ?_; rintro e w' ⟨rfl, dB, rfl⟩; rw [lay_bw]) | (go_at_call 19; first | (with_reducible refine (H0.out _).mono ?_; rintro e w' ⟨rfl, dC, rfl⟩; rw [lay_bw]) | (with_reducible refine (H1.out _).mono ?_; rintro e w' ⟨rfl, dD, rfl⟩; rw [lay_bw]) | (with_reducible refine (H2.out _).mono ?_; rintro e w' ⟨rfl, dE, rfl⟩; rw [lay_bw]) | (with_reducible refine (H3.out _).mono ?_; rintro e w' ⟨rfl, dF, rfl⟩; rw [lay_bw])))
      go_ret
      exact ⟨rfl, lay_ex _ _⟩
  · have ho : c < 0 ∨ (¬ c < 0 ∧ 5400000 < c) ∨ (¬ c < 0 ∧ ¬ 5400000 < c ∧ d < -5400000) ∨ (¬ c < 0 ∧ ¬ 5400000 < c ∧ ¬ d < -5400000 ∧ 5400000 < d) ∨ (¬ c < 0 ∧ ¬ 5400000 < c ∧ ¬ d < -5400000 ∧ ¬ 5400000 < d ∧ m < 0) ∨ (¬ c < 0 ∧ ¬ 5400000 < c ∧ ¬ d < -5400000 ∧ ¬ 5400000 < d ∧ ¬ m < 0 ∧ 5400000 - c < m ∧ IntKind.i64.wrap (5400000 - c) = 5400000 - c) := by
      by_cases a1 : c < 0
      · exact .inl a1
      by_cases a2 : 5400000 < c
      · exact .inr (.inl ⟨a1, a2⟩)
      by_cases a3 : d < -5400000
      · exact .inr (.inr (.inl ⟨a1, a2, a3⟩))
      by_cases a4 : 5400000 < d
      · exact .inr (.inr (.inr (.inl ⟨a1, a2, a3, a4⟩)))
      by_cases a5 : m < 0
      · exact .inr (.inr (.inr (.inr (.inl ⟨a1, a2, a3, a4, a5⟩))))
      · exact .inr (.inr (.inr (.inr (.inr ⟨a1, a2, a3, a4, a5, by omega, IntWalk.i64_in _ (by omega)⟩))))
    clear hin
    rcases ho with a1 | ⟨a1, a2⟩ | ⟨a1, a2, a3⟩ | ⟨a1, a2, a3, a4⟩ | ⟨a1, a2, a3, a4, a5⟩ | ⟨a1, a2, a3, a4, a5, a6, a7⟩
    all_goals
      refine lay_start ?_
      go_enter Try.func5, Try.ntmps5
      go_wp2_with (go_at_call 18; refine (law_awake _).mono ?_; rintro e w' ⟨rfl, dA, rfl⟩; rw [lay_bw])
      go_ret
      exact ⟨rfl, lay_ex _ _⟩
end Go.Proofs.Ytakcfcekdngndaa
