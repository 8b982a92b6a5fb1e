/- Contracts and plain laws, several texts in one: Sg1 -/
import Derived.Test.YtmomoeagnkjbiaaGreatProg
import Derived.WalkKit
import Derived.WalkSpells
import Derived.WalkLawsBesides
import Derived.Lib.Hide
import Derived.BigQuiet
import Derived.Test.YtmomoeagnkjbiaaGreatCAA
import Derived.Test.YtmomoeagnkjbiaaGreatCAB
import Derived.Test.YtmomoeagnkjbiaaGreatCAJ
/- The reference's valid sights. -/
namespace Go.Proofs.YtmomoeagnkjbiaaGreat
open Go.RowKit

/-- A valid sight, in words. -/
structure SgIs (s : SgV) : Prop where
  nm : nameB s.body = true
  limb : 1 ≤ s.limb ∧ s.limb ≤ 3
  tm : timB s.lo s.hi = true
  hs : -60000 ≤ s.hs ∧ s.hs ≤ 7800000
  wi : 0 ≤ s.wi ∧ s.wi ≤ 60000
  hz : 1 ≤ s.hz ∧ s.hz ≤ 3
  te : -500 ≤ s.te ∧ s.te ≤ 600
  pr : 5000 ≤ s.pr ∧ s.pr ≤ 11000
  ey : 0 ≤ s.ey ∧ s.ey ≤ 10000
  art : s.hz = 2 → s.ey = 0
  sho : s.hz = 3 → 1 ≤ s.sh ∧ s.sh ≤ 100000
  no : s.hz ≠ 3 → s.sh = 0
theorem sgB_iff {s : SgV} : sgB s = true ↔ SgIs s := by
  unfold sgB shoB
  simp only [Bool.and_eq_true, fromB_iff]
  constructor
  · rintro ⟨h0, h1, h2, h3, h4, h5, h6, h7, h8, h9⟩
    by_cases c : s.hz = 2 ∧ s.ey ≠ 0
    · rw [if_pos c] at h9; cases h9
    · rw [if_neg c] at h9
      by_cases c3 : s.hz = 3
      · rw [if_pos c3, fromB_iff] at h9
        exact ⟨h0, h1, h2, h3, h4, h5, h6, h7, h8, fun e => by omega, fun _ => h9, fun e => absurd c3 e⟩
      · rw [if_neg c3, decide_eq_true_eq] at h9
        exact ⟨h0, h1, h2, h3, h4, h5, h6, h7, h8, fun e => Decidable.byContradiction fun n => c ⟨e, n⟩, fun e => absurd e c3, fun _ => h9⟩
  · intro h
    refine ⟨h.nm, h.limb, h.tm, h.hs, h.wi, h.hz, h.te, h.pr, h.ey, ?_⟩
    rw [if_neg (fun c => c.2 (h.art c.1))]
    by_cases c3 : s.hz = 3
    · rw [if_pos c3, fromB_iff]; exact h.sho c3
    · rw [if_neg c3, decide_eq_true_eq]; exact h.no c3
theorem sgB_no {s : SgV} (h : ¬ SgIs s) : sgB s = false := by
  cases e : sgB s
  · rfl
  · exact absurd (sgB_iff.1 e) h
set_option maxHeartbeats 400000 in
theorem ref18_Reading (n : Int) (w : World) :
    Calls Tryz.prog 114 #[.int .i64 n] w fun e w' => e = .returned (.bool (fromB n (-60000) 7800000)) ∧ w' = w := by
  unfold fromB
  by_cases h1 : -60000 ≤ n
  · by_cases h2 : n ≤ 7800000
    · rw [decide_eq_true h1, decide_eq_true h2]
      go_enter Tryz.func114, Tryz.ntmps114
      go_wp2_with fail
      go_ret
      exact ⟨rfl, rfl⟩
    · rw [decide_eq_true h1, decide_eq_false h2]
      go_enter Tryz.func114, Tryz.ntmps114
      go_wp2_with fail
      go_ret
      exact ⟨rfl, rfl⟩
  · rw [decide_eq_false h1]
    go_enter Tryz.func114, Tryz.ntmps114
    go_wp2_with fail
    go_ret
    exact ⟨rfl, rfl⟩
set_option maxHeartbeats 400000 in
theorem ref20_Weather (t p : Int) (w : World) :
    Calls Tryz.prog 115 #[.int .i64 t, .int .i64 p] w fun e w' => e = .returned (.bool (fromB t (-500) 600 && fromB p 5000 11000)) ∧ w' = w := by
  unfold fromB
  by_cases c0 : -500 ≤ t
  · rw [decide_eq_true c0]
    by_cases c1 : t ≤ 600
    · rw [decide_eq_true c1]
      by_cases c2 : 5000 ≤ p
      · rw [decide_eq_true c2]
        by_cases c3 : p ≤ 11000
        · rw [decide_eq_true c3]
          try simp only [Bool.true_and]
          try simp only [Bool.false_and]
          go_enter Tryz.func115, Tryz.ntmps115
          go_wp2_with fail
          go_ret
          exact ⟨rfl, rfl⟩
        · rw [decide_eq_false c3]
          try simp only [Bool.true_and]
          try simp only [Bool.false_and]
          go_enter Tryz.func115, Tryz.ntmps115
          go_wp2_with fail
          go_ret
          exact ⟨rfl, rfl⟩
      · rw [decide_eq_false c2]
        try simp only [Bool.true_and]
        try simp only [Bool.false_and]
        go_enter Tryz.func115, Tryz.ntmps115
        go_wp2_with fail
        go_ret
        exact ⟨rfl, rfl⟩
    · rw [decide_eq_false c1]
      try simp only [Bool.true_and]
      try simp only [Bool.false_and]
      go_enter Tryz.func115, Tryz.ntmps115
      go_wp2_with fail
      go_ret
      exact ⟨rfl, rfl⟩
  · rw [decide_eq_false c0]
    try simp only [Bool.true_and]
    try simp only [Bool.false_and]
    go_enter Tryz.func115, Tryz.ntmps115
    go_wp2_with fail
    go_ret
    exact ⟨rfl, rfl⟩
set_option maxHeartbeats 4000000 in
set_option maxRecDepth 100000 in
theorem ref22_Valid (s : SgV) (w : World) (hs : SgOk s) :
    Calls Tryz.prog 62 #[s.val] w fun e w' => e = .returned (.bool (sgB s)) ∧ ∃ d, w' = bw w d := by
  have H0 := Lib.hid (fun W => ref01_IsName s.body W hs.body)
  have H2 := Lib.hid (fun W => ref10_Valid s.lo s.hi W)
  have H3 := Lib.hid (fun W => ref18_Reading s.hs W)
  have H4 := Lib.hid (fun W => ref20_Weather s.te s.pr W)
  rw [sg_val]
  clear hs
  cases hb0 : nameB s.body
  · rw [hb0] at H0
    rw [sgB_no (fun h => by have := h.nm; rw [hb0] at this; cases this)]
    refine lay_start ?_
    go_enter Tryz.func62, Tryz.ntmps62
    go_wp2_with (first | (go_at_call 112; refine (H0.out _).mono ?_; rintro e w1 ⟨rfl, hw1⟩; rw [hw1]) | (go_at_call 113; refine (H2.out _).mono ?_; rintro e w' ⟨rfl, dT, rfl⟩) | (go_at_call 114; refine (H3.out _).mono ?_; rintro e w1 ⟨rfl, hw1⟩; rw [hw1]) | (go_at_call 115; refine (H4.out _).mono ?_; rintro e w1 ⟨rfl, hw1⟩; rw [hw1]))
    go_ret
    exact ⟨rfl, lay_ex _ _⟩
  · rw [hb0] at H0
    by_cases c1 : 1 ≤ s.limb
    · have d1 := decide_eq_true c1
      by_cases c2 : s.limb ≤ 3
      · have d2 := decide_eq_true c2
        cases hb3 : timB s.lo s.hi
        · rw [hb3] at H2
          rw [sgB_no (fun h => by have := h.tm; rw [hb3] at this; cases this)]
          refine lay_start ?_
          go_enter Tryz.func62, Tryz.ntmps62
          go_wp2_with (first | (go_at_call 112; refine (H0.out _).mono ?_; rintro e w1 ⟨rfl, hw1⟩; rw [hw1]) | (go_at_call 113; refine (H2.out _).mono ?_; rintro e w' ⟨rfl, dT, rfl⟩) | (go_at_call 114; refine (H3.out _).mono ?_; rintro e w1 ⟨rfl, hw1⟩; rw [hw1]) | (go_at_call 115; refine (H4.out _).mono ?_; rintro e w1 ⟨rfl, hw1⟩; rw [hw1]))
          go_ret
          exact ⟨rfl, lay_ex _ _⟩
        · rw [hb3] at H2
          cases hb4 : fromB s.hs (-60000) 7800000
          · rw [hb4] at H3
            rw [sgB_no (fun h => by have := fromB_iff.2 h.hs; rw [hb4] at this; cases this)]
            refine lay_start ?_
            go_enter Tryz.func62, Tryz.ntmps62
            go_wp2_with (first | (go_at_call 112; refine (H0.out _).mono ?_; rintro e w1 ⟨rfl, hw1⟩; rw [hw1]) | (go_at_call 113; refine (H2.out _).mono ?_; rintro e w' ⟨rfl, dT, rfl⟩) | (go_at_call 114; refine (H3.out _).mono ?_; rintro e w1 ⟨rfl, hw1⟩; rw [hw1]) | (go_at_call 115; refine (H4.out _).mono ?_; rintro e w1 ⟨rfl, hw1⟩; rw [hw1]))
            go_ret
            exact ⟨rfl, lay_ex _ _⟩
          · rw [hb4] at H3
            by_cases c5 : 0 ≤ s.wi
            · have d5 := decide_eq_true c5
              by_cases c6 : s.wi ≤ 60000
              · have d6 := decide_eq_true c6
                by_cases c7 : 1 ≤ s.hz
                · have d7 := decide_eq_true c7
                  by_cases c8 : s.hz ≤ 3
                  · have d8 := decide_eq_true c8
                    cases hb9 : (fromB s.te (-500) 600 && fromB s.pr 5000 11000)
                    · rw [hb9] at H4
                      rw [sgB_no (fun h => by have := (Bool.and_eq_true _ _).mpr ⟨fromB_iff.2 h.te, fromB_iff.2 h.pr⟩; rw [hb9] at this; cases this)]
                      refine lay_start ?_
                      go_enter Tryz.func62, Tryz.ntmps62
                      go_wp2_with (first | (go_at_call 112; refine (H0.out _).mono ?_; rintro e w1 ⟨rfl, hw1⟩; rw [hw1]) | (go_at_call 113; refine (H2.out _).mono ?_; rintro e w' ⟨rfl, dT, rfl⟩) | (go_at_call 114; refine (H3.out _).mono ?_; rintro e w1 ⟨rfl, hw1⟩; rw [hw1]) | (go_at_call 115; refine (H4.out _).mono ?_; rintro e w1 ⟨rfl, hw1⟩; rw [hw1]))
                      go_ret
                      exact ⟨rfl, lay_ex _ _⟩
                    · rw [hb9] at H4
                      by_cases c10 : 0 ≤ s.ey
                      · have d10 := decide_eq_true c10
                        by_cases c11 : s.ey ≤ 10000
                        · have d11 := decide_eq_true c11
                          by_cases z2 : s.hz = 2
                          · have t2 : (s.hz == 2) = true := beq_iff_eq.2 z2
                            have t3 : (s.hz == 3) = false := beq_eq_false_iff_ne.2 (by omega)
                            by_cases ze : s.ey = 0
                            · have te : (s.ey == 0) = true := beq_iff_eq.2 ze
                              have tn : (s.ey != 0) = false := by rw [bne, te]; rfl
                              by_cases zs : s.sh = 0
                              · have ts : (s.sh == 0) = true := beq_iff_eq.2 zs
                                rw [sgB_iff.2 ⟨hb0, ⟨c1, c2⟩, hb3, fromB_iff.1 hb4, ⟨c5, c6⟩, ⟨c7, c8⟩, fromB_iff.1 (Bool.and_eq_true _ _ |>.mp hb9).1, fromB_iff.1 (Bool.and_eq_true _ _ |>.mp hb9).2, ⟨c10, c11⟩, fun _ => ze, fun e => absurd e (by omega), fun _ => zs⟩]
                                refine lay_start ?_
                                go_enter Tryz.func62, Tryz.ntmps62
                                go_wp2_with (first | (go_at_call 112; refine (H0.out _).mono ?_; rintro e w1 ⟨rfl, hw1⟩; rw [hw1]) | (go_at_call 113; refine (H2.out _).mono ?_; rintro e w' ⟨rfl, dT, rfl⟩) | (go_at_call 114; refine (H3.out _).mono ?_; rintro e w1 ⟨rfl, hw1⟩; rw [hw1]) | (go_at_call 115; refine (H4.out _).mono ?_; rintro e w1 ⟨rfl, hw1⟩; rw [hw1]))
                                go_ret
                                exact ⟨rfl, lay_ex _ _⟩
                              · have ts : (s.sh == 0) = false := beq_eq_false_iff_ne.2 zs
                                rw [sgB_no (fun h => zs (h.no (by omega)))]
                                refine lay_start ?_
                                go_enter Tryz.func62, Tryz.ntmps62
                                go_wp2_with (first | (go_at_call 112; refine (H0.out _).mono ?_; rintro e w1 ⟨rfl, hw1⟩; rw [hw1]) | (go_at_call 113; refine (H2.out _).mono ?_; rintro e w' ⟨rfl, dT, rfl⟩) | (go_at_call 114; refine (H3.out _).mono ?_; rintro e w1 ⟨rfl, hw1⟩; rw [hw1]) | (go_at_call 115; refine (H4.out _).mono ?_; rintro e w1 ⟨rfl, hw1⟩; rw [hw1]))
                                go_ret
                                exact ⟨rfl, lay_ex _ _⟩
                            · have te : (s.ey == 0) = false := beq_eq_false_iff_ne.2 ze
                              have tn : (s.ey != 0) = true := by rw [bne, te]; rfl
                              rw [sgB_no (fun h => ze (h.art z2))]
                              refine lay_start ?_
                              go_enter Tryz.func62, Tryz.ntmps62
                              go_wp2_with (first | (go_at_call 112; refine (H0.out _).mono ?_; rintro e w1 ⟨rfl, hw1⟩; rw [hw1]) | (go_at_call 113; refine (H2.out _).mono ?_; rintro e w' ⟨rfl, dT, rfl⟩) | (go_at_call 114; refine (H3.out _).mono ?_; rintro e w1 ⟨rfl, hw1⟩; rw [hw1]) | (go_at_call 115; refine (H4.out _).mono ?_; rintro e w1 ⟨rfl, hw1⟩; rw [hw1]))
                              go_ret
                              exact ⟨rfl, lay_ex _ _⟩
                          · have t2 : (s.hz == 2) = false := beq_eq_false_iff_ne.2 z2
                            by_cases z3 : s.hz = 3
                            · have t3 : (s.hz == 3) = true := beq_iff_eq.2 z3
                              by_cases y1 : 1 ≤ s.sh
                              · have e1 := decide_eq_true y1
                                by_cases y2 : s.sh ≤ 100000
                                · have e2 := decide_eq_true y2
                                  rw [sgB_iff.2 ⟨hb0, ⟨c1, c2⟩, hb3, fromB_iff.1 hb4, ⟨c5, c6⟩, ⟨c7, c8⟩, fromB_iff.1 (Bool.and_eq_true _ _ |>.mp hb9).1, fromB_iff.1 (Bool.and_eq_true _ _ |>.mp hb9).2, ⟨c10, c11⟩, fun e => absurd e z2, fun _ => ⟨y1, y2⟩, fun e => absurd z3 e⟩]
                                  refine lay_start ?_
                                  go_enter Tryz.func62, Tryz.ntmps62
                                  go_wp2_with (first | (go_at_call 112; refine (H0.out _).mono ?_; rintro e w1 ⟨rfl, hw1⟩; rw [hw1]) | (go_at_call 113; refine (H2.out _).mono ?_; rintro e w' ⟨rfl, dT, rfl⟩) | (go_at_call 114; refine (H3.out _).mono ?_; rintro e w1 ⟨rfl, hw1⟩; rw [hw1]) | (go_at_call 115; refine (H4.out _).mono ?_; rintro e w1 ⟨rfl, hw1⟩; rw [hw1]))
                                  go_ret
                                  exact ⟨rfl, lay_ex _ _⟩
                                · have e2 := decide_eq_false y2
                                  rw [sgB_no (fun h => by have := h.sho z3; omega)]
                                  refine lay_start ?_
                                  go_enter Tryz.func62, Tryz.ntmps62
                                  go_wp2_with (first | (go_at_call 112; refine (H0.out _).mono ?_; rintro e w1 ⟨rfl, hw1⟩; rw [hw1]) | (go_at_call 113; refine (H2.out _).mono ?_; rintro e w' ⟨rfl, dT, rfl⟩) | (go_at_call 114; refine (H3.out _).mono ?_; rintro e w1 ⟨rfl, hw1⟩; rw [hw1]) | (go_at_call 115; refine (H4.out _).mono ?_; rintro e w1 ⟨rfl, hw1⟩; rw [hw1]))
                                  go_ret
                                  exact ⟨rfl, lay_ex _ _⟩
                              · have e1 := decide_eq_false y1
                                rw [sgB_no (fun h => by have := h.sho z3; omega)]
                                refine lay_start ?_
                                go_enter Tryz.func62, Tryz.ntmps62
                                go_wp2_with (first | (go_at_call 112; refine (H0.out _).mono ?_; rintro e w1 ⟨rfl, hw1⟩; rw [hw1]) | (go_at_call 113; refine (H2.out _).mono ?_; rintro e w' ⟨rfl, dT, rfl⟩) | (go_at_call 114; refine (H3.out _).mono ?_; rintro e w1 ⟨rfl, hw1⟩; rw [hw1]) | (go_at_call 115; refine (H4.out _).mono ?_; rintro e w1 ⟨rfl, hw1⟩; rw [hw1]))
                                go_ret
                                exact ⟨rfl, lay_ex _ _⟩
                            · have t3 : (s.hz == 3) = false := beq_eq_false_iff_ne.2 z3
                              by_cases zs : s.sh = 0
                              · have ts : (s.sh == 0) = true := beq_iff_eq.2 zs
                                rw [sgB_iff.2 ⟨hb0, ⟨c1, c2⟩, hb3, fromB_iff.1 hb4, ⟨c5, c6⟩, ⟨c7, c8⟩, fromB_iff.1 (Bool.and_eq_true _ _ |>.mp hb9).1, fromB_iff.1 (Bool.and_eq_true _ _ |>.mp hb9).2, ⟨c10, c11⟩, fun e => absurd e z2, fun e => absurd e z3, fun _ => zs⟩]
                                refine lay_start ?_
                                go_enter Tryz.func62, Tryz.ntmps62
                                go_wp2_with (first | (go_at_call 112; refine (H0.out _).mono ?_; rintro e w1 ⟨rfl, hw1⟩; rw [hw1]) | (go_at_call 113; refine (H2.out _).mono ?_; rintro e w' ⟨rfl, dT, rfl⟩) | (go_at_call 114; refine (H3.out _).mono ?_; rintro e w1 ⟨rfl, hw1⟩; rw [hw1]) | (go_at_call 115; refine (H4.out _).mono ?_; rintro e w1 ⟨rfl, hw1⟩; rw [hw1]))
                                go_ret
                                exact ⟨rfl, lay_ex _ _⟩
                              · have ts : (s.sh == 0) = false := beq_eq_false_iff_ne.2 zs
                                rw [sgB_no (fun h => zs (h.no z3))]
                                refine lay_start ?_
                                go_enter Tryz.func62, Tryz.ntmps62
                                go_wp2_with (first | (go_at_call 112; refine (H0.out _).mono ?_; rintro e w1 ⟨rfl, hw1⟩; rw [hw1]) | (go_at_call 113; refine (H2.out _).mono ?_; rintro e w' ⟨rfl, dT, rfl⟩) | (go_at_call 114; refine (H3.out _).mono ?_; rintro e w1 ⟨rfl, hw1⟩; rw [hw1]) | (go_at_call 115; refine (H4.out _).mono ?_; rintro e w1 ⟨rfl, hw1⟩; rw [hw1]))
                                go_ret
                                exact ⟨rfl, lay_ex _ _⟩
                        · have d11 := decide_eq_false c11
                          rw [sgB_no (fun h => by have := h.ey; omega)]
                          refine lay_start ?_
                          go_enter Tryz.func62, Tryz.ntmps62
                          go_wp2_with (first | (go_at_call 112; refine (H0.out _).mono ?_; rintro e w1 ⟨rfl, hw1⟩; rw [hw1]) | (go_at_call 113; refine (H2.out _).mono ?_; rintro e w' ⟨rfl, dT, rfl⟩) | (go_at_call 114; refine (H3.out _).mono ?_; rintro e w1 ⟨rfl, hw1⟩; rw [hw1]) | (go_at_call 115; refine (H4.out _).mono ?_; rintro e w1 ⟨rfl, hw1⟩; rw [hw1]))
                          go_ret
                          exact ⟨rfl, lay_ex _ _⟩
                      · have d10 := decide_eq_false c10
                        rw [sgB_no (fun h => by have := h.ey; omega)]
                        refine lay_start ?_
                        go_enter Tryz.func62, Tryz.ntmps62
                        go_wp2_with (first | (go_at_call 112; refine (H0.out _).mono ?_; rintro e w1 ⟨rfl, hw1⟩; rw [hw1]) | (go_at_call 113; refine (H2.out _).mono ?_; rintro e w' ⟨rfl, dT, rfl⟩) | (go_at_call 114; refine (H3.out _).mono ?_; rintro e w1 ⟨rfl, hw1⟩; rw [hw1]) | (go_at_call 115; refine (H4.out _).mono ?_; rintro e w1 ⟨rfl, hw1⟩; rw [hw1]))
                        go_ret
                        exact ⟨rfl, lay_ex _ _⟩
                  · have d8 := decide_eq_false c8
                    rw [sgB_no (fun h => by have := h.hz; omega)]
                    refine lay_start ?_
                    go_enter Tryz.func62, Tryz.ntmps62
                    go_wp2_with (first | (go_at_call 112; refine (H0.out _).mono ?_; rintro e w1 ⟨rfl, hw1⟩; rw [hw1]) | (go_at_call 113; refine (H2.out _).mono ?_; rintro e w' ⟨rfl, dT, rfl⟩) | (go_at_call 114; refine (H3.out _).mono ?_; rintro e w1 ⟨rfl, hw1⟩; rw [hw1]) | (go_at_call 115; refine (H4.out _).mono ?_; rintro e w1 ⟨rfl, hw1⟩; rw [hw1]))
                    go_ret
                    exact ⟨rfl, lay_ex _ _⟩
                · have d7 := decide_eq_false c7
                  rw [sgB_no (fun h => by have := h.hz; omega)]
                  refine lay_start ?_
                  go_enter Tryz.func62, Tryz.ntmps62
                  go_wp2_with (first | (go_at_call 112; refine (H0.out _).mono ?_; rintro e w1 ⟨rfl, hw1⟩; rw [hw1]) | (go_at_call 113; refine (H2.out _).mono ?_; rintro e w' ⟨rfl, dT, rfl⟩) | (go_at_call 114; refine (H3.out _).mono ?_; rintro e w1 ⟨rfl, hw1⟩; rw [hw1]) | (go_at_call 115; refine (H4.out _).mono ?_; rintro e w1 ⟨rfl, hw1⟩; rw [hw1]))
                  go_ret
                  exact ⟨rfl, lay_ex _ _⟩
              · have d6 := decide_eq_false c6
                rw [sgB_no (fun h => by have := h.wi; omega)]
                refine lay_start ?_
                go_enter Tryz.func62, Tryz.ntmps62
                go_wp2_with (first | (go_at_call 112; refine (H0.out _).mono ?_; rintro e w1 ⟨rfl, hw1⟩; rw [hw1]) | (go_at_call 113; refine (H2.out _).mono ?_; rintro e w' ⟨rfl, dT, rfl⟩) | (go_at_call 114; refine (H3.out _).mono ?_; rintro e w1 ⟨rfl, hw1⟩; rw [hw1]) | (go_at_call 115; refine (H4.out _).mono ?_; rintro e w1 ⟨rfl, hw1⟩; rw [hw1]))
                go_ret
                exact ⟨rfl, lay_ex _ _⟩
            · have d5 := decide_eq_false c5
              rw [sgB_no (fun h => by have := h.wi; omega)]
              refine lay_start ?_
              go_enter Tryz.func62, Tryz.ntmps62
              go_wp2_with (first | (go_at_call 112; refine (H0.out _).mono ?_; rintro e w1 ⟨rfl, hw1⟩; rw [hw1]) | (go_at_call 113; refine (H2.out _).mono ?_; rintro e w' ⟨rfl, dT, rfl⟩) | (go_at_call 114; refine (H3.out _).mono ?_; rintro e w1 ⟨rfl, hw1⟩; rw [hw1]) | (go_at_call 115; refine (H4.out _).mono ?_; rintro e w1 ⟨rfl, hw1⟩; rw [hw1]))
              go_ret
              exact ⟨rfl, lay_ex _ _⟩
      · have d2 := decide_eq_false c2
        rw [sgB_no (fun h => by have := h.limb; omega)]
        refine lay_start ?_
        go_enter Tryz.func62, Tryz.ntmps62
        go_wp2_with (first | (go_at_call 112; refine (H0.out _).mono ?_; rintro e w1 ⟨rfl, hw1⟩; rw [hw1]) | (go_at_call 113; refine (H2.out _).mono ?_; rintro e w' ⟨rfl, dT, rfl⟩) | (go_at_call 114; refine (H3.out _).mono ?_; rintro e w1 ⟨rfl, hw1⟩; rw [hw1]) | (go_at_call 115; refine (H4.out _).mono ?_; rintro e w1 ⟨rfl, hw1⟩; rw [hw1]))
        go_ret
        exact ⟨rfl, lay_ex _ _⟩
    · have d1 := decide_eq_false c1
      rw [sgB_no (fun h => by have := h.limb; omega)]
      refine lay_start ?_
      go_enter Tryz.func62, Tryz.ntmps62
      go_wp2_with (first | (go_at_call 112; refine (H0.out _).mono ?_; rintro e w1 ⟨rfl, hw1⟩; rw [hw1]) | (go_at_call 113; refine (H2.out _).mono ?_; rintro e w' ⟨rfl, dT, rfl⟩) | (go_at_call 114; refine (H3.out _).mono ?_; rintro e w1 ⟨rfl, hw1⟩; rw [hw1]) | (go_at_call 115; refine (H4.out _).mono ?_; rintro e w1 ⟨rfl, hw1⟩; rw [hw1]))
      go_ret
      exact ⟨rfl, lay_ex _ _⟩
end Go.Proofs.YtmomoeagnkjbiaaGreat
