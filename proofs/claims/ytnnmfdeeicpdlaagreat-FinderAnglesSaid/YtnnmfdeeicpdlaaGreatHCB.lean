/- Contracts and plain laws, several texts in one: FgC; FgD; FgE -/
import Derived.Test.YtnnmfdeeicpdlaaGreatProg
import Derived.WalkKit
import Derived.WalkSpells
import Derived.WalkLawsBesides
import Derived.Lib.Hide
import Derived.BigQuiet
import Derived.Test.YtnnmfdeeicpdlaaGreatHAC
import Derived.Test.YtnnmfdeeicpdlaaGreatHAD
import Derived.Test.YtnnmfdeeicpdlaaGreatHAE
import Derived.Test.YtnnmfdeeicpdlaaGreatHBY
import Derived.Test.YtnnmfdeeicpdlaaGreatHCA
/- Unknown, the program's and the reference's, at all arguments; Parallactic off a bad triangle. -/
namespace Go.Proofs.YtnnmfdeeicpdlaaGreat
set_option maxRecDepth 100000
open Go.RowKit

theorem turn_eqv {a b c d : Int} (h : (21600000 ≤ b - a ∧ 21600000 ≤ d - c) ∨ (b - a = d - c ∧ a % 21600000 = c % 21600000)) : turnLo a b = turnLo c d ∧ turnHi a b = turnHi c d := by
  unfold turnLo turnHi
  rcases h with ⟨h1, h2⟩ | ⟨h1, h2⟩
  · rw [if_pos h1, if_pos h2, if_pos h1, if_pos h2]
    exact ⟨rfl, rfl⟩
  · rw [h1, h2]
    exact ⟨rfl, rfl⟩
theorem turn_three {z0 z1 l0 l1 g0 g1 : Int} (hz : z0 ≤ z1) (hl : l0 ≤ l1) (hg : g0 ≤ g1) :
    turnLo (z0 + -(turnHi l0 l1) + -(turnHi g0 g1)) (z1 + -(turnLo l0 l1) + -(turnLo g0 g1)) = turnLo (z0 - l1 - g1) (z1 - l0 - g0) ∧ turnHi (z0 + -(turnHi l0 l1) + -(turnHi g0 g1)) (z1 + -(turnLo l0 l1) + -(turnLo g0 g1)) = turnHi (z0 - l1 - g1) (z1 - l0 - g0) := by
  refine turn_eqv ?_
  unfold turnLo turnHi
  by_cases c1 : 21600000 ≤ l1 - l0
  · rw [if_pos c1, if_pos c1]
    by_cases c2 : 21600000 ≤ g1 - g0
    · rw [if_pos c2, if_pos c2]; omega
    · rw [if_neg c2, if_neg c2]; omega
  · rw [if_neg c1, if_neg c1]
    by_cases c2 : 21600000 ≤ g1 - g0
    · rw [if_pos c2, if_pos c2]; omega
    · rw [if_neg c2, if_neg c2]; omega
theorem r25_Valid (a0 a1 b0 b1 c0 c1 : Int) (w : World) :
    Calls Tryz.prog 17 #[(.agg #[.int .i64 (a0), .int .i64 (a1), .int .i64 (b0), .int .i64 (b1), .int .i64 (c0), .int .i64 (c1)])] w fun e w' => e = .returned (.bool (triB a0 a1 b0 b1 c0 c1)) ∧ ∃ d, w' = bw w d := by
  have HA := Lib.hid (fun W => ref25_Latitude a0 a1 W)
  have HB := Lib.hid (fun W => ref25_Latitude b0 b1 W)
  have HC := Lib.hid (fun W => ref05_Valid c0 c1 W)
  unfold triB
  generalize latB a0 a1 = p at *
  generalize latB b0 b1 = q at *
  generalize validB c0 c1 = r at *
  refine lay_start ?_
  cases p
  · simp only [Bool.false_and]
    go_enter Tryz.func17, Tryz.ntmps17
    go_wp2_with (first | (go_at_call 49; first | (with_reducible refine (HA.out _).mono ?_; rintro e w' ⟨rfl, d1, rfl⟩; rw [lay_bw]) | (with_reducible refine (HB.out _).mono ?_; rintro e w' ⟨rfl, d2, rfl⟩; rw [lay_bw])) | (go_at_call 50; refine (HC.out _).mono ?_; rintro e w' ⟨rfl, d3, rfl⟩; rw [lay_bw]))
    go_ret
    exact ⟨rfl, lay_ex _ _⟩
  · cases q
    · simp only [Bool.false_and, Bool.and_false]
      go_enter Tryz.func17, Tryz.ntmps17
      go_wp2_with (first | (go_at_call 49; first | (with_reducible refine (HA.out _).mono ?_; rintro e w' ⟨rfl, d1, rfl⟩; rw [lay_bw]) | (with_reducible refine (HB.out _).mono ?_; rintro e w' ⟨rfl, d2, rfl⟩; rw [lay_bw])) | (go_at_call 50; refine (HC.out _).mono ?_; rintro e w' ⟨rfl, d3, rfl⟩; rw [lay_bw]))
      go_ret
      exact ⟨rfl, lay_ex _ _⟩
    · simp only [Bool.true_and]
      go_enter Tryz.func17, Tryz.ntmps17
      go_wp2_with (first | (go_at_call 49; first | (with_reducible refine (HA.out _).mono ?_; rintro e w' ⟨rfl, d1, rfl⟩; rw [lay_bw]) | (with_reducible refine (HB.out _).mono ?_; rintro e w' ⟨rfl, d2, rfl⟩; rw [lay_bw])) | (go_at_call 50; refine (HC.out _).mono ?_; rintro e w' ⟨rfl, d3, rfl⟩; rw [lay_bw]))
      go_ret
      exact ⟨rfl, lay_ex _ _⟩
theorem fn_ParallacticBad (a0 a1 b0 b1 c0 c1 : Int) (w : World) (h : triB a0 a1 b0 b1 c0 c1 = false) :
    Calls Tryz.prog 16 #[(.agg #[.int .i64 (a0), .int .i64 (a1), .int .i64 (b0), .int .i64 (b1), .int .i64 (c0), .int .i64 (c1)])] w fun e w' => e = .returned (.tuple #[(.agg #[.int .i64 (0), .int .i64 (0)]), .int .i64 1]) ∧ ∃ d, w' = bw w d := by
  have HV := Lib.hid (fun W => cos_Valid a0 a1 b0 b1 c0 c1 W)
  rw [h] at HV
  clear h
  refine lay_start ?_
  go_enter Tryz.func16, Tryz.ntmps16
  go_wp2_with (first | (go_at_call 82; refine (HV.out _).mono ?_; rintro e w' ⟨rfl, d1, rfl⟩; rw [lay_bw]))
  exact bodyPost_ret (v := .tuple #[(.agg #[.int .i64 (0), .int .i64 (0)]), .int .i64 1]) (by simp [results, Tryz.results16, go_sem]) rfl ⟨rfl, lay_ex _ _⟩
def unB (a0 a1 b0 b1 c0 c1 g0 g1 l0 l1 : Int) : Bool := triB a0 a1 b0 b1 c0 c1 && validB g0 g1 && validB l0 l1
set_option maxHeartbeats 1000000 in
theorem fn_UnknownBad (a0 a1 b0 b1 c0 c1 g0 g1 l0 l1 : Int) (w : World) (h : unB a0 a1 b0 b1 c0 c1 g0 g1 l0 l1 = false) :
    Calls Tryz.prog 19 #[(.agg #[.int .i64 (a0), .int .i64 (a1)]), (.agg #[.int .i64 (b0), .int .i64 (b1)]), (.agg #[.int .i64 (c0), .int .i64 (c1)]), (.agg #[.int .i64 (g0), .int .i64 (g1)]), (.agg #[.int .i64 (l0), .int .i64 (l1)])] w fun e w' => e = .returned (.tuple #[(.agg #[.int .i64 (0), .int .i64 (0)]), (.agg #[.int .i64 (0), .int .i64 (0)]), .int .i64 1]) ∧ ∃ d, w' = bw w d := by
  have HL1 := Lib.hid (fun W => fn_latitude a0 a1 W)
  have HL2 := Lib.hid (fun W => fn_latitude b0 b1 W)
  have HV1 := Lib.hid (fun W => angle_Valid c0 c1 W)
  have HV2 := Lib.hid (fun W => angle_Valid g0 g1 W)
  have HV3 := Lib.hid (fun W => angle_Valid l0 l1 W)
  unfold unB triB at h
  generalize latB a0 a1 = p1 at *
  generalize latB b0 b1 = p2 at *
  generalize validB c0 c1 = p3 at *
  generalize validB g0 g1 = p4 at *
  generalize validB l0 l1 = p5 at *
  refine lay_start ?_
  cases p1
  · clear h
    go_enter Tryz.func19, Tryz.ntmps19
    go_wp2_with (first | (go_at_call 87; first | ((with_reducible refine (HL1.out _).mono ?_); rintro e w' ⟨rfl, dq, rfl⟩; rw [lay_bw]) | ((with_reducible refine (HL2.out _).mono ?_); rintro e w' ⟨rfl, dq, rfl⟩; rw [lay_bw])) | (go_at_call 39; first | ((with_reducible refine (HV1.out _).mono ?_); rintro e w' ⟨rfl, dq, rfl⟩; rw [lay_bw]) | ((with_reducible refine (HV2.out _).mono ?_); rintro e w' ⟨rfl, dq, rfl⟩; rw [lay_bw]) | ((with_reducible refine (HV3.out _).mono ?_); rintro e w' ⟨rfl, dq, rfl⟩; rw [lay_bw])))
    exact bodyPost_ret (v := .tuple #[(.agg #[.int .i64 (0), .int .i64 (0)]), (.agg #[.int .i64 (0), .int .i64 (0)]), .int .i64 1]) (by simp [results, Tryz.results19, go_sem]) rfl ⟨rfl, lay_ex _ _⟩
  · cases p2
    · clear h
      go_enter Tryz.func19, Tryz.ntmps19
      go_wp2_with (first | (go_at_call 87; first | ((with_reducible refine (HL1.out _).mono ?_); rintro e w' ⟨rfl, dq, rfl⟩; rw [lay_bw]) | ((with_reducible refine (HL2.out _).mono ?_); rintro e w' ⟨rfl, dq, rfl⟩; rw [lay_bw])) | (go_at_call 39; first | ((with_reducible refine (HV1.out _).mono ?_); rintro e w' ⟨rfl, dq, rfl⟩; rw [lay_bw]) | ((with_reducible refine (HV2.out _).mono ?_); rintro e w' ⟨rfl, dq, rfl⟩; rw [lay_bw]) | ((with_reducible refine (HV3.out _).mono ?_); rintro e w' ⟨rfl, dq, rfl⟩; rw [lay_bw])))
      exact bodyPost_ret (v := .tuple #[(.agg #[.int .i64 (0), .int .i64 (0)]), (.agg #[.int .i64 (0), .int .i64 (0)]), .int .i64 1]) (by simp [results, Tryz.results19, go_sem]) rfl ⟨rfl, lay_ex _ _⟩
    · cases p3
      · clear h
        go_enter Tryz.func19, Tryz.ntmps19
        go_wp2_with (first | (go_at_call 87; first | ((with_reducible refine (HL1.out _).mono ?_); rintro e w' ⟨rfl, dq, rfl⟩; rw [lay_bw]) | ((with_reducible refine (HL2.out _).mono ?_); rintro e w' ⟨rfl, dq, rfl⟩; rw [lay_bw])) | (go_at_call 39; first | ((with_reducible refine (HV1.out _).mono ?_); rintro e w' ⟨rfl, dq, rfl⟩; rw [lay_bw]) | ((with_reducible refine (HV2.out _).mono ?_); rintro e w' ⟨rfl, dq, rfl⟩; rw [lay_bw]) | ((with_reducible refine (HV3.out _).mono ?_); rintro e w' ⟨rfl, dq, rfl⟩; rw [lay_bw])))
        exact bodyPost_ret (v := .tuple #[(.agg #[.int .i64 (0), .int .i64 (0)]), (.agg #[.int .i64 (0), .int .i64 (0)]), .int .i64 1]) (by simp [results, Tryz.results19, go_sem]) rfl ⟨rfl, lay_ex _ _⟩
      · cases p4
        · clear h
          go_enter Tryz.func19, Tryz.ntmps19
          go_wp2_with (first | (go_at_call 87; first | ((with_reducible refine (HL1.out _).mono ?_); rintro e w' ⟨rfl, dq, rfl⟩; rw [lay_bw]) | ((with_reducible refine (HL2.out _).mono ?_); rintro e w' ⟨rfl, dq, rfl⟩; rw [lay_bw])) | (go_at_call 39; first | ((with_reducible refine (HV1.out _).mono ?_); rintro e w' ⟨rfl, dq, rfl⟩; rw [lay_bw]) | ((with_reducible refine (HV2.out _).mono ?_); rintro e w' ⟨rfl, dq, rfl⟩; rw [lay_bw]) | ((with_reducible refine (HV3.out _).mono ?_); rintro e w' ⟨rfl, dq, rfl⟩; rw [lay_bw])))
          exact bodyPost_ret (v := .tuple #[(.agg #[.int .i64 (0), .int .i64 (0)]), (.agg #[.int .i64 (0), .int .i64 (0)]), .int .i64 1]) (by simp [results, Tryz.results19, go_sem]) rfl ⟨rfl, lay_ex _ _⟩
        · cases p5
          · clear h
            go_enter Tryz.func19, Tryz.ntmps19
            go_wp2_with (first | (go_at_call 87; first | ((with_reducible refine (HL1.out _).mono ?_); rintro e w' ⟨rfl, dq, rfl⟩; rw [lay_bw]) | ((with_reducible refine (HL2.out _).mono ?_); rintro e w' ⟨rfl, dq, rfl⟩; rw [lay_bw])) | (go_at_call 39; first | ((with_reducible refine (HV1.out _).mono ?_); rintro e w' ⟨rfl, dq, rfl⟩; rw [lay_bw]) | ((with_reducible refine (HV2.out _).mono ?_); rintro e w' ⟨rfl, dq, rfl⟩; rw [lay_bw]) | ((with_reducible refine (HV3.out _).mono ?_); rintro e w' ⟨rfl, dq, rfl⟩; rw [lay_bw])))
            exact bodyPost_ret (v := .tuple #[(.agg #[.int .i64 (0), .int .i64 (0)]), (.agg #[.int .i64 (0), .int .i64 (0)]), .int .i64 1]) (by simp [results, Tryz.results19, go_sem]) rfl ⟨rfl, lay_ex _ _⟩
          · exact absurd h (by decide)
end Go.Proofs.YtnnmfdeeicpdlaaGreat
/- The reference's Unknown, at all arguments. -/
namespace Go.Proofs.YtnnmfdeeicpdlaaGreat
set_option maxHeartbeats 1000000
set_option maxRecDepth 100000
open Go.RowKit

theorem r51_Unknown (a0 a1 b0 b1 c0 c1 g0 g1 l0 l1 z0 z1 p0 p1 q0 q1 : Int) (w : World) (h : triB a0 a1 b0 b1 c0 c1 = true) (hg : validB g0 g1 = true) (hl : validB l0 l1 = true) (hz : azF a0 a1 b0 b1 c0 c1 = (z0, z1))
    (hp : p0 = z0 - l1 ∧ p1 = z1 - l0) (hq : q0 = p0 - g1 ∧ q1 = p1 - g0) :
    Calls Tryz.prog 20 #[(.agg #[.int .i64 (a0), .int .i64 (a1)]), (.agg #[.int .i64 (b0), .int .i64 (b1)]), (.agg #[.int .i64 (c0), .int .i64 (c1)]), (.agg #[.int .i64 (g0), .int .i64 (g1)]), (.agg #[.int .i64 (l0), .int .i64 (l1)])] w fun e w' => e = .returned (.tuple #[(.agg #[.int .i64 (turnLo q0 q1), .int .i64 (turnHi q0 q1)]), (.agg #[.int .i64 (alL a0 a1 b0 b1 c0 c1), .int .i64 (alH a0 a1 b0 b1 c0 c1)]), .int .i64 0]) ∧ ∃ d, w' = bw w d := by
  have HT := Lib.hid (fun W => r25_Valid a0 a1 b0 b1 c0 c1 W)
  have HG := Lib.hid (fun W => ref05_Valid g0 g1 W)
  have HL := Lib.hid (fun W => ref05_Valid l0 l1 W)
  rw [h] at HT
  rw [hg] at HG
  rw [hl] at HL
  have HS := Lib.hid (fun W => r25_Solve a0 a1 b0 b1 c0 c1 W h)
  have hb := brF_bd (azX a0 a1 b0 b1 c0 c1).1 (azX a0 a1 b0 b1 c0 c1).2 (azY b0 b1 c0 c1).1 (azY b0 b1 c0 c1).2
  change 0 ≤ (azF a0 a1 b0 b1 c0 c1).1 ∧ (azF a0 a1 b0 b1 c0 c1).1 ≤ (azF a0 a1 b0 b1 c0 c1).2 ∧ (azF a0 a1 b0 b1 c0 c1).2 ≤ 43200000 at hb
  rw [hz] at HS hb
  dsimp only at HS hb
  have vl := validB_iff.1 hl
  have vg := validB_iff.1 hg
  have HS1 : Hid (∀ W, Calls _ _ #[_, _] W fun e w' => e = .returned (.agg #[.int .i64 (p0), .int .i64 (p1)]) ∧ _) := Lib.hid (fun W => by
    have := ref05_Sub z0 z1 l0 l1 W (by omega) (by omega) (by omega) (by omega)
    rw [← hp.1, ← hp.2] at this
    exact this)
  have HS2 : Hid (∀ W, Calls _ _ #[_, _] W fun e w' => e = .returned (.agg #[.int .i64 (q0), .int .i64 (q1)]) ∧ _) := Lib.hid (fun W => by
    have := ref05_Sub p0 p1 g0 g1 W (by omega) (by omega) (by omega) (by omega)
    rw [← hq.1, ← hq.2] at this
    exact this)
  have HTu := Lib.hid (fun W => ref05_Turn q0 q1 W (by omega) (by omega) (by omega))
  clear h hg hl hz hp hq hb vl vg
  generalize alL a0 a1 b0 b1 c0 c1 = x0 at *
  generalize alH a0 a1 b0 b1 c0 c1 = x1 at *
  generalize turnLo q0 q1 = r0 at *
  generalize turnHi q0 q1 = r1 at *
  refine lay_start ?_
  go_enter Tryz.func20, Tryz.ntmps20
  go_wp2_with (first | (go_at_call 17; refine (HT.out _).mono ?_; rintro e w' ⟨rfl, d1, rfl⟩; rw [lay_bw]) | (go_at_call 50; first | ((with_reducible refine (HG.out _).mono ?_); rintro e w' ⟨rfl, dG, rfl⟩; rw [lay_bw]) | ((with_reducible refine (HL.out _).mono ?_); rintro e w' ⟨rfl, dL, rfl⟩; rw [lay_bw])) | (go_at_call 89; refine (HS.out _).mono ?_; rintro e w' ⟨rfl, d2, rfl⟩; rw [lay_bw]))
  have hCl : ∀ (p : Array Value × Ext) d, ∃ p' : Array Value × Ext, bw (lay w [.inr p.2, .inl (.cells #[.int .i64 x0, .int .i64 x1, .int .i64 z0, .int .i64 z1] 56 (0, 0)), .inr d2, .inr dL, .inr dG, .inr d1, .inl (.cells #[.int .i64 a0, .int .i64 a1, .int .i64 b0, .int .i64 b1, .int .i64 c0, .int .i64 c1] 45 (0, 0)), .inl (.cells #[.int .i64 0, .int .i64 0] 23 (0, 0)), .inl (.cells p.1 23 (0, 0)), .inl (.cells #[.int .i64 l0, .int .i64 l1] 23 (0, 0)), .inl (.cells #[.int .i64 g0, .int .i64 g1] 23 (0, 0)), .inl (.cells #[.int .i64 c0, .int .i64 c1] 23 (0, 0)), .inl (.cells #[.int .i64 b0, .int .i64 b1] 23 (0, 0)), .inl (.cells #[.int .i64 a0, .int .i64 a1] 23 (0, 0))]) d = lay w [.inr p'.2, .inl (.cells #[.int .i64 x0, .int .i64 x1, .int .i64 z0, .int .i64 z1] 56 (0, 0)), .inr d2, .inr dL, .inr dG, .inr d1, .inl (.cells #[.int .i64 a0, .int .i64 a1, .int .i64 b0, .int .i64 b1, .int .i64 c0, .int .i64 c1] 45 (0, 0)), .inl (.cells #[.int .i64 0, .int .i64 0] 23 (0, 0)), .inl (.cells p'.1 23 (0, 0)), .inl (.cells #[.int .i64 l0, .int .i64 l1] 23 (0, 0)), .inl (.cells #[.int .i64 g0, .int .i64 g1] 23 (0, 0)), .inl (.cells #[.int .i64 c0, .int .i64 c1] 23 (0, 0)), .inl (.cells #[.int .i64 b0, .int .i64 b1] 23 (0, 0)), .inl (.cells #[.int .i64 a0, .int .i64 a1] 23 (0, 0))] := fun p d => ⟨(p.1, _), (lay_fold w [.inr d, .inr p.2] [.inl (.cells #[.int .i64 x0, .int .i64 x1, .int .i64 z0, .int .i64 z1] 56 (0, 0)), .inr d2, .inr dL, .inr dG, .inr d1, .inl (.cells #[.int .i64 a0, .int .i64 a1, .int .i64 b0, .int .i64 b1, .int .i64 c0, .int .i64 c1] 45 (0, 0)), .inl (.cells #[.int .i64 0, .int .i64 0] 23 (0, 0)), .inl (.cells p.1 23 (0, 0)), .inl (.cells #[.int .i64 l0, .int .i64 l1] 23 (0, 0)), .inl (.cells #[.int .i64 g0, .int .i64 g1] 23 (0, 0)), .inl (.cells #[.int .i64 c0, .int .i64 c1] 23 (0, 0)), .inl (.cells #[.int .i64 b0, .int .i64 b1] 23 (0, 0)), .inl (.cells #[.int .i64 a0, .int .i64 a1] 23 (0, 0))]).choose_spec⟩
  refine region_mixSC 10 [(0, 0), (1, 0), (2, 0), (3, 0), (4, 0), (5, 0), (6, 0), (7, 0), (8, 0), (9, 1), (10, 3), (11, 3)] (fun p : Array Value × Ext => lay w [.inr p.2, .inl (.cells #[.int .i64 x0, .int .i64 x1, .int .i64 z0, .int .i64 z1] 56 (0, 0)), .inr d2, .inr dL, .inr dG, .inr d1, .inl (.cells #[.int .i64 a0, .int .i64 a1, .int .i64 b0, .int .i64 b1, .int .i64 c0, .int .i64 c1] 45 (0, 0)), .inl (.cells #[.int .i64 0, .int .i64 0] 23 (0, 0)), .inl (.cells p.1 23 (0, 0)), .inl (.cells #[.int .i64 l0, .int .i64 l1] 23 (0, 0)), .inl (.cells #[.int .i64 g0, .int .i64 g1] 23 (0, 0)), .inl (.cells #[.int .i64 c0, .int .i64 c1] 23 (0, 0)), .inl (.cells #[.int .i64 b0, .int .i64 b1] 23 (0, 0)), .inl (.cells #[.int .i64 a0, .int .i64 a1] 23 (0, 0))]) hCl ⟨(#[.int .i64 0, .int .i64 0], noExt _), (bw_noExt (lay w [.inl (.cells #[.int .i64 x0, .int .i64 x1, .int .i64 z0, .int .i64 z1] 56 (0, 0)), .inr d2, .inr dL, .inr dG, .inr d1, .inl (.cells #[.int .i64 a0, .int .i64 a1, .int .i64 b0, .int .i64 b1, .int .i64 c0, .int .i64 c1] 45 (0, 0)), .inl (.cells #[.int .i64 0, .int .i64 0] 23 (0, 0)), .inl (.cells #[.int .i64 0, .int .i64 0] 23 (0, 0)), .inl (.cells #[.int .i64 l0, .int .i64 l1] 23 (0, 0)), .inl (.cells #[.int .i64 g0, .int .i64 g1] 23 (0, 0)), .inl (.cells #[.int .i64 c0, .int .i64 c1] 23 (0, 0)), .inl (.cells #[.int .i64 b0, .int .i64 b1] 23 (0, 0)), .inl (.cells #[.int .i64 a0, .int .i64 a1] 23 (0, 0))])).symm⟩ (by kernel_rfl) (by kernel_rfl) (by kernel_rfl) rfl ?_
  repeat (refine wpMS_quiet rfl (fun K hK => ?_); go_simp; (first | (refine hK _ ?_; clear hK K) | (apply Exists.intro; refine ⟨fun p => ?_, hK _ ?_⟩; (intro b; first | (go_at_call 58; first | ((with_reducible refine bq (HS1.out _) ?_); first | exact (fun d => ⟨d, rfl⟩) | exact (fun d => lay_join _ _ _ d)) | ((with_reducible refine bq (HS2.out _) ?_); first | exact (fun d => ⟨d, rfl⟩) | exact (fun d => lay_join _ _ _ d))) | (go_at_call 90; (with_reducible refine bq (HTu.out _) ?_); first | exact (fun d => ⟨d, rfl⟩) | exact (fun d => lay_join _ _ _ d))); clear hK K)))
  refine wpMS_special rfl (fun K hK e9 => ?_)
  rw [lay_bw]
  go_simp
  refine hK _ _ ⟨(_, _), (lay_fold w [.inr e9] [.inl (.cells #[.int .i64 x0, .int .i64 x1, .int .i64 z0, .int .i64 z1] 56 (0, 0)), .inr d2, .inr dL, .inr dG, .inr d1, .inl (.cells #[.int .i64 a0, .int .i64 a1, .int .i64 b0, .int .i64 b1, .int .i64 c0, .int .i64 c1] 45 (0, 0)), .inl (.cells #[.int .i64 0, .int .i64 0] 23 (0, 0)), .inl (.cells #[.int .i64 r0, .int .i64 r1] 23 (0, 0)), .inl (.cells #[.int .i64 l0, .int .i64 l1] 23 (0, 0)), .inl (.cells #[.int .i64 g0, .int .i64 g1] 23 (0, 0)), .inl (.cells #[.int .i64 c0, .int .i64 c1] 23 (0, 0)), .inl (.cells #[.int .i64 b0, .int .i64 b1] 23 (0, 0)), .inl (.cells #[.int .i64 a0, .int .i64 a1] 23 (0, 0))]).choose_spec⟩ ?_
  clear hK K
  refine wpMS_store rfl (fun K hK e10 => ?_)
  rw [lay_bw]
  go_simp
  refine hK _ _ ?_
  clear hK K
  refine wpMS_store rfl (fun K hK e11 => ?_)
  rw [lay_bw]
  go_simp
  refine hK _ _ ?_
  clear hK K
  refine wpMS_nil (fun e12 => ?_)
  rw [lay_bw]
  go_wp2_with fail
  exact bodyPost_ret (v := .tuple #[(.agg #[.int .i64 (r0), .int .i64 (r1)]), (.agg #[.int .i64 (x0), .int .i64 (x1)]), .int .i64 0]) (by simp [results, Tryz.results20, go_sem]) rfl ⟨rfl, lay_ex _ _⟩
theorem r51_UnknownBad (a0 a1 b0 b1 c0 c1 g0 g1 l0 l1 : Int) (w : World) (h : unB a0 a1 b0 b1 c0 c1 g0 g1 l0 l1 = false) :
    Calls Tryz.prog 20 #[(.agg #[.int .i64 (a0), .int .i64 (a1)]), (.agg #[.int .i64 (b0), .int .i64 (b1)]), (.agg #[.int .i64 (c0), .int .i64 (c1)]), (.agg #[.int .i64 (g0), .int .i64 (g1)]), (.agg #[.int .i64 (l0), .int .i64 (l1)])] w fun e w' => e = .returned (.tuple #[(.agg #[.int .i64 (0), .int .i64 (0)]), (.agg #[.int .i64 (0), .int .i64 (0)]), .int .i64 1]) ∧ ∃ d, w' = bw w d := by
  have HT := Lib.hid (fun W => r25_Valid a0 a1 b0 b1 c0 c1 W)
  have HG := Lib.hid (fun W => ref05_Valid g0 g1 W)
  have HL := Lib.hid (fun W => ref05_Valid l0 l1 W)
  unfold unB at h
  generalize triB a0 a1 b0 b1 c0 c1 = p3 at *
  generalize validB g0 g1 = p4 at *
  generalize validB l0 l1 = p5 at *
  refine lay_start ?_
  cases p3
  · clear h
    go_enter Tryz.func20, Tryz.ntmps20
    go_wp2_with (first | (go_at_call 17; refine (HT.out _).mono ?_; rintro e w' ⟨rfl, d1, rfl⟩; rw [lay_bw]) | (go_at_call 50; first | ((with_reducible refine (HG.out _).mono ?_); rintro e w' ⟨rfl, dq, rfl⟩; rw [lay_bw]) | ((with_reducible refine (HL.out _).mono ?_); rintro e w' ⟨rfl, dq, rfl⟩; rw [lay_bw])))
    exact bodyPost_ret (v := .tuple #[(.agg #[.int .i64 (0), .int .i64 (0)]), (.agg #[.int .i64 (0), .int .i64 (0)]), .int .i64 1]) (by simp [results, Tryz.results20, go_sem]) rfl ⟨rfl, lay_ex _ _⟩
  · cases p4
    · clear h
      go_enter Tryz.func20, Tryz.ntmps20
      go_wp2_with (first | (go_at_call 17; refine (HT.out _).mono ?_; rintro e w' ⟨rfl, d1, rfl⟩; rw [lay_bw]) | (go_at_call 50; first | ((with_reducible refine (HG.out _).mono ?_); rintro e w' ⟨rfl, dq, rfl⟩; rw [lay_bw]) | ((with_reducible refine (HL.out _).mono ?_); rintro e w' ⟨rfl, dq, rfl⟩; rw [lay_bw])))
      exact bodyPost_ret (v := .tuple #[(.agg #[.int .i64 (0), .int .i64 (0)]), (.agg #[.int .i64 (0), .int .i64 (0)]), .int .i64 1]) (by simp [results, Tryz.results20, go_sem]) rfl ⟨rfl, lay_ex _ _⟩
    · cases p5
      · clear h
        go_enter Tryz.func20, Tryz.ntmps20
        go_wp2_with (first | (go_at_call 17; refine (HT.out _).mono ?_; rintro e w' ⟨rfl, d1, rfl⟩; rw [lay_bw]) | (go_at_call 50; first | ((with_reducible refine (HG.out _).mono ?_); rintro e w' ⟨rfl, dq, rfl⟩; rw [lay_bw]) | ((with_reducible refine (HL.out _).mono ?_); rintro e w' ⟨rfl, dq, rfl⟩; rw [lay_bw])))
        exact bodyPost_ret (v := .tuple #[(.agg #[.int .i64 (0), .int .i64 (0)]), (.agg #[.int .i64 (0), .int .i64 (0)]), .int .i64 1]) (by simp [results, Tryz.results20, go_sem]) rfl ⟨rfl, lay_ex _ _⟩
      · exact absurd h (by decide)
end Go.Proofs.YtnnmfdeeicpdlaaGreat
/- FinderAngles: Parallactic and Unknown return what the reference does. -/
namespace Go.Proofs.YtnnmfdeeicpdlaaGreat
open Go.RowKit

theorem unk_both (a0 a1 b0 b1 c0 c1 g0 g1 l0 l1 : Int) : ∃ x0 x1 y0 y1 k : Int, (k = 0 ∨ k = 1) ∧
    Hid (∀ W, Calls Tryz.prog 19 #[(.agg #[.int .i64 (a0), .int .i64 (a1)]), (.agg #[.int .i64 (b0), .int .i64 (b1)]), (.agg #[.int .i64 (c0), .int .i64 (c1)]), (.agg #[.int .i64 (g0), .int .i64 (g1)]), (.agg #[.int .i64 (l0), .int .i64 (l1)])] W fun e w' => e = .returned (.tuple #[(.agg #[.int .i64 (x0), .int .i64 (x1)]), (.agg #[.int .i64 (y0), .int .i64 (y1)]), .int .i64 k]) ∧ ∃ d, w' = bw W d) ∧
    Hid (∀ W, Calls Tryz.prog 20 #[(.agg #[.int .i64 (a0), .int .i64 (a1)]), (.agg #[.int .i64 (b0), .int .i64 (b1)]), (.agg #[.int .i64 (c0), .int .i64 (c1)]), (.agg #[.int .i64 (g0), .int .i64 (g1)]), (.agg #[.int .i64 (l0), .int .i64 (l1)])] W fun e w' => e = .returned (.tuple #[(.agg #[.int .i64 (x0), .int .i64 (x1)]), (.agg #[.int .i64 (y0), .int .i64 (y1)]), .int .i64 k]) ∧ ∃ d, w' = bw W d) := by
  cases h : unB a0 a1 b0 b1 c0 c1 g0 g1 l0 l1
  · exact ⟨0, 0, 0, 0, 1, .inr rfl, Lib.hid (fun W => fn_UnknownBad _ _ _ _ _ _ _ _ _ _ W h), Lib.hid (fun W => r51_UnknownBad _ _ _ _ _ _ _ _ _ _ W h)⟩
  · unfold unB at h
    simp only [Bool.and_eq_true] at h
    obtain ⟨⟨h1, h2⟩, h3⟩ := h
    have hb := brF_bd (azX a0 a1 b0 b1 c0 c1).1 (azX a0 a1 b0 b1 c0 c1).2 (azY b0 b1 c0 c1).1 (azY b0 b1 c0 c1).2
    change 0 ≤ (azF a0 a1 b0 b1 c0 c1).1 ∧ (azF a0 a1 b0 b1 c0 c1).1 ≤ (azF a0 a1 b0 b1 c0 c1).2 ∧ (azF a0 a1 b0 b1 c0 c1).2 ≤ 43200000 at hb
    obtain ⟨t1, t2⟩ := turn_three hb.2.1 (validB_iff.1 h3).1 (validB_iff.1 h2).1
    have k1 := fun W => fn_Unknown a0 a1 b0 b1 c0 c1 g0 g1 l0 l1 (azF a0 a1 b0 b1 c0 c1).1 (azF a0 a1 b0 b1 c0 c1).2 _ _ _ _ W h1 h2 h3 rfl ⟨rfl, rfl⟩ ⟨rfl, rfl⟩
    have k2 := fun W => r51_Unknown a0 a1 b0 b1 c0 c1 g0 g1 l0 l1 (azF a0 a1 b0 b1 c0 c1).1 (azF a0 a1 b0 b1 c0 c1).2 _ _ _ _ W h1 h2 h3 rfl ⟨rfl, rfl⟩ ⟨rfl, rfl⟩
    simp only [t1, t2] at k1
    exact ⟨_, _, _, _, 0, .inl rfl, Lib.hid k1, Lib.hid k2⟩
set_option maxHeartbeats 4000000 in
set_option maxRecDepth 100000 in
theorem law51_Angles (a0 a1 b0 b1 c0 c1 z0 z1 g0 g1 l0 l1 : Int) (w : World) :
    Calls Tryz.prog 5 #[(.agg #[.int .i64 (a0), .int .i64 (a1), .int .i64 (b0), .int .i64 (b1), .int .i64 (c0), .int .i64 (c1)]), (.agg #[.int .i64 (z0), .int .i64 (z1)]), (.agg #[.int .i64 (g0), .int .i64 (g1)]), (.agg #[.int .i64 (l0), .int .i64 (l1)])] w fun e w' => e = .returned (.bool true) ∧ ∃ d, w' = bw w d := by
  have HA := Lib.hid (fun W => law51_awake W)
  have HT := Lib.hid (fun W => r25_Valid a0 a1 b0 b1 c0 c1 W)
  obtain ⟨x0, x1, y0, y1, k, hk, HU, HR⟩ := unk_both a0 a1 b0 b1 z0 z1 g0 g1 l0 l1
  have kk : IntKind.i64.wrap k = k := IntWalk.i64_in _ (by omega)
  clear hk
  cases h : triB a0 a1 b0 b1 c0 c1
  · have HP := Lib.hid (fun W => fn_ParallacticBad _ _ _ _ _ _ W h)
    rw [h] at HT
    clear h
    refine lay_start ?_
    go_enter Tryz.func5, Tryz.ntmps5
    go_wp2_with (first | (go_at_call 15; refine (HA.out _).mono ?_; rintro e w' ⟨rfl, d1, rfl⟩; rw [lay_bw]) | (go_at_call 16; refine (HP.out _).mono ?_; rintro e w' ⟨rfl, d2, rfl⟩; rw [lay_bw]) | (go_at_call 17; refine (HT.out _).mono ?_; rintro e w' ⟨rfl, d3, rfl⟩; rw [lay_bw]) | (go_at_call 19; refine (HU.out _).mono ?_; rintro e w' ⟨rfl, d5, rfl⟩; rw [lay_bw]) | (go_at_call 20; refine (HR.out _).mono ?_; rintro e w' ⟨rfl, d6, rfl⟩; rw [lay_bw]))
    go_ret
    exact ⟨rfl, lay_ex _ _⟩
  · have HP := Lib.hid (fun W => fn_Parallactic _ _ _ _ _ _ W h)
    have HQ := Lib.hid (fun W => r51_Parallactic _ _ _ _ _ _ W h)
    rw [h] at HT
    clear h
    generalize (paF a0 a1 b0 b1 c0 c1).1 = u at *
    generalize (paF a0 a1 b0 b1 c0 c1).2 = v at *
    refine lay_start ?_
    go_enter Tryz.func5, Tryz.ntmps5
    go_wp2_with (first | (go_at_call 15; refine (HA.out _).mono ?_; rintro e w' ⟨rfl, d1, rfl⟩; rw [lay_bw]) | (go_at_call 16; refine (HP.out _).mono ?_; rintro e w' ⟨rfl, d2, rfl⟩; rw [lay_bw]) | (go_at_call 17; refine (HT.out _).mono ?_; rintro e w' ⟨rfl, d3, rfl⟩; rw [lay_bw]) | (go_at_call 19; refine (HU.out _).mono ?_; rintro e w' ⟨rfl, d5, rfl⟩; rw [lay_bw]) | (go_at_call 20; refine (HR.out _).mono ?_; rintro e w' ⟨rfl, d6, rfl⟩; rw [lay_bw]))
    refine region_bw (by kernel_rfl) (by kernel_rfl) ?_
    repeat (go_big_quiet_step ((first | (go_at_call 18; first | exact bq (HQ.out _) (fun d => ⟨d, rfl⟩) | exact bq (HQ.out _) (fun d => lay_join _ _ _ d)))))
    refine wpQuiet_nil ?_
    rintro w' ⟨d, rfl⟩
    rw [lay_bw]
    go_wp2_with (first | (go_at_call 15; refine (HA.out _).mono ?_; rintro e w' ⟨rfl, d1, rfl⟩; rw [lay_bw]) | (go_at_call 16; refine (HP.out _).mono ?_; rintro e w' ⟨rfl, d2, rfl⟩; rw [lay_bw]) | (go_at_call 17; refine (HT.out _).mono ?_; rintro e w' ⟨rfl, d3, rfl⟩; rw [lay_bw]) | (go_at_call 19; refine (HU.out _).mono ?_; rintro e w' ⟨rfl, d5, rfl⟩; rw [lay_bw]) | (go_at_call 20; refine (HR.out _).mono ?_; rintro e w' ⟨rfl, d6, rfl⟩; rw [lay_bw]))
    go_ret
    exact ⟨rfl, lay_ex _ _⟩
theorem law51_AnglesA (a0 a1 b0 b1 c0 c1 z0 z1 : Int) (_ : (Lit.int .i64 z0).wf = true) (_ : (Lit.int .i64 z1).wf = true) (g0 g1 : Int) (_ : (Lit.int .i64 g0).wf = true) (_ : (Lit.int .i64 g1).wf = true) (l0 l1 : Int) (_ : (Lit.int .i64 l0).wf = true) (_ : (Lit.int .i64 l1).wf = true) (w : World) :
    Calls Tryz.prog 5 #[(.agg #[.int .i64 (a0), .int .i64 (a1), .int .i64 (b0), .int .i64 (b1), .int .i64 (c0), .int .i64 (c1)]), (.agg #[.int .i64 (z0), .int .i64 (z1)]), (.agg #[.int .i64 (g0), .int .i64 (g1)]), (.agg #[.int .i64 (l0), .int .i64 (l1)])] w fun e w' => e = .returned (.bool true) ∧ ∃ d, w' = bw w d := law51_Angles a0 a1 b0 b1 c0 c1 z0 z1 g0 g1 l0 l1 w
end Go.Proofs.YtnnmfdeeicpdlaaGreat
