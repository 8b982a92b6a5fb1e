/- Contracts and plain laws, several texts in one: BoL -/
import Derived.Test.YtakcfcekdngndaaGreatProg
import Derived.WalkKit
import Derived.WalkSpells
import Derived.WalkLawsBesides
import Derived.Lib.Hide
import Derived.BigQuiet
import Derived.Test.YtakcfcekdngndaaGreatBAA
import Derived.Test.YtakcfcekdngndaaGreatBAB
import Derived.Test.YtakcfcekdngndaaGreatBAS
import Derived.Test.YtakcfcekdngndaaGreatBAV
import Derived.Test.YtakcfcekdngndaaGreatBAW
/- The law CompassBodies. -/
namespace Go.Proofs.YtakcfcekdngndaaGreat
open Go.RowKit

set_option maxRecDepth 100000 in
theorem comp_ErrorBy_bad (o0 o1 z0 z1 : Int) (w : World) (h : (validB o0 o1 && validB z0 z1) = false) :
    Calls Tryz.prog 11 #[(.agg #[.int .i64 (o0), .int .i64 (o1)]), (.agg #[.int .i64 (z0), .int .i64 (z1)])] w fun e w' => e = .returned (.tuple #[(.agg #[.int .i64 (0), .int .i64 (0)]), .int .i64 1]) ∧ ∃ d, w' = bw w d := by
  have H1 := Lib.hid (fun W => angle_Valid o0 o1 W)
  have H2 := Lib.hid (fun W => angle_Valid z0 z1 W)
  generalize validB o0 o1 = p at *
  generalize validB z0 z1 = q at *
  have hc : (p = false) ∨ (p = true ∧ q = false) := by cases p <;> cases q <;> simp_all
  clear h
  rcases hc with rfl | ⟨rfl, rfl⟩
  all_goals
    refine lay_start ?_
    go_enter Tryz.func11, Tryz.ntmps11
    go_wp2_with (go_at_call 23; first | (with_reducible refine (H1.out _).mono ?_; rintro e w' ⟨rfl, d1, rfl⟩; rw [lay_bw]) | (with_reducible refine (H2.out _).mono ?_; rintro e w' ⟨rfl, d2, rfl⟩; rw [lay_bw]))
    exact bodyPost_ret (v := .tuple #[(.agg #[.int .i64 (0), .int .i64 (0)]), .int .i64 1]) (by simp [results, Tryz.results11, go_sem]) rfl ⟨rfl, lay_ex _ _⟩
set_option maxHeartbeats 4000000 in
set_option maxRecDepth 100000 in
theorem law34_Bodies {w : World} (a0 a1 : Int) (_ : (Lit.int .i64 a0).wf = true) (_ : (Lit.int .i64 a1).wf = true) (b0 b1 : Int) (_ : (Lit.int .i64 b0).wf = true) (_ : (Lit.int .i64 b1).wf = true) :
    Calls Tryz.prog 4 #[(.agg #[.int .i64 (a0), .int .i64 (a1)]), (.agg #[.int .i64 (b0), .int .i64 (b1)])] w fun e w' => e = .returned (.bool true) ∧ ∃ d, w' = bw w d := by
  have HL1 := Lib.hid (fun W => ref25_Latitude a0 a1 W)
  have HL2 := Lib.hid (fun W => ref25_Latitude b0 b1 W)
  have HV1 := Lib.hid (fun W => ref05_Valid a0 a1 W)
  have HV2 := Lib.hid (fun W => ref05_Valid b0 b1 W)
  -- the amplitude
  have A : ∃ x0 x1 x : Int, Hid (∀ W, Calls Tryz.prog 10 #[(.agg #[.int .i64 (a0), .int .i64 (a1)]), (.agg #[.int .i64 (b0), .int .i64 (b1)])] W fun e w' => e = .returned (.tuple #[(.agg #[.int .i64 (x0), .int .i64 (x1)]), .int .i64 x]) ∧ ∃ d, w' = bw W d) ∧ ((latB a0 a1 = true ∧ latB b0 b1 = true ∧ Hid (∀ W, Calls Tryz.prog 13 #[(.agg #[.int .i64 (a0), .int .i64 (a1)]), (.agg #[.int .i64 (b0), .int .i64 (b1)])] W fun e w' => e = .returned (.tuple #[(.agg #[.int .i64 (x0), .int .i64 (x1)]), .int .i64 x]) ∧ ∃ d, w' = bw W d)) ∨ ((latB a0 a1 = false ∨ (latB a0 a1 = true ∧ latB b0 b1 = false)) ∧ x0 = 0 ∧ x1 = 0 ∧ x = 1)) := by
    cases h : (latB a0 a1 && latB b0 b1)
    · refine ⟨0, 0, 1, Lib.hid fun W => comp_AmpBad _ _ _ _ W h, .inr ⟨?_, rfl, rfl, rfl⟩⟩
      cases g : latB a0 a1
      · exact .inl rfl
      · rw [g] at h; exact .inr ⟨rfl, by simpa using h⟩
    · rw [Bool.and_eq_true] at h
      exact ⟨_, _, _, Lib.hid fun W => comp_Amp _ _ _ _ W h.1 h.2, .inl ⟨h.1, h.2, Lib.hid fun W => r34_Amp _ _ _ _ W h.1 h.2⟩⟩
  have B : ∃ y0 y1 y : Int, Hid (∀ W, Calls Tryz.prog 11 #[(.agg #[.int .i64 (a0), .int .i64 (a1)]), (.agg #[.int .i64 (b0), .int .i64 (b1)])] W fun e w' => e = .returned (.tuple #[(.agg #[.int .i64 (y0), .int .i64 (y1)]), .int .i64 y]) ∧ ∃ d, w' = bw W d) ∧ (((validB a0 a1 = false ∨ (validB a0 a1 = true ∧ validB b0 b1 = false)) ∧ y0 = 0 ∧ y1 = 0 ∧ y = 1) ∨ (validB a0 a1 = true ∧ validB b0 b1 = true ∧ ∃ p q : Bool, Hid (∀ W, Calls Tryz.prog 15 #[(.agg #[.int .i64 (a0), .int .i64 (a1)])] W fun e w' => e = .returned (.bool p) ∧ ∃ d, w' = bw W d) ∧ Hid (∀ W, Calls Tryz.prog 15 #[(.agg #[.int .i64 (b0), .int .i64 (b1)])] W fun e w' => e = .returned (.bool q) ∧ ∃ d, w' = bw W d) ∧ (((p = false ∨ (p = true ∧ q = false)) ∧ y0 = 0 ∧ y1 = 0 ∧ y = 2) ∨ (p = true ∧ q = true ∧ y = 0 ∧ Hid (∀ W, Calls Tryz.prog 16 #[(.agg #[.int .i64 (a0), .int .i64 (a1)]), (.agg #[.int .i64 (b0), .int .i64 (b1)])] W fun e w' => e = .returned (.agg #[.int .i64 (y0), .int .i64 (y1)]) ∧ ∃ d, w' = bw W d))))) := by
    cases h : (validB a0 a1 && validB b0 b1)
    · refine ⟨0, 0, 1, Lib.hid fun W => comp_ErrorBy_bad _ _ _ _ W h, .inl ⟨?_, rfl, rfl, rfl⟩⟩
      cases g : validB a0 a1
      · exact .inl rfl
      · rw [g] at h; exact .inr ⟨rfl, by simpa using h⟩
    · rw [Bool.and_eq_true] at h
      have N1 := Lib.hid (fun W => r34_Near a0 a1 W (validB_iff.1 h.1).1)
      have N2 := Lib.hid (fun W => r34_Near b0 b1 W (validB_iff.1 h.2).1)
      cases g : (nearB a0 a1 && nearB b0 b1)
      · refine ⟨0, 0, 2, Lib.hid fun W => comp_ErrorBy_far _ _ _ _ W h.1 h.2 g, .inr ⟨h.1, h.2, _, _, N1, N2, .inl ⟨?_, rfl, rfl, rfl⟩⟩⟩
        cases k : nearB a0 a1
        · exact .inl rfl
        · rw [k] at g; exact .inr ⟨rfl, by simpa using g⟩
      · rw [Bool.and_eq_true] at g
        exact ⟨_, _, _, Lib.hid fun W => comp_ErrorBy_ok _ _ _ _ W h.1 h.2 g.1 g.2, .inr ⟨h.1, h.2, _, _, N1, N2, .inr ⟨g.1, g.2, rfl, Lib.hid fun W => r34_ErrorBy _ _ _ _ W h.1 h.2⟩⟩⟩
  obtain ⟨x0, x1, x, HA, hA⟩ := A
  obtain ⟨y0, y1, y, HB, hB⟩ := B
  generalize latB a0 a1 = la at *
  generalize latB b0 b1 = lb at *
  generalize validB a0 a1 = va at *
  generalize validB b0 b1 = vb at *
  have t1 : (x0 == x0) = true := beq_iff_eq.2 rfl
  have t2 : (x1 == x1) = true := beq_iff_eq.2 rfl
  have t3 : (x == x) = true := beq_iff_eq.2 rfl
  have t4 : (x0 != x0) = false := by simp
  have t5 : (x1 != x1) = false := by simp
  have t6 : (x != x) = false := by simp
  have t7 : (y0 == y0) = true := beq_iff_eq.2 rfl
  have t8 : (y1 == y1) = true := beq_iff_eq.2 rfl
  rcases hA with ⟨rfl, rfl, HAR⟩ | ⟨rfl | ⟨rfl, rfl⟩, rfl, rfl, rfl⟩
  all_goals
    rcases hB with ⟨rfl | ⟨rfl, rfl⟩, rfl, rfl, rfl⟩ | ⟨rfl, rfl, p, q, N1, N2, ⟨rfl | ⟨rfl, rfl⟩, rfl, rfl, rfl⟩ | ⟨rfl, rfl, rfl, HBR⟩⟩
  all_goals
    refine lay_start ?_
    go_enter Tryz.func4, Tryz.ntmps4
    go_wp2_with (first | (go_at_call 9; refine (law_awake _).mono ?_; rintro e w' ⟨rfl, dA, rfl⟩; rw [lay_bw]) | (go_at_call 10; refine (HA.out _).mono ?_; rintro e w' ⟨rfl, dB, rfl⟩; rw [lay_bw]) | (go_at_call 11; refine (HB.out _).mono ?_; rintro e w' ⟨rfl, dC, rfl⟩; rw [lay_bw]) | (go_at_call 12; first | (with_reducible refine (HL1.out _).mono ?_; rintro e w' ⟨rfl, dD, rfl⟩; rw [lay_bw]) | (with_reducible refine (HL2.out _).mono ?_; rintro e w' ⟨rfl, dE, rfl⟩; rw [lay_bw])) | (go_at_call 13; refine (HAR.out _).mono ?_; rintro e w' ⟨rfl, dF, rfl⟩; rw [lay_bw]) | (go_at_call 14; first | (with_reducible refine (HV1.out _).mono ?_; rintro e w' ⟨rfl, dG, rfl⟩; rw [lay_bw]) | (with_reducible refine (HV2.out _).mono ?_; rintro e w' ⟨rfl, dH, rfl⟩; rw [lay_bw])) | (go_at_call 15; first | (with_reducible refine (N1.out _).mono ?_; rintro e w' ⟨rfl, dI, rfl⟩; rw [lay_bw]) | (with_reducible refine (N2.out _).mono ?_; rintro e w' ⟨rfl, dJ, rfl⟩; rw [lay_bw])))
    first | (go_ret; exact ⟨rfl, lay_ex _ _⟩) | skip
  all_goals
    refine region_bw (by kernel_rfl) (by kernel_rfl) ?_
    repeat (go_big_quiet_step ((first | (go_at_call 16; first | exact bq (HBR.out _) (fun d => lay_join _ _ _ d) | exact bq (HBR.out _) (fun d => ⟨d, rfl⟩)))))
    refine wpQuiet_nil ?_
    rintro w' ⟨d, rfl⟩
    rw [lay_bw]
    go_wp2_with fail
    go_ret
    exact ⟨rfl, lay_ex _ _⟩
end Go.Proofs.YtakcfcekdngndaaGreat
