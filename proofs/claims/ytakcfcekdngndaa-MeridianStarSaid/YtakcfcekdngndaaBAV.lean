/- Contracts and plain laws, several texts in one: QnA; QnB; SaB; SaC; Pol1 -/
import Derived.Test.YtakcfcekdngndaaProg
import Derived.WalkKit
import Derived.WalkSpells
import Derived.WalkLawsBesides
import Derived.Lib.Hide
import Derived.BigQuiet
import Derived.Test.YtakcfcekdngndaaBAA
import Derived.Test.YtakcfcekdngndaaBAH
import Derived.Test.YtakcfcekdngndaaBAP
import Derived.Test.YtakcfcekdngndaaBAU
/- arctrig: before; the corners of a box. -/
namespace Go.Proofs.Ytakcfcekdngndaa
open Go.RowKit

def befB (a b c d : Int) : Bool := decide (b * c ≤ a * d)
theorem mul_bd {a b : Int} (ha : -2147483648 ≤ a) (ha2 : a ≤ 2147483648) (hb : -2147483648 ≤ b) (hb2 : b ≤ 2147483648) : -4611686018427387904 ≤ a * b ∧ a * b ≤ 4611686018427387904 := by
  have h1 : a.natAbs ≤ 2147483648 := by omega
  have h2 : b.natAbs ≤ 2147483648 := by omega
  have h3 := Nat.mul_le_mul h1 h2
  rw [← Int.natAbs_mul] at h3
  omega
def Bd31 (a : Int) : Prop := -2147483648 ≤ a ∧ a ≤ 2147483648
set_option maxRecDepth 100000 in
theorem ar_before (a b c d : Int) (ha : Bd31 a) (hb : Bd31 b) (hc : Bd31 c) (hd : Bd31 d) (w : World) :
    Calls Try.prog 69 #[.agg #[.int .i64 a, .int .i64 b], .agg #[.int .i64 c, .int .i64 d]] w fun e w' => e = .returned (.bool (befB a b c d)) ∧ ∃ d, w' = bw w d := by
  obtain ⟨p1, p2⟩ := mul_bd ha.1 ha.2 hd.1 hd.2
  obtain ⟨q1, q2⟩ := mul_bd hb.1 hb.2 hc.1 hc.2
  have k1 : IntKind.i64.wrap (a * d) = a * d := IntWalk.i64_in _ (by omega)
  have k2 : IntKind.i64.wrap (b * c) = b * c := IntWalk.i64_in _ (by omega)
  clear p1 p2 q1 q2
  unfold befB
  refine lay_start ?_
  go_enter Try.func69, Try.ntmps69
  go_wp2_with fail
  exact bodyPost_ret (v := .bool (decide (b * c ≤ a * d))) (by simp [results, Try.results69, go_sem]) rfl ⟨rfl, lay_ex _ _⟩
def crX (x0 x1 : Int) (j : Nat) : Int := if j < 2 then x0 else x1
def crY (y0 y1 : Int) (j : Nat) : Int := if j = 0 ∨ j = 2 then y0 else y1
/-- Where the search for the first and the last corner stands. -/
structure BoxI (x0 x1 y0 y1 : Int) (i : Nat) (a b c d : Int) : Prop where
  i4 : i ≤ 4
  f : ∃ j, j < 4 ∧ a = crX x0 x1 j ∧ b = crY y0 y1 j
  l : ∃ j, j < 4 ∧ c = crX x0 x1 j ∧ d = crY y0 y1 j
  fm : ∀ j, j < i → b * crX x0 x1 j ≤ crY y0 y1 j * a
  lm : ∀ j, j < i → crY y0 y1 j * c ≤ d * crX x0 x1 j
theorem slp {a b p q x y : Int} (ha : 0 < a) (hp : 0 < p) (hx : 0 < x) (h1 : q * a ≤ p * b) (h2 : b * x ≤ y * a) : q * x ≤ y * p := by
  have m1 := Int.mul_le_mul_of_nonneg_right h1 (show 0 ≤ x by omega)
  have m2 := Int.mul_le_mul_of_nonneg_left h2 (show 0 ≤ p by omega)
  refine Int.le_of_mul_le_mul_right (a := a) ?_ ha
  grind
theorem crX_pos {x0 x1 : Int} (h0 : 0 < x0) (h1 : x0 ≤ x1) (j : Nat) : 0 < crX x0 x1 j := by
  unfold crX; split <;> omega
theorem BoxI.start {x0 x1 y0 y1 : Int} : BoxI x0 x1 y0 y1 0 x0 y0 x0 y0 := ⟨by omega, ⟨0, by decide, rfl, rfl⟩, ⟨0, by decide, rfl, rfl⟩, fun j h => absurd h (by omega), fun j h => absurd h (by omega)⟩
theorem BoxI.step {x0 x1 y0 y1 : Int} {i : Nat} {a b c d p q : Int} (h : BoxI x0 x1 y0 y1 i a b c d) (h0 : 0 < x0) (h1 : x0 ≤ x1) (hi : i < 4) (hp : p = crX x0 x1 i) (hq : q = crY y0 y1 i) :
    BoxI x0 x1 y0 y1 (i + 1) (if befB p q a b = true then p else a) (if befB p q a b = true then q else b) (if befB c d p q = true then p else c) (if befB c d p q = true then q else d) := by
  obtain ⟨jf, hf, rfl, rfl⟩ := h.f
  obtain ⟨jl, hl, rfl, rfl⟩ := h.l
  have ha := crX_pos h0 h1 jf
  have hc := crX_pos h0 h1 jl
  have hpp := crX_pos h0 h1 i
  have hfm := h.fm
  have hlm := h.lm
  subst hp hq
  unfold befB
  refine ⟨by omega, ?_, ?_, fun j hj => ?_, fun j hj => ?_⟩
  · by_cases g : crY y0 y1 i * crX x0 x1 jf ≤ crX x0 x1 i * crY y0 y1 jf
    · simp only [g, decide_true, if_true]; exact ⟨i, hi, rfl, rfl⟩
    · simp only [g, decide_false, if_false, Bool.false_eq_true]; exact ⟨jf, hf, rfl, rfl⟩
  · by_cases g : crY y0 y1 jl * crX x0 x1 i ≤ crX x0 x1 jl * crY y0 y1 i
    · simp only [g, decide_true, if_true]; exact ⟨i, hi, rfl, rfl⟩
    · simp only [g, decide_false, if_false, Bool.false_eq_true]; exact ⟨jl, hl, rfl, rfl⟩
  · have hx := crX_pos h0 h1 j
    by_cases g : crY y0 y1 i * crX x0 x1 jf ≤ crX x0 x1 i * crY y0 y1 jf
    · simp only [g, decide_true, if_true]
      rcases (show j < i ∨ j = i by omega) with k | k
      · exact slp ha hpp hx g (hfm j k)
      · subst k; exact Int.le_refl _
    · simp only [g, decide_false, if_false, Bool.false_eq_true]
      rcases (show j < i ∨ j = i by omega) with k | k
      · exact hfm j k
      · subst k
        rw [Int.mul_comm]
        exact Int.le_of_lt (Int.not_le.1 g)
  · have hx := crX_pos h0 h1 j
    by_cases g : crY y0 y1 jl * crX x0 x1 i ≤ crX x0 x1 jl * crY y0 y1 i
    · simp only [g, decide_true, if_true]
      rcases (show j < i ∨ j = i by omega) with k | k
      · have h5 := hlm j k
        rw [Int.mul_comm (crY y0 y1 jl)] at h5
        exact slp hc hx hpp h5 (by rw [Int.mul_comm (crY y0 y1 i)]; exact g)
      · subst k; exact Int.le_refl _
    · simp only [g, decide_false, if_false, Bool.false_eq_true]
      rcases (show j < i ∨ j = i by omega) with k | k
      · exact hlm j k
      · subst k
        rw [Int.mul_comm (crY y0 y1 j)]
        exact Int.le_of_lt (Int.not_le.1 g)
/-- What angle answers for a point to the right of the origin. -/
structure AngR (X Y r : Int) (ex : Bool) : Prop where
  up : 0 ≤ Y → ∃ k : Nat, r = (k : Int) ∧ AngP X Y k ex
  dn : Y < 0 → ∃ k : Nat, r = 16200000 + (k : Int) ∧ AngP (-Y) X k ex
  r0 : 0 ≤ r
  r1 : r < 21600000
theorem ar_ang (X Y : Int) (hX : 0 < X) (bX : Bd31 X) (bY : Bd31 Y) (w : World) :
    Calls Try.prog 70 #[.agg #[.int .i64 X, .int .i64 Y]] w fun e w' => ∃ (r : Int) (ex : Bool) (d : Ext), e = .returned (.tuple #[.int .i64 r, .bool ex]) ∧ w' = bw w d ∧ AngR X Y r ex := by
  obtain ⟨u, rfl⟩ : ∃ u : Nat, X = (u : Int) := ⟨X.toNat, by omega⟩
  have hu := bX.2
  by_cases h : 0 ≤ Y
  · obtain ⟨v, rfl⟩ : ∃ v : Nat, Y = (v : Int) := ⟨Y.toNat, by omega⟩
    have hv := bY.2
    refine (ar_angle u v (by omega) (by omega) (by omega) w).mono ?_
    rintro e w' ⟨k, ex, d, rfl, hA, rfl⟩
    have := hA.lt
    exact ⟨k, ex, d, rfl, rfl, fun _ => ⟨k, rfl, hA⟩, fun h' => absurd h' (by omega), by omega, by omega⟩
  · obtain ⟨v, hv⟩ : ∃ v : Nat, Y = -(v : Int) := ⟨(-Y).toNat, by omega⟩
    have hv1 := bY.1
    refine (ar_angleD u v Y (by omega) (by omega) (by omega) (by omega) hv w).mono ?_
    rintro e w' ⟨k, ex, d, rfl, hA, rfl⟩
    have := hA.lt
    rw [show (v : Int) = -Y by omega] at hA
    exact ⟨_, ex, d, rfl, rfl, fun h' => absurd h' h, fun _ => ⟨k, rfl, hA⟩, by omega, by omega⟩
end Go.Proofs.Ytakcfcekdngndaa
/- arctrig: Bearing. -/
namespace Go.Proofs.Ytakcfcekdngndaa
open Go.RowKit

/-- What Bearing answers for a box to the right of the origin. -/
structure BearR (x0 x1 y0 y1 m0 m1 : Int) : Prop where
  h : ∃ a b c d s ex1 ex2, BoxI x0 x1 y0 y1 4 a b c d ∧ AngR a b m0 ex1 ∧ AngR c d s ex2 ∧ m1 = (if s < m0 then s + 21600000 else s) + (if ex2 then 0 else 1)
set_option maxRecDepth 100000 in
theorem ix_0 (x0 x1 y0 y1 : Int) (W : World) : (Instr.index 79 (.agg #[.int .i64 x0, .int .i64 y0, .int .i64 x0, .int .i64 y1, .int .i64 x1, .int .i64 y0, .int .i64 x1, .int .i64 y1]) (.int .i64 0)).run Try.prog W = .ok (.agg #[.int .i64 x0, .int .i64 y0]) W := by kernel_rfl
set_option maxRecDepth 100000 in
theorem ix_1 (x0 x1 y0 y1 : Int) (W : World) : (Instr.index 79 (.agg #[.int .i64 x0, .int .i64 y0, .int .i64 x0, .int .i64 y1, .int .i64 x1, .int .i64 y0, .int .i64 x1, .int .i64 y1]) (.int .i64 1)).run Try.prog W = .ok (.agg #[.int .i64 x0, .int .i64 y1]) W := by kernel_rfl
set_option maxRecDepth 100000 in
theorem ix_2 (x0 x1 y0 y1 : Int) (W : World) : (Instr.index 79 (.agg #[.int .i64 x0, .int .i64 y0, .int .i64 x0, .int .i64 y1, .int .i64 x1, .int .i64 y0, .int .i64 x1, .int .i64 y1]) (.int .i64 2)).run Try.prog W = .ok (.agg #[.int .i64 x1, .int .i64 y0]) W := by kernel_rfl
set_option maxRecDepth 100000 in
theorem ix_3 (x0 x1 y0 y1 : Int) (W : World) : (Instr.index 79 (.agg #[.int .i64 x0, .int .i64 y0, .int .i64 x0, .int .i64 y1, .int .i64 x1, .int .i64 y0, .int .i64 x1, .int .i64 y1]) (.int .i64 3)).run Try.prog W = .ok (.agg #[.int .i64 x1, .int .i64 y1]) W := by kernel_rfl
set_option maxHeartbeats 4000000 in
set_option maxRecDepth 100000 in
theorem ar_Bearing (y0 y1 x0 x1 : Int) (hy : fxB y0 y1 = true) (hx : fxB x0 x1 = true) (x0p : 0 < x0) (w : World) :
    Calls Try.prog 45 #[(.agg #[.int .i64 (y0), .int .i64 (y1)]), (.agg #[.int .i64 (x0), .int .i64 (x1)])] w fun e w' => ∃ m0 m1 : Int, e = .returned (.tuple #[(.agg #[.int .i64 (m0), .int .i64 (m1)]), .int .i64 0]) ∧ BearR x0 x1 y0 y1 m0 m1 ∧ ∃ d, w' = bw w d := by
  have HV1 := Lib.hid (fun W => fx_ValidG x0 x1 W)
  have HV2 := Lib.hid (fun W => fx_ValidG y0 y1 W)
  rw [hx] at HV1
  rw [hy] at HV2
  have n1 : ¬ x0 ≤ 0 := by omega
  obtain ⟨x01, xb0, xb1⟩ := fxB_iff.1 hx
  obtain ⟨y01, yb0, yb1⟩ := fxB_iff.1 hy
  have X0 : Bd31 x0 := ⟨by omega, by omega⟩
  have X1 : Bd31 x1 := ⟨by omega, by omega⟩
  have Y0 : Bd31 y0 := ⟨by omega, by omega⟩
  have Y1 : Bd31 y1 := ⟨by omega, by omega⟩
  refine lay_start ?_
  go_enter Try.func45, Try.ntmps45
  go_wp2_with (go_at_call 55; first | ((with_reducible refine (HV1.out _).mono ?_); rintro e w' ⟨rfl, d1, rfl⟩; rw [lay_bw]) | ((with_reducible refine (HV2.out _).mono ?_); rintro e w' ⟨rfl, d2, rfl⟩; rw [lay_bw]))
  refine region_mixW [0, 0, 0, 0, 2, 1, 1] (by kernel_rfl) (by kernel_rfl) (by kernel_rfl) ?_
  repeat (refine wpM_quiet (fun K hK => ?_); go_simp; first | (refine hK _ ?_; clear hK K) | (apply Exists.intro; refine ⟨fun _ => ?_, hK _ ?_⟩; (first | fail); clear hK K))
  refine wpM_two (fun J hJ d => ?_) (fun J hJ d => ?_)
  all_goals (go_simp; refine hJ _ _ (by first | exact lay_in w [_] _ | exact lay_in w [_, _] _ | exact lay_in w [_, _, _] _ | exact lay_in w [_, _, _, _] _ | exact lay_in w [_, _, _, _, _] _ | exact lay_in w [_, _, _, _, _, _] _) (fun K hK d => ?_); go_simp; refine hK _ _ (by first | exact lay_in w [_] _ | exact lay_in w [_, _] _ | exact lay_in w [_, _, _] _ | exact lay_in w [_, _, _, _] _ | exact lay_in w [_, _, _, _, _] _ | exact lay_in w [_, _, _, _, _, _] _) ?_; clear hK K hJ J)
  all_goals (repeat (first | (refine wpM_quiet (fun K hK => ?_); go_simp; first | (refine hK _ ?_; clear hK K) | (apply Exists.intro; refine ⟨fun _ => ?_, hK _ ?_⟩; (first | fail); clear hK K)) | (refine wpM_special (fun K hK d => ?_); go_simp; refine hK _ _ (by first | exact lay_in w [_] _ | exact lay_in w [_, _] _ | exact lay_in w [_, _, _] _ | exact lay_in w [_, _, _, _] _ | exact lay_in w [_, _, _, _, _] _ | exact lay_in w [_, _, _, _, _, _] _) ?_; clear hK K)))
  all_goals (refine wpM_nil ?_; intro d; rw [lay_bw])
  · rename_i e1 e2 e3 e4
    go_wp2_with fail
    obtain ⟨ee, hee⟩ := lay_fold w [.inr d, .inr e4, .inr e3] [.inl (.cells #[.int .i64 x0, .int .i64 y0] 78 (0, 0)), .inr e2, .inl (.cells #[.int .i64 x0, .int .i64 y0] 78 (0, 0)), .inr e1, .inl (.cells #[.int .i64 x0, .int .i64 y0, .int .i64 x0, .int .i64 y1, .int .i64 x1, .int .i64 y0, .int .i64 x1, .int .i64 y1] 79 (0, 0)), .inr d2, .inr d1, .inl (.cells #[.int .i64 0, .int .i64 0] 24 (0, 0)), .inl (.cells #[.int .i64 x0, .int .i64 x1] 48 (0, 0)), .inl (.cells #[.int .i64 y0, .int .i64 y1] 48 (0, 0))]
    change lay w [.inr d, .inr e4, .inr e3, .inl (.cells #[.int .i64 x0, .int .i64 y0] 78 (0, 0)), .inr e2, .inl (.cells #[.int .i64 x0, .int .i64 y0] 78 (0, 0)), .inr e1, .inl (.cells #[.int .i64 x0, .int .i64 y0, .int .i64 x0, .int .i64 y1, .int .i64 x1, .int .i64 y0, .int .i64 x1, .int .i64 y1] 79 (0, 0)), .inr d2, .inr d1, .inl (.cells #[.int .i64 0, .int .i64 0] 24 (0, 0)), .inl (.cells #[.int .i64 x0, .int .i64 x1] 48 (0, 0)), .inl (.cells #[.int .i64 y0, .int .i64 y1] 48 (0, 0))] = _ at hee
    rw [hee]
    clear hee
    go_loopw [69] (fun v69 wr => ∃ (i : Nat) (a b c d : Int) (e : Ext), v69 = .int .i64 (i : Int) ∧ wr = lay w [.inr e, .inl (.cells #[.int .i64 c, .int .i64 d] 78 (0, 0)), .inr e2, .inl (.cells #[.int .i64 a, .int .i64 b] 78 (0, 0)), .inr e1, .inl (.cells #[.int .i64 x0, .int .i64 y0, .int .i64 x0, .int .i64 y1, .int .i64 x1, .int .i64 y0, .int .i64 x1, .int .i64 y1] 79 (0, 0)), .inr d2, .inr d1, .inl (.cells #[.int .i64 0, .int .i64 0] 24 (0, 0)), .inl (.cells #[.int .i64 x0, .int .i64 x1] 48 (0, 0)), .inl (.cells #[.int .i64 y0, .int .i64 y1] 48 (0, 0))] ∧ BoxI x0 x1 y0 y1 i a b c d) (fun v69 _ => 4 - (intOf v69).toNat)
    case atStart => exact ⟨0, x0, y0, x0, y0, ee, rfl, rfl, BoxI.start⟩
    case round =>
      obtain ⟨i, a, b, c, d, e, rfl, rfl, hB⟩ := hrel
      obtain ⟨⟨ja, -, ha1, hb1⟩, ⟨jc, -, hc1, hd1⟩⟩ := And.intro hB.f hB.l
      have Ba : Bd31 a := by rw [ha1]; unfold crX Bd31; split <;> omega
      have Bb : Bd31 b := by rw [hb1]; unfold crY Bd31; split <;> omega
      have Bc : Bd31 c := by rw [hc1]; unfold crX Bd31; split <;> omega
      have Bd : Bd31 d := by rw [hd1]; unfold crY Bd31; split <;> omega
      have ap : 0 < a := by rw [ha1]; exact crX_pos x0p x01 _
      have cp : 0 < c := by rw [hc1]; exact crX_pos x0p x01 _
      clear ha1 hb1 hc1 hd1
      have HB := Lib.hid hB
      have i4 := hB.i4
      clear hB
      rcases (show i = 0 ∨ i = 1 ∨ i = 2 ∨ i = 3 ∨ i = 4 by omega) with rfl | rfl | rfl | rfl | rfl
      · have HS := Lib.hid (HB.out.step x0p x01 (by decide) (p := x0) (q := y0) rfl rfl)
        have H1 := Lib.hid (fun W => ar_before x0 y0 a b X0 Y0 Ba Bb W)
        have H2 := Lib.hid (fun W => ar_before c d x0 y0 Bc Bd X0 Y0 W)
        have hI := ix_0 x0 x1 y0 y1
        have kI : IntKind.i64.wrap (0 + 1) = 0 + 1 := by decide
        cases g1 : befB x0 y0 a b <;> cases g2 : befB c d x0 y0
        all_goals rw [g1, g2] at HS
        all_goals rw [g1] at H1
        all_goals rw [g2] at H2
        all_goals simp only [Bool.false_eq_true, ↓reduceIte] at HS
        all_goals clear g1 g2
        all_goals go_wp2_with (go_at_call 69; first | ((with_reducible refine (H1.out _).mono ?_); rintro e' w' ⟨rfl, f1, rfl⟩; rw [lay_bw]) | ((with_reducible refine (H2.out _).mono ?_); rintro e' w' ⟨rfl, f2, rfl⟩; rw [lay_bw]))
        all_goals exact ⟨⟨0 + 1, _, _, _, _, _, rfl, (lay_fold w [_, _, _, _] _).choose_spec, HS.out⟩, by simp only [intOf]; omega⟩
      · have HS := Lib.hid (HB.out.step x0p x01 (by decide) (p := x0) (q := y1) rfl rfl)
        have H1 := Lib.hid (fun W => ar_before x0 y1 a b X0 Y1 Ba Bb W)
        have H2 := Lib.hid (fun W => ar_before c d x0 y1 Bc Bd X0 Y1 W)
        have hI := ix_1 x0 x1 y0 y1
        have kI : IntKind.i64.wrap (1 + 1) = 1 + 1 := by decide
        cases g1 : befB x0 y1 a b <;> cases g2 : befB c d x0 y1
        all_goals rw [g1, g2] at HS
        all_goals rw [g1] at H1
        all_goals rw [g2] at H2
        all_goals simp only [Bool.false_eq_true, ↓reduceIte] at HS
        all_goals clear g1 g2
        all_goals go_wp2_with (go_at_call 69; first | ((with_reducible refine (H1.out _).mono ?_); rintro e' w' ⟨rfl, f1, rfl⟩; rw [lay_bw]) | ((with_reducible refine (H2.out _).mono ?_); rintro e' w' ⟨rfl, f2, rfl⟩; rw [lay_bw]))
        all_goals exact ⟨⟨1 + 1, _, _, _, _, _, rfl, (lay_fold w [_, _, _, _] _).choose_spec, HS.out⟩, by simp only [intOf]; omega⟩
      · have HS := Lib.hid (HB.out.step x0p x01 (by decide) (p := x1) (q := y0) rfl rfl)
        have H1 := Lib.hid (fun W => ar_before x1 y0 a b X1 Y0 Ba Bb W)
        have H2 := Lib.hid (fun W => ar_before c d x1 y0 Bc Bd X1 Y0 W)
        have hI := ix_2 x0 x1 y0 y1
        have kI : IntKind.i64.wrap (2 + 1) = 2 + 1 := by decide
        cases g1 : befB x1 y0 a b <;> cases g2 : befB c d x1 y0
        all_goals rw [g1, g2] at HS
        all_goals rw [g1] at H1
        all_goals rw [g2] at H2
        all_goals simp only [Bool.false_eq_true, ↓reduceIte] at HS
        all_goals clear g1 g2
        all_goals go_wp2_with (go_at_call 69; first | ((with_reducible refine (H1.out _).mono ?_); rintro e' w' ⟨rfl, f1, rfl⟩; rw [lay_bw]) | ((with_reducible refine (H2.out _).mono ?_); rintro e' w' ⟨rfl, f2, rfl⟩; rw [lay_bw]))
        all_goals exact ⟨⟨2 + 1, _, _, _, _, _, rfl, (lay_fold w [_, _, _, _] _).choose_spec, HS.out⟩, by simp only [intOf]; omega⟩
      · have HS := Lib.hid (HB.out.step x0p x01 (by decide) (p := x1) (q := y1) rfl rfl)
        have H1 := Lib.hid (fun W => ar_before x1 y1 a b X1 Y1 Ba Bb W)
        have H2 := Lib.hid (fun W => ar_before c d x1 y1 Bc Bd X1 Y1 W)
        have hI := ix_3 x0 x1 y0 y1
        have kI : IntKind.i64.wrap (3 + 1) = 3 + 1 := by decide
        cases g1 : befB x1 y1 a b <;> cases g2 : befB c d x1 y1
        all_goals rw [g1, g2] at HS
        all_goals rw [g1] at H1
        all_goals rw [g2] at H2
        all_goals simp only [Bool.false_eq_true, ↓reduceIte] at HS
        all_goals clear g1 g2
        all_goals go_wp2_with (go_at_call 69; first | ((with_reducible refine (H1.out _).mono ?_); rintro e' w' ⟨rfl, f1, rfl⟩; rw [lay_bw]) | ((with_reducible refine (H2.out _).mono ?_); rintro e' w' ⟨rfl, f2, rfl⟩; rw [lay_bw]))
        all_goals exact ⟨⟨3 + 1, _, _, _, _, _, rfl, (lay_fold w [_, _, _, _] _).choose_spec, HS.out⟩, by simp only [intOf]; omega⟩
      · have HA1 := Lib.hid (fun W => ar_ang a b ap Ba Bb W)
        have HA2 := Lib.hid (fun W => ar_ang c d cp Bc Bd W)
        go_wp2_with fail
        refine (HA1.out _).mono ?_
        rintro e' w' ⟨r, ex1, f1, rfl, rfl, hr⟩
        have HR1 := Lib.hid hr
        clear hr
        rw [lay_bw]
        go_wp2_with fail
        refine (HA2.out _).mono ?_
        rintro e' w' ⟨s, ex2, f2, rfl, rfl, hs⟩
        have HR2 := Lib.hid hs
        clear hs
        have r0 := HR1.out.r0
        have r1 := HR1.out.r1
        have s0 := HR2.out.r0
        have s1 := HR2.out.r1
        have kt : IntKind.i64.wrap (s + 21600000) = s + 21600000 := IntWalk.i64_in _ (by omega)
        have kt2 : IntKind.i64.wrap (s + 21600000 + 1) = s + 21600000 + 1 := IntWalk.i64_in _ (by omega)
        have kt3 : IntKind.i64.wrap (s + 1) = s + 1 := IntWalk.i64_in _ (by omega)
        rw [lay_bw]
        clear r0 r1 s0 s1 HA1 HA2
        by_cases hlt : s < r
        · cases ex2
          · go_wp2_with fail
            exact bodyPost_ret (v := .tuple #[(.agg #[.int .i64 (r), .int .i64 (s + 21600000 + 1)]), .int .i64 0]) (by simp [results, Try.results45, go_sem]) rfl ⟨r, s + 21600000 + 1, rfl, ⟨a, b, c, d, s, ex1, false, HB.out, HR1.out, HR2.out, by simp [hlt]⟩, lay_ex _ _⟩
          · go_wp2_with fail
            exact bodyPost_ret (v := .tuple #[(.agg #[.int .i64 (r), .int .i64 (s + 21600000)]), .int .i64 0]) (by simp [results, Try.results45, go_sem]) rfl ⟨r, s + 21600000, rfl, ⟨a, b, c, d, s, ex1, true, HB.out, HR1.out, HR2.out, by simp [hlt]⟩, lay_ex _ _⟩
        · cases ex2
          · go_wp2_with fail
            exact bodyPost_ret (v := .tuple #[(.agg #[.int .i64 (r), .int .i64 (s + 1)]), .int .i64 0]) (by simp [results, Try.results45, go_sem]) rfl ⟨r, s + 1, rfl, ⟨a, b, c, d, s, ex1, false, HB.out, HR1.out, HR2.out, by rw [if_neg (show ¬ s < r by omega)]; simp⟩, lay_ex _ _⟩
          · go_wp2_with fail
            exact bodyPost_ret (v := .tuple #[(.agg #[.int .i64 (r), .int .i64 (s)]), .int .i64 0]) (by simp [results, Try.results45, go_sem]) rfl ⟨r, s, rfl, ⟨a, b, c, d, s, ex1, true, HB.out, HR1.out, HR2.out, by rw [if_neg (show ¬ s < r by omega)]; simp⟩, lay_ex _ _⟩
  · rename_i e1 e2 e3 e4
    go_wp2_with fail
    obtain ⟨ee, hee⟩ := lay_fold w [.inr d, .inr e4, .inr e3] [.inl (.cells #[.int .i64 x0, .int .i64 y0] 78 (0, 0)), .inr e2, .inl (.cells #[.int .i64 x0, .int .i64 y0] 78 (0, 0)), .inr e1, .inl (.cells #[.int .i64 x0, .int .i64 y0, .int .i64 x0, .int .i64 y1, .int .i64 x1, .int .i64 y0, .int .i64 x1, .int .i64 y1] 79 (0, 0)), .inr d2, .inr d1, .inl (.cells #[.int .i64 0, .int .i64 0] 24 (0, 0)), .inl (.cells #[.int .i64 x0, .int .i64 x1] 48 (0, 0)), .inl (.cells #[.int .i64 y0, .int .i64 y1] 48 (0, 0))]
    change lay w [.inr d, .inr e4, .inr e3, .inl (.cells #[.int .i64 x0, .int .i64 y0] 78 (0, 0)), .inr e2, .inl (.cells #[.int .i64 x0, .int .i64 y0] 78 (0, 0)), .inr e1, .inl (.cells #[.int .i64 x0, .int .i64 y0, .int .i64 x0, .int .i64 y1, .int .i64 x1, .int .i64 y0, .int .i64 x1, .int .i64 y1] 79 (0, 0)), .inr d2, .inr d1, .inl (.cells #[.int .i64 0, .int .i64 0] 24 (0, 0)), .inl (.cells #[.int .i64 x0, .int .i64 x1] 48 (0, 0)), .inl (.cells #[.int .i64 y0, .int .i64 y1] 48 (0, 0))] = _ at hee
    rw [hee]
    clear hee
    go_loopw [69] (fun v69 wr => ∃ (i : Nat) (a b c d : Int) (e : Ext), v69 = .int .i64 (i : Int) ∧ wr = lay w [.inr e, .inl (.cells #[.int .i64 a, .int .i64 b] 78 (0, 0)), .inr e2, .inl (.cells #[.int .i64 c, .int .i64 d] 78 (0, 0)), .inr e1, .inl (.cells #[.int .i64 x0, .int .i64 y0, .int .i64 x0, .int .i64 y1, .int .i64 x1, .int .i64 y0, .int .i64 x1, .int .i64 y1] 79 (0, 0)), .inr d2, .inr d1, .inl (.cells #[.int .i64 0, .int .i64 0] 24 (0, 0)), .inl (.cells #[.int .i64 x0, .int .i64 x1] 48 (0, 0)), .inl (.cells #[.int .i64 y0, .int .i64 y1] 48 (0, 0))] ∧ BoxI x0 x1 y0 y1 i a b c d) (fun v69 _ => 4 - (intOf v69).toNat)
    case atStart => exact ⟨0, x0, y0, x0, y0, ee, rfl, rfl, BoxI.start⟩
    case round =>
      obtain ⟨i, a, b, c, d, e, rfl, rfl, hB⟩ := hrel
      obtain ⟨⟨ja, -, ha1, hb1⟩, ⟨jc, -, hc1, hd1⟩⟩ := And.intro hB.f hB.l
      have Ba : Bd31 a := by rw [ha1]; unfold crX Bd31; split <;> omega
      have Bb : Bd31 b := by rw [hb1]; unfold crY Bd31; split <;> omega
      have Bc : Bd31 c := by rw [hc1]; unfold crX Bd31; split <;> omega
      have Bd : Bd31 d := by rw [hd1]; unfold crY Bd31; split <;> omega
      have ap : 0 < a := by rw [ha1]; exact crX_pos x0p x01 _
      have cp : 0 < c := by rw [hc1]; exact crX_pos x0p x01 _
      clear ha1 hb1 hc1 hd1
      have HB := Lib.hid hB
      have i4 := hB.i4
      clear hB
      rcases (show i = 0 ∨ i = 1 ∨ i = 2 ∨ i = 3 ∨ i = 4 by omega) with rfl | rfl | rfl | rfl | rfl
      · have HS := Lib.hid (HB.out.step x0p x01 (by decide) (p := x0) (q := y0) rfl rfl)
        have H1 := Lib.hid (fun W => ar_before x0 y0 a b X0 Y0 Ba Bb W)
        have H2 := Lib.hid (fun W => ar_before c d x0 y0 Bc Bd X0 Y0 W)
        have hI := ix_0 x0 x1 y0 y1
        have kI : IntKind.i64.wrap (0 + 1) = 0 + 1 := by decide
        cases g1 : befB x0 y0 a b <;> cases g2 : befB c d x0 y0
        all_goals rw [g1, g2] at HS
        all_goals rw [g1] at H1
        all_goals rw [g2] at H2
        all_goals simp only [Bool.false_eq_true, ↓reduceIte] at HS
        all_goals clear g1 g2
        all_goals go_wp2_with (go_at_call 69; first | ((with_reducible refine (H1.out _).mono ?_); rintro e' w' ⟨rfl, f1, rfl⟩; rw [lay_bw]) | ((with_reducible refine (H2.out _).mono ?_); rintro e' w' ⟨rfl, f2, rfl⟩; rw [lay_bw]))
        all_goals exact ⟨⟨0 + 1, _, _, _, _, _, rfl, (lay_fold w [_, _, _, _] _).choose_spec, HS.out⟩, by simp only [intOf]; omega⟩
      · have HS := Lib.hid (HB.out.step x0p x01 (by decide) (p := x0) (q := y1) rfl rfl)
        have H1 := Lib.hid (fun W => ar_before x0 y1 a b X0 Y1 Ba Bb W)
        have H2 := Lib.hid (fun W => ar_before c d x0 y1 Bc Bd X0 Y1 W)
        have hI := ix_1 x0 x1 y0 y1
        have kI : IntKind.i64.wrap (1 + 1) = 1 + 1 := by decide
        cases g1 : befB x0 y1 a b <;> cases g2 : befB c d x0 y1
        all_goals rw [g1, g2] at HS
        all_goals rw [g1] at H1
        all_goals rw [g2] at H2
        all_goals simp only [Bool.false_eq_true, ↓reduceIte] at HS
        all_goals clear g1 g2
        all_goals go_wp2_with (go_at_call 69; first | ((with_reducible refine (H1.out _).mono ?_); rintro e' w' ⟨rfl, f1, rfl⟩; rw [lay_bw]) | ((with_reducible refine (H2.out _).mono ?_); rintro e' w' ⟨rfl, f2, rfl⟩; rw [lay_bw]))
        all_goals exact ⟨⟨1 + 1, _, _, _, _, _, rfl, (lay_fold w [_, _, _, _] _).choose_spec, HS.out⟩, by simp only [intOf]; omega⟩
      · have HS := Lib.hid (HB.out.step x0p x01 (by decide) (p := x1) (q := y0) rfl rfl)
        have H1 := Lib.hid (fun W => ar_before x1 y0 a b X1 Y0 Ba Bb W)
        have H2 := Lib.hid (fun W => ar_before c d x1 y0 Bc Bd X1 Y0 W)
        have hI := ix_2 x0 x1 y0 y1
        have kI : IntKind.i64.wrap (2 + 1) = 2 + 1 := by decide
        cases g1 : befB x1 y0 a b <;> cases g2 : befB c d x1 y0
        all_goals rw [g1, g2] at HS
        all_goals rw [g1] at H1
        all_goals rw [g2] at H2
        all_goals simp only [Bool.false_eq_true, ↓reduceIte] at HS
        all_goals clear g1 g2
        all_goals go_wp2_with (go_at_call 69; first | ((with_reducible refine (H1.out _).mono ?_); rintro e' w' ⟨rfl, f1, rfl⟩; rw [lay_bw]) | ((with_reducible refine (H2.out _).mono ?_); rintro e' w' ⟨rfl, f2, rfl⟩; rw [lay_bw]))
        all_goals exact ⟨⟨2 + 1, _, _, _, _, _, rfl, (lay_fold w [_, _, _, _] _).choose_spec, HS.out⟩, by simp only [intOf]; omega⟩
      · have HS := Lib.hid (HB.out.step x0p x01 (by decide) (p := x1) (q := y1) rfl rfl)
        have H1 := Lib.hid (fun W => ar_before x1 y1 a b X1 Y1 Ba Bb W)
        have H2 := Lib.hid (fun W => ar_before c d x1 y1 Bc Bd X1 Y1 W)
        have hI := ix_3 x0 x1 y0 y1
        have kI : IntKind.i64.wrap (3 + 1) = 3 + 1 := by decide
        cases g1 : befB x1 y1 a b <;> cases g2 : befB c d x1 y1
        all_goals rw [g1, g2] at HS
        all_goals rw [g1] at H1
        all_goals rw [g2] at H2
        all_goals simp only [Bool.false_eq_true, ↓reduceIte] at HS
        all_goals clear g1 g2
        all_goals go_wp2_with (go_at_call 69; first | ((with_reducible refine (H1.out _).mono ?_); rintro e' w' ⟨rfl, f1, rfl⟩; rw [lay_bw]) | ((with_reducible refine (H2.out _).mono ?_); rintro e' w' ⟨rfl, f2, rfl⟩; rw [lay_bw]))
        all_goals exact ⟨⟨3 + 1, _, _, _, _, _, rfl, (lay_fold w [_, _, _, _] _).choose_spec, HS.out⟩, by simp only [intOf]; omega⟩
      · have HA1 := Lib.hid (fun W => ar_ang a b ap Ba Bb W)
        have HA2 := Lib.hid (fun W => ar_ang c d cp Bc Bd W)
        go_wp2_with fail
        refine (HA1.out _).mono ?_
        rintro e' w' ⟨r, ex1, f1, rfl, rfl, hr⟩
        have HR1 := Lib.hid hr
        clear hr
        rw [lay_bw]
        go_wp2_with fail
        refine (HA2.out _).mono ?_
        rintro e' w' ⟨s, ex2, f2, rfl, rfl, hs⟩
        have HR2 := Lib.hid hs
        clear hs
        have r0 := HR1.out.r0
        have r1 := HR1.out.r1
        have s0 := HR2.out.r0
        have s1 := HR2.out.r1
        have kt : IntKind.i64.wrap (s + 21600000) = s + 21600000 := IntWalk.i64_in _ (by omega)
        have kt2 : IntKind.i64.wrap (s + 21600000 + 1) = s + 21600000 + 1 := IntWalk.i64_in _ (by omega)
        have kt3 : IntKind.i64.wrap (s + 1) = s + 1 := IntWalk.i64_in _ (by omega)
        rw [lay_bw]
        clear r0 r1 s0 s1 HA1 HA2
        by_cases hlt : s < r
        · cases ex2
          · go_wp2_with fail
            exact bodyPost_ret (v := .tuple #[(.agg #[.int .i64 (r), .int .i64 (s + 21600000 + 1)]), .int .i64 0]) (by simp [results, Try.results45, go_sem]) rfl ⟨r, s + 21600000 + 1, rfl, ⟨a, b, c, d, s, ex1, false, HB.out, HR1.out, HR2.out, by simp [hlt]⟩, lay_ex _ _⟩
          · go_wp2_with fail
            exact bodyPost_ret (v := .tuple #[(.agg #[.int .i64 (r), .int .i64 (s + 21600000)]), .int .i64 0]) (by simp [results, Try.results45, go_sem]) rfl ⟨r, s + 21600000, rfl, ⟨a, b, c, d, s, ex1, true, HB.out, HR1.out, HR2.out, by simp [hlt]⟩, lay_ex _ _⟩
        · cases ex2
          · go_wp2_with fail
            exact bodyPost_ret (v := .tuple #[(.agg #[.int .i64 (r), .int .i64 (s + 1)]), .int .i64 0]) (by simp [results, Try.results45, go_sem]) rfl ⟨r, s + 1, rfl, ⟨a, b, c, d, s, ex1, false, HB.out, HR1.out, HR2.out, by rw [if_neg (show ¬ s < r by omega)]; simp⟩, lay_ex _ _⟩
          · go_wp2_with fail
            exact bodyPost_ret (v := .tuple #[(.agg #[.int .i64 (r), .int .i64 (s)]), .int .i64 0]) (by simp [results, Try.results45, go_sem]) rfl ⟨r, s, rfl, ⟨a, b, c, d, s, ex1, true, HB.out, HR1.out, HR2.out, by rw [if_neg (show ¬ s < r by omega)]; simp⟩, lay_ex _ _⟩
end Go.Proofs.Ytakcfcekdngndaa
/- The directions of a box, from what Bearing answers. Plain Lean behind QnA's structures. -/
namespace Go.Proofs.Ytakcfcekdngndaa
open Go.RowKit

theorem angR_dir {X Y r : Int} {ex : Bool} (h : AngR X Y r ex) (X0 : 0 < X) (X1 : X ≤ 2147483648) (Y0 : -2147483648 ≤ Y) (Y1 : Y ≤ 2147483648) :
    ∃ n : Int, DirP X Y n (n + (if ex then 0 else 1)) ∧ ((0 ≤ Y ∧ r = n ∧ 0 ≤ n ∧ n < 5400000) ∨ (Y < 0 ∧ r = n + 21600000 ∧ -5400000 ≤ n ∧ n < 0)) := by
  by_cases c : 0 ≤ Y
  · obtain ⟨k, rfl, hA⟩ := h.up c
    have := hA.lt
    exact ⟨k, dir_up X0 X1 c Y1 hA, .inl ⟨c, rfl, by omega, by omega⟩⟩
  · obtain ⟨k, rfl, hA⟩ := h.dn (by omega)
    have := hA.lt
    exact ⟨(k : Int) - 5400000, dir_down X0 X1 (by omega) Y0 hA, .inr ⟨by omega, by omega, by omega, by omega⟩⟩
/-- The signed bounds, as Polaris takes them. -/
theorem bear_dir {x0 x1 y0 y1 m0 m1 : Int} (h : BearR x0 x1 y0 y1 m0 m1) (hx0 : 0 < x0) (hx : x0 ≤ x1) (hx1 : x1 ≤ 2147483648) (hy0 : -2147483648 ≤ y0) (hy : y0 ≤ y1) (hy1 : y1 ≤ 2147483648) :
    ∃ a b c d n N L M : Int, BoxI x0 x1 y0 y1 4 a b c d ∧ DirP a b n N ∧ DirP c d L M ∧
      ((10800000 ≤ m0 ∧ m0 - 21600000 = n ∧ (m1 - 21600000 = M ∨ m1 - 21600000 = M + 21600000)) ∨ (m0 < 10800000 ∧ m0 = n ∧ (m1 = M ∨ m1 = M + 21600000))) := by
  obtain ⟨a, b, c, d, s, ex1, ex2, hB, h1, h2, hm⟩ := h.h
  obtain ⟨ja, -, ha, hb⟩ := hB.f
  obtain ⟨jc, hjc, hc, hd⟩ := hB.l
  have a0 : 0 < a := by rw [ha]; exact crX_pos hx0 hx _
  have c0 : 0 < c := by rw [hc]; exact crX_pos hx0 hx _
  have a1 : a ≤ 2147483648 := by rw [ha]; unfold crX; split <;> omega
  have c1 : c ≤ 2147483648 := by rw [hc]; unfold crX; split <;> omega
  have b0 : -2147483648 ≤ b := by rw [hb]; unfold crY; split <;> omega
  have b1 : b ≤ 2147483648 := by rw [hb]; unfold crY; split <;> omega
  have d0 : -2147483648 ≤ d := by rw [hd]; unfold crY; split <;> omega
  have d1 : d ≤ 2147483648 := by rw [hd]; unfold crY; split <;> omega
  have hsl := hB.fm jc hjc
  rw [← hc, ← hd] at hsl
  obtain ⟨n, D1, e1⟩ := angR_dir h1 a0 a1 b0 b1
  obtain ⟨L, D2, e2⟩ := angR_dir h2 c0 c1 d0 d1
  refine ⟨a, b, c, d, n, _, L, _, hB, D1, D2, ?_⟩
  have hq : (if ex2 = true then (0 : Int) else 1) = (if ex2 then 0 else 1) := rfl
  generalize (if ex2 = true then (0 : Int) else 1) = q at *
  have hno : 0 ≤ b → ¬ d < 0 := by
    intro hb0 hd0
    have m1 := Int.mul_nonneg hb0 (show 0 ≤ c by omega)
    have m2 := Int.mul_pos (show 0 < -d by omega) a0
    rw [Int.neg_mul] at m2
    omega
  rcases e1 with ⟨u1, u2, u3, u4⟩ | ⟨u1, u2, u3, u4⟩ <;> rcases e2 with ⟨v1, v2, v3, v4⟩ | ⟨v1, v2, v3, v4⟩
  · right
    refine ⟨by omega, by omega, ?_⟩
    split at hm <;> omega
  · exact absurd v1 (hno u1)
  · left
    refine ⟨by omega, by omega, ?_⟩
    split at hm <;> omega
  · left
    refine ⟨by omega, by omega, ?_⟩
    split at hm <;> omega
theorem bear_bd {x0 x1 y0 y1 m0 m1 : Int} (h : BearR x0 x1 y0 y1 m0 m1) : 0 ≤ m0 ∧ m0 < 21600000 ∧ 0 ≤ m1 ∧ m1 ≤ 43200000 ∧ m0 ≤ m1 := by
  obtain ⟨a, b, c, d, s, ex1, ex2, hB, h1, h2, hm⟩ := h.h
  have := h1.r0
  have := h1.r1
  have := h2.r0
  have := h2.r1
  have hq : (if ex2 = true then (0 : Int) else 1) = 0 ∨ (if ex2 = true then (0 : Int) else 1) = 1 := by cases ex2 <;> simp
  generalize (if ex2 = true then (0 : Int) else 1) = q at *
  split at hm <;> omega
end Go.Proofs.Ytakcfcekdngndaa
/- From the corners of a box to its points. Plain Lean. -/
namespace Go.Proofs.Ytakcfcekdngndaa
open Go.RowKit

theorem sl_up {c d x y C S t : Rat} (hc : 1072270298 ≤ c) (hx : 0 ≤ x) (hx1 : x ≤ 1073741824) (hs : y * c ≤ d * x) (hC : 0 ≤ C) (h : d * C ≤ c * S + t) (ht : 0 ≤ t) : y * C ≤ x * S + 2 * t := by
  have m1 := Rat.mul_le_mul_of_nonneg_right hs hC
  have m2 := Rat.mul_le_mul_of_nonneg_right h hx
  have m3 := Rat.mul_le_mul_of_nonneg_left (show x ≤ 2 * c by grind) ht
  refine Rat.le_of_mul_le_mul_right (c := c) ?_ (by grind)
  grind
theorem sl_dn {a b x y C S t : Rat} (ha : 1072270298 ≤ a) (hx : 0 ≤ x) (hx1 : x ≤ 1073741824) (hs : b * x ≤ y * a) (hC : 0 ≤ C) (h : a * S ≤ b * C + t) (ht : 0 ≤ t) : x * S ≤ y * C + 2 * t := by
  have m1 := Rat.mul_le_mul_of_nonneg_right hs hC
  have m2 := Rat.mul_le_mul_of_nonneg_right h hx
  have m3 := Rat.mul_le_mul_of_nonneg_left (show x ≤ 2 * a by grind) ht
  refine Rat.le_of_mul_le_mul_right (c := a) ?_ (by grind)
  grind
/-- All points of a box lie below the last corner's direction. -/
theorem box_up {x0 x1 y1 x y C S t : Rat} (h1 : y1 * C ≤ x0 * S + t) (h3 : y1 * C ≤ x1 * S + t) (hC : 0 ≤ C) (hx0 : x0 ≤ x) (hx1 : x ≤ x1) (hy : y ≤ y1) : y * C ≤ x * S + t := by
  have m := Rat.mul_le_mul_of_nonneg_right hy hC
  rcases Rat.le_total (a := 0) (b := S) with s | s
  · have := Rat.mul_le_mul_of_nonneg_right hx0 s
    grind
  · have := Rat.mul_le_mul_of_nonneg_right hx1 (show 0 ≤ -S by grind)
    grind
theorem box_dn {x0 x1 y0 x y C S t : Rat} (h0 : x0 * S ≤ y0 * C + t) (h2 : x1 * S ≤ y0 * C + t) (hC : 0 ≤ C) (hx0 : x0 ≤ x) (hx1 : x ≤ x1) (hy : y0 ≤ y) : x * S ≤ y * C + t := by
  have m := Rat.mul_le_mul_of_nonneg_right hy hC
  rcases Rat.le_total (a := 0) (b := S) with s | s
  · have := Rat.mul_le_mul_of_nonneg_right hx1 s
    grind
  · have := Rat.mul_le_mul_of_nonneg_right hx0 (show 0 ≤ -S by grind)
    grind
/-- A box near the unit's right end: its points against the signed bounds of Bearing. -/
theorem bear_pts {x0 x1 y0 y1 a b c d n N L M : Int} (hB : BoxI x0 x1 y0 y1 4 a b c d) (D1 : DirP a b n N) (D2 : DirP c d L M) (hx0 : 1072270298 ≤ x0) (hx : x0 ≤ x1) (hx1 : x1 ≤ 1073741824)
    (hn : 0 ≤ zC n) (hM : 0 ≤ zC M) {x y : Rat} (px0 : (x0 : Rat) ≤ x) (px1 : x ≤ (x1 : Rat)) (py0 : (y0 : Rat) ≤ y) (py1 : y ≤ (y1 : Rat)) :
    y * zC M ≤ x * zS M + 1 / 100000000 ∧ x * zS n ≤ y * zC n + 1 / 100000000 := by
  obtain ⟨ja, -, ha, hb⟩ := hB.f
  obtain ⟨jc, -, hc, hd⟩ := hB.l
  have a0 : (1072270298 : Int) ≤ a := by rw [ha]; unfold crX; split <;> omega
  have c0 : (1072270298 : Int) ≤ c := by rw [hc]; unfold crX; split <;> omega
  have ra : (1072270298 : Rat) ≤ (a : Rat) := castle a0
  have rc : (1072270298 : Rat) ≤ (c : Rat) := castle c0
  have r0 : (1072270298 : Rat) ≤ (x0 : Rat) := castle hx0
  have r1 : (x1 : Rat) ≤ 1073741824 := castle hx1
  have r2 : (x0 : Rat) ≤ (x1 : Rat) := castle hx
  have up : ∀ j, j < 4 → ((crY y0 y1 j : Int) : Rat) * zC M ≤ ((crX x0 x1 j : Int) : Rat) * zS M + 1 / 100000000 := by
    intro j hj
    have hs : ((crY y0 y1 j : Int) : Rat) * (c : Rat) ≤ (d : Rat) * ((crX x0 x1 j : Int) : Rat) := by
      rw [← Rat.intCast_mul, ← Rat.intCast_mul]; exact castle (hB.lm j hj)
    have q0 : (0 : Int) ≤ crX x0 x1 j := Int.le_of_lt (crX_pos (by omega) hx j)
    have q1 : crX x0 x1 j ≤ 1073741824 := by unfold crX; split <;> omega
    have := sl_up rc (castle q0) (castle q1) hs hM D2.hi (by grind)
    grind
  have dn : ∀ j, j < 4 → ((crX x0 x1 j : Int) : Rat) * zS n ≤ ((crY y0 y1 j : Int) : Rat) * zC n + 1 / 100000000 := by
    intro j hj
    have hs : (b : Rat) * ((crX x0 x1 j : Int) : Rat) ≤ ((crY y0 y1 j : Int) : Rat) * (a : Rat) := by
      rw [← Rat.intCast_mul, ← Rat.intCast_mul]; exact castle (hB.fm j hj)
    have q0 : (0 : Int) ≤ crX x0 x1 j := Int.le_of_lt (crX_pos (by omega) hx j)
    have q1 : crX x0 x1 j ≤ 1073741824 := by unfold crX; split <;> omega
    have := sl_dn ra (castle q0) (castle q1) hs hn D1.lo (by grind)
    grind
  exact ⟨box_up (up 1 (by decide)) (up 3 (by decide)) hM px0 px1 py1, box_dn (dn 0 (by decide)) (dn 2 (by decide)) hn px0 px1 py0⟩
end Go.Proofs.Ytakcfcekdngndaa
/- The pole star: the plain law. No program in sight. -/
namespace Go.Proofs.Ytakcfcekdngndaa
open Go.RowKit

/-- Arcsines of an interval: bounds whatever the interval. -/
theorem as_bd (x y : Int) : -5400001 ≤ asL x y ∧ asL x y ≤ 5400001 ∧ -5400001 ≤ asH x y ∧ asH x y ≤ 5400001 := by
  have h1 := asnI_in (v := mx x (-1073741824)) (by rw [mx_eq]; omega)
  have h2 := asnI_in (v := -(mn y 1073741824)) (by rw [mn_eq]; omega)
  unfold asL asH
  split <;> omega
theorem as_lo {L H k : Int} (hE : asE L H = 0) (h0 : -5400000 ≤ k) (h1 : k ≤ 5400000) (hL : L ≤ bLo k) : asL L H ≤ k := by
  have hb := bb_le k
  have m1 := asnI_mono (v := mx L (-1073741824)) (u := bLo k) (by rw [mx_eq]; omega) (by rw [mx_eq]; omega)
  have s1 := asn_self h0 h1
  unfold asL
  rw [if_pos hE]
  omega
theorem as_hi {L H k : Int} (hE : asE L H = 0) (h0 : -5400000 ≤ k) (h1 : k ≤ 5400000) (hH : bHi k ≤ H) : k ≤ asH L H := by
  have hb := bb_le k
  obtain ⟨o1, o2⟩ := b_odd h0 h1
  have m2 := asnI_mono (v := -(mn H 1073741824)) (u := bLo (-k)) (by rw [mn_eq]; omega) (by rw [mn_eq]; omega)
  have s2 := asn_self (n := -k) (by omega) (by omega)
  unfold asH
  rw [if_pos hE]
  omega
theorem asE_ok {L H : Int} (hf : fxB L H = true) (h0 : L ≤ 1073741824) (h1 : -1073741824 ≤ H) : asE L H = 0 := by
  have := fxB_iff.1 hf
  rw [asE_at, hf, if_neg (by decide), mn_eq, mx_eq, if_neg (by omega)]
/-- A quotient of intervals, its lower end. -/
theorem div_lo {a0 b0 b1 : Int} {b s t : Rat} (h0 : 1000000000 ≤ b0) (h : b0 ≤ b1) (g0 : (b0 : Rat) ≤ b) (g1 : b ≤ (b1 : Rat)) (ha : (a0 : Rat) ≤ b * s + t) (ht : t ≤ 1 / 20000000) : ((divL a0 b0 b1 : Int) : Rat) ≤ 1073741824 * s + 1 / 17000000 := by
  have e0 : divL a0 b0 b1 * b0 ≤ a0 * 1073741824 := by
    have := Int.ediv_mul_le (a0 * 1073741824) (b := b0) (by omega)
    have hm : divL a0 b0 b1 ≤ a0 * 1073741824 / b0 := by unfold divL; rw [mn_eq]; omega
    have := Int.mul_le_mul_of_nonneg_right hm (show 0 ≤ b0 by omega)
    omega
  have e1 : divL a0 b0 b1 * b1 ≤ a0 * 1073741824 := by
    have := Int.ediv_mul_le (a0 * 1073741824) (b := b1) (by omega)
    have hm : divL a0 b0 b1 ≤ a0 * 1073741824 / b1 := by unfold divL; rw [mn_eq]; omega
    have := Int.mul_le_mul_of_nonneg_right hm (show 0 ≤ b1 by omega)
    omega
  generalize divL a0 b0 b1 = D at *
  have c0 := castle e0
  have c1 := castle e1
  have c2 := castle h0
  push_cast at c0 c1 c2
  have l := (linR (k := (D : Rat)) g0 g1).2
  have hD : b * (D : Rat) ≤ a0 * 1073741824 := by rcases l with l | l <;> grind
  have hb : 1000000000 ≤ b := by grind
  by_cases c : (D : Rat) ≤ 1073741824 * s
  · grind
  · refine Rat.le_of_mul_le_mul_left (c := b) ?_ (by grind)
    grind
/-- Its upper end. -/
theorem div_hi {a1 b0 b1 : Int} {b s t : Rat} (h0 : 1000000000 ≤ b0) (h : b0 ≤ b1) (g0 : (b0 : Rat) ≤ b) (g1 : b ≤ (b1 : Rat)) (ha : b * s ≤ (a1 : Rat) + t) (ht : t ≤ 1 / 20000000) : 1073741824 * s ≤ ((divH a1 b0 b1 : Int) : Rat) + 1 / 17000000 := by
  have e := (div_neg a1 a1 b0 b1).1
  have := div_lo (a0 := -a1) (s := -s) (t := t) h0 h g0 g1 (by push_cast; grind) ht
  rw [e] at this
  push_cast at this
  grind
/-- Products of a small interval. -/
theorem mul_small {a0 a1 b0 b1 A : Int} (hA : 0 ≤ A) (ha : -A ≤ a0 ∧ a0 ≤ A) (ha1 : -A ≤ a1 ∧ a1 ≤ A) (hb : -1073741824 ≤ b0 ∧ b0 ≤ b1 ∧ b1 ≤ 1073741824) (_ : a0 ≤ a1) : -A ≤ mulL a0 a1 b0 b1 ∧ mulL a0 a1 b0 b1 ≤ mulH a0 a1 b0 b1 ∧ mulH a0 a1 b0 b1 ≤ A := by
  have key : ∀ a b : Int, -A ≤ a ∧ a ≤ A → -1073741824 ≤ b ∧ b ≤ 1073741824 → -(A * 1073741824) ≤ a * b ∧ a * b ≤ A * 1073741824 := by
    intro a b h1 h2
    have h3 : (a * b).natAbs ≤ A.natAbs * 1073741824 := by rw [Int.natAbs_mul]; exact Nat.mul_le_mul (by omega) (by omega)
    omega
  have p1 := key a0 b0 ha (by omega)
  have p2 := key a0 b1 ha (by omega)
  have p3 := key a1 b0 ha1 (by omega)
  have p4 := key a1 b1 ha1 (by omega)
  have m := mn4_is (a0 * b0) (a0 * b1) (a1 * b0) (a1 * b1)
  have x := mx4_is (a0 * b0) (a0 * b1) (a1 * b0) (a1 * b1)
  unfold mulL mulH m4 x4
  omega
/-- The polar distance's sine and cosine. -/
theorem pol_bd {p : Int} (h0 : 0 ≤ p) (h1 : p ≤ 180000) : 0 ≤ bLo p ∧ bHi p ≤ 56195306 ∧ 1072270298 ≤ bLo (p + 5400000) ∧ bHi (p + 5400000) ≤ 1073741824 ∧ bLo p ≤ bHi p ∧ bLo (p + 5400000) ≤ bHi (p + 5400000) := by
  obtain ⟨a, b, c, d⟩ := b_180
  have u := b_up (a := p) (b := 180000) (by omega) h1 (by omega)
  have v := b_down (a := p + 5400000) (b := 5580000) (by omega) (by omega) (by omega)
  have z := bLo_pos h0 (by omega)
  have q := bb_le p
  have r := bb_le (p + 5400000)
  omega
/-- Cosines of small angles. -/
theorem zC_pos {n : Int} (h0 : -185001 ≤ n) (h1 : n ≤ 185001) : 0 ≤ zC n := by
  have key : ∀ m : Int, 0 ≤ m → m ≤ 185001 → 0 ≤ zC m := by
    intro m g0 g1
    have v := b_down (a := m + 5400000) (b := 5585001) (by omega) (by omega) (by omega)
    have w : 1 ≤ bLo 5585001 := by
      have s := bLo_pos (n := 5585001) (by decide) (by decide)
      have u := (b_up (a := 5214998) (b := 5214999) (by decide) (by decide) (by decide)).1
      have e := b_two (n := 5585001) (by decide) (by decide)
      rw [e.1, show (10800000 - 5585001 : Int).toNat = 5214999 by decide]
      have := sinQ_gt (n := 5214999) (by decide) (by decide)
      omega
    obtain ⟨a, b⟩ := cos_InR (Int.le_refl m) (Int.le_refl m) (by omega) (by omega)
    unfold cosL at a
    rw [(enc_point _).1] at a
    have := castle (show (1 : Int) ≤ bLo (m + 5400000) by omega)
    push_cast at this
    have : t30 ≤ 1 := by unfold t30; grind
    grind
  by_cases g : 0 ≤ n
  · exact key n g h1
  · rw [← zC_neg]; exact key (-n) (by omega) (by omega)
/-- The altitude of the pole star. -/
noncomputable def pX (l p r : Int) : Rat := zS l * zC p + zC l * zS p * zC (r % 21600000)
theorem pol_near (l p r : Int) : Nr (zS l * zS (5400000 - p) + zC l * zC (5400000 - p) * zC (r % 21600000)) (pX l p r) (4 * e60) := by
  obtain ⟨s1, s2⟩ := Z_sub 5400000 p
  obtain ⟨q1, q2, q3, q4⟩ := q_near
  obtain ⟨⟨a1, a2⟩, a3, a4⟩ := Z_in l
  obtain ⟨⟨b1, b2⟩, b3, b4⟩ := Z_in p
  obtain ⟨-, c1, c2⟩ := Z_in (r % 21600000)
  rw [s1, s2]
  unfold pX
  clear s1 s2
  generalize zS 5400000 = S at *
  generalize zC 5400000 = C at *
  generalize zS l = a at *
  generalize zC l = b at *
  generalize zS p = c at *
  generalize zC p = d at *
  generalize zC (r % 21600000) = z at *
  have he : (0 : Rat) < e60 ∧ e60 ≤ 1 / 1000 := by unfold e60; constructor <;> grind
  generalize e60 = e at *
  have u1 := rabs (x := d) (y := S - 1) (m := 1) (f := e) b3 b4 (by grind) (by grind)
  have u2 := rabs (x := c) (y := C) (m := 1) (f := e) b1 b2 q1 q2
  have u3 := rabs (x := d) (y := C) (m := 1) (f := e) b3 b4 q1 q2
  have u4 := rabs (x := c) (y := S - 1) (m := 1) (f := e) b1 b2 (by grind) (by grind)
  have v1 := rabs (x := a) (y := (S * d - C * c) - d) (m := 1) (f := 2 * e) a1 a2 (by grind) (by grind)
  have v2 := rabs (x := b) (y := (C * d + S * c) - c) (m := 1) (f := 2 * e) a3 a4 (by grind) (by grind)
  have v3 := rabs (x := z) (y := b * ((C * d + S * c) - c)) (m := 1) (f := 2 * e) c1 c2 (by grind) (by grind)
  constructor <;> grind
end Go.Proofs.Ytakcfcekdngndaa
