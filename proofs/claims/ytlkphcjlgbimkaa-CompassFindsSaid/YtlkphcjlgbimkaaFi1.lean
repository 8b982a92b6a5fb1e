/- compass.ErrorBy at valid arcs; angle.Agree. -/
import Derived.Test.YtlkphcjlgbimkaaProg
import Derived.Test.YtlkphcjlgbimkaaLay
import Derived.Test.YtlkphcjlgbimkaaRegion
import Derived.Test.YtlkphcjlgbimkaaMix
import Derived.WalkKit
import Derived.WalkSpells
import Derived.WalkLawsBesides
import Derived.Lib.Hide
import Derived.BigQuiet
import Derived.Test.YtlkphcjlgbimkaaPlain
import Derived.Test.YtlkphcjlgbimkaaAngle
import Derived.Test.YtlkphcjlgbimkaaComp6
namespace Go.Proofs.Ytlkphcjlgbimkaa
open Go.RowKit

def nearB (x y : Int) : Bool := withB x 274877906944 && withB y 274877906944
theorem nearB_iff {x y : Int} : nearB x y = true ↔ (-274877906944 ≤ x ∧ x ≤ 274877906944) ∧ -274877906944 ≤ y ∧ y ≤ 274877906944 := by simp [nearB, withB]
set_option maxHeartbeats 1000000 in
theorem comp_ErrorBy_far (o0 o1 z0 z1 : Int) (w : World) (vo : validB o0 o1 = true) (vz : validB z0 z1 = true) (h : (nearB o0 o1 && nearB z0 z1) = false) :
    Calls Try.prog 13 #[(.agg #[.int .i64 (o0), .int .i64 (o1)]), (.agg #[.int .i64 (z0), .int .i64 (z1)])] w fun e w' => e = .returned (.tuple #[(.agg #[.int .i64 (0), .int .i64 (0)]), .int .i64 2]) ∧ ∃ d, w' = bw w d := by
  have HV1 : Hid (∀ W, Calls Try.prog 27 #[(.agg #[.int .i64 (o0), .int .i64 (o1)])] W fun e w' => e = .returned (.bool true) ∧ ∃ d, w' = bw W d) := Lib.hid (fun W => by rw [← vo]; exact angle_Valid o0 o1 W)
  have HV2 : Hid (∀ W, Calls Try.prog 27 #[(.agg #[.int .i64 (z0), .int .i64 (z1)])] W fun e w' => e = .returned (.bool true) ∧ ∃ d, w' = bw W d) := Lib.hid (fun W => by rw [← vz]; exact angle_Valid z0 z1 W)
  have HN1 : Hid (∀ W, Calls Try.prog 28 #[(.agg #[.int .i64 (o0), .int .i64 (o1)])] W fun e w' => e = .returned (.bool (nearB o0 o1)) ∧ ∃ d, w' = bw W d) := Lib.hid (fun W => comp_near o0 o1 W)
  have HN2 : Hid (∀ W, Calls Try.prog 28 #[(.agg #[.int .i64 (z0), .int .i64 (z1)])] W fun e w' => e = .returned (.bool (nearB z0 z1)) ∧ ∃ d, w' = bw W d) := Lib.hid (fun W => comp_near z0 z1 W)
  generalize nearB o0 o1 = A at *
  generalize nearB z0 z1 = B at *
  clear vo vz
  cases A
  · clear h
    refine lay_start ?_
    go_enter Try.func13, Try.ntmps13
    go_wp2_with (first | (go_at_call 27; first | (with_reducible refine (HV1.out _).mono ?_; rintro e w' ⟨rfl, d, rfl⟩) | (with_reducible refine (HV2.out _).mono ?_; rintro e w' ⟨rfl, d, rfl⟩)) | (go_at_call 28; first | (with_reducible refine (HN1.out _).mono ?_; rintro e w' ⟨rfl, d, rfl⟩) | (with_reducible refine (HN2.out _).mono ?_; rintro e w' ⟨rfl, d, rfl⟩)))
    exact bodyPost_ret (v := .tuple #[(.agg #[.int .i64 (0), .int .i64 (0)]), .int .i64 2]) (by simp [results, Try.results13, go_sem]) rfl ⟨rfl, lay_ex _ _⟩
  · cases B
    · clear h
      refine lay_start ?_
      go_enter Try.func13, Try.ntmps13
      go_wp2_with (first | (go_at_call 27; first | (with_reducible refine (HV1.out _).mono ?_; rintro e w' ⟨rfl, d, rfl⟩) | (with_reducible refine (HV2.out _).mono ?_; rintro e w' ⟨rfl, d, rfl⟩)) | (go_at_call 28; first | (with_reducible refine (HN1.out _).mono ?_; rintro e w' ⟨rfl, d, rfl⟩) | (with_reducible refine (HN2.out _).mono ?_; rintro e w' ⟨rfl, d, rfl⟩)))
      exact bodyPost_ret (v := .tuple #[(.agg #[.int .i64 (0), .int .i64 (0)]), .int .i64 2]) (by simp [results, Try.results13, go_sem]) rfl ⟨rfl, lay_ex _ _⟩
    · cases h
def ebW (o0 o1 z0 z1 : Int) : Prop := 21600000 ≤ (z1 - o0) - (z0 - o1)
instance (o0 o1 z0 z1 : Int) : Decidable (ebW o0 o1 z0 z1) := by unfold ebW; infer_instance
def ebL (o0 o1 z0 z1 : Int) : Int := if ebW o0 o1 z0 z1 then -10800000 else signedI (z0 - o1)
def ebH (o0 o1 z0 z1 : Int) : Int := if ebW o0 o1 z0 z1 then 10800000 else signedI (z0 - o1) + (z1 - o0) - (z0 - o1)
theorem signedI_bd (n : Int) : -10800000 ≤ signedI n ∧ signedI n < 10800000 := by unfold signedI; split <;> omega
set_option maxHeartbeats 1000000 in
theorem comp_ErrorBy_ok (o0 o1 z0 z1 : Int) (w : World) (vo : validB o0 o1 = true) (vz : validB z0 z1 = true) (h1 : nearB o0 o1 = true) (h2 : nearB z0 z1 = true) :
    Calls Try.prog 13 #[(.agg #[.int .i64 (o0), .int .i64 (o1)]), (.agg #[.int .i64 (z0), .int .i64 (z1)])] w fun e w' => e = .returned (.tuple #[(.agg #[.int .i64 (ebL o0 o1 z0 z1), .int .i64 (ebH o0 o1 z0 z1)]), .int .i64 0]) ∧ ∃ d, w' = bw w d := by
  have HV1 : Hid (∀ W, Calls Try.prog 27 #[(.agg #[.int .i64 (o0), .int .i64 (o1)])] W fun e w' => e = .returned (.bool true) ∧ ∃ d, w' = bw W d) := Lib.hid (fun W => by rw [← vo]; exact angle_Valid o0 o1 W)
  have HV2 : Hid (∀ W, Calls Try.prog 27 #[(.agg #[.int .i64 (z0), .int .i64 (z1)])] W fun e w' => e = .returned (.bool true) ∧ ∃ d, w' = bw W d) := Lib.hid (fun W => by rw [← vz]; exact angle_Valid z0 z1 W)
  have HN1 : Hid (∀ W, Calls Try.prog 28 #[(.agg #[.int .i64 (o0), .int .i64 (o1)])] W fun e w' => e = .returned (.bool true) ∧ ∃ d, w' = bw W d) := Lib.hid (fun W => by rw [← h1]; exact comp_near o0 o1 W)
  have HN2 : Hid (∀ W, Calls Try.prog 28 #[(.agg #[.int .i64 (z0), .int .i64 (z1)])] W fun e w' => e = .returned (.bool true) ∧ ∃ d, w' = bw W d) := Lib.hid (fun W => by rw [← h2]; exact comp_near z0 z1 W)
  obtain ⟨⟨p0, p1⟩, p2, p3⟩ := nearB_iff.1 h1
  obtain ⟨⟨p4, p5⟩, p6, p7⟩ := nearB_iff.1 h2
  have hs := signedI_bd (z0 - o1)
  obtain ⟨s0, s1⟩ := hs
  have HSg := Lib.hid (fun W => angle_Signed (z0 - o1) W)
  have w1 : IntKind.i64.wrap (z0 - o1) = z0 - o1 := IntWalk.i64_in _ (by omega)
  have w2 : IntKind.i64.wrap (z1 - o0) = z1 - o0 := IntWalk.i64_in _ (by omega)
  clear vo vz h1 h2
  by_cases hw : ebW o0 o1 z0 z1
  · have t1 : 21600000 ≤ (z1 - o0) - (z0 - o1) := hw
    unfold ebL ebH
    rw [if_pos hw, if_pos hw]
    clear hw
    refine lay_start ?_
    go_enter Try.func13, Try.ntmps13
    go_wp2_with (first | (go_at_call 27; first | (with_reducible refine (HV1.out _).mono ?_; rintro e w' ⟨rfl, d, rfl⟩) | (with_reducible refine (HV2.out _).mono ?_; rintro e w' ⟨rfl, d, rfl⟩)) | (go_at_call 28; first | (with_reducible refine (HN1.out _).mono ?_; rintro e w' ⟨rfl, d, rfl⟩) | (with_reducible refine (HN2.out _).mono ?_; rintro e w' ⟨rfl, d, rfl⟩)))
    refine region_bw (by kernel_rfl) (by kernel_rfl) ?_
    repeat (go_big_quiet_step ((first | fail)))
    refine wpQuiet_nil ?_
    rintro w' ⟨d, rfl⟩
    rw [lay_bw]
    go_wp2_with (go_at_call 21; refine (HSg.out _).mono ?_; rintro e w' ⟨rfl, rfl⟩)
    exact bodyPost_ret (v := .tuple #[(.agg #[.int .i64 (-10800000), .int .i64 (10800000)]), .int .i64 0]) (by simp [results, Try.results13, go_sem]) rfl ⟨rfl, lay_ex _ _⟩
  · have t1 : ¬ 21600000 ≤ (z1 - o0) - (z0 - o1) := hw
    unfold ebL ebH
    rw [if_neg hw, if_neg hw]
    clear hw
    generalize signedI (z0 - o1) = S at *
    refine lay_start ?_
    go_enter Try.func13, Try.ntmps13
    go_wp2_with (first | (go_at_call 27; first | (with_reducible refine (HV1.out _).mono ?_; rintro e w' ⟨rfl, d, rfl⟩) | (with_reducible refine (HV2.out _).mono ?_; rintro e w' ⟨rfl, d, rfl⟩)) | (go_at_call 28; first | (with_reducible refine (HN1.out _).mono ?_; rintro e w' ⟨rfl, d, rfl⟩) | (with_reducible refine (HN2.out _).mono ?_; rintro e w' ⟨rfl, d, rfl⟩)))
    refine region_bw (by kernel_rfl) (by kernel_rfl) ?_
    repeat (go_big_quiet_step ((first | fail)))
    refine wpQuiet_nil ?_
    rintro w' ⟨d, rfl⟩
    rw [lay_bw]
    go_wp2_with (go_at_call 21; refine (HSg.out _).mono ?_; rintro e w' ⟨rfl, rfl⟩)
    exact bodyPost_ret (v := .tuple #[(.agg #[.int .i64 (S), .int .i64 (S + (z1 - o0) - (z0 - o1))]), .int .i64 0]) (by simp [results, Try.results13, go_sem]) rfl ⟨rfl, lay_ex _ _⟩
def agrB (a0 a1 b0 b1 : Int) : Bool := decide ((b0 - a0) % 21600000 ≤ a1 - a0) || decide ((a0 - b0) % 21600000 ≤ b1 - b0)
set_option maxHeartbeats 1000000 in
theorem angle_Agree (a0 a1 b0 b1 : Int) (w : World) (va : validB a0 a1 = true) (vb : validB b0 b1 = true) :
    Calls Try.prog 14 #[(.agg #[.int .i64 (a0), .int .i64 (a1)]), (.agg #[.int .i64 (b0), .int .i64 (b1)])] w fun e w' => e = .returned (.tuple #[.bool (agrB a0 a1 b0 b1), .int .i64 0]) ∧ ∃ d, w' = bw w d := by
  have HV1 : Hid (∀ W, Calls Try.prog 27 #[(.agg #[.int .i64 (a0), .int .i64 (a1)])] W fun e w' => e = .returned (.bool true) ∧ ∃ d, w' = bw W d) := Lib.hid (fun W => by rw [← va]; exact angle_Valid a0 a1 W)
  have HV2 : Hid (∀ W, Calls Try.prog 27 #[(.agg #[.int .i64 (b0), .int .i64 (b1)])] W fun e w' => e = .returned (.bool true) ∧ ∃ d, w' = bw W d) := Lib.hid (fun W => by rw [← vb]; exact angle_Valid b0 b1 W)
  obtain ⟨p0, p1, p2⟩ := validB_iff.1 va
  obtain ⟨p3, p4, p5⟩ := validB_iff.1 vb
  have w1 : IntKind.i64.wrap (b0 - a0) = b0 - a0 := IntWalk.i64_in _ (by omega)
  have w2 : IntKind.i64.wrap (a1 - a0) = a1 - a0 := IntWalk.i64_in _ (by omega)
  have w3 : IntKind.i64.wrap (a0 - b0) = a0 - b0 := IntWalk.i64_in _ (by omega)
  have w4 : IntKind.i64.wrap (b1 - b0) = b1 - b0 := IntWalk.i64_in _ (by omega)
  have HW1 := Lib.hid (fun W => angle_Wrap (b0 - a0) W)
  have HW2 := Lib.hid (fun W => angle_Wrap (a0 - b0) W)
  unfold agrB
  clear va vb
  by_cases h1 : (b0 - a0) % 21600000 ≤ a1 - a0
  · have t1 : decide ((b0 - a0) % 21600000 ≤ a1 - a0) = true := decide_eq_true h1
    rw [t1, Bool.true_or]
    clear h1
    generalize (b0 - a0) % 21600000 = X at *
    refine lay_start ?_
    go_enter Try.func14, Try.ntmps14
    go_wp2_with (go_at_call 27; first | (with_reducible refine (HV1.out _).mono ?_; rintro e w' ⟨rfl, d, rfl⟩) | (with_reducible refine (HV2.out _).mono ?_; rintro e w' ⟨rfl, d, rfl⟩))
    refine region_bw (by kernel_rfl) (by kernel_rfl) ?_
    repeat (go_big_quiet_step ((first | (go_at_call 29; exact bqs (HW1.out _) ⟨_, rfl⟩))))
    refine wpQuiet_nil ?_
    rintro w' ⟨d, rfl⟩
    rw [lay_bw]
    go_wp2
    go_ret2
    exact ⟨rfl, lay_ex _ _⟩
  · have t1 : decide ((b0 - a0) % 21600000 ≤ a1 - a0) = false := decide_eq_false h1
    rw [t1, Bool.false_or]
    clear h1
    generalize (b0 - a0) % 21600000 = X at *
    generalize (a0 - b0) % 21600000 = Y at *
    refine lay_start ?_
    go_enter Try.func14, Try.ntmps14
    go_wp2_with (go_at_call 27; first | (with_reducible refine (HV1.out _).mono ?_; rintro e w' ⟨rfl, d, rfl⟩) | (with_reducible refine (HV2.out _).mono ?_; rintro e w' ⟨rfl, d, rfl⟩))
    refine region_bw (by kernel_rfl) (by kernel_rfl) ?_
    repeat (go_big_quiet_step ((first | (go_at_call 29; first | (with_reducible refine bqs (HW1.out _) ?_; exact ⟨_, rfl⟩) | (with_reducible refine bqs (HW2.out _) ?_; exact ⟨_, rfl⟩)))))
    refine wpQuiet_nil ?_
    rintro w' ⟨d, rfl⟩
    rw [lay_bw]
    go_wp2
    go_ret2
    exact ⟨rfl, lay_ex _ _⟩
end Go.Proofs.Ytlkphcjlgbimkaa
