/- Contracts and plain laws, several texts in one: Sid5; Alm1; Alm2; Alm3 -/
import Derived.Test.YtjfpgpipbooilaaGreatProg
import Derived.WalkKit
import Derived.WalkSpells
import Derived.WalkLawsBesides
import Derived.Lib.Hide
import Derived.BigQuiet
import Derived.Test.YtjfpgpipbooilaaGreatVAA
import Derived.Test.YtjfpgpipbooilaaGreatVAB
import Derived.Test.YtjfpgpipbooilaaGreatVAC
import Derived.Test.YtjfpgpipbooilaaGreatVBC
/- Times that are valid (package clock), the interval of a time (package sidereal). -/
namespace Go.Proofs.YtjfpgpipbooilaaGreat
set_option maxHeartbeats 400000
open Go.RowKit

def insB (t : Int) : Bool := decide (-70368744177664 ≤ t ∧ t ≤ 70368744177664)
def timB (a b : Int) : Bool := decide (a ≤ b) && insB a && insB b
theorem timB_iff {a b : Int} : timB a b = true ↔ a ≤ b ∧ -70368744177664 ≤ a ∧ b ≤ 70368744177664 := by
  unfold timB insB
  simp only [Bool.and_eq_true, decide_eq_true_eq]
  omega
theorem clock_instant (t : Int) (w : World) :
    Calls Tryz.prog 78 #[.int .i64 t] w fun e w' => e = .returned (.bool (insB t)) ∧ w' = w := by
  go_enter Tryz.func78, Tryz.ntmps78
  go_wp2_with fail
  all_goals go_ret
  all_goals exact ⟨ret_bool (by unfold insB; rw [Bool.eq_iff_iff]; simp; try omega), rfl⟩
theorem clock_Valid (a b : Int) (w : World) :
    Calls Tryz.prog 36 #[(.agg #[.int .i64 (a), .int .i64 (b)])] w fun e w' => e = .returned (.bool (timB a b)) ∧ ∃ d, w' = bw w d := by
  refine lay_start ?_
  have c1 := fun w => clock_instant a w
  have c2 := fun w => clock_instant b w
  unfold timB
  generalize insB a = A at *
  generalize insB b = B at *
  go_enter Tryz.func36, Tryz.ntmps36
  by_cases h : a ≤ b
  · cases A
    · go_wp2_with (go_at_call 78; first | (with_reducible refine (c1 _).mono ?_; rintro e w' ⟨rfl, rfl⟩) | (with_reducible refine (c2 _).mono ?_; rintro e w' ⟨rfl, rfl⟩))
      all_goals go_ret
      all_goals exact ⟨ret_bool (by simp [h]), lay_ex _ _⟩
    · go_wp2_with (go_at_call 78; first | (with_reducible refine (c1 _).mono ?_; rintro e w' ⟨rfl, rfl⟩) | (with_reducible refine (c2 _).mono ?_; rintro e w' ⟨rfl, rfl⟩))
      all_goals go_ret
      all_goals exact ⟨ret_bool (by simp [h]), lay_ex _ _⟩
  · go_wp2_with (go_at_call 78; first | (with_reducible refine (c1 _).mono ?_; rintro e w' ⟨rfl, rfl⟩) | (with_reducible refine (c2 _).mono ?_; rintro e w' ⟨rfl, rfl⟩))
    all_goals go_ret
    all_goals exact ⟨ret_bool (by simp; intros; omega), lay_ex _ _⟩
theorem sid_Interval (a b : Int) (w : World) (hv : timB a b = true) :
    Calls Tryz.prog 42 #[(.agg #[.int .i64 (a), .int .i64 (b)])] w fun e w' =>
      e = .returned (.tuple #[(.agg #[.int .i64 (turnLo (ariF a) (ariU b)), .int .i64 (turnHi (ariF a) (ariU b))]), .int .i64 0]) ∧ ∃ d, w' = bw w d := by
  obtain ⟨g1, g2, g3⟩ := timB_iff.1 hv
  refine lay_start ?_
  have c1 := fun w => clock_Valid a b w
  rw [hv] at c1
  have c2 := fun w => sid_between a b w (by omega) g1 (by omega)
  generalize turnLo (ariF a) (ariU b) = x at *
  generalize turnHi (ariF a) (ariU b) = y at *
  clear g1 g2 g3 hv
  go_enter Tryz.func42, Tryz.ntmps42
  go_wp2_with (first | (go_at_call 36; refine (c1 _).mono ?_; rintro e w' ⟨rfl, d, rfl⟩) | (go_at_call 82; refine (c2 _).mono ?_; rintro e w' ⟨rfl, d, rfl⟩))
  all_goals exact bodyPost_ret (v := .tuple #[(.agg #[.int .i64 (x), .int .i64 (y)]), .int .i64 0]) (by simp [results, Tryz.results42, go_sem]) rfl ⟨rfl, lay_ex _ _⟩
end Go.Proofs.YtjfpgpipbooilaaGreat
/- Contracts of package almanac: the arc for tenths. -/
namespace Go.Proofs.YtjfpgpipbooilaaGreat
open Go.RowKit

set_option maxHeartbeats 400000 in
theorem alm_around (n : Int) (w : World) (h0 : -1000000000 ≤ n) (h1 : n ≤ 1000000000) :
    Calls Tryz.prog 83 #[.int .i64 n] w fun e w' => e = .returned (.agg #[.int .i64 (100 * n - 50), .int .i64 (100 * n + 50)]) ∧ ∃ d, w' = bw w d := by
  refine lay_start ?_
  go_enter Tryz.func83, Tryz.ntmps83
  go_wp2_with fail
  all_goals exact bodyPost_ret (v := (.agg #[.int .i64 (100 * n - 50), .int .i64 (100 * n + 50)])) (by simp [results, Tryz.results83, go_sem]) rfl ⟨rfl, lay_ex _ _⟩
end Go.Proofs.YtjfpgpipbooilaaGreat
/- Sums of arcs (package angle). -/
namespace Go.Proofs.YtjfpgpipbooilaaGreat
set_option maxHeartbeats 400000
open Go.RowKit

theorem angle_result (lo hi : Int) (w : World) (hv : validB lo hi = true) :
    Calls Tryz.prog 79 #[.int .i64 lo, .int .i64 hi] w fun e w' => e = .returned (.tuple #[(.agg #[.int .i64 (lo), .int .i64 (hi)]), .int .i64 0]) ∧ ∃ d, w' = bw w d := by
  refine lay_start ?_
  obtain ⟨g1, g2, g3⟩ := validB_iff.1 hv
  have q1 : fitsB lo = true := by simp [fitsB]; omega
  have q2 : fitsB hi = true := by simp [fitsB]; omega
  have c1 := fun w => angle_fits lo w
  have c2 := fun w => angle_fits hi w
  rw [q1] at c1
  rw [q2] at c2
  go_enter Tryz.func79, Tryz.ntmps79
  go_wp2_with (go_at_call 74; first | (with_reducible refine (c1 _).mono ?_; rintro e w' ⟨rfl, rfl⟩) | (with_reducible refine (c2 _).mono ?_; rintro e w' ⟨rfl, rfl⟩))
  all_goals exact bodyPost_ret (v := .tuple #[(.agg #[.int .i64 (lo), .int .i64 (hi)]), .int .i64 0]) (by simp [results, Tryz.results79, go_sem]) rfl ⟨rfl, lay_ex _ _⟩
theorem angle_Add (a b x y : Int) (w : World) (h1 : validB a b = true) (h2 : validB x y = true) (h3 : validB (a + x) (b + y) = true) :
    Calls Tryz.prog 38 #[(.agg #[.int .i64 (a), .int .i64 (b)]), (.agg #[.int .i64 (x), .int .i64 (y)])] w fun e w' => e = .returned (.tuple #[(.agg #[.int .i64 (a + x), .int .i64 (b + y)]), .int .i64 0]) ∧ ∃ d, w' = bw w d := by
  refine lay_start ?_
  obtain ⟨g1, g2, g3⟩ := validB_iff.1 h1
  obtain ⟨k1, k2, k3⟩ := validB_iff.1 h2
  have c1 := fun w => angle_Valid a b w
  rw [h1] at c1
  have c2 := fun w => angle_Valid x y w
  rw [h2] at c2
  have c3 := fun w => angle_result (a + x) (b + y) w h3
  have f1 : wrap64 (a + x) = a + x := by unfold wrap64; omega
  have f2 : wrap64 (b + y) = b + y := by unfold wrap64; omega
  go_enter Tryz.func38, Tryz.ntmps38
  go_wp2_with (first | (go_at_call 30; first | (with_reducible refine (c1 _).mono ?_; rintro e w' ⟨rfl, d, rfl⟩) | (with_reducible refine (c2 _).mono ?_; rintro e w' ⟨rfl, d, rfl⟩)) | (go_at_call 79; refine (c3 _).mono ?_; rintro e w' ⟨rfl, d, rfl⟩))
  all_goals exact bodyPost_ret (v := .tuple #[(.agg #[.int .i64 (a + x), .int .i64 (b + y)]), .int .i64 0]) (by simp [results, Tryz.results38, go_sem]) rfl ⟨rfl, lay_ex _ _⟩
theorem angle_Neg (a b : Int) (w : World) (h1 : validB a b = true) :
    Calls Tryz.prog 100 #[(.agg #[.int .i64 (a), .int .i64 (b)])] w fun e w' => e = .returned (.tuple #[(.agg #[.int .i64 (-b), .int .i64 (-a)]), .int .i64 0]) ∧ ∃ d, w' = bw w d := by
  refine lay_start ?_
  obtain ⟨g1, g2, g3⟩ := validB_iff.1 h1
  have c1 := fun w => angle_Valid a b w
  rw [h1] at c1
  have c3 := fun w => angle_result (-b) (-a) w (validB_iff.2 ⟨by omega, by omega, by omega⟩)
  go_enter Tryz.func100, Tryz.ntmps100
  go_wp2_with (first | (go_at_call 30; refine (c1 _).mono ?_; rintro e w' ⟨rfl, d, rfl⟩) | (go_at_call 79; refine (c3 _).mono ?_; rintro e w' ⟨rfl, d, rfl⟩))
  all_goals exact bodyPost_ret (v := .tuple #[(.agg #[.int .i64 (-b), .int .i64 (-a)]), .int .i64 0]) (by simp [results, Tryz.results100, go_sem]) rfl ⟨rfl, lay_ex _ _⟩
theorem angle_Sub (a b x y : Int) (w : World) (h1 : validB a b = true) (h2 : validB x y = true) (h3 : validB (a + -y) (b + -x) = true) :
    Calls Tryz.prog 53 #[(.agg #[.int .i64 (a), .int .i64 (b)]), (.agg #[.int .i64 (x), .int .i64 (y)])] w fun e w' => e = .returned (.tuple #[(.agg #[.int .i64 (a + -y), .int .i64 (b + -x)]), .int .i64 0]) ∧ ∃ d, w' = bw w d := by
  refine lay_start ?_
  obtain ⟨k1, k2, k3⟩ := validB_iff.1 h2
  have c1 := fun w => angle_Neg x y w h2
  have c3 := fun w => angle_Add a b (-y) (-x) w h1 (validB_iff.2 ⟨by omega, by omega, by omega⟩) h3
  go_enter Tryz.func53, Tryz.ntmps53
  go_wp2_with (first | (go_at_call 100; refine (c1 _).mono ?_; rintro e w' ⟨rfl, d, rfl⟩) | (go_at_call 38; refine (c3 _).mono ?_; rintro e w' ⟨rfl, d, rfl⟩))
  all_goals exact bodyPost_ret (v := .tuple #[(.agg #[.int .i64 (a + -y), .int .i64 (b + -x)]), .int .i64 0]) (by simp [results, Tryz.results53, go_sem]) rfl ⟨rfl, lay_ex _ _⟩
end Go.Proofs.YtjfpgpipbooilaaGreat
/- almanac.star: where a star is over a time. -/
namespace Go.Proofs.YtjfpgpipbooilaaGreat
open Go.RowKit

theorem turn_bd {x y : Int} (h : x ≤ y) : 0 ≤ turnLo x y ∧ turnLo x y ≤ 21599999 ∧ turnLo x y ≤ turnHi x y ∧ turnHi x y ≤ turnLo x y + 21600000 := by
  unfold turnLo turnHi
  split <;> omega
theorem turn_valid {x y : Int} (h : x ≤ y) : validB (turnLo x y) (turnHi x y) = true := by
  have := turn_bd h
  rw [validB_iff]; omega
def agL (a b : Int) : Int := turnLo (ariF a) (ariU b)
def agH (a b : Int) : Int := turnHi (ariF a) (ariU b)
theorem ag_bd {a b : Int} (h : a ≤ b) : 0 ≤ agL a b ∧ agL a b ≤ 21599999 ∧ agL a b ≤ agH a b ∧ agH a b ≤ agL a b + 21600000 := turn_bd (ariF_le h)
theorem ag_valid {a b : Int} (h : a ≤ b) : validB (agL a b) (agH a b) = true := turn_valid (ariF_le h)
def sgL (a b sha : Int) : Int := turnLo (agL a b + (100 * sha - 50)) (agH a b + (100 * sha + 50))
def sgH (a b sha : Int) : Int := turnHi (agL a b + (100 * sha - 50)) (agH a b + (100 * sha + 50))
def dcL (n : Int) : Int := mx (100 * n - 50) (-5400000)
def dcH (n : Int) : Int := mn (100 * n + 50) 5400000
set_option maxHeartbeats 1000000 in
set_option maxRecDepth 100000 in
theorem alm_star (s : ByteArray) (sha dec mag a b : Int) (w : World) (hv : timB a b = true) (h0 : 0 ≤ sha) (h1 : sha ≤ 215999) (d0 : -54000 ≤ dec) (d1 : dec ≤ 54000) :
    Calls Tryz.prog 43 #[.agg #[.string s, .int .i64 sha, .int .i64 dec, .int .i64 mag], (.agg #[.int .i64 (a), .int .i64 (b)])] w fun e w' =>
      e = .returned (.tuple #[(.agg #[.int .i64 (sgL a b sha), .int .i64 (sgH a b sha), .int .i64 (dcL dec), .int .i64 (dcH dec), .int .i64 (0), .int .i64 (0), .int .i64 (0), .int .i64 (0)]), .int .i64 0]) ∧ ∃ d, w' = bw w d := by
  obtain ⟨g1, g2, g3⟩ := timB_iff.1 hv
  have HI := Lib.hid (fun w => sid_Interval a b w hv)
  have HA := Lib.hid (fun w => alm_around sha w (by omega) (by omega))
  have HD := Lib.hid (fun w => alm_around dec w (by omega) (by omega))
  have b1 := ag_bd g1
  have HS := Lib.hid (fun w => angle_Add (agL a b) (agH a b) (100 * sha - 50) (100 * sha + 50) w (ag_valid g1) (validB_iff.2 (by omega)) (validB_iff.2 (by omega)))
  have HT := Lib.hid (fun w => angle_Turn (agL a b + (100 * sha - 50)) (agH a b + (100 * sha + 50)) w (validB_iff.2 (by omega)))
  unfold sgL sgH dcL dcH
  change Hid (∀ w, Calls Tryz.prog _ _ w fun e w' => e = .returned (.tuple #[(.agg #[.int .i64 (agL a b), .int .i64 (agH a b)]), .int .i64 0]) ∧ ∃ d, w' = bw w d) at HI
  generalize agL a b = x at *
  generalize agH a b = y at *
  generalize turnLo (x + (100 * sha - 50)) (y + (100 * sha + 50)) = p at *
  generalize turnHi (x + (100 * sha - 50)) (y + (100 * sha + 50)) = q at *
  clear g1 g2 g3 hv b1
  refine lay_start ?_
  go_enter Tryz.func43, Tryz.ntmps43
  go_wp2_with (first | (go_at_call 42; refine (HI.out _).mono ?_; rintro e w' ⟨rfl, dI, rfl⟩))
  refine region_mixC [(1, 0), (2, 0), (3, 0), (0, 1), (4, 0), (5, 0), (6, 0), (7, 0), (8, 1), (9, 0)] (lay w [.inr dI, .inl (.cells #[.int .i64 0, .int .i64 0, .int .i64 0, .int .i64 0, .int .i64 0, .int .i64 0, .int .i64 0, .int .i64 0] 59 (0, 0)), .inl (.cells #[.int .i64 a, .int .i64 b] 25 (0, 0)), .inl (.cells #[.string s, .int .i64 sha, .int .i64 dec, .int .i64 mag] 75 (0, 0))]) (by kernel_rfl) (by kernel_rfl) (by kernel_rfl) rfl (by first | exact lay_in w [] _ | exact lay_in w [_] _ | exact lay_in w [_, _] _ | exact lay_in w [_, _, _] _ | exact lay_in w [_, _, _, _] _) ?_
  repeat (first | (refine wpMP_quiet rfl (fun K hK => ?_); go_simp; first | (refine hK _ ?_; clear hK K) | (apply Exists.intro; refine ⟨fun _ => ?_, hK _ ?_⟩; (first | (go_at_call 83; exact bq (HA.out _) (fun d => ⟨d, rfl⟩)) | (go_at_call 83; exact bq (HA.out _) (fun d => lay_join _ _ _ d)) | (go_at_call 38; exact bq (HS.out _) (fun d => ⟨d, rfl⟩)) | (go_at_call 38; exact bq (HS.out _) (fun d => lay_join _ _ _ d))); clear hK K)) | (refine wpMP_special rfl (fun K hK d => ?_); go_simp; refine hK _ _ (by first | exact lay_in w [_] _ | exact lay_in w [_, _] _ | exact lay_in w [_, _, _] _ | exact lay_in w [_, _, _, _] _ | exact lay_in w [_, _, _, _, _] _ | exact lay_in w [_, _, _, _, _, _] _) ?_; clear hK K))
  refine wpMP_nil ?_
  intro d
  rw [lay_bw]
  go_wp2_with (first | (go_at_call 37; refine (HT.out _).mono ?_; rintro e w' ⟨rfl, d, rfl⟩) | (go_at_call 83; refine (HD.out _).mono ?_; rintro e w' ⟨rfl, d, rfl⟩))
  all_goals exact bodyPost_ret (v := .tuple #[(.agg #[.int .i64 (p), .int .i64 (q), .int .i64 (mx (100 * dec - 50) (-5400000)), .int .i64 (mn (100 * dec + 50) 5400000), .int .i64 (0), .int .i64 (0), .int .i64 (0), .int .i64 (0)]), .int .i64 0]) (by simp [results, Tryz.results43, go_sem]) rfl ⟨rfl, lay_ex _ _⟩
end Go.Proofs.YtjfpgpipbooilaaGreat
