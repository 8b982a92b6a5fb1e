/- almanac.star: where a star is over a time. -/
import Derived.Test.YtlkphcjlgbimkaaGreatProg
import Derived.Test.YtlkphcjlgbimkaaGreatLay
import Derived.Test.YtlkphcjlgbimkaaGreatRegion
import Derived.Test.YtlkphcjlgbimkaaGreatMix
import Derived.WalkKit
import Derived.WalkSpells
import Derived.WalkLawsBesides
import Derived.Lib.Hide
import Derived.BigQuiet
import Derived.Test.YtlkphcjlgbimkaaGreatPlain
import Derived.Test.YtlkphcjlgbimkaaGreatAngle
import Derived.Test.YtlkphcjlgbimkaaGreatSid5
import Derived.Test.YtlkphcjlgbimkaaGreatAlm1
import Derived.Test.YtlkphcjlgbimkaaGreatAlm2
import Derived.Test.YtlkphcjlgbimkaaGreatMixC
namespace Go.Proofs.YtlkphcjlgbimkaaGreat
open Go.RowKit

theorem turn_bd {x y : Int} (h : x ≤ y) : 0 ≤ turnLo x y ∧ turnLo x y ≤ 21599999 ∧ turnLo x y ≤ turnHi x y ∧ turnHi x y ≤ turnLo x y + 21600000 := by
  unfold turnLo turnHi
  split <;> omega
theorem turn_valid {x y : Int} (h : x ≤ y) : validB (turnLo x y) (turnHi x y) = true := by
  have := turn_bd h
  rw [validB_iff]; omega
/-- Aries over a time. -/
def agL (a b : Int) : Int := turnLo (ariF a) (ariU b)
def agH (a b : Int) : Int := turnHi (ariF a) (ariU b)
theorem ag_bd {a b : Int} (h : a ≤ b) : 0 ≤ agL a b ∧ agL a b ≤ 21599999 ∧ agL a b ≤ agH a b ∧ agH a b ≤ agL a b + 21600000 := turn_bd (ariF_le h)
theorem ag_valid {a b : Int} (h : a ≤ b) : validB (agL a b) (agH a b) = true := turn_valid (ariF_le h)
/-- A star over a time. -/
def sgL (a b sha : Int) : Int := turnLo (agL a b + (100 * sha - 50)) (agH a b + (100 * sha + 50))
def sgH (a b sha : Int) : Int := turnHi (agL a b + (100 * sha - 50)) (agH a b + (100 * sha + 50))
def dcL (n : Int) : Int := mx (100 * n - 50) (-5400000)
def dcH (n : Int) : Int := mn (100 * n + 50) 5400000
set_option maxHeartbeats 1000000 in
set_option maxRecDepth 100000 in
theorem alm_star (s : ByteArray) (sha dec mag a b : Int) (w : World) (hv : timB a b = true) (h0 : 0 ≤ sha) (h1 : sha ≤ 215999) (d0 : -54000 ≤ dec) (d1 : dec ≤ 54000) :
    Calls Tryz.prog 66 #[.agg #[.string s, .int .i64 sha, .int .i64 dec, .int .i64 mag], (.agg #[.int .i64 (a), .int .i64 (b)])] w fun e w' =>
      e = .returned (.tuple #[(.agg #[.int .i64 (sgL a b sha), .int .i64 (sgH a b sha), .int .i64 (dcL dec), .int .i64 (dcH dec), .int .i64 (0), .int .i64 (0), .int .i64 (0), .int .i64 (0)]), .int .i64 0]) ∧ ∃ d, w' = bw w d := by
  obtain ⟨g1, g2, g3⟩ := timB_iff.1 hv
  have HI := Lib.hid (fun w => sid_Interval a b w hv)
  have HA := Lib.hid (fun w => alm_around sha w (by omega) (by omega))
  have HD := Lib.hid (fun w => alm_around dec w (by omega) (by omega))
  have b1 := ag_bd g1
  have HS := Lib.hid (fun w => angle_Add (agL a b) (agH a b) (100 * sha - 50) (100 * sha + 50) w (ag_valid g1) (validB_iff.2 (by omega)) (validB_iff.2 (by omega)))
  have HT := Lib.hid (fun w => angle_Turn (agL a b + (100 * sha - 50)) (agH a b + (100 * sha + 50)) w (validB_iff.2 (by omega)))
  unfold sgL sgH dcL dcH
  change Hid (∀ w, Calls Tryz.prog _ _ w fun e w' => e = .returned (.tuple #[(.agg #[.int .i64 (agL a b), .int .i64 (agH a b)]), .int .i64 0]) ∧ ∃ d, w' = bw w d) at HI
  generalize agL a b = x at *
  generalize agH a b = y at *
  generalize turnLo (x + (100 * sha - 50)) (y + (100 * sha + 50)) = p at *
  generalize turnHi (x + (100 * sha - 50)) (y + (100 * sha + 50)) = q at *
  clear g1 g2 g3 hv b1
  refine lay_start ?_
  go_enter Tryz.func66, Tryz.ntmps66
  go_wp2_with (first | (go_at_call 65; refine (HI.out _).mono ?_; rintro e w' ⟨rfl, dI, rfl⟩))
  refine region_mixC [(1, 0), (2, 0), (3, 0), (0, 1), (4, 0), (5, 0), (6, 0), (7, 0), (8, 1), (9, 0)] (lay w [.inr dI, .inl (.cells #[.int .i64 0, .int .i64 0, .int .i64 0, .int .i64 0, .int .i64 0, .int .i64 0, .int .i64 0, .int .i64 0] 35 (0, 0)), .inl (.cells #[.int .i64 a, .int .i64 b] 25 (0, 0)), .inl (.cells #[.string s, .int .i64 sha, .int .i64 dec, .int .i64 mag] 70 (0, 0))]) (by kernel_rfl) (by kernel_rfl) (by kernel_rfl) rfl (by first | exact lay_in w [] _ | exact lay_in w [_] _ | exact lay_in w [_, _] _ | exact lay_in w [_, _, _] _ | exact lay_in w [_, _, _, _] _) ?_
  repeat (first | (refine wpMP_quiet rfl (fun K hK => ?_); go_simp; first | (refine hK _ ?_; clear hK K) | (apply Exists.intro; refine ⟨fun _ => ?_, hK _ ?_⟩; (first | (go_at_call 119; exact bq (HA.out _) (fun d => ⟨d, rfl⟩)) | (go_at_call 119; exact bq (HA.out _) (fun d => lay_join _ _ _ d)) | (go_at_call 88; exact bq (HS.out _) (fun d => ⟨d, rfl⟩)) | (go_at_call 88; exact bq (HS.out _) (fun d => lay_join _ _ _ d))); clear hK K)) | (refine wpMP_special rfl (fun K hK d => ?_); go_simp; refine hK _ _ (by first | exact lay_in w [_] _ | exact lay_in w [_, _] _ | exact lay_in w [_, _, _] _ | exact lay_in w [_, _, _, _] _ | exact lay_in w [_, _, _, _, _] _ | exact lay_in w [_, _, _, _, _, _] _) ?_; clear hK K))
  refine wpMP_nil ?_
  intro d
  rw [lay_bw]
  go_wp2_with (first | (go_at_call 87; refine (HT.out _).mono ?_; rintro e w' ⟨rfl, d, rfl⟩) | (go_at_call 119; refine (HD.out _).mono ?_; rintro e w' ⟨rfl, d, rfl⟩))
  all_goals exact bodyPost_ret (v := .tuple #[(.agg #[.int .i64 (p), .int .i64 (q), .int .i64 (mx (100 * dec - 50) (-5400000)), .int .i64 (mn (100 * dec + 50) 5400000), .int .i64 (0), .int .i64 (0), .int .i64 (0), .int .i64 (0)]), .int .i64 0]) (by simp [results, Tryz.results66, go_sem]) rfl ⟨rfl, lay_ex _ _⟩
end Go.Proofs.YtlkphcjlgbimkaaGreat
