/- AuditMends: the ways out ahead of the loop. -/
import Derived.Test.YtgpgfmemnhgmbaaProg
import Derived.Test.YtgpgfmemnhgmbaaLay
import Derived.Test.YtgpgfmemnhgmbaaRegion
import Derived.Test.YtgpgfmemnhgmbaaMix
import Derived.WalkKit
import Derived.WalkSpells
import Derived.WalkLawsBesides
import Derived.Lib.Hide
import Derived.BigQuiet
import Derived.Test.YtgpgfmemnhgmbaaPlain
import Derived.Test.YtgpgfmemnhgmbaaAngle
import Derived.Test.YtgpgfmemnhgmbaaLf
namespace Go.Proofs.Ytgpgfmemnhgmbaa
open Go.RowKit

set_option maxHeartbeats 4000000 in
set_option maxRecDepth 100000 in
theorem law15_Mends_out (v : Value) (l : List Int) {w : World} (hs : Sl w v l) (bend : Int) (bb : 0 ≤ bend ∧ bend ≤ 65535) (more : Int) (mb : 0 ≤ more ∧ more ≤ 65535) (at_ : Int) (wr : Bool)
    (h : 40 < l.length ∨ givE wr l ≠ 0) :
    Calls Try.prog 7 #[v, .int .u16 bend, .int .u16 more, .int .u8 at_, .bool wr] w fun e w' => e = .returned (.bool true) ∧ ∃ d, w' = bw w d := by
  have HS := Lib.hid hs
  have HG := Lib.hid (fun W (h : Sl W v l) => re_Given v l wr W h)
  obtain ⟨b0, b1⟩ := bb
  obtain ⟨m0, m1⟩ := mb
  obtain ⟨B, hB⟩ : ∃ B, bend % 1001 = B := ⟨_, rfl⟩
  have tB : bend.tmod 1001 = B := by rw [Int.tmod_eq_emod_of_nonneg b0]; exact hB
  have B0 : 0 ≤ B := by omega
  have B1 : B ≤ 1000 := by omega
  obtain ⟨D, hD⟩ : ∃ D, more % 50 = D := ⟨_, rfl⟩
  have tD : more.tmod 50 = D := by rw [Int.tmod_eq_emod_of_nonneg m0]; exact hD
  have D0 : 0 ≤ D := by omega
  have D1 : D < 50 := by omega
  clear hB hD
  obtain ⟨a1, c1', hv1, -⟩ := hs
  subst hv1
  generalize givE wr l = E at *
  generalize l.length = m at *
  by_cases h1 : 40 < m
  · have t1 : decide ((40 : Int) < (m : Int)) = true := decide_eq_true (by omega)
    refine lay_start ?_
    go_enter Try.func7, Try.ntmps7
    go_wp2_with (first | (go_at_call 10; with_reducible refine (law15_awake _).mono ?_; rintro e w' ⟨rfl, d, rfl⟩))
    go_ret
    exact ⟨rfl, lay_ex _ _⟩
  · have t1 : decide ((40 : Int) < (m : Int)) = false := decide_eq_false (by omega)
    have h2 : E ≠ 0 := h.resolve_left h1
    have t2 : (E == 0) = false := beq_eq_false_iff_ne.2 h2
    refine lay_start ?_
    go_enter Try.func7, Try.ntmps7
    go_wp2_with (first | (go_at_call 10; with_reducible refine (law15_awake _).mono ?_; rintro e w' ⟨rfl, d, rfl⟩) | (go_at_call 13; with_reducible refine (HG.out _ (HS.out.lay _)).mono ?_; rintro e w' ⟨rfl, rfl⟩))
    go_ret
    exact ⟨rfl, lay_ex _ _⟩
end Go.Proofs.Ytgpgfmemnhgmbaa
