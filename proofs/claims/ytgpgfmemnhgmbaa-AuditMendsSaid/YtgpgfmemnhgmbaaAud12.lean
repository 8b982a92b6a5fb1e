/- audit: Differences' errors; what the examples of the chapter compute. -/
import Derived.Test.YtgpgfmemnhgmbaaProg
import Derived.Test.YtgpgfmemnhgmbaaLay
import Derived.Test.YtgpgfmemnhgmbaaRegion
import Derived.Test.YtgpgfmemnhgmbaaMix
import Derived.WalkKit
import Derived.WalkSpells
import Derived.WalkLawsBesides
import Derived.Lib.Hide
import Derived.BigQuiet
import Derived.Test.YtgpgfmemnhgmbaaPlain
import Derived.Test.YtgpgfmemnhgmbaaAngle
import Derived.Test.YtgpgfmemnhgmbaaAud11
namespace Go.Proofs.Ytgpgfmemnhgmbaa
open Go.RowKit

def difE (wr : Bool) (l : List Int) (order : Int) : Int := if givE wr l = 0 then (if 0 ≤ order ∧ order ≤ 5 then 0 else 2) else givE wr l
set_option maxHeartbeats 1000000 in
theorem aud_Differences_no (v : Value) (l : List Int) (wr : Bool) (order : Int) (w : World) (hs : Sl w v l) (he : difE wr l order ≠ 0) :
    Calls Try.prog 12 #[v, .int .i64 order, .bool wr] w (RwE w [] (difE wr l order)) := by
  have HC := Lib.hid (fun W (h : Sl W v l) => aud_check v l wr W h)
  have HS := Lib.hid hs
  obtain ⟨a, cap, rfl, -⟩ := hs
  have hE : difE wr l order = if givE wr l = 0 then (if 0 ≤ order ∧ order ≤ 5 then 0 else 2) else givE wr l := rfl
  rw [hE] at he ⊢
  generalize l.length = m at *
  generalize givE wr l = E at *
  clear hE
  by_cases h0 : E = 0
  · subst h0
    rw [if_pos rfl] at he ⊢
    have hno : ¬ (0 ≤ order ∧ order ≤ 5) := fun h => he (if_pos h)
    rw [if_neg hno]
    clear he
    by_cases h1 : order < 0
    · have t1 : decide (order < 0) = true := decide_eq_true h1
      refine lay_start ?_
      go_enter Try.func12, Try.ntmps12
      go_wp2_with (go_at_call 25; refine (HC.out _ (HS.out.lay _)).mono ?_; rintro e w' ⟨rfl, d, rfl⟩)
      obtain ⟨z, hz⟩ := lay_ex w [.inr d, .inl (.cells #[.slice a m cap, .bool wr] 57 (0, 0))]
      exact bodyPost_ret (v := .tuple #[.slice none 0 0, .int .i64 2]) (by simp [results, Try.results12, go_sem]) rfl ⟨_, z, rfl, hz, Ow.nil _ _⟩
    · have t1 : decide (order < 0) = false := decide_eq_false h1
      have t2 : decide (5 < order) = true := decide_eq_true (by omega)
      refine lay_start ?_
      go_enter Try.func12, Try.ntmps12
      go_wp2_with (go_at_call 25; refine (HC.out _ (HS.out.lay _)).mono ?_; rintro e w' ⟨rfl, d, rfl⟩)
      obtain ⟨z, hz⟩ := lay_ex w [.inr d, .inl (.cells #[.slice a m cap, .bool wr] 57 (0, 0))]
      exact bodyPost_ret (v := .tuple #[.slice none 0 0, .int .i64 2]) (by simp [results, Try.results12, go_sem]) rfl ⟨_, z, rfl, hz, Ow.nil _ _⟩
  · rw [if_neg h0]
    have t1 : (E == 0) = false := beq_eq_false_iff_ne.2 h0
    clear he h0
    refine lay_start ?_
    go_enter Try.func12, Try.ntmps12
    go_wp2_with (go_at_call 25; refine (HC.out _ (HS.out.lay _)).mono ?_; rintro e w' ⟨rfl, d, rfl⟩)
    obtain ⟨z, hz⟩ := lay_ex w [.inr d, .inl (.cells #[.slice a m cap, .bool wr] 57 (0, 0))]
    exact bodyPost_ret (v := .tuple #[.slice none 0 0, .int .i64 E]) (by simp [results, Try.results12, go_sem]) rfl ⟨_, z, rfl, hz, Ow.nil _ _⟩
/-- Differences, all ways. -/
def dfL (wr : Bool) (l : List Int) (order : Int) : List Int := if difE wr l order = 0 then difL wr l order.toNat else []
theorem aud_Diff (v : Value) (l : List Int) (wr : Bool) (order : Int) (w : World) (hs : Sl w v l) :
    Calls Try.prog 12 #[v, .int .i64 order, .bool wr] w (RwE w (dfL wr l order) (difE wr l order)) := by
  unfold dfL
  by_cases h : difE wr l order = 0
  · rw [if_pos h, h]
    have h2 : givE wr l = 0 ∧ 0 ≤ order ∧ order ≤ 5 := by
      unfold difE at h
      split at h
      · split at h
        · exact ⟨‹_›, ‹_›⟩
        · cases h
      · exact absurd h ‹_›
    obtain ⟨k, rfl⟩ := Int.eq_ofNat_of_zero_le h2.2.1
    rw [Int.toNat_natCast]
    exact aud_Differences v l wr k w hs (giv_iff.1 h2.1) (by omega)
  · rw [if_neg h]
    exact aud_Differences_no v l wr order w hs h

theorem eg_d1 : difE false [0, 1, 4, 9] 2 = 0 ∧ dfL false [0, 1, 4, 9] 2 = [2, 2] := by decide +kernel
theorem eg_d2 : difE true [215990, 10, 30] 1 = 0 ∧ dfL true [215990, 10, 30] 1 = [20, 20] := by decide +kernel
theorem eg_p : gvE false [10, 20, 30, 45, 50, 60] 0 = 0 ∧ posB false [10, 20, 30, 45, 50, 60] 0 = false ∧ posK false [10, 20, 30, 45, 50, 60] 0 = 2 := by decide +kernel
theorem eg_rep : repL false [10, 20, 30, 45, 50, 60] 0 3 = [39, 40, 41] := by
  have h1 : rawL false [10, 20, 30, 45, 50, 60] 0 3 = [38, 39, 40, 41, 42] := by decide +kernel
  have h2 : once (rawL false [10, 20, 30, 45, 50, 60] 0 3) = [38, 39, 40, 41, 42] :=
    asc_eq (asc_once _) (by unfold Asc; decide) (fun x => by rw [mem_once, h1])
  unfold repL
  rw [h2]
  decide +kernel
theorem eg_r : rprE false [10, 20, 30, 45, 50, 60] 0 3 = 0 ∧ rprL false [10, 20, 30, 45, 50, 60] 0 3 = [39, 40, 41] := by
  have h1 : rprE false [10, 20, 30, 45, 50, 60] 0 3 = 0 := by
    unfold rprE
    rw [if_pos eg_p.1, if_pos (by decide), show (3 : Int).toNat = 3 from rfl, eg_rep]
    decide
  refine ⟨h1, ?_⟩
  unfold rprL
  rw [if_pos h1, show (3 : Int).toNat = 3 from rfl, eg_rep]
end Go.Proofs.Ytgpgfmemnhgmbaa
