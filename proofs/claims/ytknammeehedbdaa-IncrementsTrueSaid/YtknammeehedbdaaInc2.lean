/- Contracts of package increments: Table and its reference; slices.Equal at ints. -/
import Derived.Test.YtknammeehedbdaaProg
import Derived.Test.YtknammeehedbdaaLay
import Derived.Test.YtknammeehedbdaaRegion
import Derived.Test.YtknammeehedbdaaMix
import Derived.WalkKit
import Derived.WalkSpells
import Derived.WalkLawsBesides
import Derived.Lib.Hide
import Derived.BigQuiet
import Derived.Test.YtknammeehedbdaaPlain
import Derived.Test.YtknammeehedbdaaAngle
import Derived.Test.YtknammeehedbdaaInc1
namespace Go.Proofs.Ytknammeehedbdaa
open Go.RowKit

theorem info_int : (Try.prog.info? 3).map (fun i => (i.zero, i.size, i.bytes)) = some (some (.int .i64 0), 1, 8) := by kernel_rfl

/-- The table of a rate: the first k entries. -/
def tab (rate : Int) (k : Nat) : List Value := (List.range k).map fun m : Nat => .int .i64 ((rate * (m : Int) + 3000) / 6000)
theorem tab_succ (rate : Int) (k : Nat) : tab rate (k + 1) = tab rate k ++ [.int .i64 ((rate * (k : Int) + 3000) / 6000)] := by simp [tab, List.range_succ]

set_option maxHeartbeats 1000000 in
theorem inc_Table_ok (rate : Int) (w : World) (h1 : -21600000 ≤ rate) (h2 : rate ≤ 21600000) :
    Calls Try.prog 16 #[.int .i64 rate] w fun e w' => ∃ v d, e = .returned (.tuple #[v, .int .i64 0]) ∧ w' = bw w d ∧ (bw w d).ownsRow w.heap.size 3 1 v 61 (tab rate 61) := by
  obtain ⟨i0, hi, hz0, hz1, hz2⟩ := info_parts info_int
  go_enter Try.func16, Try.ntmps16
  go_wp2_with fail
  go_loopw [4, 12] (fun v i wr => ∃ (k : Nat) (d : Ext), k ≤ 61 ∧ i = .int .i64 k ∧ wr = bw w d ∧ (bw w d).ownsRow w.heap.size 3 1 v k (tab rate k)) (fun _ i _ => 61 - (intOf i).toNat)
  case atStart => exact ⟨0, ⟨#[], w.drawn⟩, by omega, rfl, by simp [bw], row_nil _ _ _ _⟩
  case round =>
    obtain ⟨k, d, hk, rfl, rfl, hown⟩ := hrel
    have hm := mul_bd (x := rate) (k := (k : Int)) 21600000 h1 h2 (by omega)
    go_wp2_with (first | (go_at_call 38; refine (inc_floor _ _ _ (by omega) (by omega) (by omega)).mono ?_; rintro e w' ⟨rfl, rfl⟩) | (at_builtin; refine wpList_push rfl _ _ 32 rfl 3 i0 (.int .i64 0) 1 8 Try.underlying32 hi hz0 hz1 hz2 rfl (by decide) w (bw w d) #[.int .i64 ((rate * (k : Int) + 3000) / 6000)] _ _ _ _ (bw_below w d) hown rfl rfl rfl (by simp [Value.oneCell']) (by unfold maxLen; omega) (by omega) ?_; intro v' d' hown'))
    · go_roundw
      case rel => exact ⟨k + 1, d', by omega, by go_num, rfl, by rw [tab_succ]; exact hown'⟩
      case measure => simp [intOf]; omega
    · obtain rfl : k = 61 := by omega
      exact bodyPost_ret (v := .tuple #[u4, .int .i64 0]) (by simp [results, Try.results16, go_sem]) rfl ⟨_, d, rfl, rfl, hown⟩

set_option maxHeartbeats 1000000 in
theorem inc_Table_range (rate : Int) (w : World) (h : rate < -21600000 ∨ 21600000 < rate) :
    Calls Try.prog 16 #[.int .i64 rate] w fun e w' => e = .returned (.tuple #[.slice none 0 0, .int .i64 2]) ∧ ∃ d, w' = bw w d := by
  go_enter Try.func16, Try.ntmps16
  go_wp2_with fail
  all_goals exact bodyPost_ret (v := .tuple #[.slice none 0 0, .int .i64 2]) (by simp [results, Try.results16, go_sem]) rfl ⟨rfl, lay_ex _ []⟩

set_option maxHeartbeats 1000000 in
theorem ref14_Table (rate : Int) (w : World) (h1 : -21600000 ≤ rate) (h2 : rate ≤ 21600000) :
    Calls Try.prog 20 #[.int .i64 rate] w fun e w' => ∃ v d, e = .returned v ∧ w' = bw w d ∧ (bw w d).ownsRow w.heap.size 3 1 v 61 (tab rate 61) := by
  obtain ⟨i0, hi, hz0, hz1, hz2⟩ := info_parts info_int
  go_enter Try.func20, Try.ntmps20
  go_wp2_with fail
  go_loopw [3, 4] (fun v i wr => ∃ (k : Nat) (d : Ext), k ≤ 61 ∧ i = .int .i64 k ∧ wr = bw w d ∧ (bw w d).ownsRow w.heap.size 3 1 v k (tab rate k)) (fun _ i _ => 61 - (intOf i).toNat)
  case atStart => exact ⟨0, ⟨#[], w.drawn⟩, by omega, rfl, by simp [bw], row_nil _ _ _ _⟩
  case round =>
    obtain ⟨k, d, hk, rfl, rfl, hown⟩ := hrel
    have hm := mul_bd (x := rate) (k := (k : Int)) 21600000 h1 h2 (by omega)
    go_wp2_with (first | (go_at_call 30; refine (ref05_Floor _ _ _ (by omega) (by omega) (by omega)).mono ?_; rintro e w' ⟨rfl, rfl⟩) | (at_builtin; refine wpList_push rfl _ _ 32 rfl 3 i0 (.int .i64 0) 1 8 Try.underlying32 hi hz0 hz1 hz2 rfl (by decide) w (bw w d) #[.int .i64 ((rate * (k : Int) + 3000) / 6000)] _ _ _ _ (bw_below w d) hown rfl rfl rfl (by simp [Value.oneCell']) (by unfold maxLen; omega) (by omega) ?_; intro v' d' hown'))
    · go_roundw
      case rel => exact ⟨k + 1, d', by omega, by go_num, rfl, by rw [tab_succ]; exact hown'⟩
      case measure => simp [intOf]; omega
    · obtain rfl : k = 61 := by omega
      go_ret
      exact ⟨_, d, rfl, rfl, hown⟩

end Go.Proofs.Ytknammeehedbdaa
