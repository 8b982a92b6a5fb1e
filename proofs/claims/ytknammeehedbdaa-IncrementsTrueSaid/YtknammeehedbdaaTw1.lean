/- IncrementsTrue: its function literals walked. -/
import Derived.Test.YtknammeehedbdaaProg
import Derived.Test.YtknammeehedbdaaLay
import Derived.Test.YtknammeehedbdaaRegion
import Derived.Test.YtknammeehedbdaaMix
import Derived.WalkKit
import Derived.WalkSpells
import Derived.WalkLawsBesides
import Derived.Lib.Hide
import Derived.BigQuiet
import Derived.Deep.RegionWith
import Derived.Test.YtknammeehedbdaaPlain
import Derived.Test.YtknammeehedbdaaAngle
import Derived.Test.YtknammeehedbdaaTru
import Derived.Test.YtknammeehedbdaaRf8
namespace Go.Proofs.Ytknammeehedbdaa
open Go.RowKit

theorem tru_round (n : Int) (w : World) (h1 : -1099511627776 ≤ n) (h2 : n ≤ 1099511627776) :
    Calls Try.prog 29 #[.int .i64 n] w fun e w' => e = .returned (.int .i64 (rnd n)) ∧ w' = w := by
  go_enter Try.func29, Try.ntmps29
  go_wp2_with (go_at_call 30; refine (ref05_Floor _ _ _ (by omega) (by omega) (by omega)).mono ?_; rintro e w' ⟨rfl, rfl⟩)
  go_ret
  exact ⟨rfl, rfl⟩
def offX (away bend : Int) : Int := (away * (100 * bend / 8)).tdiv 128
theorem offX_bd {away bend : Int} (a0 : -128 ≤ away) (a1 : away ≤ 127) (b0 : 0 ≤ bend) : -cdiv (100 * bend) 8 ≤ offX away bend ∧ offX away bend ≤ cdiv (100 * bend) 8 := by
  have q0 : 0 ≤ 100 * bend / 8 := by omega
  have q1 : 100 * bend / 8 ≤ cdiv (100 * bend) 8 := by unfold cdiv; omega
  unfold offX
  generalize 100 * bend / 8 = q at *
  have p1 := Int.mul_le_mul_of_nonneg_right a0 q0
  have p2 := Int.mul_le_mul_of_nonneg_right a1 q0
  generalize away * q = x at *
  have e := Int.tmod_add_mul_tdiv x 128
  have t1 := Int.tmod_lt_of_pos x (show (0 : Int) < 128 by decide)
  have t2 : -128 < x.tmod 128 := Int.lt_tmod_of_pos x (by decide)
  omega
set_option maxHeartbeats 2000000 in
theorem tru_value (l : Nat → Int) (g cap b1 b2 b3 b4 : Nat) (ms away bend : Int) (w : World) (hr : Row w g l) (h0 : 0 ≤ ms) (h1 : ms ≤ 86400000)
    (a0 : -128 ≤ away) (a1 : away ≤ 127) (d0 : 0 ≤ bend) (d1 : bend ≤ 1000)
    (z1 : b1 < w.heap.size) (z2 : b2 < w.heap.size) (z3 : b3 < w.heap.size) (z4 : b4 < w.heap.size)
    (c1 : w.cell? ⟨b1, 0, none⟩ = some (.int .i64 (ms % 3600000))) (c2 : w.cell? ⟨b2, 0, none⟩ = some (.int .i64 (ms / 3600000))) (c3 : w.cell? ⟨b3, 0, none⟩ = some (.int .i8 away)) (c4 : w.cell? ⟨b4, 0, none⟩ = some (.int .u16 bend)) :
    Calls Try.prog 32 #[.slice (some ⟨g, 0, none⟩) 25 cap, .pointer (some ⟨b1, 0, none⟩), .pointer (some ⟨b2, 0, none⟩), .pointer (some ⟨b3, 0, none⟩), .pointer (some ⟨b4, 0, none⟩)] w fun e w' =>
      e = .returned (.int .i64 (valX l ms (offX away bend))) ∧ ∃ d, w' = bw w d := by
  obtain ⟨k, hk⟩ := Int.eq_ofNat_of_zero_le (show 0 ≤ ms / 3600000 by omega)
  have hk24 : k ≤ 24 := by omega
  have hgs := hr.lt
  have e0 := hr.cell k (by omega)
  have f0 := hr.bd k hk24
  have y1 : (0 : Int) ≤ (k : Int) := by omega
  have y2 : (k : Int) < 25 := by omega
  by_cases hrm : ms % 3600000 = 0
  · have e : valX l ms (offX away bend) = l k * 3600000 := by unfold valX; rw [if_pos hrm, hk]; rfl
    rw [e]
    rw [hrm] at c1
    rw [hk] at c2
    clear e hrm
    refine lay_start ?_
    go_enter Try.func32, Try.ntmps32
    go_wp2
    go_ret
    exact ⟨rfl, lay_ex _ _⟩
  · have e : valX l ms (offX away bend) = l k * (3600000 - ms % 3600000) + l (k + 1) * (ms % 3600000) + offX away bend * 3600000 := by unfold valX; rw [if_neg hrm, hk]; rfl
    rw [e]
    rw [hk] at c2
    have hk23 : k < 24 := by omega
    have hq : (ms % 3600000 == 0) = false := beq_eq_false_iff_ne.2 hrm
    have e1 := hr.cell (k + 1) (by omega)
    have f1 := hr.bd (k + 1) (by omega)
    have y3 : (0 : Int) ≤ (k : Int) + 1 := by omega
    have y4 : (k : Int) + 1 < 25 := by omega
    have y5 : ((k : Int) + 1).toNat = k + 1 := by omega
    have hw1 : IntKind.i64.wrap ((k : Int) + 1) = (k : Int) + 1 := IntWalk.i64_in _ (by omega)
    have r0 : 0 ≤ ms % 3600000 ∧ ms % 3600000 < 3600000 := by omega
    have ho := offX_bd a0 a1 d0
    have hcd : cdiv (100 * bend) 8 ≤ 12500 := by unfold cdiv; omega
    generalize ms % 3600000 = n at *
    have p1 := Int.mul_le_mul_of_nonneg_right f0.1 (show 0 ≤ 3600000 - n by omega)
    have p2 := Int.mul_le_mul_of_nonneg_right f0.2 (show 0 ≤ 3600000 - n by omega)
    have p3 := Int.mul_le_mul_of_nonneg_right f1.1 r0.1
    have p4 := Int.mul_le_mul_of_nonneg_right f1.2 r0.1
    have q0 : 0 ≤ 100 * bend / 8 ∧ 100 * bend / 8 ≤ 12500 := by omega
    have q1 := Int.mul_le_mul_of_nonneg_right a0 q0.1
    have q2 := Int.mul_le_mul_of_nonneg_right a1 q0.1
    have w1 : IntKind.i64.wrap (l k * (3600000 - n)) = l k * (3600000 - n) := IntWalk.i64_in _ (by omega)
    have w2 : IntKind.i64.wrap (l (k + 1) * n) = l (k + 1) * n := IntWalk.i64_in _ (by omega)
    have w3 : IntKind.i64.wrap (l k * (3600000 - n) + l (k + 1) * n) = l k * (3600000 - n) + l (k + 1) * n := IntWalk.i64_in _ (by omega)
    have w4 : IntKind.i64.wrap (offX away bend * 3600000) = offX away bend * 3600000 := IntWalk.i64_in _ (by omega)
    have w5 : IntKind.i64.wrap (l k * (3600000 - n) + l (k + 1) * n + offX away bend * 3600000) = l k * (3600000 - n) + l (k + 1) * n + offX away bend * 3600000 := IntWalk.i64_in _ (by omega)
    have w6 : IntKind.i64.wrap (away * (100 * bend / 8)) = away * (100 * bend / 8) := IntWalk.i64_in _ (by omega)
    have w7 : IntKind.i64.wrap (100 * bend) = 100 * bend := IntWalk.i64_in _ (by omega)
    have w8 : (100 * bend).tdiv 8 = 100 * bend / 8 := Int.tdiv_eq_ediv_of_nonneg (by omega)
    have w9 : (away * (100 * bend / 8)).tdiv 128 = offX away bend := rfl
    have w10 : IntKind.i64.wrap (100 * bend / 8) = 100 * bend / 8 := IntWalk.i64_in _ (by omega)
    have w11 : IntKind.i64.wrap (offX away bend) = offX away bend := IntWalk.i64_in _ (by omega)
    have w12 : IntKind.i64.wrap away = away := IntWalk.i64_in _ (by omega)
    have w13 : IntKind.i64.wrap bend = bend := IntWalk.i64_in _ (by omega)
    have w14 : IntKind.i64.wrap (3600000 - n) = 3600000 - n := IntWalk.i64_in _ (by omega)
    clear e hrm p1 p2 p3 p4 q1 q2
    generalize offX away bend = X at *
    refine lay_start ?_
    go_enter Try.func32, Try.ntmps32
    go_wp2_with fail
    refine region_bw (by kernel_rfl) (by kernel_rfl) ?_
    repeat (go_big_quiet_step ((first | fail)))
    refine wpQuiet_nil ?_
    rintro w' ⟨d, rfl⟩
    rw [lay_bw]
    go_wp2
    go_ret
    exact ⟨rfl, lay_ex _ _⟩
end Go.Proofs.Ytknammeehedbdaa
