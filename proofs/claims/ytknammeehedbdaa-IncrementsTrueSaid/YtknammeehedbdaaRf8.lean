/- The reference of layer 14: the arc at an instant. -/
import Derived.Test.YtknammeehedbdaaProg
import Derived.Test.YtknammeehedbdaaLay
import Derived.Test.YtknammeehedbdaaRegion
import Derived.Test.YtknammeehedbdaaMix
import Derived.WalkKit
import Derived.WalkSpells
import Derived.WalkLawsBesides
import Derived.Lib.Hide
import Derived.BigQuiet
import Derived.Deep.RegionWith
import Derived.Test.YtknammeehedbdaaPlain
import Derived.Test.YtknammeehedbdaaAngle
import Derived.Test.YtknammeehedbdaaInc1
import Derived.Test.YtknammeehedbdaaTrk
import Derived.Test.YtknammeehedbdaaRf6
namespace Go.Proofs.Ytknammeehedbdaa
open Go.RowKit

structure Row (w : World) (g : Nat) (f : Nat → Int) : Prop where
  lt : g < w.heap.size
  cell : ∀ k, k < 25 → w.cell? ⟨g, k, none⟩ = some (.int .i64 (f k))
  bd : ∀ i, i ≤ 24 → -1000000000000 ≤ f i ∧ f i ≤ 1000000000000
theorem Row.lay {w : World} {g : Nat} {f : Nat → Int} (h : Row w g f) (L : List (Obj ⊕ Ext)) : Row (lay w L) g f :=
  ⟨Nat.lt_of_lt_of_le h.lt (lay_extends w L).size, fun k hk => ((lay_extends w L).cell (p := ⟨g, k, none⟩) h.lt).trans (h.cell k hk), h.bd⟩
set_option maxHeartbeats 400000 in
theorem ref14_around (n : Int) (w : World) (h1 : -1099511627776 ≤ n) (h2 : n ≤ 1099511627776) :
    Calls Try.prog 64 #[.int .i64 n] w fun e w' => e = .returned (.agg #[.int .i64 (n - 50), .int .i64 (n + 50)]) ∧ ∃ d, w' = bw w d := by
  refine lay_start ?_
  go_enter Try.func64, Try.ntmps64
  go_wp2
  exact bodyPost_ret (v := (.agg #[.int .i64 (n - 50), .int .i64 (n + 50)])) (by simp [results, Try.results64, go_sem]) rfl ⟨rfl, lay_ex _ _⟩
set_option maxHeartbeats 400000 in
theorem ref14_wider (x y n : Int) (w : World) (h0 : validB x y = true) (h1 : 0 ≤ n) (h2 : n ≤ 100000) :
    Calls Try.prog 65 #[(.agg #[.int .i64 (x), .int .i64 (y)]), .int .i64 n] w fun e w' => e = .returned (.agg #[.int .i64 (x - n), .int .i64 (y + n)]) ∧ ∃ d, w' = bw w d := by
  obtain ⟨g1, g2, g3⟩ := validB_iff.1 h0
  clear h0
  refine lay_start ?_
  go_enter Try.func65, Try.ntmps65
  go_wp2
  exact bodyPost_ret (v := (.agg #[.int .i64 (x - n), .int .i64 (y + n)])) (by simp [results, Try.results65, go_sem]) rfl ⟨rfl, lay_ex _ _⟩
set_option maxHeartbeats 2000000 in
theorem ref14_at (f : Nat → Int) (g cap : Nat) (ms : Int) (w : World) (hr : Row w g f) (h0 : 0 ≤ ms) (h1 : ms ≤ 86400000) :
    Calls Try.prog 63 #[.slice (some ⟨g, 0, none⟩) 25 cap, .int .i64 ms] w fun e w' => e = .returned (.agg #[.int .i64 (insL (arcA f) ms), .int .i64 (insH (arcA f) ms)]) ∧ ∃ d, w' = bw w d := by
  obtain ⟨k, hk⟩ := Int.eq_ofNat_of_zero_le (show 0 ≤ ms / 3600000 by omega)
  have hk24 : k ≤ 24 := by omega
  have hgs := hr.lt
  have c0 := hr.cell k (by omega)
  have f0 := hr.bd k hk24
  have b1 : (0 : Int) ≤ (k : Int) := by omega
  have b2 : (k : Int) < 25 := by omega
  by_cases hrm : ms % 3600000 = 0
  · have e : insL (arcA f) ms = f k - 50 ∧ insH (arcA f) ms = f k + 50 := by unfold insL insH; rw [if_pos hrm, if_pos hrm, hk, arcA_at f k hk24]; exact ⟨rfl, rfl⟩
    rw [e.1, e.2]
    have hq : (ms % 3600000 == 0) = true := beq_iff_eq.2 hrm
    clear e hrm
    refine lay_start ?_
    go_enter Try.func63, Try.ntmps63
    go_wp2_with (go_at_call 64; refine (ref14_around _ _ (by omega) (by omega)).mono ?_; rintro e w' ⟨rfl, d, rfl⟩)
    exact bodyPost_ret (v := (.agg #[.int .i64 (f k - 50), .int .i64 (f k + 50)])) (by simp [results, Try.results63, go_sem]) rfl ⟨rfl, lay_ex _ _⟩
  · have hk23 : k < 24 := by omega
    have e : insL (arcA f) ms = linLo (f k - 50) (f (k + 1) - 50) (ms % 3600000) 3600000 ∧ insH (arcA f) ms = linHi (f k + 50) (f (k + 1) + 50) (ms % 3600000) 3600000 := by
      unfold insL insH; rw [if_neg hrm, if_neg hrm, hk, arcA_at f k hk24, show (k : Int) + 1 = ((k + 1 : Nat) : Int) by omega, arcA_at f (k + 1) (by omega)]; exact ⟨rfl, rfl⟩
    rw [e.1, e.2]
    have hq : (ms % 3600000 == 0) = false := beq_eq_false_iff_ne.2 hrm
    have c1 := hr.cell (k + 1) (by omega)
    have f1 := hr.bd (k + 1) (by omega)
    have b3 : (0 : Int) ≤ (k : Int) + 1 := by omega
    have b4 : (k : Int) + 1 < 25 := by omega
    have b5 : ((k : Int) + 1).toNat = k + 1 := by omega
    have hw1 : IntKind.i64.wrap ((k : Int) + 1) = (k : Int) + 1 := IntWalk.i64_in _ (by omega)
    have r0 : 0 ≤ ms % 3600000 ∧ ms % 3600000 < 3600000 := by omega
    have LK : LinOk (f k - 50) (f k + 50) (f (k + 1) - 50) (f (k + 1) + 50) (ms % 3600000) 3600000 := by constructor <;> omega
    have HL := Lib.hid (fun W => ref14_Linear _ _ _ _ _ _ W LK)
    have HA1 := Lib.hid (fun W => ref14_around (f k) W (by omega) (by omega))
    have HA2 := Lib.hid (fun W => ref14_around (f (k + 1)) W (by omega) (by omega))
    clear e hrm LK
    refine lay_start ?_
    go_enter Try.func63, Try.ntmps63
    go_wp2_with fail
    refine region_bw_tail 13 (by kernel_rfl) (by kernel_rfl) ?_
    simp only [List.take_succ_cons, List.take_zero, List.drop_succ_cons, List.drop_zero]
    repeat (go_big_quiet_step ((first | (go_at_call 64; first | (with_reducible refine bq (HA1.out _) ?_; exact (fun d => lay_join _ _ _ d)) | (with_reducible refine bq (HA2.out _) ?_; exact (fun d => lay_join _ _ _ d))) | (go_at_call 14; with_reducible refine bq (HL.out _) ?_; exact (fun d => lay_join _ _ _ d)))))
    refine wpQuiet_nil ?_
    rintro w' ⟨d, rfl⟩
    rw [lay_bw]
    go_wp2
    exact bodyPost_ret (v := (.agg #[.int .i64 (linLo (f k - 50) (f (k + 1) - 50) (ms % 3600000) 3600000), .int .i64 (linHi (f k + 50) (f (k + 1) + 50) (ms % 3600000) 3600000)])) (by simp [results, Try.results63, go_sem]) rfl ⟨rfl, lay_ex _ _⟩
end Go.Proofs.Ytknammeehedbdaa
