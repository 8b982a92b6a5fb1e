/- Increments at an instant: the functions that pieces hands on. -/
import Derived.Test.YtknammeehedbdaaProg
import Derived.Test.YtknammeehedbdaaLay
import Derived.Test.YtknammeehedbdaaRegion
import Derived.Test.YtknammeehedbdaaMix
import Derived.WalkKit
import Derived.WalkSpells
import Derived.WalkLawsBesides
import Derived.Lib.Hide
import Derived.BigQuiet
import Derived.Deep.RegionWith
import Derived.Test.YtknammeehedbdaaPlain
import Derived.Test.YtknammeehedbdaaAngle
import Derived.Test.YtknammeehedbdaaInc1
import Derived.Test.YtknammeehedbdaaTrk
namespace Go.Proofs.Ytknammeehedbdaa
open Go.RowKit

set_option maxHeartbeats 400000 in
theorem inc_around (n : Int) (w : World) (h1 : -1099511627776 ≤ n) (h2 : n ≤ 1099511627776) :
    Calls Try.prog 57 #[.int .i64 n] w fun e w' => e = .returned (.agg #[.int .i64 (n - 50), .int .i64 (n + 50)]) ∧ ∃ d, w' = bw w d := by
  refine lay_start ?_
  go_enter Try.func57, Try.ntmps57
  go_wp2
  exact bodyPost_ret (v := (.agg #[.int .i64 (n - 50), .int .i64 (n + 50)])) (by simp [results, Try.results57, go_sem]) rfl ⟨rfl, lay_ex _ _⟩
/-- The arc at an instant, A being the arcs of the hours. -/
def insL (A : Int → Int × Int) (ms : Int) : Int := if ms % 3600000 = 0 then (A (ms / 3600000)).1 else linLo (A (ms / 3600000)).1 (A (ms / 3600000 + 1)).1 (ms % 3600000) 3600000
def insH (A : Int → Int × Int) (ms : Int) : Int := if ms % 3600000 = 0 then (A (ms / 3600000)).2 else linHi (A (ms / 3600000)).2 (A (ms / 3600000 + 1)).2 (ms % 3600000) 3600000
structure ArcsOk (A : Int → Int × Int) : Prop where
  lo : ∀ h, -1099511627776 ≤ (A h).1
  hi : ∀ h, (A h).2 ≤ 1099511627776
  le : ∀ h, (A h).1 ≤ (A h).2
set_option maxHeartbeats 2000000 in
theorem inc_instantC (A : Int → Int × Int) (g : Nat) (q : Value) (b : Nat) (ms : Int) (w : World) (hA : ArcsOk A) (h0 : 0 ≤ ms) (h1 : ms ≤ 86400000)
    (eg : ∀ args w, (callFunc g args).run Try.prog w = .ok (.enter g args) w)
    (hat : ∀ (L : List (Obj ⊕ Ext)) (h : Int), 0 ≤ h → h ≤ 24 → Calls Try.prog g #[.int .i64 h, q] (lay w L) fun e w' => e = .returned (.agg #[.int .i64 ((A h).1), .int .i64 ((A h).2)]) ∧ ∃ d, w' = bw (lay w L) d)
    (hb : b < w.heap.size) (hc : w.cell? ⟨b, 0, none⟩ = some (.func (.func g) #[] #[q])) :
    Calls Try.prog 72 #[.int .i64 ms, .pointer (some ⟨b, 0, none⟩)] w fun e w' => e = .returned (.agg #[.int .i64 (insL A ms), .int .i64 (insH A ms)]) ∧ ∃ d, w' = bw w d := by
  have HA := Lib.hid hat
  clear hat
  by_cases hr : ms % 3600000 = 0
  · have e : insL A ms = (A (ms / 3600000)).1 ∧ insH A ms = (A (ms / 3600000)).2 := by unfold insL insH; rw [if_pos hr, if_pos hr]; exact ⟨rfl, rfl⟩
    rw [e.1, e.2]
    have hq : (ms % 3600000 == 0) = true := beq_iff_eq.2 hr
    have b1 : 0 ≤ ms / 3600000 := by omega
    have b2 : ms / 3600000 ≤ 24 := by omega
    clear e hr
    refine lay_start ?_
    go_enter Try.func72, Try.ntmps72
    go_wp2_with fail
    refine (HA.out _ _ b1 b2).mono ?_
    rintro e w' ⟨rfl, d, rfl⟩
    go_wp2
    exact bodyPost_ret (v := (.agg #[.int .i64 ((A (ms / 3600000)).1), .int .i64 ((A (ms / 3600000)).2)])) (by simp [results, Try.results72, go_sem]) rfl ⟨rfl, lay_ex _ _⟩
  · have e : insL A ms = linLo (A (ms / 3600000)).1 (A (ms / 3600000 + 1)).1 (ms % 3600000) 3600000 ∧ insH A ms = linHi (A (ms / 3600000)).2 (A (ms / 3600000 + 1)).2 (ms % 3600000) 3600000 := by unfold insL insH; rw [if_neg hr, if_neg hr]; exact ⟨rfl, rfl⟩
    rw [e.1, e.2]
    have hq : (ms % 3600000 == 0) = false := beq_eq_false_iff_ne.2 hr
    have b1 : 0 ≤ ms / 3600000 := by omega
    have b2 : ms / 3600000 + 1 ≤ 24 := by omega
    have hw1 : IntKind.i64.wrap (ms / 3600000 + 1) = ms / 3600000 + 1 := IntWalk.i64_in _ (by omega)
    have r0 : 0 ≤ ms % 3600000 ∧ ms % 3600000 < 3600000 := by omega
    have LK : LinOk (A (ms / 3600000)).1 (A (ms / 3600000)).2 (A (ms / 3600000 + 1)).1 (A (ms / 3600000 + 1)).2 (ms % 3600000) 3600000 := by
      have := hA.lo (ms / 3600000); have := hA.hi (ms / 3600000); have := hA.le (ms / 3600000)
      have := hA.lo (ms / 3600000 + 1); have := hA.hi (ms / 3600000 + 1); have := hA.le (ms / 3600000 + 1)
      constructor <;> omega
    have HL := Lib.hid (fun W => inc_linear _ _ _ _ _ _ W LK)
    have HA1 := Lib.hid (fun L => HA.out L (ms / 3600000) b1 (by omega))
    have HA2 := Lib.hid (fun L => HA.out L (ms / 3600000 + 1) (by omega) b2)
    clear e hr LK
    refine lay_start ?_
    go_enter Try.func72, Try.ntmps72
    go_wp2_with fail
    refine region_bw_tail 9 (by kernel_rfl) (by kernel_rfl) ?_
    simp only [List.take_succ_cons, List.take_zero, List.drop_succ_cons, List.drop_zero]
    repeat (go_big_quiet_step ((first | (with_reducible refine bq (HA1.out _) ?_; exact (fun d => lay_join _ _ _ d)) | (with_reducible refine bq (HA2.out _) ?_; exact (fun d => lay_join _ _ _ d)) | (go_at_call 36; with_reducible refine bq (HL.out _) ?_; exact (fun d => lay_join _ _ _ d)))))
    refine wpQuiet_nil ?_
    rintro w' ⟨d, rfl⟩
    rw [lay_bw]
    go_wp2
    exact bodyPost_ret (v := (.agg #[.int .i64 (linLo (A (ms / 3600000)).1 (A (ms / 3600000 + 1)).1 (ms % 3600000) 3600000), .int .i64 (linHi (A (ms / 3600000)).2 (A (ms / 3600000 + 1)).2 (ms % 3600000) 3600000)])) (by simp [results, Try.results72, go_sem]) rfl ⟨rfl, lay_ex _ _⟩
end Go.Proofs.Ytknammeehedbdaa
