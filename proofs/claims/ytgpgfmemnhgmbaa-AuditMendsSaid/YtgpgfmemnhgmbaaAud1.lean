/- audit: permits, form, step, second, bad; the reference's permitted, mod, step. -/
import Derived.Test.YtgpgfmemnhgmbaaProg
import Derived.Test.YtgpgfmemnhgmbaaLay
import Derived.Test.YtgpgfmemnhgmbaaRegion
import Derived.Test.YtgpgfmemnhgmbaaMix
import Derived.WalkKit
import Derived.WalkSpells
import Derived.WalkLawsBesides
import Derived.Lib.Hide
import Derived.BigQuiet
import Derived.Test.YtgpgfmemnhgmbaaPlain
import Derived.Test.YtgpgfmemnhgmbaaAngle
import Derived.Test.YtgpgfmemnhgmbaaAPlain
import Derived.Test.YtgpgfmemnhgmbaaSl
namespace Go.Proofs.Ytgpgfmemnhgmbaa
open Go.RowKit

/-- A series by value. -/
def ser (v : Value) (wr : Bool) : Value := .agg #[v, .bool wr]
theorem perm_w (x : Int) : permB true x = (decide (0 ≤ x) && decide (x < 216000)) := by simp [permB]
theorem perm_n (x : Int) : permB false x = (decide (-1048576 ≤ x) && decide (x ≤ 1048576)) := by simp [permB]
set_option maxHeartbeats 400000 in
theorem aud_permits (a : Option Addr) (n cap : Nat) (wr : Bool) (x : Int) (w : World) :
    Calls Try.prog 40 #[.agg #[.slice a n cap, .bool wr], .int .i64 x] w fun e w' => e = .returned (.bool (permB wr x)) ∧ ∃ d, w' = bw w d := by
  cases wr
  · rw [perm_n]
    by_cases h : -1048576 ≤ x
    · rw [decide_eq_true h, Bool.true_and]
      refine lay_start ?_
      go_enter Try.func40, Try.ntmps40
      go_wp2
      go_ret
      exact ⟨rfl, lay_ex _ _⟩
    · rw [decide_eq_false h, Bool.false_and]
      refine lay_start ?_
      go_enter Try.func40, Try.ntmps40
      go_wp2
      go_ret
      exact ⟨rfl, lay_ex _ _⟩
  · rw [perm_w]
    by_cases h : 0 ≤ x
    · rw [decide_eq_true h, Bool.true_and]
      refine lay_start ?_
      go_enter Try.func40, Try.ntmps40
      go_wp2
      go_ret
      exact ⟨rfl, lay_ex _ _⟩
    · rw [decide_eq_false h, Bool.false_and]
      refine lay_start ?_
      go_enter Try.func40, Try.ntmps40
      go_wp2
      go_ret
      exact ⟨rfl, lay_ex _ _⟩
theorem tmod2 (n : Int) : (n.tmod 216000 + 216000) % 216000 = n % 216000 := by
  have e := Int.tmod_add_mul_tdiv n 216000
  have t1 := Int.tmod_lt_of_pos n (show (0 : Int) < 216000 by decide)
  have t2 : -216000 < n.tmod 216000 := Int.lt_tmod_of_pos n (by decide)
  omega
set_option maxHeartbeats 400000 in
theorem aud_form (a : Option Addr) (n cap : Nat) (wr : Bool) (x : Int) (w : World) :
    Calls Try.prog 41 #[.agg #[.slice a n cap, .bool wr], .int .i64 x] w fun e w' => e = .returned (.int .i64 (frm wr x)) ∧ ∃ d, w' = bw w d := by
  cases wr
  · refine lay_start ?_
    go_enter Try.func41, Try.ntmps41
    go_wp2
    go_ret
    exact ⟨rfl, lay_ex _ _⟩
  · have e := tmod2 x
    have t1 := Int.tmod_lt_of_pos x (show (0 : Int) < 216000 by decide)
    have t2 : -216000 < x.tmod 216000 := Int.lt_tmod_of_pos x (by decide)
    have w1 : IntKind.i64.wrap (x.tmod 216000 + 216000) = x.tmod 216000 + 216000 := IntWalk.i64_in _ (by omega)
    have hE : frm true x = x % 216000 := rfl
    rw [hE, ← e]
    clear e hE
    refine lay_start ?_
    go_enter Try.func41, Try.ntmps41
    go_wp2
    go_ret
    exact ⟨rfl, lay_ex _ _⟩
set_option maxHeartbeats 400000 in
theorem aud_step (v : Value) (l : List Int) (wr : Bool) (i : Nat) (w : World) (hs : Sl w v l) (hg : Giv wr l) (hi : i + 1 < l.length) :
    Calls Try.prog 26 #[.agg #[v, .bool wr], .int .i64 (i : Int)] w fun e w' => e = .returned (.int .i64 (stp wr l i)) ∧ ∃ d, w' = bw w d := by
  obtain ⟨b, o, cap, rfl, hc, -, hb, hr⟩ := hs.open (by omega)
  have e0 := hr i (by omega)
  have e1 := hr (i + 1) hi
  have p0 := perm_bd (hg.perm i (by omega))
  have p1 := perm_bd (hg.perm (i + 1) hi)
  have hlen := hg.n1000
  obtain ⟨m, hm⟩ : ∃ m, l.length = m := ⟨_, rfl⟩
  rw [hm] at hc hi hlen ⊢
  have y0 : (0 : Int) ≤ (i : Int) := by omega
  have y1 : (i : Int) < (m : Int) := by omega
  have y2 : (0 : Int) ≤ (i : Int) + 1 := by omega
  have y3 : (i : Int) + 1 < (m : Int) := by omega
  have y4 : ((i : Int) + 1).toNat = i + 1 := by omega
  have w0 : IntKind.i64.wrap ((i : Int) + 1) = (i : Int) + 1 := IntWalk.i64_in _ (by omega)
  have w1 : IntKind.i64.wrap (nth l (i + 1) - nth l i) = nth l (i + 1) - nth l i := IntWalk.i64_in _ (by omega)
  have HF := Lib.hid (fun W => aud_form (some ⟨b, o, none⟩) m cap wr (nth l (i + 1) - nth l i) W)
  have hS : stp wr l i = frm wr (nth l (i + 1) - nth l i) := rfl
  rw [hS]
  clear hr hg hS hc
  generalize nth l (i + 1) = A at *
  generalize nth l i = B at *
  refine lay_start ?_
  go_enter Try.func26, Try.ntmps26
  go_wp2_with fail
  refine region_bw (by kernel_rfl) (by kernel_rfl) ?_
  repeat (go_big_quiet_step ((first | (go_at_call 41; exact bq (HF.out _) (fun d => lay_join _ _ _ d)))))
  refine wpQuiet_nil ?_
  rintro w' ⟨d, rfl⟩
  rw [lay_bw]
  go_wp2
  go_ret
  exact ⟨rfl, lay_ex _ _⟩
set_option maxHeartbeats 400000 in
theorem aud_second1 (v : Value) (l : List Int) (wr : Bool) (k : Nat) (w : World) (hs : Sl w v l) (hg : Giv wr l) (hi : k + 2 < l.length) :
    Calls Try.prog 43 #[.agg #[v, .bool wr], .int .i64 ((k : Int) + 1)] w fun e w' => e = .returned (.int .i64 (sec wr l (k + 1))) ∧ ∃ d, w' = bw w d := by
  have b0 := stp_bd hg (i := k + 1) hi
  have b1 := stp_bd hg (i := k) (by omega)
  have w1 : IntKind.i64.wrap (stp wr l (k + 1) - stp wr l k) = stp wr l (k + 1) - stp wr l k := IntWalk.i64_in _ (by omega)
  have w0 : wrap64 (k : Int) = (k : Int) := IntWalk.wrap64_in _ (by have := hg.n1000; omega)
  have H1 := Lib.hid (fun W (h : Sl W v l) => aud_step v l wr (k + 1) W h hg hi)
  have H2 := Lib.hid (fun W (h : Sl W v l) => aud_step v l wr k W h hg (by omega))
  have e1 : (((k + 1 : Nat) : Int)) = (k : Int) + 1 := by omega
  rw [e1] at H1
  have HS := Lib.hid hs
  obtain ⟨b, o, cap, rfl, -⟩ := hs.open (by omega)
  have hS : sec wr l (k + 1) = stp wr l (k + 1) - stp wr l k := rfl
  rw [hS]
  obtain ⟨m, hm⟩ : ∃ m, l.length = m := ⟨_, rfl⟩
  rw [hm] at H1 H2 HS ⊢
  clear hs hg hS hi hm e1
  generalize stp wr l (k + 1) = A at *
  generalize stp wr l k = B at *
  refine lay_start ?_
  go_enter Try.func43, Try.ntmps43
  go_wp2_with fail
  refine region_bw (by kernel_rfl) (by kernel_rfl) ?_
  repeat (go_big_quiet_step ((first | (go_at_call 26; (with_reducible refine bq (H1.out _ ?_) ?_); exact HS.out.lay _; exact (fun d => lay_join _ _ _ d)) | (go_at_call 26; (with_reducible refine bq (H2.out _ ?_) ?_); exact HS.out.lay _; exact (fun d => lay_join _ _ _ d)))))
  refine wpQuiet_nil ?_
  rintro w' ⟨d, rfl⟩
  rw [lay_bw]
  go_wp2
  go_ret
  exact ⟨rfl, lay_ex _ _⟩
theorem aud_second (v : Value) (l : List Int) (wr : Bool) (i : Nat) (w : World) (hs : Sl w v l) (hg : Giv wr l) (h0 : 1 ≤ i) (hi : i + 1 < l.length) :
    Calls Try.prog 43 #[.agg #[v, .bool wr], .int .i64 (i : Int)] w fun e w' => e = .returned (.int .i64 (sec wr l i)) ∧ ∃ d, w' = bw w d := by
  obtain ⟨k, rfl⟩ : ∃ k, i = k + 1 := ⟨i - 1, by omega⟩
  rw [show (((k + 1 : Nat) : Int)) = (k : Int) + 1 by omega]
  exact aud_second1 v l wr k w hs hg (by omega)
end Go.Proofs.Ytgpgfmemnhgmbaa
