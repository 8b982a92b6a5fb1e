/- The reference of audit: permitted, Given, mod, step, Bend, Differences. -/
import Derived.Test.YtgpgfmemnhgmbaaProg
import Derived.Test.YtgpgfmemnhgmbaaLay
import Derived.Test.YtgpgfmemnhgmbaaRegion
import Derived.Test.YtgpgfmemnhgmbaaMix
import Derived.WalkKit
import Derived.WalkSpells
import Derived.WalkLawsBesides
import Derived.Lib.Hide
import Derived.BigQuiet
import Derived.Deep.RegionWith
import Derived.Test.YtgpgfmemnhgmbaaPlain
import Derived.Test.YtgpgfmemnhgmbaaAngle
import Derived.Test.YtgpgfmemnhgmbaaAud12
namespace Go.Proofs.Ytgpgfmemnhgmbaa
open Go.RowKit

set_option maxHeartbeats 400000 in
theorem re_permitted (wr : Bool) (x : Int) (w : World) :
    Calls Try.prog 27 #[.int .i64 x, .bool wr] w fun e w' => e = .returned (.bool (permB wr x)) ∧ w' = w := by
  cases wr
  · rw [perm_n]
    by_cases h : -1048576 ≤ x
    · rw [decide_eq_true h, Bool.true_and]
      go_enter Try.func27, Try.ntmps27
      go_wp2
      go_ret
      exact ⟨rfl, rfl⟩
    · rw [decide_eq_false h, Bool.false_and]
      go_enter Try.func27, Try.ntmps27
      go_wp2
      go_ret
      exact ⟨rfl, rfl⟩
  · rw [perm_w]
    by_cases h : 0 ≤ x
    · rw [decide_eq_true h, Bool.true_and]
      go_enter Try.func27, Try.ntmps27
      go_wp2
      go_ret
      exact ⟨rfl, rfl⟩
    · rw [decide_eq_false h, Bool.false_and]
      go_enter Try.func27, Try.ntmps27
      go_wp2
      go_ret
      exact ⟨rfl, rfl⟩
theorem re_mod (n : Int) (w : World) :
    Calls Try.prog 42 #[.int .i64 n] w fun e w' => e = .returned (.int .i64 (frm true n)) ∧ w' = w := by
  have e := tmod2 n
  have t1 := Int.tmod_lt_of_pos n (show (0 : Int) < 216000 by decide)
  have t2 : -216000 < n.tmod 216000 := Int.lt_tmod_of_pos n (by decide)
  have w1 : IntKind.i64.wrap (n.tmod 216000 + 216000) = n.tmod 216000 + 216000 := IntWalk.i64_in _ (by omega)
  have hE : frm true n = n % 216000 := rfl
  rw [hE, ← e]
  clear e hE
  go_enter Try.func42, Try.ntmps42
  go_wp2
  go_ret
  exact ⟨rfl, rfl⟩
theorem re_step (a b : Int) (wr : Bool) (w : World) (h1 : -1099511627776 ≤ b - a) (h2 : b - a ≤ 1099511627776) :
    Calls Try.prog 28 #[.int .i64 a, .int .i64 b, .bool wr] w fun e w' => e = .returned (.int .i64 (frm wr (b - a))) ∧ w' = w := by
  have w1 : IntKind.i64.wrap (b - a) = b - a := IntWalk.i64_in _ (by omega)
  have HM := Lib.hid (fun W => re_mod (b - a) W)
  cases wr
  · go_enter Try.func28, Try.ntmps28
    go_wp2
    go_ret
    exact ⟨rfl, rfl⟩
  · go_enter Try.func28, Try.ntmps28
    go_wp2_with (go_at_call 42; refine (HM.out _).mono ?_; rintro e w' ⟨rfl, rfl⟩)
    go_ret
    exact ⟨rfl, rfl⟩
theorem re_Bend (n : Int) (w : World) :
    Calls Try.prog 31 #[.int .i64 n] w fun e w' => e = .returned (.bool (decide (0 ≤ n ∧ n ≤ 1000))) ∧ w' = w := by
  by_cases h : 0 ≤ n
  · rw [show decide (0 ≤ n ∧ n ≤ 1000) = decide (n ≤ 1000) by simp [h]]
    go_enter Try.func31, Try.ntmps31
    go_wp2
    go_ret
    exact ⟨rfl, rfl⟩
  · rw [show decide (0 ≤ n ∧ n ≤ 1000) = false by simp; omega]
    go_enter Try.func31, Try.ntmps31
    go_wp2
    go_ret
    exact ⟨rfl, rfl⟩
theorem all_take {l : List Int} {p : Int → Bool} {k : Nat} (hk : k < l.length) (h : (l.take k).all p = true) (hp : p (nth l k) = true) : (l.take (k + 1)).all p = true := by
  rw [List.take_succ_eq_append_getElem hk, List.all_append, h]
  have e : nth l k = l[k] := by unfold nth; simp [List.getD, hk]
  rw [e] at hp
  simp [hp]
theorem all_no {l : List Int} {p : Int → Bool} {k : Nat} (hk : k < l.length) (hp : p (nth l k) = false) : l.all p = false := by
  cases h : l.all p
  · rfl
  · have := List.all_eq_true.1 h _ (nth_mem hk)
    rw [hp] at this; cases this
set_option maxHeartbeats 1000000 in
theorem re_Given (v : Value) (l : List Int) (wr : Bool) (w : World) (hs : Sl w v l) :
    Calls Try.prog 13 #[v, .bool wr] w fun e w' => e = .returned (.int .i64 (givE wr l)) ∧ w' = w := by
  have hG : givE wr l = if l.length < 3 ∨ 1000 < l.length then 3 else if l.all (permB wr) then 0 else 1 := rfl
  by_cases h1 : l.length < 3
  · rw [hG, if_pos (.inl h1)]
    obtain ⟨a, cap, rfl, -⟩ := hs
    clear hG
    generalize l.length = m at *
    have t1 : decide ((m : Int) < 3) = true := decide_eq_true (by omega)
    go_enter Try.func13, Try.ntmps13
    go_wp2
    go_ret
    exact ⟨rfl, rfl⟩
  by_cases h2 : 1000 < l.length
  · rw [hG, if_pos (.inr h2)]
    obtain ⟨a, cap, rfl, -⟩ := hs
    clear hG
    generalize l.length = m at *
    have t1 : decide ((m : Int) < 3) = false := decide_eq_false (by omega)
    have t2 : decide ((1000 : Int) < (m : Int)) = true := decide_eq_true (by omega)
    go_enter Try.func13, Try.ntmps13
    go_wp2
    go_ret
    exact ⟨rfl, rfl⟩
  rw [hG, if_neg (by omega)]
  obtain ⟨b, o, cap, rfl, hc, -, hb, hr⟩ := hs.open (by omega)
  obtain ⟨m, hm⟩ : ∃ m, l.length = m := ⟨_, rfl⟩
  have HT := Lib.hid (fun k (hk : k < m) => all_take (l := l) (p := permB wr) (k := k) (by omega))
  have HN := Lib.hid (fun k (hk : k < m) => all_no (l := l) (p := permB wr) (k := k) (by omega))
  have HL : Hid (l.take m = l) := Lib.hid (by rw [← hm]; exact List.take_length)
  rw [hm] at hr hc h1 h2 ⊢
  have HR := Lib.hid hr
  have t1 : decide ((m : Int) < 3) = false := decide_eq_false (by omega)
  have t2 : decide ((1000 : Int) < (m : Int)) = false := decide_eq_false (by omega)
  clear hG hs hr hm
  obtain ⟨A, hA⟩ : ∃ A, (if l.all (permB wr) = true then (0 : Int) else 1) = A := ⟨_, rfl⟩
  have HA := Lib.hid hA
  rw [hA]
  clear hA
  go_enter Try.func13, Try.ntmps13
  go_wp2_with fail
  go_loop [5] (fun v5 => ∃ k : Nat, k ≤ m ∧ v5 = .int .i64 (k : Int) ∧ (l.take k).all (permB wr) = true) (fun v5 => m - (intOf v5).toNat)
  case atStart => exact ⟨0, Nat.zero_le _, rfl, rfl⟩
  case round =>
    obtain ⟨k, hk, rfl, hall⟩ := hrel
    have HAll := Lib.hid hall
    clear hall
    by_cases hlt : k < m
    · have e1 := HR.out k hlt
      have x1 : (k : Int) < (m : Int) := by omega
      cases hp : permB wr (nth l k)
      · have HF : Hid (A = 1) := Lib.hid (by rw [← HA.out, HN.out k hlt hp]; rfl)
        go_wp2_with (go_at_call 27; refine (re_permitted _ _ _).mono ?_; rintro e w' ⟨rfl, rfl⟩)
        go_ret
        exact ⟨ret_int HF.out.symm, rfl⟩
      · have HF := Lib.hid (HT.out k hlt HAll.out hp)
        go_wp2_with (go_at_call 27; refine (re_permitted _ _ _).mono ?_; rintro e w' ⟨rfl, rfl⟩)
        go_round
        case rel => exact ⟨k + 1, hlt, by go_num, HF.out⟩
        case measure => simp [intOf]; omega
    · obtain rfl : k = m := by omega
      have HF : Hid (A = 0) := Lib.hid (by have := HAll.out; rw [HL.out] at this; rw [← HA.out, if_pos this])
      go_wp2
      go_ret
      exact ⟨ret_int HF.out.symm, rfl⟩
end Go.Proofs.Ytgpgfmemnhgmbaa
