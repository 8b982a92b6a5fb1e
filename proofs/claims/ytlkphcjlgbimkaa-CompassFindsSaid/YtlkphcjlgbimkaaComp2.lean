/- Contracts of package compass: the search, the deviation at a heading. -/
import Derived.Test.YtlkphcjlgbimkaaProg
import Derived.Test.YtlkphcjlgbimkaaLay
import Derived.Test.YtlkphcjlgbimkaaRegion
import Derived.Test.YtlkphcjlgbimkaaMix
import Derived.WalkKit
import Derived.WalkSpells
import Derived.WalkLawsBesides
import Derived.Lib.Hide
import Derived.BigQuiet
import Derived.Test.YtlkphcjlgbimkaaPlain
import Derived.Test.YtlkphcjlgbimkaaAngle
import Derived.Test.YtlkphcjlgbimkaaCompPlain
import Derived.Test.YtlkphcjlgbimkaaTabs
import Derived.Test.YtlkphcjlgbimkaaComp1
namespace Go.Proofs.Ytlkphcjlgbimkaa
open Go.RowKit

theorem search_ret {l : Tl} {i m : Nat} {n : Int} (h : i < m) : Ending.returned (.tuple #[.int .i64 (i : Int), .bool (cmpI (hd l i) n == 0)]) = Ending.returned (.tuple #[.int .i64 (i : Int), .bool (decide (i < m ∧ hd l i = n))]) := by
  have : (cmpI (hd l i) n == 0) = decide (i < m ∧ hd l i = n) := by
    rw [Bool.eq_iff_iff]
    simp only [beq_iff_eq, decide_eq_true_eq]
    unfold cmpI; split <;> (try split) <;> omega
  rw [this]
set_option maxHeartbeats 1000000 in
theorem comp_search (v : Value) (l : Tl) (n : Int) (w : World) (hv : Tabs w v l) (hL : 2 ≤ l.length) (h72 : l.length ≤ 72) (hs : ∀ j, j < l.length → ∀ i, i < j → hd l i < hd l j) :
    Calls Try.prog 50 #[v, .int .i64 n, .func (.func 51) #[] #[]] w fun e w' =>
      ∃ i : Nat, i ≤ l.length ∧ (∀ j, j < i → hd l j < n) ∧ (∀ j, i ≤ j → j < l.length → n ≤ hd l j) ∧ e = .returned (.tuple #[.int .i64 i, .bool (decide (i < l.length ∧ hd l i = n))]) ∧ ∃ d, w' = bw w d := by
  obtain ⟨a, cap, rfl, g1, k1⟩ := hv
  obtain ⟨b, o, rfl, s1, r1⟩ := k1 (by intro h; subst h; simp at hL)
  obtain ⟨m, hm⟩ : ∃ m, m = l.length := ⟨_, rfl⟩
  rw [← hm] at hL h72 hs r1 g1
  rw [← hm]
  have HR := Lib.hid r1
  have HS := Lib.hid hs
  clear hm r1 hs k1
  go_enter Try.func50, Try.ntmps50
  go_wp2_with fail
  go_loopw [9, 10] (fun vi vj wr => ∃ (i j : Nat) (d : Ext), i ≤ j ∧ j ≤ m ∧ vi = .int .i64 i ∧ vj = .int .i64 j ∧ wr = bw w d ∧ (∀ k, k < i → hd l k < n) ∧ (∀ k, j ≤ k → k < m → n ≤ hd l k)) (fun vi vj _ => (intOf vj - intOf vi).toNat)
  case atStart => exact ⟨0, m, ⟨#[], w.drawn⟩, by omega, by omega, rfl, rfl, by simp [bw], fun k hk => by omega, fun k h1 h2 => by omega⟩
  case round =>
    obtain ⟨i, j, d, hij, hjm, rfl, rfl, rfl, hlo, hhi⟩ := hrel
    have HLO := Lib.hid hlo
    have HHI := Lib.hid hhi
    clear hlo hhi
    by_cases hlt : i < j
    · obtain ⟨e1, e2, -, -⟩ := HR.out ((i + j) / 2) (by omega)
      have e1' := (bw_cell w d b (o + (i + j) / 2 * 2) s1).trans e1
      have e2' := (bw_cell w d b (o + (i + j) / 2 * 2 + 1) s1).trans e2
      clear e1 e2
      have hm0 : (i + j) / 2 < m := by omega
      go_wp2_with (go_at_call 51; refine (comp_at1 _ _ _ _).mono ?_; rintro e w' ⟨rfl, d, rfl⟩)
      · go_roundw
        case rel =>
          have hc : hd l ((i + j) / 2) < n := by
            have : cmpI (hd l ((i + j) / 2)) n < 0 := by assumption
            unfold cmpI at this; split at this <;> (try split at this) <;> omega
          exact ⟨(i + j) / 2 + 1, j, _, by omega, hjm, by go_num, rfl, rfl, fun k hk => by
            by_cases e : k = (i + j) / 2
            · subst e; exact hc
            · have := HS.out _ hm0 k (by omega); omega, HHI.out⟩
        case measure => simp [intOf]; omega
      · go_roundw
        case rel =>
          have hc : n ≤ hd l ((i + j) / 2) := by
            have : 0 ≤ cmpI (hd l ((i + j) / 2)) n := by assumption
            unfold cmpI at this; split at this <;> (try split at this) <;> omega
          exact ⟨i, (i + j) / 2, _, by omega, by omega, rfl, by go_num, rfl, HLO.out, fun k h1 h2 => by
            by_cases e : k = (i + j) / 2
            · subst e; exact hc
            · have := HS.out k h2 ((i + j) / 2) (by omega); omega⟩
        case measure => simp [intOf]; omega
    · obtain rfl : i = j := by omega
      by_cases him : i < m
      · obtain ⟨e1, e2, -, -⟩ := HR.out i him
        have e1' := (bw_cell w d b (o + i * 2) s1).trans e1
        have e2' := (bw_cell w d b (o + i * 2 + 1) s1).trans e2
        clear e1 e2
        go_wp2_with (go_at_call 51; refine (comp_at1 _ _ _ _).mono ?_; rintro e w' ⟨rfl, d, rfl⟩)
        exact bodyPost_ret (v := .tuple #[.int .i64 (i : Int), .bool (cmpI (hd l i) n == 0)]) (by simp [results, Try.results50, go_sem]) rfl ⟨i, hjm, HLO.out, HHI.out, search_ret him, _, rfl⟩
      · obtain rfl : i = m := by omega
        go_wp2
        exact bodyPost_ret (v := .tuple #[.int .i64 (i : Int), .bool false]) (by simp [results, Try.results50, go_sem]) rfl ⟨i, hjm, HLO.out, HHI.out, by simp, _, rfl⟩
end Go.Proofs.Ytlkphcjlgbimkaa
