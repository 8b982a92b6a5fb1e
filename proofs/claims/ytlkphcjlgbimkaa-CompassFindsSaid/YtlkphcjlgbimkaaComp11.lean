/- The reference's Valid. -/
import Derived.Test.YtlkphcjlgbimkaaProg
import Derived.Test.YtlkphcjlgbimkaaLay
import Derived.Test.YtlkphcjlgbimkaaRegion
import Derived.Test.YtlkphcjlgbimkaaMix
import Derived.WalkKit
import Derived.WalkSpells
import Derived.WalkLawsBesides
import Derived.Lib.Hide
import Derived.BigQuiet
import Derived.BigRegion
import Derived.Test.YtlkphcjlgbimkaaPlain
import Derived.Test.YtlkphcjlgbimkaaAngle
import Derived.Test.YtlkphcjlgbimkaaCompPlain
import Derived.Test.YtlkphcjlgbimkaaCompPlain2
import Derived.Test.YtlkphcjlgbimkaaTabs
import Derived.Test.YtlkphcjlgbimkaaComp1
import Derived.Test.YtlkphcjlgbimkaaComp3
import Derived.Test.YtlkphcjlgbimkaaComp4
import Derived.Test.YtlkphcjlgbimkaaComp5
namespace Go.Proofs.Ytlkphcjlgbimkaa
open Go.RowKit

set_option maxHeartbeats 400000 in
theorem ref34_size (n : Int) (w : World) (h1 : -9223372036854775807 ≤ n) (h2 : n ≤ 9223372036854775807) :
    Calls Try.prog 35 #[.int .i64 n] w fun e w' => e = .returned (.int .i64 (mx n (-n))) ∧ w' = w := by
  go_enter Try.func35, Try.ntmps35
  go_wp2
  go_ret
  exact ⟨rfl, rfl⟩

/-- The tests of the first loop: each true one ends it. -/
theorem f1_cases (l : Tl) (k : Nat) :
    (decide (hd l k < 0) = true ∧ ¬ E1 l k) ∨
    (decide (hd l k < 0) = false ∧ decide (21600000 ≤ hd l k) = true ∧ ¬ E1 l k) ∨
    (decide (hd l k < 0) = false ∧ decide (21600000 ≤ hd l k) = false ∧ decide (dv l k < -1800000) = true ∧ ¬ E1 l k) ∨
    (decide (hd l k < 0) = false ∧ decide (21600000 ≤ hd l k) = false ∧ decide (dv l k < -1800000) = false ∧ decide (1800000 < dv l k) = true ∧ ¬ E1 l k) ∨
    (decide (hd l k < 0) = false ∧ decide (21600000 ≤ hd l k) = false ∧ decide (dv l k < -1800000) = false ∧ decide (1800000 < dv l k) = false ∧ k = 0 ∧ E1 l k) ∨
    (decide (hd l k < 0) = false ∧ decide (21600000 ≤ hd l k) = false ∧ decide (dv l k < -1800000) = false ∧ decide (1800000 < dv l k) = false ∧ 0 < k ∧ decide (hd l k ≤ hd l (k - 1)) = true ∧ ¬ E1 l k) ∨
    (decide (hd l k < 0) = false ∧ decide (21600000 ≤ hd l k) = false ∧ decide (dv l k < -1800000) = false ∧ decide (1800000 < dv l k) = false ∧ 0 < k ∧ decide (hd l k ≤ hd l (k - 1)) = false ∧ E1 l k) := by
  simp only [decide_eq_true_eq, decide_eq_false_iff_not]
  have e : E1 l k ↔ (0 ≤ hd l k ∧ hd l k < 21600000) ∧ (-1800000 ≤ dv l k ∧ dv l k ≤ 1800000) ∧ (0 < k → hd l (k - 1) < hd l k) :=
    ⟨fun E => ⟨headB_iff.1 E.a, withB_iff.1 E.b, E.c⟩, fun E => ⟨headB_iff.2 E.1, withB_iff.2 E.2.1, E.2.2⟩⟩
  rw [e]
  omega
/-- What the second loop asks. -/
def F2 (l : Tl) (i : Nat) : Prop := if i + 1 < l.length then 2 * mx (dv l (i + 1) - dv l i) (-(dv l (i + 1) - dv l i)) ≤ hd l (i + 1) - hd l i else 2 * mx (dv l 0 - dv l i) (-(dv l 0 - dv l i)) ≤ hd l 0 - hd l i + 21600000
theorem mx_abs {x g : Int} : 2 * mx x (-x) ≤ g ↔ -g ≤ 2 * x ∧ 2 * x ≤ g := by unfold mx; split <;> omega
theorem tab_of2 {l : Tl} (h0 : l.length ≤ 72) (h1 : ∀ i, i < l.length → E1 l i) (h2 : ∀ i, i < l.length → F2 l i) : Tab l := by
  refine ⟨h0, fun i hi => (h1 i hi).bd.1, fun i hi => (h1 i hi).bd.2.1, fun i hi => (h1 i hi).bd.2.2.1, fun i hi => (h1 i hi).bd.2.2.2, fun i hi => ?_, fun i hi => ?_, fun hl => ?_⟩
  · have := (h1 (i + 1) hi).c (by omega); simpa using this
  · have := h2 i (by omega)
    unfold F2 at this
    rw [if_pos hi] at this
    exact mx_abs.1 this
  · have := h2 (l.length - 1) (by omega)
    unfold F2 at this
    rw [if_neg (by omega)] at this
    have := mx_abs.1 this
    omega
theorem Tab.f2 {l : Tl} (T : Tab l) (i : Nat) (hi : i < l.length) : F2 l i := by
  unfold F2
  split
  · rename_i h
    exact mx_abs.2 (T.st i h)
  · rename_i h
    have := T.cy (by omega)
    have e : i = l.length - 1 := by omega
    rw [← e] at this
    exact mx_abs.2 (by omega)
theorem valid_yes2 {l : Tl} {m : Nat} (hm : m = l.length) (h0 : m ≤ 72) (h1 : ∀ i, i < m → E1 l i) (h2 : ∀ i, i < m → F2 l i) : true = vB l := by
  subst hm; exact (vB_iff.2 (tab_of2 h0 h1 h2)).symm
theorem valid_no3 {l : Tl} {m i : Nat} (hm : m = l.length) (hi : i < m) (h : ¬ F2 l i) : false = vB l := by
  subst hm; exact (vB_false.2 fun T => h (T.f2 i hi)).symm
set_option maxHeartbeats 8000000 in
set_option maxRecDepth 100000 in
theorem ref34_Valid (v : Value) (l : Tl) (w : World) (hv : Tabs w v l) :
    Calls Try.prog 26 #[v] w fun e w' => e = .returned (.bool (vB l)) ∧ ∃ d, w' = bw w d := by
  obtain ⟨a, cap, rfl, g1, k1⟩ := hv
  obtain ⟨m, hm⟩ : ∃ m, m = l.length := ⟨_, rfl⟩
  rw [← hm] at g1
  rw [← hm]
  by_cases hbig : 72 < m
  · have HB := Lib.hid (valid_no0 hm hbig)
    clear k1 hm
    refine lay_start ?_
    go_enter Try.func26, Try.ntmps26
    go_wp2
    go_ret
    exact ⟨ret_bool HB.out, lay_ex _ _⟩
  · by_cases hz : m = 0
    · have HB := Lib.hid (valid_yes2 hm (by omega) (fun i hi => by omega) (fun i hi => by omega))
      subst hz
      clear k1 hm
      refine lay_start ?_
      go_enter Try.func26, Try.ntmps26
      go_wp2_with fail
      refine wp_loop_rounds 1 ?_
      rw [rounds_succ]
      go_wp2_with fail
      refine wp_loop_rounds 1 ?_
      rw [rounds_succ]
      go_wp2
      go_ret
      exact ⟨ret_bool HB.out, lay_ex _ _⟩
    · obtain ⟨b, o, rfl, s1, r1⟩ := k1 (by rintro rfl; simp at hm; omega)
      rw [← hm] at r1
      have HM := Lib.hid hm
      have HR := Lib.hid r1
      have hmz : (m : Int) ≠ 0 := by omega
      clear hm r1 k1
      refine lay_start ?_
      go_enter Try.func26, Try.ntmps26
      go_wp2_with fail
      go_loopw [4] (fun i wr => ∃ (k : Nat) (e : Ext), k ≤ m ∧ i = .int .i64 k ∧ wr = lay w [.inr e] ∧ ∀ j, j < k → E1 l j) (fun i _ => m - (intOf i).toNat)
      case atStart => exact ⟨0, _, by omega, rfl, Classical.choose_spec (lay_fold w [] _), fun j hj => by omega⟩
      case round =>
        obtain ⟨k, e, hk, rfl, rfl, hE⟩ := hrel
        have HE := Lib.hid hE
        clear hE
        by_cases hlt : k < m
        · obtain ⟨e1, e2, x1, x2⟩ := HR.out k hlt
          rcases f1_cases l k with ⟨hA, hN⟩ | ⟨hA, hB, hN⟩ | ⟨hA, hB, hC, hN⟩ | ⟨hA, hB, hC, hD, hN⟩ | ⟨hA, hB, hC, hD, h0, hN⟩ | ⟨hA, hB, hC, hD, h0, hF, hN⟩ | ⟨hA, hB, hC, hD, h0, hF, hN⟩
          · have HN := Lib.hid (valid_no1 HM.out hlt hN)
            clear hN
            go_wp2_with fail
            refine region_bw (by kernel_rfl) (by kernel_rfl) ?_
            repeat (go_big_quiet_step ((first | fail)))
            refine wpQuiet_nil ?_
            rintro w' ⟨d, rfl⟩
            rw [lay_bw]
            go_wp2
            go_ret
            exact ⟨ret_bool HN.out, lay_ex _ _⟩
          · have HN := Lib.hid (valid_no1 HM.out hlt hN)
            clear hN
            go_wp2_with fail
            refine region_bw (by kernel_rfl) (by kernel_rfl) ?_
            repeat (go_big_quiet_step ((first | fail)))
            refine wpQuiet_nil ?_
            rintro w' ⟨d, rfl⟩
            rw [lay_bw]
            go_wp2
            go_ret
            exact ⟨ret_bool HN.out, lay_ex _ _⟩
          · have HN := Lib.hid (valid_no1 HM.out hlt hN)
            clear hN
            go_wp2_with fail
            refine region_bw (by kernel_rfl) (by kernel_rfl) ?_
            repeat (go_big_quiet_step ((first | fail)))
            refine wpQuiet_nil ?_
            rintro w' ⟨d, rfl⟩
            rw [lay_bw]
            go_wp2
            go_ret
            exact ⟨ret_bool HN.out, lay_ex _ _⟩
          · have HN := Lib.hid (valid_no1 HM.out hlt hN)
            clear hN
            go_wp2_with fail
            refine region_bw (by kernel_rfl) (by kernel_rfl) ?_
            repeat (go_big_quiet_step ((first | fail)))
            refine wpQuiet_nil ?_
            rintro w' ⟨d, rfl⟩
            rw [lay_bw]
            go_wp2
            go_ret
            exact ⟨ret_bool HN.out, lay_ex _ _⟩
          · have HN := Lib.hid hN
            subst h0
            clear hN
            simp only [Nat.zero_mul, Nat.add_zero] at e1 e2
            go_wp2_with fail
            refine region_bw (by kernel_rfl) (by kernel_rfl) ?_
            repeat (go_big_quiet_step ((first | fail)))
            refine wpQuiet_nil ?_
            rintro w' ⟨d, rfl⟩
            rw [lay_bw]
            go_wp2
            go_roundw
            case rel => exact ⟨1, _, by omega, rfl, Classical.choose_spec (lay_all w _), one_E1 HN.out⟩
            case measure => simp [intOf]; omega
          · have HN := Lib.hid (valid_no1 HM.out hlt hN)
            have hkd : decide (0 < k) = true := decide_eq_true h0
            have hw1 : IntKind.i64.wrap ((k : Int) - 1) = (k : Int) - 1 := IntWalk.i64_in _ (by omega)
            have hw2 : ((k : Int) - 1).toNat = k - 1 := by omega
            obtain ⟨f1, -, -, -⟩ := HR.out (k - 1) (by omega)
            clear hN
            go_wp2_with fail
            refine region_bw (by kernel_rfl) (by kernel_rfl) ?_
            repeat (go_big_quiet_step ((first | fail)))
            refine wpQuiet_nil ?_
            rintro w' ⟨d, rfl⟩
            rw [lay_bw]
            go_wp2
            go_ret
            exact ⟨ret_bool HN.out, lay_ex _ _⟩
          · have HN := Lib.hid hN
            have hkd : decide (0 < k) = true := decide_eq_true h0
            have hw1 : IntKind.i64.wrap ((k : Int) - 1) = (k : Int) - 1 := IntWalk.i64_in _ (by omega)
            have hw2 : ((k : Int) - 1).toNat = k - 1 := by omega
            obtain ⟨f1, -, -, -⟩ := HR.out (k - 1) (by omega)
            clear hN
            go_wp2_with fail
            refine region_bw (by kernel_rfl) (by kernel_rfl) ?_
            repeat (go_big_quiet_step ((first | fail)))
            refine wpQuiet_nil ?_
            rintro w' ⟨d, rfl⟩
            rw [lay_bw]
            clear hw1 hw2
            go_wp2
            go_roundw
            case rel => exact ⟨k + 1, _, by omega, by go_num, Classical.choose_spec (lay_all w _), fun j hj => by
              by_cases e : j = k
              · subst e; exact HN.out
              · exact HE.out j (by omega)⟩
            case measure => simp [intOf]; omega
        · obtain rfl : k = m := by omega
          clear hlt
          go_wp2_with fail
          go_loopw [5] (fun i wr => ∃ (j : Nat) (e : Ext), j ≤ k ∧ i = .int .i64 j ∧ wr = lay w [.inr e] ∧ ∀ i, i < j → F2 l i) (fun i _ => k - (intOf i).toNat)
          case atStart => exact ⟨0, _, by omega, rfl, rfl, fun j hj => by omega⟩
          case round =>
            obtain ⟨i, e', hi, rfl, rfl, hF⟩ := hrel
            have HF := Lib.hid hF
            clear hF
            by_cases hlt : i < k
            · obtain ⟨e1, e2, x1, x2⟩ := HR.out i hlt
              have bi := (HE.out i hlt).bd
              obtain ⟨bi1, bi2, bi3, bi4⟩ := bi
              have hw1 : IntKind.i64.wrap ((i : Int) + 1) = (i : Int) + 1 := IntWalk.i64_in _ (by omega)
              by_cases hn : i + 1 < k
              · obtain ⟨f1, f2, y1, y2⟩ := HR.out (i + 1) hn
                have bn := (HE.out (i + 1) hn).bd
                obtain ⟨bn1, bn2, bn3, bn4⟩ := bn
                have hq : ((i : Int) == (k : Int) - 1) = false := beq_eq_false_iff_ne.2 (by omega)
                have hn1 : (0 : Int) ≤ (i : Int) + 1 := by omega
                have hn2 : (i : Int) + 1 < (k : Int) := by omega
                have hn3 : ((i : Int) + 1).toNat = i + 1 := by omega
                have ht : ((i : Int) + 1).tmod k = (i : Int) + 1 := by rw [Int.tmod_eq_emod_of_nonneg (by omega), Int.emod_eq_of_lt (by omega) (by omega)]
                have hmx : 0 ≤ mx (dv l (i + 1) - dv l i) (-(dv l (i + 1) - dv l i)) ∧ mx (dv l (i + 1) - dv l i) (-(dv l (i + 1) - dv l i)) ≤ 3600000 := by unfold mx; split <;> omega
                obtain ⟨hm1, hm2⟩ := hmx
                by_cases hc : 2 * mx (dv l (i + 1) - dv l i) (-(dv l (i + 1) - dv l i)) ≤ hd l (i + 1) - hd l i
                · have HN : Hid (F2 l i) := Lib.hid (by unfold F2; rw [← HM.out, if_pos hn]; exact hc)
                  go_wp2_with fail
                  refine region_mixW [0, 0, 0, 0, 0, 0, 0, 0, 0, 0, 0, 2, 1, 1] (by kernel_rfl) (by kernel_rfl) (by kernel_rfl) ?_
                  repeat (refine wpM_quiet (fun K hK => ?_); go_simp; first | (refine hK _ ?_; clear hK K) | (apply Exists.intro; refine ⟨fun _ => ?_, hK _ ?_⟩; (first | fail); clear hK K))
                  refine wpM_two (fun J hJ d => ?_) (fun J hJ d => ?_)
                  all_goals (go_simp; refine hJ _ _ (by first | exact lay_in w [_] _ | exact lay_in w [_, _] _ | exact lay_in w [_, _, _] _ | exact lay_in w [_, _, _, _] _ | exact lay_in w [_, _, _, _, _] _ | exact lay_in w [_, _, _, _, _, _] _) (fun K hK d => ?_); go_simp; refine hK _ _ (by first | exact lay_in w [_] _ | exact lay_in w [_, _] _ | exact lay_in w [_, _, _] _ | exact lay_in w [_, _, _, _] _ | exact lay_in w [_, _, _, _, _] _ | exact lay_in w [_, _, _, _, _, _] _) ?_; clear hK K hJ J)
                  all_goals (repeat (first | (refine wpM_quiet (fun K hK => ?_); go_simp; first | (refine hK _ ?_; clear hK K) | (apply Exists.intro; refine ⟨fun _ => ?_, hK _ ?_⟩; (first | fail); clear hK K)) | (refine wpM_special (fun K hK d => ?_); go_simp; refine hK _ _ (by first | exact lay_in w [_] _ | exact lay_in w [_, _] _ | exact lay_in w [_, _, _] _ | exact lay_in w [_, _, _, _] _ | exact lay_in w [_, _, _, _, _] _ | exact lay_in w [_, _, _, _, _, _] _) ?_; clear hK K)))
                  all_goals (refine wpM_nil ?_; intro d; rw [lay_bw])
                  all_goals
                    clear hw1 ht
                    go_wp2_with (go_at_call 35; refine (ref34_size _ _ (by omega) (by omega)).mono ?_; rintro e w' ⟨rfl, rfl⟩)
                    go_roundw
                    case rel => exact ⟨i + 1, _, by omega, by go_num, Classical.choose_spec (lay_all w _), fun j hj => by
                      by_cases e : j = i
                      · subst e; exact HN.out
                      · exact HF.out j (by omega)⟩
                    case measure => simp [intOf]; omega
                · have HN := Lib.hid (valid_no3 HM.out hlt (by unfold F2; rw [← HM.out, if_pos hn]; exact hc))
                  have hc' : hd l (i + 1) - hd l i < 2 * mx (dv l (i + 1) - dv l i) (-(dv l (i + 1) - dv l i)) := by omega
                  clear hc
                  go_wp2_with fail
                  refine region_mixW [0, 0, 0, 0, 0, 0, 0, 0, 0, 0, 0, 2, 1, 1] (by kernel_rfl) (by kernel_rfl) (by kernel_rfl) ?_
                  repeat (refine wpM_quiet (fun K hK => ?_); go_simp; first | (refine hK _ ?_; clear hK K) | (apply Exists.intro; refine ⟨fun _ => ?_, hK _ ?_⟩; (first | fail); clear hK K))
                  refine wpM_two (fun J hJ d => ?_) (fun J hJ d => ?_)
                  all_goals (go_simp; refine hJ _ _ (by first | exact lay_in w [_] _ | exact lay_in w [_, _] _ | exact lay_in w [_, _, _] _ | exact lay_in w [_, _, _, _] _ | exact lay_in w [_, _, _, _, _] _ | exact lay_in w [_, _, _, _, _, _] _) (fun K hK d => ?_); go_simp; refine hK _ _ (by first | exact lay_in w [_] _ | exact lay_in w [_, _] _ | exact lay_in w [_, _, _] _ | exact lay_in w [_, _, _, _] _ | exact lay_in w [_, _, _, _, _] _ | exact lay_in w [_, _, _, _, _, _] _) ?_; clear hK K hJ J)
                  all_goals (repeat (first | (refine wpM_quiet (fun K hK => ?_); go_simp; first | (refine hK _ ?_; clear hK K) | (apply Exists.intro; refine ⟨fun _ => ?_, hK _ ?_⟩; (first | fail); clear hK K)) | (refine wpM_special (fun K hK d => ?_); go_simp; refine hK _ _ (by first | exact lay_in w [_] _ | exact lay_in w [_, _] _ | exact lay_in w [_, _, _] _ | exact lay_in w [_, _, _, _] _ | exact lay_in w [_, _, _, _, _] _ | exact lay_in w [_, _, _, _, _, _] _) ?_; clear hK K)))
                  all_goals (refine wpM_nil ?_; intro d; rw [lay_bw])
                  all_goals
                    clear hw1 ht
                    go_wp2_with (go_at_call 35; refine (ref34_size _ _ (by omega) (by omega)).mono ?_; rintro e w' ⟨rfl, rfl⟩)
                    go_ret
                    exact ⟨ret_bool HN.out, lay_ex _ _⟩
              · obtain ⟨f1, f2, y1, y2⟩ := HR.out 0 (by omega)
                have bn := (HE.out 0 (by omega)).bd
                obtain ⟨bn1, bn2, bn3, bn4⟩ := bn
                simp only [Nat.zero_mul, Nat.add_zero] at f1 f2
                have hq : ((i : Int) == (k : Int) - 1) = true := beq_iff_eq.2 (by omega)
                have ht : ((i : Int) + 1).tmod k = 0 := by rw [show ((i : Int) + 1) = k by omega]; exact Int.tmod_self
                have hmx : 0 ≤ mx (dv l 0 - dv l i) (-(dv l 0 - dv l i)) ∧ mx (dv l 0 - dv l i) (-(dv l 0 - dv l i)) ≤ 3600000 := by unfold mx; split <;> omega
                obtain ⟨hm1, hm2⟩ := hmx
                have hk0 : 0 < k := by omega
                by_cases hc : 2 * mx (dv l 0 - dv l i) (-(dv l 0 - dv l i)) ≤ hd l 0 - hd l i + 21600000
                · have HN : Hid (F2 l i) := Lib.hid (by unfold F2; rw [← HM.out, if_neg hn]; exact hc)
                  go_wp2_with fail
                  refine region_mixW [0, 0, 0, 0, 0, 0, 0, 0, 0, 0, 0, 2, 1, 1] (by kernel_rfl) (by kernel_rfl) (by kernel_rfl) ?_
                  repeat (refine wpM_quiet (fun K hK => ?_); go_simp; first | (refine hK _ ?_; clear hK K) | (apply Exists.intro; refine ⟨fun _ => ?_, hK _ ?_⟩; (first | fail); clear hK K))
                  refine wpM_two (fun J hJ d => ?_) (fun J hJ d => ?_)
                  all_goals (go_simp; refine hJ _ _ (by first | exact lay_in w [_] _ | exact lay_in w [_, _] _ | exact lay_in w [_, _, _] _ | exact lay_in w [_, _, _, _] _ | exact lay_in w [_, _, _, _, _] _ | exact lay_in w [_, _, _, _, _, _] _) (fun K hK d => ?_); go_simp; refine hK _ _ (by first | exact lay_in w [_] _ | exact lay_in w [_, _] _ | exact lay_in w [_, _, _] _ | exact lay_in w [_, _, _, _] _ | exact lay_in w [_, _, _, _, _] _ | exact lay_in w [_, _, _, _, _, _] _) ?_; clear hK K hJ J)
                  all_goals (repeat (first | (refine wpM_quiet (fun K hK => ?_); go_simp; first | (refine hK _ ?_; clear hK K) | (apply Exists.intro; refine ⟨fun _ => ?_, hK _ ?_⟩; (first | fail); clear hK K)) | (refine wpM_special (fun K hK d => ?_); go_simp; refine hK _ _ (by first | exact lay_in w [_] _ | exact lay_in w [_, _] _ | exact lay_in w [_, _, _] _ | exact lay_in w [_, _, _, _] _ | exact lay_in w [_, _, _, _, _] _ | exact lay_in w [_, _, _, _, _, _] _) ?_; clear hK K)))
                  all_goals (refine wpM_nil ?_; intro d; rw [lay_bw])
                  all_goals
                    clear hw1 ht
                    go_wp2_with (go_at_call 35; refine (ref34_size _ _ (by omega) (by omega)).mono ?_; rintro e w' ⟨rfl, rfl⟩)
                    go_roundw
                    case rel => exact ⟨i + 1, _, by omega, by go_num, Classical.choose_spec (lay_all w _), fun j hj => by
                      by_cases e : j = i
                      · subst e; exact HN.out
                      · exact HF.out j (by omega)⟩
                    case measure => simp [intOf]; omega
                · have HN := Lib.hid (valid_no3 HM.out hlt (by unfold F2; rw [← HM.out, if_neg hn]; exact hc))
                  have hc' : hd l 0 - hd l i + 21600000 < 2 * mx (dv l 0 - dv l i) (-(dv l 0 - dv l i)) := by omega
                  clear hc
                  go_wp2_with fail
                  refine region_mixW [0, 0, 0, 0, 0, 0, 0, 0, 0, 0, 0, 2, 1, 1] (by kernel_rfl) (by kernel_rfl) (by kernel_rfl) ?_
                  repeat (refine wpM_quiet (fun K hK => ?_); go_simp; first | (refine hK _ ?_; clear hK K) | (apply Exists.intro; refine ⟨fun _ => ?_, hK _ ?_⟩; (first | fail); clear hK K))
                  refine wpM_two (fun J hJ d => ?_) (fun J hJ d => ?_)
                  all_goals (go_simp; refine hJ _ _ (by first | exact lay_in w [_] _ | exact lay_in w [_, _] _ | exact lay_in w [_, _, _] _ | exact lay_in w [_, _, _, _] _ | exact lay_in w [_, _, _, _, _] _ | exact lay_in w [_, _, _, _, _, _] _) (fun K hK d => ?_); go_simp; refine hK _ _ (by first | exact lay_in w [_] _ | exact lay_in w [_, _] _ | exact lay_in w [_, _, _] _ | exact lay_in w [_, _, _, _] _ | exact lay_in w [_, _, _, _, _] _ | exact lay_in w [_, _, _, _, _, _] _) ?_; clear hK K hJ J)
                  all_goals (repeat (first | (refine wpM_quiet (fun K hK => ?_); go_simp; first | (refine hK _ ?_; clear hK K) | (apply Exists.intro; refine ⟨fun _ => ?_, hK _ ?_⟩; (first | fail); clear hK K)) | (refine wpM_special (fun K hK d => ?_); go_simp; refine hK _ _ (by first | exact lay_in w [_] _ | exact lay_in w [_, _] _ | exact lay_in w [_, _, _] _ | exact lay_in w [_, _, _, _] _ | exact lay_in w [_, _, _, _, _] _ | exact lay_in w [_, _, _, _, _, _] _) ?_; clear hK K)))
                  all_goals (refine wpM_nil ?_; intro d; rw [lay_bw])
                  all_goals
                    clear hw1 ht
                    go_wp2_with (go_at_call 35; refine (ref34_size _ _ (by omega) (by omega)).mono ?_; rintro e w' ⟨rfl, rfl⟩)
                    go_ret
                    exact ⟨ret_bool HN.out, lay_ex _ _⟩
            · obtain rfl : i = k := by omega
              have HB := Lib.hid (valid_yes2 HM.out (by omega) HE.out HF.out)
              clear hlt
              go_wp2
              go_ret
              exact ⟨ret_bool HB.out, lay_ex _ _⟩
end Go.Proofs.Ytlkphcjlgbimkaa
