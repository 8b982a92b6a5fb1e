/- The reference's valid tracks. -/
import Derived.Test.YtknammeehedbdaaProg
import Derived.Test.YtknammeehedbdaaLay
import Derived.Test.YtknammeehedbdaaRegion
import Derived.Test.YtknammeehedbdaaMix
import Derived.WalkKit
import Derived.WalkSpells
import Derived.WalkLawsBesides
import Derived.Lib.Hide
import Derived.BigQuiet
import Derived.Deep.RegionWith
import Derived.Test.YtknammeehedbdaaPlain
import Derived.Test.YtknammeehedbdaaTrk
import Derived.Test.YtknammeehedbdaaPg1
import Derived.Test.YtknammeehedbdaaPg2
namespace Go.Proofs.Ytknammeehedbdaa
open Go.RowKit

theorem out_cases (x lo hi : Int) : (decide (x < lo) = true ∧ outB x lo hi = true) ∨ (decide (x < lo) = false ∧ decide (hi < x) = true ∧ outB x lo hi = true) ∨ (decide (x < lo) = false ∧ decide (hi < x) = false ∧ outB x lo hi = false) := by
  unfold outB
  simp only [decide_eq_true_eq, decide_eq_false_iff_not]
  omega
set_option maxHeartbeats 1000000 in
theorem ref13_in (v : Value) (l : List Int) (lo hi : Int) (w : World) (hv : Lst w v l) :
    Calls Try.prog 44 #[v, .int .i64 lo, .int .i64 hi] w fun e w' => e = .returned (.bool (inLB l lo hi)) ∧ ∃ d, w' = bw w d := by
  obtain ⟨a, cap, rfl, g1, -, k1⟩ := hv
  obtain ⟨m, hm⟩ : ∃ m, m = l.length := ⟨_, rfl⟩
  rw [← hm] at g1 k1
  rw [← hm]
  have HM := Lib.hid hm
  by_cases hz : m = 0
  · have HN : Hid (true = inLB l lo hi) := Lib.hid (inLB_iff.2 (by rw [← hm, hz]; exact fun i hi => absurd hi (Nat.not_lt_zero i))).symm
    subst hz
    clear k1 hm
    refine lay_start ?_
    go_enter Try.func44, Try.ntmps44
    go_wp2_with fail
    refine wp_loop_rounds 1 ?_
    rw [rounds_succ]
    go_wp2
    go_ret
    exact ⟨ret_bool HN.out, lay_ex _ _⟩
  · obtain ⟨b, o, rfl, s1, r1⟩ := k1 (by rintro rfl; simp at hm; omega)
    have HR := Lib.hid r1
    clear r1 k1 hm
    refine lay_start ?_
    go_enter Try.func44, Try.ntmps44
    go_wp2_with fail
    go_loopw [7] (fun i wr => ∃ (k : Nat) (e : Ext), k ≤ m ∧ i = .int .i64 k ∧ wr = lay w [.inr e] ∧ InL l lo hi k) (fun i _ => m - (intOf i).toNat)
    case atStart => exact ⟨0, _, Nat.zero_le _, rfl, Classical.choose_spec (lay_fold w [] _), fun i hi => absurd hi (Nat.not_lt_zero i)⟩
    case round =>
      obtain ⟨k, e, hk, rfl, rfl, hA⟩ := hrel
      have HA := Lib.hid hA
      clear hA
      by_cases hlt : k < m
      · have e1 := HR.out k hlt
        obtain ⟨x, hx⟩ : ∃ x, x = l.getD k 0 := ⟨_, rfl⟩
        rw [← hx] at e1
        have HX := Lib.hid hx
        clear hx
        rcases out_cases x lo hi with ⟨t1, t2⟩ | ⟨t1, t3, t2⟩ | ⟨t1, t3, t2⟩
        · have HN : Hid (false = inLB l lo hi) := Lib.hid (inLB_no fun h => by have := h k (by rw [← HM.out]; exact hlt); rw [← HX.out] at this; have := outB_iff.1 t2; omega).symm
          clear t2
          go_wp2
          go_ret
          exact ⟨ret_bool HN.out, lay_ex _ _⟩
        · have HN : Hid (false = inLB l lo hi) := Lib.hid (inLB_no fun h => by have := h k (by rw [← HM.out]; exact hlt); rw [← HX.out] at this; have := outB_iff.1 t2; omega).symm
          clear t2
          go_wp2
          go_ret
          exact ⟨ret_bool HN.out, lay_ex _ _⟩
        · have HN := Lib.hid t2
          clear t2
          go_wp2
          go_roundw
          case rel => exact ⟨k + 1, _, by omega, by go_num, Classical.choose_spec (lay_all w _), fun i hi => by
            by_cases e : i = k
            · subst e; rw [← HX.out]; have t2 := HN.out; unfold outB at t2; simp only [decide_eq_false_iff_not] at t2; omega
            · exact HA.out i (by omega)⟩
          case measure => simp [intOf]; omega
      · obtain rfl : k = m := by omega
        have HN : Hid (true = inLB l lo hi) := Lib.hid (inLB_iff.2 (by rw [← HM.out]; exact HA.out)).symm
        go_wp2
        go_ret
        exact ⟨ret_bool HN.out, lay_ex _ _⟩
set_option maxHeartbeats 2000000 in
set_option maxRecDepth 100000 in
theorem ref13_ValidTrack (v : Value) (t : TrkV) (w : World) (hv : Trk w v t) :
    Calls Try.prog 25 #[v] w fun e w' => e = .returned (.bool (trkB t)) ∧ ∃ d, w' = bw w d := by
  obtain ⟨vg, vd, rfl, hs, hg, hd, hp, hq, hr⟩ := hv
  obtain ⟨s, gs, ds, p, q, r⟩ := t
  simp only at hs hg hd hp hq hr ⊢
  have HG := Lib.hid hg
  have HD := Lib.hid hd
  obtain ⟨ag, cg, rfl, g1, -, -⟩ := hg
  obtain ⟨ad, cd, rfl, d1, -, -⟩ := hd
  have HP := Lib.hid hp
  have HQ := Lib.hid hq
  have HR := Lib.hid hr
  clear hp hq hr
  refine lay_start ?_
  go_enter Try.func25, Try.ntmps25
  go_wp2_with (first | (go_at_call 43; refine (ref01_IsName _ _ hs).mono ?_; rintro e w' ⟨rfl, rfl⟩) | (go_at_call_of 44 (Value.int .i64 215999); refine (ref13_in _ gs _ _ _ (HG.out.lay _)).mono ?_; rintro e w' ⟨rfl, d, rfl⟩) | (go_at_call_of 44 (Value.int .i64 54000); refine (ref13_in _ ds _ _ _ (HD.out.lay _)).mono ?_; rintro e w' ⟨rfl, d, rfl⟩) | (go_at_call_of 44 (Value.int .i64 200); refine (ref13_in _ [p] _ _ _ (by exact lst_one _ _ _ _ HP.out)).mono ?_; rintro e w' ⟨rfl, d, rfl⟩) | (go_at_call_of 44 (Value.int .i64 620); refine (ref13_in _ [q] _ _ _ (by exact lst_one _ _ _ _ HQ.out)).mono ?_; rintro e w' ⟨rfl, d, rfl⟩) | (go_at_call_of 44 (Value.int .i64 1000); refine (ref13_in _ [r] _ _ _ (by exact lst_one _ _ _ _ HR.out)).mono ?_; rintro e w' ⟨rfl, d, rfl⟩))
  all_goals go_ret
  all_goals exact ⟨ret_bool (by simp [trkB, *]), lay_ex _ _⟩
end Go.Proofs.Ytknammeehedbdaa
