/- compass.over: the deviation over an arc. -/
import Derived.Test.YtlkphcjlgbimkaaProg
import Derived.Test.YtlkphcjlgbimkaaLay
import Derived.Test.YtlkphcjlgbimkaaRegion
import Derived.Test.YtlkphcjlgbimkaaMix
import Derived.WalkKit
import Derived.WalkSpells
import Derived.WalkLawsBesides
import Derived.Lib.Hide
import Derived.BigQuiet
import Derived.BigRegion
import Derived.Test.YtlkphcjlgbimkaaPlain
import Derived.Test.YtlkphcjlgbimkaaAngle
import Derived.Test.YtlkphcjlgbimkaaCompPlain
import Derived.Test.YtlkphcjlgbimkaaTabs
import Derived.Test.YtlkphcjlgbimkaaComp1
import Derived.Test.YtlkphcjlgbimkaaComp3
import Derived.Test.YtlkphcjlgbimkaaComp4
namespace Go.Proofs.Ytlkphcjlgbimkaa
open Go.RowKit

theorem ov_step {l : Tl} {lo hi c1 c2 : Int} {k : Nat} (hc : ovK l lo hi k = (c1, c2)) (h : (lo ≤ hd l k ∧ hd l k ≤ hi) ∧ lo ≤ hd l k + 21600000 ∧ hd l k + 21600000 ≤ hi) : ovK l lo hi (k + 1) = (mn (mn c1 (dv l k)) (dv l k), mx (mx c2 (dv l k)) (dv l k)) := by
  show st1 lo hi (hd l k + 21600000) (dv l k) (st1 lo hi (hd l k) (dv l k) (ovK l lo hi k)) = _
  rw [hc]; unfold st1; rw [if_pos h.2, if_pos h.1]; rfl
theorem ov_step1 {l : Tl} {lo hi c1 c2 : Int} {k : Nat} (hc : ovK l lo hi k = (c1, c2)) (h : lo ≤ hd l k ∧ hd l k ≤ hi) (h' : ¬ (lo ≤ hd l k + 21600000 ∧ hd l k + 21600000 ≤ hi)) : ovK l lo hi (k + 1) = (mn c1 (dv l k), mx c2 (dv l k)) := by
  show st1 lo hi (hd l k + 21600000) (dv l k) (st1 lo hi (hd l k) (dv l k) (ovK l lo hi k)) = _
  rw [hc]; unfold st1; rw [if_neg h', if_pos h]; rfl
theorem ov_step2 {l : Tl} {lo hi c1 c2 : Int} {k : Nat} (hc : ovK l lo hi k = (c1, c2)) (h : ¬ (lo ≤ hd l k ∧ hd l k ≤ hi)) (h' : lo ≤ hd l k + 21600000 ∧ hd l k + 21600000 ≤ hi) : ovK l lo hi (k + 1) = (mn c1 (dv l k), mx c2 (dv l k)) := by
  show st1 lo hi (hd l k + 21600000) (dv l k) (st1 lo hi (hd l k) (dv l k) (ovK l lo hi k)) = _
  rw [hc]; unfold st1; rw [if_pos h', if_neg h]; rfl
theorem ov_step0 {l : Tl} {lo hi c1 c2 : Int} {k : Nat} (hc : ovK l lo hi k = (c1, c2)) (h : ¬ (lo ≤ hd l k ∧ hd l k ≤ hi)) (h' : ¬ (lo ≤ hd l k + 21600000 ∧ hd l k + 21600000 ≤ hi)) : ovK l lo hi (k + 1) = (c1, c2) := by
  show st1 lo hi (hd l k + 21600000) (dv l k) (st1 lo hi (hd l k) (dv l k) (ovK l lo hi k)) = _
  rw [hc]; unfold st1; rw [if_neg h', if_neg h]
set_option maxHeartbeats 4000000 in
theorem comp_over (v : Value) (l : Tl) (x0 y0 : Int) (w : World) (hv : Tabs w v l) (T : Tab l) (hV : validB x0 y0 = true) :
    Calls Try.prog 30 #[v, (.agg #[.int .i64 (x0), .int .i64 (y0)])] w fun e w' => e = .returned (.tuple #[(.agg #[.int .i64 (ovLo l (turnLo x0 y0) (turnHi x0 y0)), .int .i64 (ovHi l (turnLo x0 y0) (turnHi x0 y0))]), .int .i64 0]) ∧ ∃ d, w' = bw w d := by
  obtain ⟨lo, hlo⟩ : ∃ lo, lo = turnLo x0 y0 := ⟨_, rfl⟩
  obtain ⟨hi, hhi⟩ : ∃ hi, hi = turnHi x0 y0 := ⟨_, rfl⟩
  have TU := Lib.hid (fun W => angle_Turn x0 y0 W hV)
  rw [← hlo, ← hhi] at TU
  rw [← hlo, ← hhi]
  have AT := Lib.hid (fun n L => comp_at v l n (lay w L) (tabs_lay hv L) T)
  have HT := Lib.hid T
  obtain ⟨a, cap, rfl, g1, k1⟩ := hv
  have h72 : l.length ≤ 72 := T.len
  obtain ⟨m, hm⟩ : ∃ m, m = l.length := ⟨_, rfl⟩
  rw [← hm] at h72 AT k1
  rw [← hm]
  have HM := Lib.hid hm
  have HK := Lib.hid k1
  clear k1 g1 hlo hhi T hm hV
  refine lay_start ?_
  go_enter Try.func30, Try.ntmps30
  go_wp2_with (go_at_call 37; refine (TU.out _).mono ?_; rintro e w' ⟨rfl, d, rfl⟩)
  have AT2 : Hid (∀ n L d, Calls Try.prog 39 #[.slice a m cap, .int .i64 n] (Go.Proofs.Ytlkphcjlgbimkaa.bw (lay w L) d) fun e w' => e = .returned ((.agg #[.int .i64 (atLo l n), .int .i64 (atHi l n)])) ∧ ∃ e', w' = Go.Proofs.Ytlkphcjlgbimkaa.bw (Go.Proofs.Ytlkphcjlgbimkaa.bw (lay w L) d) e') := Lib.hid (fun n L d => AT.out n (.inr d :: L))
  refine region_bw_alloc 10 9 _ (.cells #[.int .i64 0, .int .i64 0] 35) (by kernel_rfl) (by kernel_rfl) rfl (fun _ _ => by simp [go_sem]) ?_
  simp only [List.take_succ_cons, List.take_zero, List.drop_succ_cons, List.drop_zero, skipL, Nat.reduceAdd, Nat.reduceEqDiff, ↓reduceIte]
  repeat (refine wpExt_step (fun K hK => ?_); go_simp; first | (refine hK _ ?_; clear hK K) | (apply Exists.intro; refine ⟨fun _ => ?_, hK _ ?_⟩; (first | (go_at_call 39; exact bq (AT.out _ _) (fun d => ⟨d, rfl⟩)) | (go_at_call 39; exact bq (AT2.out _ _ _) (fun d => ⟨d, rfl⟩)) | (go_at_call 38; exact bq (comp_hull _ _ _ _ _) (fun d => ⟨d, rfl⟩))); clear hK K))
  refine wpExt_nil ?_
  intro d1 d2
  by_cases hz : l = []
  · subst hz
    obtain rfl : m = 0 := by rw [HM.out]; rfl
    clear AT AT2 TU HK
    go_wp2_with fail
    refine wp_loop_rounds 1 ?_
    rw [rounds_succ]
    go_wp2
    exact bodyPost_ret (v := .tuple #[(.agg #[.int .i64 (mn (atLo [] lo) (atLo [] hi)), .int .i64 (mx (atHi [] lo) (atHi [] hi))]), .int .i64 0]) (by simp [results, Try.results30, go_sem]) rfl ⟨rfl, lay_ex _ _⟩
  · obtain ⟨b, o, rfl, s1, r1⟩ := HK.out hz
    have HR := Lib.hid r1
    clear AT AT2 TU HK r1
    go_wp2_with fail
    go_loopw [32] (fun i wr => ∃ (k : Nat) (e : Ext) (c1 c2 : Int), k ≤ m ∧ i = .int .i64 k ∧ ovK l lo hi k = (c1, c2) ∧ wr = lay w (.inr e :: .inl (.cells #[.int .i64 c1, .int .i64 c2] 35) :: [.inr d1, .inr d, .inl (.cells #[.int .i64 0, .int .i64 0] 35), .inl (.cells #[.int .i64 lo, .int .i64 hi] 35)])) (fun i _ => m - (intOf i).toNat)
    case atStart => exact ⟨0, _, _, _, by omega, rfl, rfl, rfl⟩
    case round =>
      obtain ⟨k, e, c1, c2, hk, rfl, hc, rfl⟩ := hrel
      have HC := Lib.hid hc
      clear hc
      by_cases hlt : k < m
      · obtain ⟨f1, f2, x1, x2⟩ := HR.out k hlt
        have bb := (HT.out.e1 k (by rw [← HM.out]; omega)).bd
        have f1' : (lay w []).cell? _ = _ := f1
        have f2' : (lay w []).cell? _ = _ := f2
        obtain ⟨p0, p1, p2, p3, p4, p5, p6⟩ := cell_more f1'
        obtain ⟨q0, q1, q2, q3, q4, q5, q6⟩ := cell_more f2'
        clear f1 f2 f1' f2'
        go_wp2_with fail
        refine wp_loop_rounds 3 ?_
        rw [rounds_succ]
        go_wp2_with (go_at_call 38; refine (comp_hull _ _ _ _ _).mono ?_; rintro e w' ⟨rfl, d, rfl⟩)
        all_goals (rw [rounds_succ])
        all_goals go_wp2_with (go_at_call 38; refine (comp_hull _ _ _ _ _).mono ?_; rintro e w' ⟨rfl, d, rfl⟩)
        all_goals (rw [rounds_succ])
        all_goals go_wp2_with fail
        all_goals go_roundw
        all_goals first
          | (simp [intOf]; omega)
          | (refine ⟨k + 1, _, _, _, by omega, by go_num, ?_, Classical.choose_spec (lay_fold w [_, _, _, _, _] _)⟩
             exact ov_step HC.out (by omega))
          | (refine ⟨k + 1, _, _, _, by omega, by go_num, ?_, Classical.choose_spec (lay_fold w [_, _, _, _] _)⟩
             first | exact ov_step1 HC.out (by omega) (by omega) | exact ov_step2 HC.out (by omega) (by omega))
          | (refine ⟨k + 1, _, _, _, by omega, by go_num, ?_, Classical.choose_spec (lay_fold w [_, _, _] _)⟩
             exact ov_step0 HC.out (by omega) (by omega))
      · obtain rfl : k = m := by omega
        have hh : ovLo l lo hi = c1 ∧ ovHi l lo hi = c2 := by
          unfold ovLo ovHi
          rw [← HM.out, HC.out]
          exact ⟨rfl, rfl⟩
        have HH := Lib.hid hh
        clear hh
        go_wp2
        exact bodyPost_ret (v := .tuple #[(.agg #[.int .i64 (c1), .int .i64 (c2)]), .int .i64 0]) (by simp [results, Try.results30, go_sem]) rfl ⟨by rw [HH.out.1, HH.out.2], lay_ex _ _⟩
end Go.Proofs.Ytlkphcjlgbimkaa
