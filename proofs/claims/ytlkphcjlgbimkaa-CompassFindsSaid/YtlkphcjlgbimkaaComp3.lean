/- compass.Valid. -/
import Derived.Test.YtlkphcjlgbimkaaProg
import Derived.Test.YtlkphcjlgbimkaaLay
import Derived.Test.YtlkphcjlgbimkaaRegion
import Derived.Test.YtlkphcjlgbimkaaMix
import Derived.WalkKit
import Derived.WalkSpells
import Derived.WalkLawsBesides
import Derived.Lib.Hide
import Derived.BigQuiet
import Derived.Test.YtlkphcjlgbimkaaPlain
import Derived.Test.YtlkphcjlgbimkaaAngle
import Derived.Test.YtlkphcjlgbimkaaCompPlain
import Derived.Test.YtlkphcjlgbimkaaTabs
import Derived.Test.YtlkphcjlgbimkaaComp1
namespace Go.Proofs.Ytlkphcjlgbimkaa
open Go.RowKit

structure E1 (l : Tl) (i : Nat) : Prop where
  a : headB (hd l i) = true
  b : withB (dv l i) 1800000 = true
  c : 0 < i → hd l (i - 1) < hd l i
def pv (l : Tl) (i : Nat) : Nat := if 0 < i then i - 1 else l.length - 1
def gp (l : Tl) (i : Nat) : Int := if 0 < i then hd l i - hd l (i - 1) else 21600000 + (hd l i - hd l (l.length - 1))
def E2 (l : Tl) (i : Nat) : Prop := withB (2 * (dv l i - dv l (pv l i))) (gp l i) = true
theorem headB_iff {n : Int} : headB n = true ↔ 0 ≤ n ∧ n < 21600000 := by simp [headB]
theorem withB_iff {n k : Int} : withB n k = true ↔ -k ≤ n ∧ n ≤ k := by simp [withB]
theorem E1.bd {l : Tl} {i : Nat} (h : E1 l i) : 0 ≤ hd l i ∧ hd l i < 21600000 ∧ -1800000 ≤ dv l i ∧ dv l i ≤ 1800000 := by
  have a := headB_iff.1 h.a; have b := withB_iff.1 h.b; omega
theorem tab_of {l : Tl} (h0 : l.length ≤ 72) (h1 : ∀ i, i < l.length → E1 l i) (h2 : ∀ i, i < l.length → E2 l i) : Tab l := by
  refine ⟨h0, fun i hi => (h1 i hi).bd.1, fun i hi => (h1 i hi).bd.2.1, fun i hi => (h1 i hi).bd.2.2.1, fun i hi => (h1 i hi).bd.2.2.2, fun i hi => ?_, fun i hi => ?_, fun hl => ?_⟩
  · have := (h1 (i + 1) hi).c (by omega); simpa using this
  · have := h2 (i + 1) hi
    unfold E2 pv gp at this
    rw [if_pos (by omega), if_pos (by omega), Nat.add_sub_cancel] at this
    exact withB_iff.1 this
  · have := h2 0 hl
    unfold E2 pv gp at this
    rw [if_neg (by omega), if_neg (by omega)] at this
    have := withB_iff.1 this
    omega
theorem Tab.e1 {l : Tl} (T : Tab l) (i : Nat) (hi : i < l.length) : E1 l i :=
  ⟨headB_iff.2 ⟨T.h0 i hi, T.h1 i hi⟩, withB_iff.2 ⟨T.d0 i hi, T.d1 i hi⟩, fun h0 => by have := T.asc (i - 1) (by omega); rwa [Nat.sub_add_cancel h0] at this⟩
theorem Tab.e2 {l : Tl} (T : Tab l) (i : Nat) (hi : i < l.length) : E2 l i := by
  unfold E2 pv gp
  by_cases h0 : 0 < i
  · rw [if_pos h0, if_pos h0]
    have := T.st (i - 1) (by omega)
    rw [Nat.sub_add_cancel h0] at this
    exact withB_iff.2 this
  · rw [if_neg h0, if_neg h0]
    obtain rfl : i = 0 := by omega
    have := T.cy hi
    exact withB_iff.2 (by omega)
theorem valid_yes {l : Tl} {m : Nat} (hm : m = l.length) (h0 : m ≤ 72) (h1 : ∀ i, i < m → E1 l i) (h2 : ∀ i, i < m → E2 l i) : true = vB l := by
  subst hm; exact (vB_iff.2 (tab_of h0 h1 h2)).symm
theorem valid_no1 {l : Tl} {m i : Nat} (hm : m = l.length) (hi : i < m) (h : ¬ E1 l i) : false = vB l := by
  subst hm; exact (vB_false.2 fun T => h (T.e1 i hi)).symm
theorem valid_no2 {l : Tl} {m i : Nat} (hm : m = l.length) (hi : i < m) (h : ¬ E2 l i) : false = vB l := by
  subst hm; exact (vB_false.2 fun T => h (T.e2 i hi)).symm
theorem valid_no0 {l : Tl} {m : Nat} (hm : m = l.length) (h : 72 < m) : false = vB l := by
  subst hm; exact (vB_false.2 fun T => by have := T.len; omega).symm

theorem one_E1 {l : Tl} (h : E1 l 0) : ∀ j, j < 1 → E1 l j := fun j hj => by
  obtain rfl : j = 0 := by omega
  exact h
theorem one_E2 {l : Tl} (h : E2 l 0) : ∀ j, j < 1 → E2 l j := fun j hj => by
  obtain rfl : j = 0 := by omega
  exact h
theorem e2_zero {l : Tl} {k : Nat} (hm : k = l.length) (h : (!withB (2 * (dv l 0 - dv l (k - 1))) (21600000 + (hd l 0 - hd l (k - 1)))) = false) : E2 l 0 := by subst hm; exact (Bool.not_eq_false' _).mp h
theorem ne2_zero {l : Tl} {k : Nat} (hm : k = l.length) (h : (!withB (2 * (dv l 0 - dv l (k - 1))) (21600000 + (hd l 0 - hd l (k - 1)))) = true) : ¬ E2 l 0 := by subst hm; exact fun e => by rw [show withB (2 * (dv l 0 - dv l (l.length - 1))) (21600000 + (hd l 0 - hd l (l.length - 1))) = true from e] at h; cases h
theorem e2_pos {l : Tl} {j : Nat} (hj : 0 < j) (h : (!withB (2 * (dv l j - dv l (j - 1))) (hd l j - hd l (j - 1))) = false) : E2 l j := by
  unfold E2 pv gp; rw [if_pos hj, if_pos hj]; exact (Bool.not_eq_false' _).mp h
theorem ne2_pos {l : Tl} {j : Nat} (hj : 0 < j) (h : (!withB (2 * (dv l j - dv l (j - 1))) (hd l j - hd l (j - 1))) = true) : ¬ E2 l j := by
  unfold E2 pv gp; rw [if_pos hj, if_pos hj]; exact fun e => by rw [e] at h; cases h
theorem lay_exb2 (w : World) (d : Ext) (L : List (Obj ⊕ Ext)) : ∃ e, lay (bw w d) L = bw w e := by
  obtain ⟨e, he⟩ := lay_ex (bw w d) L
  exact ⟨_, he.trans (bw_bw w d e)⟩
set_option maxHeartbeats 4000000 in
theorem comp_Valid (v : Value) (l : Tl) (w : World) (hv : Tabs w v l) :
    Calls Try.prog 9 #[v] w fun e w' => e = .returned (.bool (vB l)) ∧ ∃ d, w' = bw w d := by
  obtain ⟨a, cap, rfl, g1, k1⟩ := hv
  by_cases hbig : 72 < l.length
  · have HB := Lib.hid (valid_no0 rfl hbig)
    obtain ⟨m, hm⟩ : ∃ m, m = l.length := ⟨_, rfl⟩
    rw [← hm] at g1 hbig
    rw [← hm]
    clear k1 hm
    refine lay_start ?_
    go_enter Try.func9, Try.ntmps9
    go_wp2
    go_ret
    exact ⟨ret_bool HB.out, lay_ex _ _⟩
  · by_cases hz : l = []
    · subst hz
      have HB := Lib.hid (valid_yes (l := []) rfl (by simp) (by simp) (by simp))
      clear k1
      refine lay_start ?_
      go_enter Try.func9, Try.ntmps9
      go_wp2_with fail
      refine wp_loop_rounds 1 ?_
      rw [rounds_succ]
      go_wp2_with fail
      refine wp_loop_rounds 1 ?_
      rw [rounds_succ]
      go_wp2
      go_ret
      exact ⟨ret_bool HB.out, lay_ex _ _⟩
    · obtain ⟨b, o, rfl, s1, r1⟩ := k1 hz
      obtain ⟨m, hm⟩ : ∃ m, m = l.length := ⟨_, rfl⟩
      have hm0 : 0 < m := by rw [hm]; exact List.length_pos_iff.2 hz
      rw [← hm] at r1 g1 hbig
      rw [← hm]
      have HM := Lib.hid hm
      have HR := Lib.hid r1
      clear hm r1 k1 hz
      go_enter Try.func9, Try.ntmps9
      go_wp2_with fail
      go_loopw [14] (fun i wr => ∃ (k : Nat) (d : Ext), k ≤ m ∧ i = .int .i64 k ∧ wr = bw w d ∧ ∀ j, j < k → E1 l j) (fun i _ => m - (intOf i).toNat)
      case atStart => exact ⟨0, ⟨#[], w.drawn⟩, by omega, rfl, by simp [bw], fun j hj => by omega⟩
      case round =>
        obtain ⟨k, d, hk, rfl, rfl, hE⟩ := hrel
        have HE := Lib.hid hE
        clear hE
        by_cases hlt : k < m
        · obtain ⟨e1, e2, x1, x2⟩ := HR.out k hlt
          have e1' : (lay (bw w d) []).cell? _ = _ := (bw_cell w d b (o + k * 2) s1).trans e1
          have e2' : (lay (bw w d) []).cell? _ = _ := (bw_cell w d b (o + k * 2 + 1) s1).trans e2
          have c1 := cell_more e1'
          have c2 := cell_more e2'
          clear e1 e2
          rw [show bw w d = lay (bw w d) [] from rfl]
          cases hA : headB (hd l k)
          · have HN := Lib.hid (valid_no1 HM.out hlt fun E => by rw [E.a] at hA; cases hA)
            go_wp2_with fail
            refine region_bw (by kernel_rfl) (by kernel_rfl) ?_
            repeat (go_big_quiet_step ((first | (go_at_call 18; exact bqs (comp_heading _ _) ⟨_, rfl⟩) | (go_at_call 20; exact bqs (comp_within _ _ _ (by omega) (by omega)) ⟨_, rfl⟩))))
            refine wpQuiet_nil ?_
            rintro w' ⟨d, rfl⟩
            rw [lay_bw]
            go_wp2
            go_ret
            exact ⟨ret_bool HN.out, lay_exb2 _ _ _⟩
          · cases hB : withB (dv l k) 1800000
            · have HN := Lib.hid (valid_no1 HM.out hlt fun E => by rw [E.b] at hB; cases hB)
              go_wp2_with fail
              refine region_bw (by kernel_rfl) (by kernel_rfl) ?_
              repeat (go_big_quiet_step ((first | (go_at_call 18; exact bqs (comp_heading _ _) ⟨_, rfl⟩) | (go_at_call 20; exact bqs (comp_within _ _ _ (by omega) (by omega)) ⟨_, rfl⟩))))
              refine wpQuiet_nil ?_
              rintro w' ⟨d, rfl⟩
              rw [lay_bw]
              go_wp2
              go_ret
              exact ⟨ret_bool HN.out, lay_exb2 _ _ _⟩
            · by_cases hk0 : k = 0
              · subst hk0
                simp only [Nat.zero_mul, Nat.add_zero] at c1 c2
                obtain ⟨p0, p1, p2, p3, -, -, -⟩ := c1
                obtain ⟨q0, q1, q2, q3, -, -, -⟩ := c2
                have HN := Lib.hid (⟨hA, hB, fun h => by omega⟩ : E1 l 0)
                go_wp2_with fail
                refine region_bw (by kernel_rfl) (by kernel_rfl) ?_
                repeat (go_big_quiet_step ((first | (go_at_call 18; exact bqs (comp_heading _ _) ⟨_, rfl⟩) | (go_at_call 20; exact bqs (comp_within _ _ _ (by omega) (by omega)) ⟨_, rfl⟩))))
                refine wpQuiet_nil ?_
                rintro w' ⟨d, rfl⟩
                rw [lay_bw]
                go_wp2
                go_roundw
                case rel => exact ⟨1, _, by omega, rfl, Classical.choose_spec (lay_exb2 w _ _), one_E1 HN.out⟩
                case measure => simp [intOf]; omega
              · have hkd : decide (0 < k) = true := decide_eq_true (by omega)
                obtain ⟨f1, -, -, -⟩ := HR.out (k - 1) (by omega)
                have f1' : (lay (bw w d) []).cell? _ = _ := (bw_cell w d b (o + (k - 1) * 2) s1).trans f1
                obtain ⟨r0, r1, r2, r3, -, -, -⟩ := cell_more f1'
                clear f1
                by_cases hC : hd l (k - 1) < hd l k
                · have HN := Lib.hid (⟨hA, hB, fun _ => hC⟩ : E1 l k)
                  have hC2 : decide (hd l k ≤ hd l (k - 1)) = false := decide_eq_false (by omega)
                  go_wp2_with fail
                  refine region_bw (by kernel_rfl) (by kernel_rfl) ?_
                  repeat (go_big_quiet_step ((first | (go_at_call 18; exact bqs (comp_heading _ _) ⟨_, rfl⟩) | (go_at_call 20; exact bqs (comp_within _ _ _ (by omega) (by omega)) ⟨_, rfl⟩))))
                  refine wpQuiet_nil ?_
                  rintro w' ⟨d, rfl⟩
                  rw [lay_bw]
                  go_wp2
                  go_roundw
                  case rel => exact ⟨k + 1, _, by omega, by go_num, Classical.choose_spec (lay_exb2 w _ _), fun j hj => by
                    by_cases e : j = k
                    · subst e; exact HN.out
                    · exact HE.out j (by omega)⟩
                  case measure => simp [intOf]; omega
                · have HN := Lib.hid (valid_no1 HM.out hlt fun E => hC (E.c (by omega)))
                  have hC2 : decide (hd l k ≤ hd l (k - 1)) = true := decide_eq_true (by omega)
                  go_wp2_with fail
                  refine region_bw (by kernel_rfl) (by kernel_rfl) ?_
                  repeat (go_big_quiet_step ((first | (go_at_call 18; exact bqs (comp_heading _ _) ⟨_, rfl⟩) | (go_at_call 20; exact bqs (comp_within _ _ _ (by omega) (by omega)) ⟨_, rfl⟩))))
                  refine wpQuiet_nil ?_
                  rintro w' ⟨d, rfl⟩
                  rw [lay_bw]
                  go_wp2
                  go_ret
                  exact ⟨ret_bool HN.out, lay_exb2 _ _ _⟩
        · obtain rfl : k = m := by omega
          go_wp2_with fail
          go_loopw [47] (fun i wr => ∃ (j : Nat) (d : Ext), j ≤ k ∧ i = .int .i64 j ∧ wr = bw w d ∧ ∀ i, i < j → E2 l i) (fun i _ => k - (intOf i).toNat)
          case atStart => exact ⟨0, d, by omega, rfl, rfl, fun j hj => by omega⟩
          case round =>
            obtain ⟨j, d, hj, rfl, rfl, hF⟩ := hrel
            have HF := Lib.hid hF
            clear hF
            by_cases hlt : j < k
            · have bb := (HE.out j hlt).bd
              have bc := (HE.out (k - 1) (by omega)).bd
              obtain ⟨e1, e2, x1, x2⟩ := HR.out j hlt
              have e1' : (lay (bw w d) []).cell? _ = _ := (bw_cell w d b (o + j * 2) s1).trans e1
              have e2' : (lay (bw w d) []).cell? _ = _ := (bw_cell w d b (o + j * 2 + 1) s1).trans e2
              obtain ⟨f1, f2, y1, y2⟩ := HR.out (k - 1) (by omega)
              have f1' : (lay (bw w d) []).cell? _ = _ := (bw_cell w d b (o + (k - 1) * 2) s1).trans f1
              have f2' : (lay (bw w d) []).cell? _ = _ := (bw_cell w d b (o + (k - 1) * 2 + 1) s1).trans f2
              rw [show bw w d = lay (bw w d) [] from rfl]
              by_cases hj0 : j = 0
              · subst hj0
                simp only [Nat.zero_mul, Nat.add_zero] at e1' e2'
                obtain ⟨p0, p1, p2, p3, -, -, -⟩ := cell_more e1'
                obtain ⟨q0, q1, q2, q3, -, -, -⟩ := cell_more e2'
                obtain ⟨r0, r1, r2, r3, -, -, -⟩ := cell_more f1'
                obtain ⟨t0, t1, t2, t3, -, -, -⟩ := cell_more f2'
                clear e1 e2 f1 f2 e1' e2' f1' f2'
                go_wp2_with (go_at_call 20; refine (comp_within _ _ _ (by omega) (by omega)).mono ?_; rintro e w' ⟨rfl, rfl⟩)
                · have HN := Lib.hid (valid_no2 HM.out hlt (ne2_zero HM.out ‹_›))
                  go_ret
                  exact ⟨ret_bool HN.out, lay_exb2 _ _ _⟩
                · have HN := Lib.hid (e2_zero HM.out ‹_›)
                  go_roundw
                  case rel => exact ⟨1, _, by omega, rfl, Classical.choose_spec (lay_exb2 w _ _), one_E2 HN.out⟩
                  case measure => simp [intOf]; omega
              · have bd := (HE.out (j - 1) (by omega)).bd
                obtain ⟨g1', g2', z1, z2⟩ := HR.out (j - 1) (by omega)
                have g1'' : (lay (bw w d) []).cell? _ = _ := (bw_cell w d b (o + (j - 1) * 2) s1).trans g1'
                have g2'' : (lay (bw w d) []).cell? _ = _ := (bw_cell w d b (o + (j - 1) * 2 + 1) s1).trans g2'
                obtain ⟨p0, p1, p2, p3, -, -, -⟩ := cell_more e1'
                obtain ⟨q0, q1, q2, q3, -, -, -⟩ := cell_more e2'
                obtain ⟨r0, r1, r2, r3, -, -, -⟩ := cell_more f1'
                obtain ⟨t0, t1, t2, t3, -, -, -⟩ := cell_more f2'
                obtain ⟨v0, v1, v2, v3, -, -, -⟩ := cell_more g1''
                obtain ⟨w0, w1, w2, w3, -, -, -⟩ := cell_more g2''
                clear e1 e2 f1 f2 e1' e2' f1' f2' g1' g2' g1'' g2''
                go_wp2_with (go_at_call 20; refine (comp_within _ _ _ (by omega) (by omega)).mono ?_; rintro e w' ⟨rfl, rfl⟩)
                · have HN := Lib.hid (valid_no2 HM.out hlt (ne2_pos (by omega) ‹_›))
                  go_ret
                  exact ⟨ret_bool HN.out, lay_exb2 _ _ _⟩
                · have HN := Lib.hid (e2_pos (by omega) ‹_›)
                  go_roundw
                  case rel => exact ⟨j + 1, _, by omega, by go_num, Classical.choose_spec (lay_exb2 w _ _), fun i hi => by
                    by_cases e : i = j
                    · subst e; exact HN.out
                    · exact HF.out i (by omega)⟩
                  case measure => simp [intOf]; omega
            · obtain rfl : j = k := by omega
              have HV := Lib.hid (valid_yes HM.out (by omega) HE.out HF.out)
              go_wp2
              go_ret
              exact ⟨ret_bool HV.out, _, rfl⟩
end Go.Proofs.Ytlkphcjlgbimkaa
