/- Contracts and plain laws, several texts in one: Comp3; Comp2; Comp4; Comp5 -/
import Derived.Test.YtakcfcekdngndaaGreatProg
import Derived.WalkKit
import Derived.WalkSpells
import Derived.WalkLawsBesides
import Derived.Lib.Hide
import Derived.BigQuiet
import Derived.BigRegion
import Derived.Test.YtakcfcekdngndaaGreatBAA
import Derived.Test.YtakcfcekdngndaaGreatBAB
import Derived.Test.YtakcfcekdngndaaGreatBAC
import Derived.Test.YtakcfcekdngndaaGreatBAG
import Derived.Test.YtakcfcekdngndaaGreatBAT
/- compass.Valid. -/
namespace Go.Proofs.YtakcfcekdngndaaGreat
open Go.RowKit

structure E1 (l : Tl) (i : Nat) : Prop where
  a : headB (hd l i) = true
  b : withB (dv l i) 1800000 = true
  c : 0 < i → hd l (i - 1) < hd l i
def pv (l : Tl) (i : Nat) : Nat := if 0 < i then i - 1 else l.length - 1
def gp (l : Tl) (i : Nat) : Int := if 0 < i then hd l i - hd l (i - 1) else 21600000 + (hd l i - hd l (l.length - 1))
def E2 (l : Tl) (i : Nat) : Prop := withB (2 * (dv l i - dv l (pv l i))) (gp l i) = true
theorem headB_iff {n : Int} : headB n = true ↔ 0 ≤ n ∧ n < 21600000 := by simp [headB]
theorem withB_iff {n k : Int} : withB n k = true ↔ -k ≤ n ∧ n ≤ k := by simp [withB]
theorem E1.bd {l : Tl} {i : Nat} (h : E1 l i) : 0 ≤ hd l i ∧ hd l i < 21600000 ∧ -1800000 ≤ dv l i ∧ dv l i ≤ 1800000 := by
  have a := headB_iff.1 h.a; have b := withB_iff.1 h.b; omega
theorem tab_of {l : Tl} (h0 : l.length ≤ 72) (h1 : ∀ i, i < l.length → E1 l i) (h2 : ∀ i, i < l.length → E2 l i) : Tab l := by
  refine ⟨h0, fun i hi => (h1 i hi).bd.1, fun i hi => (h1 i hi).bd.2.1, fun i hi => (h1 i hi).bd.2.2.1, fun i hi => (h1 i hi).bd.2.2.2, fun i hi => ?_, fun i hi => ?_, fun hl => ?_⟩
  · have := (h1 (i + 1) hi).c (by omega); simpa using this
  · have := h2 (i + 1) hi
    unfold E2 pv gp at this
    rw [if_pos (by omega), if_pos (by omega), Nat.add_sub_cancel] at this
    exact withB_iff.1 this
  · have := h2 0 hl
    unfold E2 pv gp at this
    rw [if_neg (by omega), if_neg (by omega)] at this
    have := withB_iff.1 this
    omega
theorem Tab.e1 {l : Tl} (T : Tab l) (i : Nat) (hi : i < l.length) : E1 l i :=
  ⟨headB_iff.2 ⟨T.h0 i hi, T.h1 i hi⟩, withB_iff.2 ⟨T.d0 i hi, T.d1 i hi⟩, fun h0 => by have := T.asc (i - 1) (by omega); rwa [Nat.sub_add_cancel h0] at this⟩
theorem Tab.e2 {l : Tl} (T : Tab l) (i : Nat) (hi : i < l.length) : E2 l i := by
  unfold E2 pv gp
  by_cases h0 : 0 < i
  · rw [if_pos h0, if_pos h0]
    have := T.st (i - 1) (by omega)
    rw [Nat.sub_add_cancel h0] at this
    exact withB_iff.2 this
  · rw [if_neg h0, if_neg h0]
    obtain rfl : i = 0 := by omega
    have := T.cy hi
    exact withB_iff.2 (by omega)
theorem valid_yes {l : Tl} {m : Nat} (hm : m = l.length) (h0 : m ≤ 72) (h1 : ∀ i, i < m → E1 l i) (h2 : ∀ i, i < m → E2 l i) : true = vB l := by
  subst hm; exact (vB_iff.2 (tab_of h0 h1 h2)).symm
theorem valid_no1 {l : Tl} {m i : Nat} (hm : m = l.length) (hi : i < m) (h : ¬ E1 l i) : false = vB l := by
  subst hm; exact (vB_false.2 fun T => h (T.e1 i hi)).symm
theorem valid_no2 {l : Tl} {m i : Nat} (hm : m = l.length) (hi : i < m) (h : ¬ E2 l i) : false = vB l := by
  subst hm; exact (vB_false.2 fun T => h (T.e2 i hi)).symm
theorem valid_no0 {l : Tl} {m : Nat} (hm : m = l.length) (h : 72 < m) : false = vB l := by
  subst hm; exact (vB_false.2 fun T => by have := T.len; omega).symm

theorem one_E1 {l : Tl} (h : E1 l 0) : ∀ j, j < 1 → E1 l j := fun j hj => by
  obtain rfl : j = 0 := by omega
  exact h
theorem one_E2 {l : Tl} (h : E2 l 0) : ∀ j, j < 1 → E2 l j := fun j hj => by
  obtain rfl : j = 0 := by omega
  exact h
theorem e2_zero {l : Tl} {k : Nat} (hm : k = l.length) (h : (!withB (2 * (dv l 0 - dv l (k - 1))) (21600000 + (hd l 0 - hd l (k - 1)))) = false) : E2 l 0 := by subst hm; exact (Bool.not_eq_false' _).mp h
theorem ne2_zero {l : Tl} {k : Nat} (hm : k = l.length) (h : (!withB (2 * (dv l 0 - dv l (k - 1))) (21600000 + (hd l 0 - hd l (k - 1)))) = true) : ¬ E2 l 0 := by subst hm; exact fun e => by rw [show withB (2 * (dv l 0 - dv l (l.length - 1))) (21600000 + (hd l 0 - hd l (l.length - 1))) = true from e] at h; cases h
theorem e2_pos {l : Tl} {j : Nat} (hj : 0 < j) (h : (!withB (2 * (dv l j - dv l (j - 1))) (hd l j - hd l (j - 1))) = false) : E2 l j := by
  unfold E2 pv gp; rw [if_pos hj, if_pos hj]; exact (Bool.not_eq_false' _).mp h
theorem ne2_pos {l : Tl} {j : Nat} (hj : 0 < j) (h : (!withB (2 * (dv l j - dv l (j - 1))) (hd l j - hd l (j - 1))) = true) : ¬ E2 l j := by
  unfold E2 pv gp; rw [if_pos hj, if_pos hj]; exact fun e => by rw [e] at h; cases h
theorem lay_exb2 (w : World) (d : Ext) (L : List (Obj ⊕ Ext)) : ∃ e, lay (bw w d) L = bw w e := by
  obtain ⟨e, he⟩ := lay_ex (bw w d) L
  exact ⟨_, he.trans (bw_bw w d e)⟩
set_option maxHeartbeats 4000000 in
theorem comp_Valid (v : Value) (l : Tl) (w : World) (hv : Tabs w v l) :
    Calls Tryz.prog 78 #[v] w fun e w' => e = .returned (.bool (vB l)) ∧ ∃ d, w' = bw w d := by
  obtain ⟨a, cap, rfl, g1, k1⟩ := hv
  by_cases hbig : 72 < l.length
  · have HB := Lib.hid (valid_no0 rfl hbig)
    obtain ⟨m, hm⟩ : ∃ m, m = l.length := ⟨_, rfl⟩
    rw [← hm] at g1 hbig
    rw [← hm]
    clear k1 hm
    refine lay_start ?_
    go_enter Tryz.func78, Tryz.ntmps78
    go_wp2
    go_ret
    exact ⟨ret_bool HB.out, lay_ex _ _⟩
  · by_cases hz : l = []
    · subst hz
      have HB := Lib.hid (valid_yes (l := []) rfl (by simp) (by simp) (by simp))
      clear k1
      refine lay_start ?_
      go_enter Tryz.func78, Tryz.ntmps78
      go_wp2_with fail
      refine wp_loop_rounds 1 ?_
      rw [rounds_succ]
      go_wp2_with fail
      refine wp_loop_rounds 1 ?_
      rw [rounds_succ]
      go_wp2
      go_ret
      exact ⟨ret_bool HB.out, lay_ex _ _⟩
    · obtain ⟨b, o, rfl, s1, r1⟩ := k1 hz
      obtain ⟨m, hm⟩ : ∃ m, m = l.length := ⟨_, rfl⟩
      have hm0 : 0 < m := by rw [hm]; exact List.length_pos_iff.2 hz
      rw [← hm] at r1 g1 hbig
      rw [← hm]
      have HM := Lib.hid hm
      have HR := Lib.hid r1
      clear hm r1 k1 hz
      go_enter Tryz.func78, Tryz.ntmps78
      go_wp2_with fail
      go_loopw [14] (fun i wr => ∃ (k : Nat) (d : Ext), k ≤ m ∧ i = .int .i64 k ∧ wr = bw w d ∧ ∀ j, j < k → E1 l j) (fun i _ => m - (intOf i).toNat)
      case atStart => exact ⟨0, ⟨#[], w.drawn⟩, by omega, rfl, by simp [bw], fun j hj => by omega⟩
      case round =>
        obtain ⟨k, d, hk, rfl, rfl, hE⟩ := hrel
        have HE := Lib.hid hE
        clear hE
        by_cases hlt : k < m
        · obtain ⟨e1, e2, x1, x2⟩ := HR.out k hlt
          have e1' : (lay (bw w d) []).cell? _ = _ := (bw_cell w d b (o + k * 2) s1).trans e1
          have e2' : (lay (bw w d) []).cell? _ = _ := (bw_cell w d b (o + k * 2 + 1) s1).trans e2
          have c1 := cell_more e1'
          have c2 := cell_more e2'
          clear e1 e2
          rw [show bw w d = lay (bw w d) [] from rfl]
          cases hA : headB (hd l k)
          · have HN := Lib.hid (valid_no1 HM.out hlt fun E => by rw [E.a] at hA; cases hA)
            go_wp2_with fail
            refine region_bw (by kernel_rfl) (by kernel_rfl) ?_
            repeat (go_big_quiet_step ((first | (go_at_call 106; exact bqs (comp_heading _ _) ⟨_, rfl⟩) | (go_at_call 87; exact bqs (comp_within _ _ _ (by omega) (by omega)) ⟨_, rfl⟩))))
            refine wpQuiet_nil ?_
            rintro w' ⟨d, rfl⟩
            rw [lay_bw]
            go_wp2
            go_ret
            exact ⟨ret_bool HN.out, lay_exb2 _ _ _⟩
          · cases hB : withB (dv l k) 1800000
            · have HN := Lib.hid (valid_no1 HM.out hlt fun E => by rw [E.b] at hB; cases hB)
              go_wp2_with fail
              refine region_bw (by kernel_rfl) (by kernel_rfl) ?_
              repeat (go_big_quiet_step ((first | (go_at_call 106; exact bqs (comp_heading _ _) ⟨_, rfl⟩) | (go_at_call 87; exact bqs (comp_within _ _ _ (by omega) (by omega)) ⟨_, rfl⟩))))
              refine wpQuiet_nil ?_
              rintro w' ⟨d, rfl⟩
              rw [lay_bw]
              go_wp2
              go_ret
              exact ⟨ret_bool HN.out, lay_exb2 _ _ _⟩
            · by_cases hk0 : k = 0
              · subst hk0
                simp only [Nat.zero_mul, Nat.add_zero] at c1 c2
                obtain ⟨p0, p1, p2, p3, -, -, -⟩ := c1
                obtain ⟨q0, q1, q2, q3, -, -, -⟩ := c2
                have HN := Lib.hid (⟨hA, hB, fun h => by omega⟩ : E1 l 0)
                go_wp2_with fail
                refine region_bw (by kernel_rfl) (by kernel_rfl) ?_
                repeat (go_big_quiet_step ((first | (go_at_call 106; exact bqs (comp_heading _ _) ⟨_, rfl⟩) | (go_at_call 87; exact bqs (comp_within _ _ _ (by omega) (by omega)) ⟨_, rfl⟩))))
                refine wpQuiet_nil ?_
                rintro w' ⟨d, rfl⟩
                rw [lay_bw]
                go_wp2
                go_roundw
                case rel => exact ⟨1, _, by omega, rfl, Classical.choose_spec (lay_exb2 w _ _), one_E1 HN.out⟩
                case measure => simp [intOf]; omega
              · have hkd : decide (0 < k) = true := decide_eq_true (by omega)
                obtain ⟨f1, -, -, -⟩ := HR.out (k - 1) (by omega)
                have f1' : (lay (bw w d) []).cell? _ = _ := (bw_cell w d b (o + (k - 1) * 2) s1).trans f1
                obtain ⟨r0, r1, r2, r3, -, -, -⟩ := cell_more f1'
                clear f1
                by_cases hC : hd l (k - 1) < hd l k
                · have HN := Lib.hid (⟨hA, hB, fun _ => hC⟩ : E1 l k)
                  have hC2 : decide (hd l k ≤ hd l (k - 1)) = false := decide_eq_false (by omega)
                  go_wp2_with fail
                  refine region_bw (by kernel_rfl) (by kernel_rfl) ?_
                  repeat (go_big_quiet_step ((first | (go_at_call 106; exact bqs (comp_heading _ _) ⟨_, rfl⟩) | (go_at_call 87; exact bqs (comp_within _ _ _ (by omega) (by omega)) ⟨_, rfl⟩))))
                  refine wpQuiet_nil ?_
                  rintro w' ⟨d, rfl⟩
                  rw [lay_bw]
                  go_wp2
                  go_roundw
                  case rel => exact ⟨k + 1, _, by omega, by go_num, Classical.choose_spec (lay_exb2 w _ _), fun j hj => by
                    by_cases e : j = k
                    · subst e; exact HN.out
                    · exact HE.out j (by omega)⟩
                  case measure => simp [intOf]; omega
                · have HN := Lib.hid (valid_no1 HM.out hlt fun E => hC (E.c (by omega)))
                  have hC2 : decide (hd l k ≤ hd l (k - 1)) = true := decide_eq_true (by omega)
                  go_wp2_with fail
                  refine region_bw (by kernel_rfl) (by kernel_rfl) ?_
                  repeat (go_big_quiet_step ((first | (go_at_call 106; exact bqs (comp_heading _ _) ⟨_, rfl⟩) | (go_at_call 87; exact bqs (comp_within _ _ _ (by omega) (by omega)) ⟨_, rfl⟩))))
                  refine wpQuiet_nil ?_
                  rintro w' ⟨d, rfl⟩
                  rw [lay_bw]
                  go_wp2
                  go_ret
                  exact ⟨ret_bool HN.out, lay_exb2 _ _ _⟩
        · obtain rfl : k = m := by omega
          go_wp2_with fail
          go_loopw [47] (fun i wr => ∃ (j : Nat) (d : Ext), j ≤ k ∧ i = .int .i64 j ∧ wr = bw w d ∧ ∀ i, i < j → E2 l i) (fun i _ => k - (intOf i).toNat)
          case atStart => exact ⟨0, d, by omega, rfl, rfl, fun j hj => by omega⟩
          case round =>
            obtain ⟨j, d, hj, rfl, rfl, hF⟩ := hrel
            have HF := Lib.hid hF
            clear hF
            by_cases hlt : j < k
            · have bb := (HE.out j hlt).bd
              have bc := (HE.out (k - 1) (by omega)).bd
              obtain ⟨e1, e2, x1, x2⟩ := HR.out j hlt
              have e1' : (lay (bw w d) []).cell? _ = _ := (bw_cell w d b (o + j * 2) s1).trans e1
              have e2' : (lay (bw w d) []).cell? _ = _ := (bw_cell w d b (o + j * 2 + 1) s1).trans e2
              obtain ⟨f1, f2, y1, y2⟩ := HR.out (k - 1) (by omega)
              have f1' : (lay (bw w d) []).cell? _ = _ := (bw_cell w d b (o + (k - 1) * 2) s1).trans f1
              have f2' : (lay (bw w d) []).cell? _ = _ := (bw_cell w d b (o + (k - 1) * 2 + 1) s1).trans f2
              rw [show bw w d = lay (bw w d) [] from rfl]
              by_cases hj0 : j = 0
              · subst hj0
                simp only [Nat.zero_mul, Nat.add_zero] at e1' e2'
                obtain ⟨p0, p1, p2, p3, -, -, -⟩ := cell_more e1'
                obtain ⟨q0, q1, q2, q3, -, -, -⟩ := cell_more e2'
                obtain ⟨r0, r1, r2, r3, -, -, -⟩ := cell_more f1'
                obtain ⟨t0, t1, t2, t3, -, -, -⟩ := cell_more f2'
                clear e1 e2 f1 f2 e1' e2' f1' f2'
                go_wp2_with (go_at_call 87; refine (comp_within _ _ _ (by omega) (by omega)).mono ?_; rintro e w' ⟨rfl, rfl⟩)
                · have HN := Lib.hid (valid_no2 HM.out hlt (ne2_zero HM.out ‹_›))
                  go_ret
                  exact ⟨ret_bool HN.out, lay_exb2 _ _ _⟩
                · have HN := Lib.hid (e2_zero HM.out ‹_›)
                  go_roundw
                  case rel => exact ⟨1, _, by omega, rfl, Classical.choose_spec (lay_exb2 w _ _), one_E2 HN.out⟩
                  case measure => simp [intOf]; omega
              · have bd := (HE.out (j - 1) (by omega)).bd
                obtain ⟨g1', g2', z1, z2⟩ := HR.out (j - 1) (by omega)
                have g1'' : (lay (bw w d) []).cell? _ = _ := (bw_cell w d b (o + (j - 1) * 2) s1).trans g1'
                have g2'' : (lay (bw w d) []).cell? _ = _ := (bw_cell w d b (o + (j - 1) * 2 + 1) s1).trans g2'
                obtain ⟨p0, p1, p2, p3, -, -, -⟩ := cell_more e1'
                obtain ⟨q0, q1, q2, q3, -, -, -⟩ := cell_more e2'
                obtain ⟨r0, r1, r2, r3, -, -, -⟩ := cell_more f1'
                obtain ⟨t0, t1, t2, t3, -, -, -⟩ := cell_more f2'
                obtain ⟨v0, v1, v2, v3, -, -, -⟩ := cell_more g1''
                obtain ⟨w0, w1, w2, w3, -, -, -⟩ := cell_more g2''
                clear e1 e2 f1 f2 e1' e2' f1' f2' g1' g2' g1'' g2''
                go_wp2_with (go_at_call 87; refine (comp_within _ _ _ (by omega) (by omega)).mono ?_; rintro e w' ⟨rfl, rfl⟩)
                · have HN := Lib.hid (valid_no2 HM.out hlt (ne2_pos (by omega) ‹_›))
                  go_ret
                  exact ⟨ret_bool HN.out, lay_exb2 _ _ _⟩
                · have HN := Lib.hid (e2_pos (by omega) ‹_›)
                  go_roundw
                  case rel => exact ⟨j + 1, _, by omega, by go_num, Classical.choose_spec (lay_exb2 w _ _), fun i hi => by
                    by_cases e : i = j
                    · subst e; exact HN.out
                    · exact HF.out i (by omega)⟩
                  case measure => simp [intOf]; omega
            · obtain rfl : j = k := by omega
              have HV := Lib.hid (valid_yes HM.out (by omega) HE.out HF.out)
              go_wp2
              go_ret
              exact ⟨ret_bool HV.out, _, rfl⟩
end Go.Proofs.YtakcfcekdngndaaGreat
/- Contracts of package compass: the search, the deviation at a heading. -/
namespace Go.Proofs.YtakcfcekdngndaaGreat
open Go.RowKit

theorem search_ret {l : Tl} {i m : Nat} {n : Int} (h : i < m) : Ending.returned (.tuple #[.int .i64 (i : Int), .bool (cmpI (hd l i) n == 0)]) = Ending.returned (.tuple #[.int .i64 (i : Int), .bool (decide (i < m ∧ hd l i = n))]) := by
  have : (cmpI (hd l i) n == 0) = decide (i < m ∧ hd l i = n) := by
    rw [Bool.eq_iff_iff]
    simp only [beq_iff_eq, decide_eq_true_eq]
    unfold cmpI; split <;> (try split) <;> omega
  rw [this]
set_option maxHeartbeats 1000000 in
theorem comp_search (v : Value) (l : Tl) (n : Int) (w : World) (hv : Tabs w v l) (hL : 2 ≤ l.length) (h72 : l.length ≤ 72) (hs : ∀ j, j < l.length → ∀ i, i < j → hd l i < hd l j) :
    Calls Tryz.prog 129 #[v, .int .i64 n, .func (.func 130) #[] #[]] w fun e w' =>
      ∃ i : Nat, i ≤ l.length ∧ (∀ j, j < i → hd l j < n) ∧ (∀ j, i ≤ j → j < l.length → n ≤ hd l j) ∧ e = .returned (.tuple #[.int .i64 i, .bool (decide (i < l.length ∧ hd l i = n))]) ∧ ∃ d, w' = bw w d := by
  obtain ⟨a, cap, rfl, g1, k1⟩ := hv
  obtain ⟨b, o, rfl, s1, r1⟩ := k1 (by intro h; subst h; simp at hL)
  obtain ⟨m, hm⟩ : ∃ m, m = l.length := ⟨_, rfl⟩
  rw [← hm] at hL h72 hs r1 g1
  rw [← hm]
  have HR := Lib.hid r1
  have HS := Lib.hid hs
  clear hm r1 hs k1
  go_enter Tryz.func129, Tryz.ntmps129
  go_wp2_with fail
  go_loopw [9, 10] (fun vi vj wr => ∃ (i j : Nat) (d : Ext), i ≤ j ∧ j ≤ m ∧ vi = .int .i64 i ∧ vj = .int .i64 j ∧ wr = bw w d ∧ (∀ k, k < i → hd l k < n) ∧ (∀ k, j ≤ k → k < m → n ≤ hd l k)) (fun vi vj _ => (intOf vj - intOf vi).toNat)
  case atStart => exact ⟨0, m, ⟨#[], w.drawn⟩, by omega, by omega, rfl, rfl, by simp [bw], fun k hk => by omega, fun k h1 h2 => by omega⟩
  case round =>
    obtain ⟨i, j, d, hij, hjm, rfl, rfl, rfl, hlo, hhi⟩ := hrel
    have HLO := Lib.hid hlo
    have HHI := Lib.hid hhi
    clear hlo hhi
    by_cases hlt : i < j
    · obtain ⟨e1, e2, -, -⟩ := HR.out ((i + j) / 2) (by omega)
      have e1' := (bw_cell w d b (o + (i + j) / 2 * 2) s1).trans e1
      have e2' := (bw_cell w d b (o + (i + j) / 2 * 2 + 1) s1).trans e2
      clear e1 e2
      have hm0 : (i + j) / 2 < m := by omega
      go_wp2_with (go_at_call 130; refine (comp_at1 _ _ _ _).mono ?_; rintro e w' ⟨rfl, d, rfl⟩)
      · go_roundw
        case rel =>
          have hc : hd l ((i + j) / 2) < n := by
            have : cmpI (hd l ((i + j) / 2)) n < 0 := by assumption
            unfold cmpI at this; split at this <;> (try split at this) <;> omega
          exact ⟨(i + j) / 2 + 1, j, _, by omega, hjm, by go_num, rfl, rfl, fun k hk => by
            by_cases e : k = (i + j) / 2
            · subst e; exact hc
            · have := HS.out _ hm0 k (by omega); omega, HHI.out⟩
        case measure => simp [intOf]; omega
      · go_roundw
        case rel =>
          have hc : n ≤ hd l ((i + j) / 2) := by
            have : 0 ≤ cmpI (hd l ((i + j) / 2)) n := by assumption
            unfold cmpI at this; split at this <;> (try split at this) <;> omega
          exact ⟨i, (i + j) / 2, _, by omega, by omega, rfl, by go_num, rfl, HLO.out, fun k h1 h2 => by
            by_cases e : k = (i + j) / 2
            · subst e; exact hc
            · have := HS.out k h2 ((i + j) / 2) (by omega); omega⟩
        case measure => simp [intOf]; omega
    · obtain rfl : i = j := by omega
      by_cases him : i < m
      · obtain ⟨e1, e2, -, -⟩ := HR.out i him
        have e1' := (bw_cell w d b (o + i * 2) s1).trans e1
        have e2' := (bw_cell w d b (o + i * 2 + 1) s1).trans e2
        clear e1 e2
        go_wp2_with (go_at_call 130; refine (comp_at1 _ _ _ _).mono ?_; rintro e w' ⟨rfl, d, rfl⟩)
        exact bodyPost_ret (v := .tuple #[.int .i64 (i : Int), .bool (cmpI (hd l i) n == 0)]) (by simp [results, Tryz.results129, go_sem]) rfl ⟨i, hjm, HLO.out, HHI.out, search_ret him, _, rfl⟩
      · obtain rfl : i = m := by omega
        go_wp2
        exact bodyPost_ret (v := .tuple #[.int .i64 (i : Int), .bool false]) (by simp [results, Tryz.results129, go_sem]) rfl ⟨i, hjm, HLO.out, HHI.out, by simp, _, rfl⟩
end Go.Proofs.YtakcfcekdngndaaGreat
/- compass.at: the deviation at a heading. -/
namespace Go.Proofs.YtakcfcekdngndaaGreat
open Go.RowKit

theorem at_one {l : Tl} (h : l.length = 1) (n : Int) : atLo l n = dv l 0 ∧ atHi l n = dv l 0 := by
  have k0 : kx l (n % 21600000) = 0 := by have := kx_lt (l := l) (n % 21600000) (by omega); omega
  have n0 : nx l 0 = 0 := by unfold nx; rw [h]
  unfold atLo atHi aLo aHi
  rw [k0, n0, Int.sub_self, Int.zero_mul]
  simp [zero_div_cdiv]
/-- The quotient of the whole as the program forms it. -/
theorem whole_div {x s t d : Int} (hd : 0 < d) : (x * d + s * t) / d = x + (s * t) / d ∧ -((-(x * d + s * t)) / d) = x + cdiv (s * t) d := by
  constructor
  · rw [Int.add_comm, Int.add_mul_ediv_right _ _ (by omega)]; omega
  · unfold cdiv
    rw [show -(x * d + s * t) = -(s * t) + (-x) * d by rw [Int.neg_mul]; omega, Int.add_mul_ediv_right _ _ (by omega)]; omega
structure Between (l : Tl) (n : Int) (x y p q : Int) : Prop where
  lo : (x * (q - p) + (y - x) * (n % 21600000 - p)) / (q - p) = atLo l n
  hi : -((-(x * (q - p) + (y - x) * (n % 21600000 - p))) / (q - p)) = atHi l n
  d0 : 1 ≤ q - p
  d1 : q - p ≤ 21600000
  t0 : 0 ≤ n % 21600000 - p
  t1 : n % 21600000 - p ≤ 21600000
  x0 : -100000000000000 ≤ x * (q - p)
  x1 : x * (q - p) ≤ 100000000000000
  y0 : -100000000000000 ≤ (y - x) * (n % 21600000 - p)
  y1 : (y - x) * (n % 21600000 - p) ≤ 100000000000000
theorem mul_bnd {x k M K : Int} (h1 : -M ≤ x) (h2 : x ≤ M) (hk : 0 ≤ k) (hK : k ≤ K) (hM : 0 ≤ M) : -(M * K) ≤ x * k ∧ x * k ≤ M * K := by
  have a := Int.mul_le_mul_of_nonneg_right h1 hk
  have b := Int.mul_le_mul_of_nonneg_right h2 hk
  have c := Int.mul_le_mul_of_nonneg_left hK hM
  rw [Int.neg_mul] at a
  omega
theorem between_of {l : Tl} (T : Tab l) {n : Int} {a b : Nat} {p q : Int} (hka : kx l (n % 21600000) = a) (hb : nx l a = b) (ha' : a < l.length) (hb' : b < l.length)
    (hg : gapK l a = q - p) (ht : (n % 21600000 - hd l a) % 21600000 = n % 21600000 - p) (d0 : 1 ≤ q - p) (d1 : q - p ≤ 21600000) (t0 : 0 ≤ n % 21600000 - p) (t1 : n % 21600000 - p ≤ 21600000) : Between l n (dv l a) (dv l b) p q := by
  have w := whole_div (x := dv l a) (s := dv l b - dv l a) (t := n % 21600000 - p) (d := q - p) (by omega)
  have e1 := T.d0 a ha'; have e2 := T.d1 a ha'; have e3 := T.d0 b hb'; have e4 := T.d1 b hb'
  have u := mul_bnd (x := dv l a) (k := q - p) (M := 1800000) (K := 21600000) (by omega) (by omega) (by omega) (by omega) (by omega)
  have v := mul_bnd (x := dv l b - dv l a) (k := n % 21600000 - p) (M := 3600000) (K := 21600000) (by omega) (by omega) (by omega) (by omega) (by omega)
  refine ⟨?_, ?_, d0, d1, t0, t1, by omega, by omega, by omega, by omega⟩
  · rw [w.1]; unfold atLo aLo; rw [hka, hb, hg, ht]
  · rw [w.2]; unfold atHi aHi; rw [hka, hb, hg, ht]
/-- Ahead of the first entry. -/
theorem between_first {l : Tl} (T : Tab l) (hl : 2 ≤ l.length) {n : Int} (h : ∀ j, j < l.length → n % 21600000 < hd l j) : Between l n (dv l (l.length - 1)) (dv l 0) (hd l (l.length - 1) - 21600000) (hd l 0) := by
  have h0 := h 0 (by omega)
  have a0 := T.h0 0 (by omega); have a1 := T.h1 (l.length - 1) (by omega)
  have lt := T.lt (show l.length - 1 < l.length by omega) 0 (by omega)
  have nxl : nx l (l.length - 1) = 0 := by unfold nx; rw [show l.length - 1 + 1 = l.length by omega]; exact Nat.mod_self _
  have hgap : gapK l (l.length - 1) = hd l 0 - (hd l (l.length - 1) - 21600000) := by unfold gapK; rw [nxl]; omega
  exact between_of T (kx_none h) nxl (by omega) (by omega) hgap (by omega) (by omega) (by omega) (by omega) (by omega)
/-- Behind the last one. -/
theorem between_last {l : Tl} (T : Tab l) (hl : 2 ≤ l.length) {n : Int} (h : ∀ j, j < l.length → hd l j < n % 21600000) : Between l n (dv l (l.length - 1)) (dv l 0) (hd l (l.length - 1)) (hd l 0 + 21600000) := by
  have h0 := h (l.length - 1) (by omega)
  have a0 := T.h0 0 (by omega); have a1 := T.h1 (l.length - 1) (by omega)
  have lt := T.lt (show l.length - 1 < l.length by omega) 0 (by omega)
  have nxl : nx l (l.length - 1) = 0 := by unfold nx; rw [show l.length - 1 + 1 = l.length by omega]; exact Nat.mod_self _
  have hgap : gapK l (l.length - 1) = hd l 0 + 21600000 - hd l (l.length - 1) := by unfold gapK; rw [nxl]; omega
  exact between_of T (kx_eq T (by omega) (by omega) fun j j1 j2 => by omega) nxl (by omega) (by omega) hgap (by omega) (by omega) (by omega) (by omega) (by omega)
theorem between_mid {l : Tl} (T : Tab l) {n : Int} {i : Nat} (hi0 : 0 < i) (hi : i < l.length) (h1 : hd l (i - 1) < n % 21600000) (h2 : n % 21600000 < hd l i) : Between l n (dv l (i - 1)) (dv l i) (hd l (i - 1)) (hd l i) := by
  have a0 := T.h0 (i - 1) (by omega); have a1 := T.h1 i hi
  have nxl : nx l (i - 1) = i := by unfold nx; rw [show i - 1 + 1 = i by omega]; exact Nat.mod_eq_of_lt hi
  have hgap : gapK l (i - 1) = hd l i - hd l (i - 1) := by unfold gapK; rw [nxl]; omega
  exact between_of T (kx_eq T (by omega) (by omega) fun j j1 j2 => by
    by_cases e : j = i
    · subst e; omega
    · have := T.lt j2 i (by omega); omega) nxl (by omega) (by omega) hgap (by omega) (by omega) (by omega) (by omega) (by omega)

theorem lay_drew (w : World) (L : List (Obj ⊕ Ext)) : ∃ d, (lay w L).drew = lay w (.inr d :: L) := ⟨⟨#[], (lay w L).drew.drawn⟩, by
  show _ = bw (lay w L) _
  unfold bw World.drew; simp⟩
theorem tabs_lay {w : World} {v : Value} {l : Tl} (h : Tabs w v l) (L : List (Obj ⊕ Ext)) : Tabs (lay w L) v l := by
  obtain ⟨d, hd⟩ := lay_ex w L
  rw [hd]; exact h.bw d
theorem tmod_at {x m : Nat} {X : Int} (h : X = (x : Int)) (hx : x < m) : X.tmod m = x := by
  subst h; rw [Int.tmod_eq_emod_of_nonneg (by omega), Int.emod_eq_of_lt (by omega) (by omega)]
theorem tmod_over {x m : Nat} {X : Int} (h : X = (x : Int) + m) (hx : x < m) : X.tmod m = x := by
  subst h; rw [Int.tmod_eq_emod_of_nonneg (by omega), Int.add_emod_right, Int.emod_eq_of_lt (by omega) (by omega)]
set_option maxHeartbeats 4000000 in
theorem comp_at (v : Value) (l : Tl) (n : Int) (w : World) (hv : Tabs w v l) (T : Tab l) :
    Calls Tryz.prog 109 #[v, .int .i64 n] w fun e w' => e = .returned ((.agg #[.int .i64 (atLo l n), .int .i64 (atHi l n)])) ∧ ∃ d, w' = bw w d := by
  have hv0 := hv
  obtain ⟨a, cap, rfl, g1, k1⟩ := hv
  by_cases hz : l = []
  · subst hz
    have e := at_nil n
    rw [e.1, e.2]
    clear k1 hv0 T e
    refine lay_start ?_
    go_enter Tryz.func109, Tryz.ntmps109
    go_wp2
    exact bodyPost_ret (v := (.agg #[.int .i64 (0), .int .i64 (0)])) (by simp [results, Tryz.results109, go_sem]) rfl ⟨rfl, lay_ex _ _⟩
  · obtain ⟨b, o, rfl, s1, r1⟩ := k1 hz
    have hm0 : 0 < l.length := List.length_pos_iff.2 hz
    by_cases hone : l.length = 1
    · have e := at_one hone n
      rw [e.1, e.2]
      obtain ⟨f1, f2, -, -⟩ := r1 0 hm0
      simp only [Nat.zero_mul, Nat.add_zero] at f1 f2
      have f1' : (lay w []).cell? _ = _ := f1
      have f2' : (lay w []).cell? _ = _ := f2
      obtain ⟨p0, p1, p2, p3, -, -, -⟩ := cell_more f1'
      obtain ⟨q0, q1, q2, q3, -, -, -⟩ := cell_more f2'
      rw [hone]
      clear f1 f2 f1' f2' r1 k1 hv0 T hm0 hone g1 e hz
      refine lay_start ?_
      go_enter Tryz.func109, Tryz.ntmps109
      go_wp2_with fail
      refine region_bw_tail 9 (by kernel_rfl) (by kernel_rfl) ?_
      simp only [List.take_succ_cons, List.take_zero, List.drop_succ_cons, List.drop_zero]
      repeat (go_big_quiet_step ((first | fail)))
      refine wpQuiet_nil ?_
      rintro w' ⟨d, rfl⟩
      rw [lay_bw]
      go_wp2
      exact bodyPost_ret (v := (.agg #[.int .i64 (dv l 0), .int .i64 (dv l 0)])) (by simp [results, Tryz.results109, go_sem]) rfl ⟨rfl, lay_ex _ _⟩
    · have hs := fun j (hj : j < l.length) => T.lt hj
      have S := Lib.hid (fun L => comp_search (.slice (some ⟨b, o, none⟩) l.length cap) l (n % 21600000) (lay w L) (tabs_lay hv0 L) (by omega) T.len hs)
      have HT := Lib.hid T
      have HR := Lib.hid r1
      have h2 : 2 ≤ l.length := by omega
      have h72 : l.length ≤ 72 := T.len
      have HMD : ∃ m, m = l.length := ⟨_, rfl⟩
      obtain ⟨m, hm⟩ := HMD
      rw [← hm] at h2 h72 S HR
      rw [← hm]
      have HM := Lib.hid hm
      clear hv0 r1 k1 hs g1 hz hm0 hone T hm
      refine lay_start ?_
      go_enter Tryz.func109, Tryz.ntmps109
      go_wp2_with (go_at_call 88; refine (angle_Wrap _ _).mono ?_; rintro e w' ⟨rfl, rfl⟩)
      refine (S.out _).mono ?_
      rintro e w' ⟨i, hi, hlo, hhi, rfl, d, rfl⟩
      clear S
      rw [lay_bw]
      by_cases hf : i < m ∧ hd l i = n % 21600000
      · have hF : decide (i < m ∧ hd l i = n % 21600000) = true := decide_eq_true hf
        obtain ⟨f1, f2, -, -⟩ := HR.out i hf.1
        have f1' : (lay w []).cell? _ = _ := f1
        have f2' : (lay w []).cell? _ = _ := f2
        obtain ⟨p0, p1, p2, p3, -, -, -⟩ := cell_more f1'
        obtain ⟨q0, q1, q2, q3, -, -, -⟩ := cell_more f2'
        have e := at_entry HT.out (i := i) (by rw [← HM.out]; exact hf.1) n hf.2.symm
        have HE := Lib.hid e
        obtain ⟨hf1, hf2⟩ := hf
        clear f1 f2 f1' f2' e hlo hhi
        go_wp2_with fail
        refine region_bw_tail 11 (by kernel_rfl) (by kernel_rfl) ?_
        simp only [List.take_succ_cons, List.take_zero, List.drop_succ_cons, List.drop_zero]
        repeat (go_big_quiet_step ((first | fail)))
        refine wpQuiet_nil ?_
        rintro w' ⟨d, rfl⟩
        rw [lay_bw]
        go_wp2
        exact bodyPost_ret (v := (.agg #[.int .i64 (dv l i), .int .i64 (dv l i)])) (by simp [results, Tryz.results109, go_sem]) rfl ⟨by rw [HE.out.1, HE.out.2], lay_ex _ _⟩
      · have hF : decide (i < m ∧ hd l i = n % 21600000) = false := decide_eq_false hf
        have hmz : (m : Int) ≠ 0 := by omega
        have hmz2 : m ≠ 0 := by omega
        have hw1 : IntKind.i64.wrap ((i : Int) + (m : Int)) = (i : Int) + m := IntWalk.i64_in _ (by omega)
        have hw2 : IntKind.i64.wrap ((i : Int) + (m : Int) - 1) = (i : Int) + m - 1 := IntWalk.i64_in _ (by omega)
        by_cases hi0 : i = 0
        · subst hi0
          have hr1 : ((m : Int) - 1).tmod m = ((m - 1 : Nat) : Int) := tmod_at (by omega) (by omega)
          have hl1 : m - 1 < m := by omega
          have hl2 : 0 < m := by omega
          have B := between_first HT.out (by rw [← HM.out]; omega) (n := n) (fun j hj => by
            rw [← HM.out] at hj
            have a := hhi j (by omega) hj
            by_cases e : j = 0
            · subst e; omega
            · have := HT.out.lt (by rw [← HM.out]; exact hj) 0 (by omega)
              have := hhi 0 (by omega) (by omega)
              omega)
          rw [← HM.out] at B
          have bb := (HT.out.e1 0 (by rw [← HM.out]; omega)).bd
          obtain ⟨f1, f2, x1, x2⟩ := HR.out 0 (by omega)
          have f1' : (lay w []).cell? _ = _ := f1
          have f2' : (lay w []).cell? _ = _ := f2
          have bc := (HT.out.e1 (m - 1) (by rw [← HM.out]; omega)).bd
          obtain ⟨f3, f4, x3, x4⟩ := HR.out (m - 1) (by omega)
          have f3' : (lay w []).cell? _ = _ := f3
          have f4' : (lay w []).cell? _ = _ := f4
          try simp only [Nat.zero_mul, Nat.add_zero] at f1' f2'
          obtain ⟨p0, p1, p2, p3, p4, p5, p6⟩ := cell_more f1'
          obtain ⟨q0, q1, q2, q3, q4, q5, q6⟩ := cell_more f2'
          obtain ⟨r0, r1, r2, r3, r4, r5, r6⟩ := cell_more f3'
          obtain ⟨t0, t1, t2, t3, t4, t5, t6⟩ := cell_more f4'
          clear f1 f2 f1' f2' f3 f4 f3' f4' hlo hhi
          go_wp2_with fail
          obtain ⟨lo, hi', d0, d1, t0', t1', x0', x1', y0', y1'⟩ := B
          have hq := ediv_bd (a := -(dv l (m - 1) * (hd l 0 - (hd l (m - 1) - 21600000)) + (dv l 0 - dv l (m - 1)) * (n % 21600000 - (hd l (m - 1) - 21600000)))) (b := (hd l 0 - (hd l (m - 1) - 21600000))) (by omega) 9223372036854775807 (by decide) (by omega) (by omega); have LO := Lib.hid lo
          have HI := Lib.hid hi'
          clear lo hi'
          go_region
          all_goals (
            obtain ⟨e1, he1⟩ := lay_drew w _
            rw [he1]
            clear he1
            go_wp2_with (go_at_call 132; refine (comp_floor _ _ _ (by omega) (by omega) (by omega)).mono ?_; rintro e w' ⟨rfl, rfl⟩)
            exact bodyPost_ret (v := (.agg #[.int .i64 ((dv l (m - 1) * (hd l 0 - (hd l (m - 1) - 21600000)) + (dv l 0 - dv l (m - 1)) * (n % 21600000 - (hd l (m - 1) - 21600000))) / (hd l 0 - (hd l (m - 1) - 21600000))), .int .i64 (-((-(dv l (m - 1) * (hd l 0 - (hd l (m - 1) - 21600000)) + (dv l 0 - dv l (m - 1)) * (n % 21600000 - (hd l (m - 1) - 21600000)))) / (hd l 0 - (hd l (m - 1) - 21600000))))])) (by simp [results, Tryz.results109, go_sem]) rfl ⟨by rw [LO.out, HI.out], lay_ex _ _⟩)
        · by_cases him : i = m
          · subst him
            have hr1 : ((i : Int) + (i : Int) - 1).tmod i = ((i - 1 : Nat) : Int) := tmod_over (by omega) (by omega)
            have hr2 : (i : Int).tmod i = 0 := Int.tmod_self
            have hl1 : i - 1 < i := by omega
            have hl2 : 0 < i := by omega
            have B := between_last HT.out (by rw [← HM.out]; omega) (n := n) (fun j hj => by
              rw [← HM.out] at hj
              exact hlo j hj)
            rw [← HM.out] at B
            have bb := (HT.out.e1 0 (by rw [← HM.out]; omega)).bd
            obtain ⟨f1, f2, x1, x2⟩ := HR.out 0 (by omega)
            have f1' : (lay w []).cell? _ = _ := f1
            have f2' : (lay w []).cell? _ = _ := f2
            have bc := (HT.out.e1 (i - 1) (by rw [← HM.out]; omega)).bd
            obtain ⟨f3, f4, x3, x4⟩ := HR.out (i - 1) (by omega)
            have f3' : (lay w []).cell? _ = _ := f3
            have f4' : (lay w []).cell? _ = _ := f4
            try simp only [Nat.zero_mul, Nat.add_zero] at f1' f2'
            obtain ⟨p0, p1, p2, p3, p4, p5, p6⟩ := cell_more f1'
            obtain ⟨q0, q1, q2, q3, q4, q5, q6⟩ := cell_more f2'
            obtain ⟨r0, r1, r2, r3, r4, r5, r6⟩ := cell_more f3'
            obtain ⟨t0, t1, t2, t3, t4, t5, t6⟩ := cell_more f4'
            clear f1 f2 f1' f2' f3 f4 f3' f4' hlo hhi
            go_wp2_with fail
            obtain ⟨lo, hi', d0, d1, t0', t1', x0', x1', y0', y1'⟩ := B
            have hq := ediv_bd (a := -(dv l (i - 1) * ((hd l 0 + 21600000) - hd l (i - 1)) + (dv l 0 - dv l (i - 1)) * (n % 21600000 - hd l (i - 1)))) (b := ((hd l 0 + 21600000) - hd l (i - 1))) (by omega) 9223372036854775807 (by decide) (by omega) (by omega); have LO := Lib.hid lo
            have HI := Lib.hid hi'
            clear lo hi'
            go_region
            all_goals (
              obtain ⟨e1, he1⟩ := lay_drew w _
              rw [he1]
              clear he1
              go_wp2_with (go_at_call 132; refine (comp_floor _ _ _ (by omega) (by omega) (by omega)).mono ?_; rintro e w' ⟨rfl, rfl⟩)
              exact bodyPost_ret (v := (.agg #[.int .i64 ((dv l (i - 1) * ((hd l 0 + 21600000) - hd l (i - 1)) + (dv l 0 - dv l (i - 1)) * (n % 21600000 - hd l (i - 1))) / ((hd l 0 + 21600000) - hd l (i - 1))), .int .i64 (-((-(dv l (i - 1) * ((hd l 0 + 21600000) - hd l (i - 1)) + (dv l 0 - dv l (i - 1)) * (n % 21600000 - hd l (i - 1)))) / ((hd l 0 + 21600000) - hd l (i - 1))))])) (by simp [results, Tryz.results109, go_sem]) rfl ⟨by rw [LO.out, HI.out], lay_ex _ _⟩)
          · have him' : i < m := by omega
            have hr1 : ((i : Int) + (m : Int) - 1).tmod m = ((i - 1 : Nat) : Int) := tmod_over (by omega) (by omega)
            have hr2 : (i : Int).tmod m = i := tmod_at rfl him'
            have hl1 : i - 1 < m := by omega
            have B := between_mid HT.out (n := n) (i := i) (by omega) (by rw [← HM.out]; exact him') (hlo _ (by omega)) (by have := hhi i (by omega) him'; omega)
            have bb := (HT.out.e1 i (by rw [← HM.out]; omega)).bd
            obtain ⟨f1, f2, x1, x2⟩ := HR.out i (by omega)
            have f1' : (lay w []).cell? _ = _ := f1
            have f2' : (lay w []).cell? _ = _ := f2
            have bc := (HT.out.e1 (i - 1) (by rw [← HM.out]; omega)).bd
            obtain ⟨f3, f4, x3, x4⟩ := HR.out (i - 1) (by omega)
            have f3' : (lay w []).cell? _ = _ := f3
            have f4' : (lay w []).cell? _ = _ := f4
            try simp only [Nat.zero_mul, Nat.add_zero] at f1' f2'
            obtain ⟨p0, p1, p2, p3, p4, p5, p6⟩ := cell_more f1'
            obtain ⟨q0, q1, q2, q3, q4, q5, q6⟩ := cell_more f2'
            obtain ⟨r0, r1, r2, r3, r4, r5, r6⟩ := cell_more f3'
            obtain ⟨t0, t1, t2, t3, t4, t5, t6⟩ := cell_more f4'
            clear f1 f2 f1' f2' f3 f4 f3' f4' hlo hhi
            go_wp2_with fail
            obtain ⟨lo, hi', d0, d1, t0', t1', x0', x1', y0', y1'⟩ := B
            have hq := ediv_bd (a := -(dv l (i - 1) * (hd l i - hd l (i - 1)) + (dv l i - dv l (i - 1)) * (n % 21600000 - hd l (i - 1)))) (b := (hd l i - hd l (i - 1))) (by omega) 9223372036854775807 (by decide) (by omega) (by omega); have LO := Lib.hid lo
            have HI := Lib.hid hi'
            clear lo hi'
            go_region
            all_goals (
              obtain ⟨e1, he1⟩ := lay_drew w _
              rw [he1]
              clear he1
              go_wp2_with (go_at_call 132; refine (comp_floor _ _ _ (by omega) (by omega) (by omega)).mono ?_; rintro e w' ⟨rfl, rfl⟩)
              exact bodyPost_ret (v := (.agg #[.int .i64 ((dv l (i - 1) * (hd l i - hd l (i - 1)) + (dv l i - dv l (i - 1)) * (n % 21600000 - hd l (i - 1))) / (hd l i - hd l (i - 1))), .int .i64 (-((-(dv l (i - 1) * (hd l i - hd l (i - 1)) + (dv l i - dv l (i - 1)) * (n % 21600000 - hd l (i - 1)))) / (hd l i - hd l (i - 1))))])) (by simp [results, Tryz.results109, go_sem]) rfl ⟨by rw [LO.out, HI.out], lay_ex _ _⟩)
end Go.Proofs.YtakcfcekdngndaaGreat
/- compass.over: the deviation over an arc. -/
namespace Go.Proofs.YtakcfcekdngndaaGreat
open Go.RowKit

theorem ov_step {l : Tl} {lo hi c1 c2 : Int} {k : Nat} (hc : ovK l lo hi k = (c1, c2)) (h : (lo ≤ hd l k ∧ hd l k ≤ hi) ∧ lo ≤ hd l k + 21600000 ∧ hd l k + 21600000 ≤ hi) : ovK l lo hi (k + 1) = (mn (mn c1 (dv l k)) (dv l k), mx (mx c2 (dv l k)) (dv l k)) := by
  show st1 lo hi (hd l k + 21600000) (dv l k) (st1 lo hi (hd l k) (dv l k) (ovK l lo hi k)) = _
  rw [hc]; unfold st1; rw [if_pos h.2, if_pos h.1]; rfl
theorem ov_step1 {l : Tl} {lo hi c1 c2 : Int} {k : Nat} (hc : ovK l lo hi k = (c1, c2)) (h : lo ≤ hd l k ∧ hd l k ≤ hi) (h' : ¬ (lo ≤ hd l k + 21600000 ∧ hd l k + 21600000 ≤ hi)) : ovK l lo hi (k + 1) = (mn c1 (dv l k), mx c2 (dv l k)) := by
  show st1 lo hi (hd l k + 21600000) (dv l k) (st1 lo hi (hd l k) (dv l k) (ovK l lo hi k)) = _
  rw [hc]; unfold st1; rw [if_neg h', if_pos h]; rfl
theorem ov_step2 {l : Tl} {lo hi c1 c2 : Int} {k : Nat} (hc : ovK l lo hi k = (c1, c2)) (h : ¬ (lo ≤ hd l k ∧ hd l k ≤ hi)) (h' : lo ≤ hd l k + 21600000 ∧ hd l k + 21600000 ≤ hi) : ovK l lo hi (k + 1) = (mn c1 (dv l k), mx c2 (dv l k)) := by
  show st1 lo hi (hd l k + 21600000) (dv l k) (st1 lo hi (hd l k) (dv l k) (ovK l lo hi k)) = _
  rw [hc]; unfold st1; rw [if_pos h', if_neg h]; rfl
theorem ov_step0 {l : Tl} {lo hi c1 c2 : Int} {k : Nat} (hc : ovK l lo hi k = (c1, c2)) (h : ¬ (lo ≤ hd l k ∧ hd l k ≤ hi)) (h' : ¬ (lo ≤ hd l k + 21600000 ∧ hd l k + 21600000 ≤ hi)) : ovK l lo hi (k + 1) = (c1, c2) := by
  show st1 lo hi (hd l k + 21600000) (dv l k) (st1 lo hi (hd l k) (dv l k) (ovK l lo hi k)) = _
  rw [hc]; unfold st1; rw [if_neg h', if_neg h]
set_option maxHeartbeats 4000000 in
theorem comp_over (v : Value) (l : Tl) (x0 y0 : Int) (w : World) (hv : Tabs w v l) (T : Tab l) (hV : validB x0 y0 = true) :
    Calls Tryz.prog 79 #[v, (.agg #[.int .i64 (x0), .int .i64 (y0)])] w fun e w' => e = .returned (.tuple #[(.agg #[.int .i64 (ovLo l (turnLo x0 y0) (turnHi x0 y0)), .int .i64 (ovHi l (turnLo x0 y0) (turnHi x0 y0))]), .int .i64 0]) ∧ ∃ d, w' = bw w d := by
  obtain ⟨lo, hlo⟩ : ∃ lo, lo = turnLo x0 y0 := ⟨_, rfl⟩
  obtain ⟨hi, hhi⟩ : ∃ hi, hi = turnHi x0 y0 := ⟨_, rfl⟩
  have TU := Lib.hid (fun W => angle_Turn x0 y0 W hV)
  rw [← hlo, ← hhi] at TU
  rw [← hlo, ← hhi]
  have AT := Lib.hid (fun n L => comp_at v l n (lay w L) (tabs_lay hv L) T)
  have HT := Lib.hid T
  obtain ⟨a, cap, rfl, g1, k1⟩ := hv
  have h72 : l.length ≤ 72 := T.len
  obtain ⟨m, hm⟩ : ∃ m, m = l.length := ⟨_, rfl⟩
  rw [← hm] at h72 AT k1
  rw [← hm]
  have HM := Lib.hid hm
  have HK := Lib.hid k1
  clear k1 g1 hlo hhi T hm hV
  refine lay_start ?_
  go_enter Tryz.func79, Tryz.ntmps79
  go_wp2_with (go_at_call 107; refine (TU.out _).mono ?_; rintro e w' ⟨rfl, d, rfl⟩)
  have AT2 : Hid (∀ n L d, Calls Tryz.prog 109 #[.slice a m cap, .int .i64 n] (Go.Proofs.YtakcfcekdngndaaGreat.bw (lay w L) d) fun e w' => e = .returned ((.agg #[.int .i64 (atLo l n), .int .i64 (atHi l n)])) ∧ ∃ e', w' = Go.Proofs.YtakcfcekdngndaaGreat.bw (Go.Proofs.YtakcfcekdngndaaGreat.bw (lay w L) d) e') := Lib.hid (fun n L d => AT.out n (.inr d :: L))
  refine region_bw_alloc 10 9 _ (.cells #[.int .i64 0, .int .i64 0] 23) (by kernel_rfl) (by kernel_rfl) rfl (fun _ _ => by simp [go_sem]) ?_
  simp only [List.take_succ_cons, List.take_zero, List.drop_succ_cons, List.drop_zero, skipL, Nat.reduceAdd, Nat.reduceEqDiff, ↓reduceIte]
  repeat (refine wpExt_step (fun K hK => ?_); go_simp; first | (refine hK _ ?_; clear hK K) | (apply Exists.intro; refine ⟨fun _ => ?_, hK _ ?_⟩; (first | (go_at_call 109; exact bq (AT.out _ _) (fun d => ⟨d, rfl⟩)) | (go_at_call 109; exact bq (AT2.out _ _ _) (fun d => ⟨d, rfl⟩)) | (go_at_call 108; exact bq (comp_hull _ _ _ _ _) (fun d => ⟨d, rfl⟩))); clear hK K))
  refine wpExt_nil ?_
  intro d1 d2
  by_cases hz : l = []
  · subst hz
    obtain rfl : m = 0 := by rw [HM.out]; rfl
    clear AT AT2 TU HK
    go_wp2_with fail
    refine wp_loop_rounds 1 ?_
    rw [rounds_succ]
    go_wp2
    exact bodyPost_ret (v := .tuple #[(.agg #[.int .i64 (mn (atLo [] lo) (atLo [] hi)), .int .i64 (mx (atHi [] lo) (atHi [] hi))]), .int .i64 0]) (by simp [results, Tryz.results79, go_sem]) rfl ⟨rfl, lay_ex _ _⟩
  · obtain ⟨b, o, rfl, s1, r1⟩ := HK.out hz
    have HR := Lib.hid r1
    clear AT AT2 TU HK r1
    go_wp2_with fail
    go_loopw [32] (fun i wr => ∃ (k : Nat) (e : Ext) (c1 c2 : Int), k ≤ m ∧ i = .int .i64 k ∧ ovK l lo hi k = (c1, c2) ∧ wr = lay w (.inr e :: .inl (.cells #[.int .i64 c1, .int .i64 c2] 23) :: [.inr d1, .inr d, .inl (.cells #[.int .i64 0, .int .i64 0] 23), .inl (.cells #[.int .i64 lo, .int .i64 hi] 23)])) (fun i _ => m - (intOf i).toNat)
    case atStart => exact ⟨0, _, _, _, by omega, rfl, rfl, rfl⟩
    case round =>
      obtain ⟨k, e, c1, c2, hk, rfl, hc, rfl⟩ := hrel
      have HC := Lib.hid hc
      clear hc
      by_cases hlt : k < m
      · obtain ⟨f1, f2, x1, x2⟩ := HR.out k hlt
        have bb := (HT.out.e1 k (by rw [← HM.out]; omega)).bd
        have f1' : (lay w []).cell? _ = _ := f1
        have f2' : (lay w []).cell? _ = _ := f2
        obtain ⟨p0, p1, p2, p3, p4, p5, p6⟩ := cell_more f1'
        obtain ⟨q0, q1, q2, q3, q4, q5, q6⟩ := cell_more f2'
        clear f1 f2 f1' f2'
        go_wp2_with fail
        refine wp_loop_rounds 3 ?_
        rw [rounds_succ]
        go_wp2_with (go_at_call 108; refine (comp_hull _ _ _ _ _).mono ?_; rintro e w' ⟨rfl, d, rfl⟩)
        all_goals (rw [rounds_succ])
        all_goals go_wp2_with (go_at_call 108; refine (comp_hull _ _ _ _ _).mono ?_; rintro e w' ⟨rfl, d, rfl⟩)
        all_goals (rw [rounds_succ])
        all_goals go_wp2_with fail
        all_goals go_roundw
        all_goals first
          | (simp [intOf]; omega)
          | (refine ⟨k + 1, _, _, _, by omega, by go_num, ?_, Classical.choose_spec (lay_fold w [_, _, _, _, _] _)⟩
             exact ov_step HC.out (by omega))
          | (refine ⟨k + 1, _, _, _, by omega, by go_num, ?_, Classical.choose_spec (lay_fold w [_, _, _, _] _)⟩
             first | exact ov_step1 HC.out (by omega) (by omega) | exact ov_step2 HC.out (by omega) (by omega))
          | (refine ⟨k + 1, _, _, _, by omega, by go_num, ?_, Classical.choose_spec (lay_fold w [_, _, _] _)⟩
             exact ov_step0 HC.out (by omega) (by omega))
      · obtain rfl : k = m := by omega
        have hh : ovLo l lo hi = c1 ∧ ovHi l lo hi = c2 := by
          unfold ovLo ovHi
          rw [← HM.out, HC.out]
          exact ⟨rfl, rfl⟩
        have HH := Lib.hid hh
        clear hh
        go_wp2
        exact bodyPost_ret (v := .tuple #[(.agg #[.int .i64 (c1), .int .i64 (c2)]), .int .i64 0]) (by simp [results, Tryz.results79, go_sem]) rfl ⟨by rw [HH.out.1, HH.out.2], lay_ex _ _⟩
end Go.Proofs.YtakcfcekdngndaaGreat
