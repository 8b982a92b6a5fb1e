/- Contracts and plain laws, several texts in one: Dii; Dij; Res; AvS -/
import Derived.Test.YtmomoeagnkjbiaaGreatProg
import Derived.WalkKit
import Derived.WalkSpells
import Derived.WalkLawsBesides
import Derived.Lib.Hide
import Derived.BigQuiet
import Derived.Test.YtmomoeagnkjbiaaGreatCAA
import Derived.Test.YtmomoeagnkjbiaaGreatCAB
import Derived.Test.YtmomoeagnkjbiaaGreatCAK
import Derived.Test.YtmomoeagnkjbiaaGreatCAU
/- The reference's numbers of digits: Compare. -/
namespace Go.Proofs.YtmomoeagnkjbiaaGreat
open Go.RowKit

theorem ord_nil {x y : Int} {neg : Bool} (h : NumK neg [] (x + -y)) : ordI x y = 0 := by
  have := h.zero_iff.1 rfl
  rw [show x = y by omega]; exact ord_eq y
theorem ord_neg {x y : Int} {l : List Int} (h : NumK true l (x + -y)) : ordI x y = -1 := by
  have := h.neg_iff
  refine ord_lt ?_
  rcases Int.lt_or_le x y with h1 | h1
  · exact h1
  · rw [decide_eq_false (show ¬ x + -y < 0 by omega)] at this; cases this
theorem ord_pos {x y : Int} {l : List Int} (h : NumK false l (x + -y)) (hl : l ≠ []) : ordI x y = 1 := by
  have h1 := h.neg_iff
  have h2 : x + -y ≠ 0 := fun e => hl (h.zero_iff.2 e)
  refine ord_gt ?_
  rcases Int.lt_or_le y x with h3 | h3
  · exact h3
  · rw [decide_eq_true (show x + -y < 0 by omega)] at h1; cases h1
set_option maxHeartbeats 4000000 in
set_option maxRecDepth 100000 in
theorem dg_Compare (v1 v2 : Value) (x y : Int) (k1 k2 : Nat) (w : World) (h1 : NmK w v1 x k1) (h2 : NmK w v2 y k2) (b1 : k1 ≤ 1000) (b2 : k2 ≤ 1000) :
    Calls Tryz.prog 171 #[v1, v2] w fun e w' => e = .returned (.int .i64 (ordI x y)) ∧ ∃ d, w' = bw w d := by
  have H1 := Lib.hid h1
  have HM := Lib.hid (fun L => dg_Minus v2 y k2 (lay w L) (h2.lay L))
  have HP := Lib.hid (fun v W (q1 : NmK W v1 x k1) (q2 : NmK W v (-y) k2) => dg_Plus v1 v x (-y) k1 k2 W q1 q2 b1 b2)
  obtain ⟨p1, c1, l1, n1, e1, -⟩ := h1
  obtain ⟨p2, c2, l2, n2, e2, -⟩ := h2
  obtain ⟨m1, hm1⟩ : ∃ m, l1.length = m := ⟨_, rfl⟩
  obtain ⟨m2, hm2⟩ : ∃ m, l2.length = m := ⟨_, rfl⟩
  rw [hm1] at e1
  rw [hm2] at e2
  subst e1
  subst e2
  clear hm1 hm2
  obtain ⟨O, hO⟩ : ∃ O, ordI x y = O := ⟨_, rfl⟩
  rw [hO]
  have HO := Lib.hid hO
  clear hO
  refine lay_start ?_
  go_enter Tryz.func171, Tryz.ntmps171
  go_wp2_with fail
  refine region_mixB 5 (.q 0 (.q 1 (.two 2 (.two 3 (.one 4 .done) 4 (.one 3 .done)) 4 (.one 2 (.one 3 .done))))) (by kernel_rfl) (by kernel_rfl) (by kernel_rfl) (by kernel_rfl) (by simp) (by kernel_rfl) ?_
  simp only [List.drop_succ_cons, List.drop_zero]
  repeat (refine wpMB_quiet rfl (fun K hK => ?_); go_simp; refine hK _ ?_; clear hK K)
  refine wpMB_two ?_ ?_
  · refine spB_of rfl (fun K hK eM => ?_)
    rw [lay_bw]
    go_simp
    refine (HM.out _).mono ?_
    rintro e w' ⟨vM, dM, rfl, rfl, hM⟩
    rw [lay_bw] at hM ⊢
    have HMM := Lib.hid hM
    clear hM
    refine ⟨_, rfl, hK _ _ (lay_in w [.inr dM, .inr eM] [.inl (.cells #[.slice p2 m2 c2, .bool n2] 130 (0, 0)), .inl (.cells #[.slice p1 m1 c1, .bool n1] 130 (0, 0))]) ?_⟩
    clear hK K
    refine wpMB_two ?_ ?_
    · refine spB_of rfl (fun K hK eP => ?_)
      rw [lay_bw]
      go_simp
      refine (HP.out _ (lay w [.inr eP, .inr dM, .inr eM, .inl (.cells #[.slice p2 m2 c2, .bool n2] 130 (0, 0)), .inl (.cells #[.slice p1 m1 c1, .bool n1] 130 (0, 0))]) (H1.out.lay _) (nmK_on (A := [.inr eP]) HMM.out)).mono ?_
      rintro e w' ⟨vP, dP, rfl, rfl, hP⟩
      obtain ⟨A, C, l, ng, rfl, -, hk, -⟩ := hP
      rw [lay_bw]
      have HK := Lib.hid hk
      clear hk
      obtain ⟨m, hm⟩ : ∃ m, l.length = m := ⟨_, rfl⟩
      rw [hm]
      have HMl := Lib.hid hm
      clear hm
      refine ⟨_, rfl, hK _ _ (lay_in w [.inr dP, .inr eP, .inr dM, .inr eM] [.inl (.cells #[.slice p2 m2 c2, .bool n2] 130 (0, 0)), .inl (.cells #[.slice p1 m1 c1, .bool n1] 130 (0, 0))]) ?_⟩
      clear hK K
      refine wpMB_one ?_
      refine spB_of rfl (fun K hK eA => ?_)
      go_simp
      refine hK _ _ (lay_in w [.inl (.cells #[.slice none 0 0, .bool false] 130 (0, 0)), .inr eA, .inr dP, .inr eP, .inr dM, .inr eM] [.inl (.cells #[.slice p2 m2 c2, .bool n2] 130 (0, 0)), .inl (.cells #[.slice p1 m1 c1, .bool n1] 130 (0, 0))]) ?_
      clear hK K
      refine wpMB_done (fun dz => ?_)
      show wpList _ _ _ _ _ _
      rw [lay_bw]
      by_cases hm0 : m = 0
      · subst hm0
        have hl : l = [] := List.length_eq_zero_iff.1 HMl.out
        have hO0 : O = 0 := by rw [← HO.out]; exact ord_nil (neg := ng) (by have := HK.out; rwa [hl] at this)
        subst hO0
        clear hl
        go_wp2_with fail
        go_ret
        exact ⟨rfl, lay_ex _ _⟩
      · have t1 : ((m : Int) == 0) = false := beq_eq_false_iff_ne.2 (by omega)
        have hl : l ≠ [] := fun h => hm0 (by rw [← HMl.out, h]; rfl)
        cases ng
        · have hO0 : O = 1 := by rw [← HO.out]; exact ord_pos HK.out hl
          subst hO0
          clear hl
          go_wp2_with fail
          go_ret
          exact ⟨rfl, lay_ex _ _⟩
        · have hO0 : O = -1 := by rw [← HO.out]; exact ord_neg HK.out
          subst hO0
          clear hl
          go_wp2_with fail
          go_ret
          exact ⟨rfl, lay_ex _ _⟩
    · refine spB_of rfl (fun K hK eA => ?_)
      go_simp
      refine hK _ _ (lay_in w [.inl (.cells #[.slice none 0 0, .bool false] 130 (0, 0)), .inr eA, .inr dM, .inr eM] [.inl (.cells #[.slice p2 m2 c2, .bool n2] 130 (0, 0)), .inl (.cells #[.slice p1 m1 c1, .bool n1] 130 (0, 0))]) ?_
      clear hK K
      refine wpMB_one ?_
      refine spB_of rfl (fun K hK eP => ?_)
      rw [lay_bw]
      go_simp
      refine (HP.out _ (lay w [.inr eP, .inl (.cells #[.slice none 0 0, .bool false] 130 (0, 0)), .inr eA, .inr dM, .inr eM, .inl (.cells #[.slice p2 m2 c2, .bool n2] 130 (0, 0)), .inl (.cells #[.slice p1 m1 c1, .bool n1] 130 (0, 0))]) (H1.out.lay _) (nmK_on (A := [.inr eP, .inl (.cells #[.slice none 0 0, .bool false] 130 (0, 0)), .inr eA]) HMM.out)).mono ?_
      rintro e w' ⟨vP, dP, rfl, rfl, hP⟩
      obtain ⟨A, C, l, ng, rfl, -, hk, -⟩ := hP
      rw [lay_bw]
      have HK := Lib.hid hk
      clear hk
      obtain ⟨m, hm⟩ : ∃ m, l.length = m := ⟨_, rfl⟩
      rw [hm]
      have HMl := Lib.hid hm
      clear hm
      refine ⟨_, rfl, hK _ _ (lay_in w [.inr dP, .inr eP, .inl (.cells #[.slice none 0 0, .bool false] 130 (0, 0)), .inr eA, .inr dM, .inr eM] [.inl (.cells #[.slice p2 m2 c2, .bool n2] 130 (0, 0)), .inl (.cells #[.slice p1 m1 c1, .bool n1] 130 (0, 0))]) ?_⟩
      clear hK K
      refine wpMB_done (fun dz => ?_)
      show wpList _ _ _ _ _ _
      rw [lay_bw]
      by_cases hm0 : m = 0
      · subst hm0
        have hl : l = [] := List.length_eq_zero_iff.1 HMl.out
        have hO0 : O = 0 := by rw [← HO.out]; exact ord_nil (neg := ng) (by have := HK.out; rwa [hl] at this)
        subst hO0
        clear hl
        go_wp2_with fail
        go_ret
        exact ⟨rfl, lay_ex _ _⟩
      · have t1 : ((m : Int) == 0) = false := beq_eq_false_iff_ne.2 (by omega)
        have hl : l ≠ [] := fun h => hm0 (by rw [← HMl.out, h]; rfl)
        cases ng
        · have hO0 : O = 1 := by rw [← HO.out]; exact ord_pos HK.out hl
          subst hO0
          clear hl
          go_wp2_with fail
          go_ret
          exact ⟨rfl, lay_ex _ _⟩
        · have hO0 : O = -1 := by rw [← HO.out]; exact ord_neg HK.out
          subst hO0
          clear hl
          go_wp2_with fail
          go_ret
          exact ⟨rfl, lay_ex _ _⟩
  · refine spB_of rfl (fun K hK eA => ?_)
    go_simp
    refine hK _ _ (lay_in w [.inl (.cells #[.slice none 0 0, .bool false] 130 (0, 0)), .inr eA] [.inl (.cells #[.slice p2 m2 c2, .bool n2] 130 (0, 0)), .inl (.cells #[.slice p1 m1 c1, .bool n1] 130 (0, 0))]) ?_
    clear hK K
    refine wpMB_one ?_
    refine spB_of rfl (fun K hK eM => ?_)
    rw [lay_bw]
    go_simp
    refine (HM.out _).mono ?_
    rintro e w' ⟨vM, dM, rfl, rfl, hM⟩
    rw [lay_bw] at hM ⊢
    have HMM := Lib.hid hM
    clear hM
    refine ⟨_, rfl, hK _ _ (lay_in w [.inr dM, .inr eM, .inl (.cells #[.slice none 0 0, .bool false] 130 (0, 0)), .inr eA] [.inl (.cells #[.slice p2 m2 c2, .bool n2] 130 (0, 0)), .inl (.cells #[.slice p1 m1 c1, .bool n1] 130 (0, 0))]) ?_⟩
    clear hK K
    refine wpMB_one ?_
    refine spB_of rfl (fun K hK eP => ?_)
    rw [lay_bw]
    go_simp
    refine (HP.out _ (lay w [.inr eP, .inr dM, .inr eM, .inl (.cells #[.slice none 0 0, .bool false] 130 (0, 0)), .inr eA, .inl (.cells #[.slice p2 m2 c2, .bool n2] 130 (0, 0)), .inl (.cells #[.slice p1 m1 c1, .bool n1] 130 (0, 0))]) (H1.out.lay _) (nmK_on (A := [.inr eP]) HMM.out)).mono ?_
    rintro e w' ⟨vP, dP, rfl, rfl, hP⟩
    obtain ⟨A, C, l, ng, rfl, -, hk, -⟩ := hP
    rw [lay_bw]
    have HK := Lib.hid hk
    clear hk
    obtain ⟨m, hm⟩ : ∃ m, l.length = m := ⟨_, rfl⟩
    rw [hm]
    have HMl := Lib.hid hm
    clear hm
    refine ⟨_, rfl, hK _ _ (lay_in w [.inr dP, .inr eP, .inr dM, .inr eM, .inl (.cells #[.slice none 0 0, .bool false] 130 (0, 0)), .inr eA] [.inl (.cells #[.slice p2 m2 c2, .bool n2] 130 (0, 0)), .inl (.cells #[.slice p1 m1 c1, .bool n1] 130 (0, 0))]) ?_⟩
    clear hK K
    refine wpMB_done (fun dz => ?_)
    show wpList _ _ _ _ _ _
    rw [lay_bw]
    by_cases hm0 : m = 0
    · subst hm0
      have hl : l = [] := List.length_eq_zero_iff.1 HMl.out
      have hO0 : O = 0 := by rw [← HO.out]; exact ord_nil (neg := ng) (by have := HK.out; rwa [hl] at this)
      subst hO0
      clear hl
      go_wp2_with fail
      go_ret
      exact ⟨rfl, lay_ex _ _⟩
    · have t1 : ((m : Int) == 0) = false := beq_eq_false_iff_ne.2 (by omega)
      have hl : l ≠ [] := fun h => hm0 (by rw [← HMl.out, h]; rfl)
      cases ng
      · have hO0 : O = 1 := by rw [← HO.out]; exact ord_pos HK.out hl
        subst hO0
        clear hl
        go_wp2_with fail
        go_ret
        exact ⟨rfl, lay_ex _ _⟩
      · have hO0 : O = -1 := by rw [← HO.out]; exact ord_neg HK.out
        subst hO0
        clear hl
        go_wp2_with fail
        go_ret
        exact ⟨rfl, lay_ex _ _⟩
end Go.Proofs.YtmomoeagnkjbiaaGreat
/- The reference's numbers of digits: IsInt. -/
namespace Go.Proofs.YtmomoeagnkjbiaaGreat
open Go.RowKit

def sgV (ng : Bool) (n : Int) : Int := if ng then -n else n
theorem sgV_num {ng : Bool} {l : List Int} {z : Int} (h : NumK ng l z) : sgV ng (valD l) = z := h.val.symm
set_option maxHeartbeats 4000000 in
set_option maxRecDepth 100000 in
theorem dg_IsInt (v : Value) (z : Int) (k : Nat) (w : World) (h : NmK w v z k) (hz : -4611686018427387904 ≤ z ∧ z ≤ 4611686018427387904) (hk : k ≤ 1000) :
    Calls Tryz.prog 149 #[v] w fun e w' => e = .returned (.tuple #[.int .i64 z, .bool true]) ∧ ∃ d, w' = bw w d := by
  have H := Lib.hid h
  have HI1 := Lib.hid (fun W => dg_OfInt (-9223372036854775808) W (by decide))
  have HI2 := Lib.hid (fun W => dg_OfInt 9223372036854775807 W (by decide))
  have HC1 := Lib.hid (fun v' W (q1 : NmK W v z k) (q2 : NmK W v' (-9223372036854775808) 3) => dg_Compare v v' z (-9223372036854775808) k 3 W q1 q2 hk (by decide))
  have HC2 := Lib.hid (fun v' W (q1 : NmK W v z k) (q2 : NmK W v' 9223372036854775807 3) => dg_Compare v v' z 9223372036854775807 k 3 W q1 q2 hk (by decide))
  obtain ⟨O1, hO1⟩ : ∃ O, ordI z (-9223372036854775808) = O := ⟨_, rfl⟩
  obtain ⟨O2, hO2⟩ : ∃ O, ordI z 9223372036854775807 = O := ⟨_, rfl⟩
  have g1 : ¬ O1 < 0 := by rw [← hO1]; unfold ordI; rw [if_neg (by omega)]; split <;> decide
  have g2 : ¬ 0 < O2 := by rw [← hO2]; unfold ordI; rw [if_pos (by omega)]; decide
  rw [hO1] at HC1
  rw [hO2] at HC2
  have g1d := decide_eq_false g1
  have g2d := decide_eq_false g2
  clear hO1 hO2
  obtain ⟨a, c, l, ng, e1, hs, hn, hl⟩ := h
  obtain ⟨m, hm⟩ : ∃ m, l.length = m := ⟨_, rfl⟩
  rw [hm] at e1 hs hl
  subst e1
  obtain ⟨a', c', he, hc, hwf, hx⟩ := hs
  have HX := Lib.hid (And.intro hn (And.intro hx (And.intro hm hz)))
  obtain ⟨M0, hM0⟩ : ∃ M0 : Int, (m : Int) - 1 = M0 := ⟨_, rfl⟩
  have kM0 : IntKind.i64.wrap M0 = M0 := IntWalk.i64_in _ (by omega)
  have hae : a = a' := by cases he; rfl
  subst hae
  clear hx hn hm hz he hwf
  refine lay_start ?_
  go_enter Tryz.func149, Tryz.ntmps149
  go_wp2_with fail
  refine region_mixB 9 (.q 0 (.one 1 (.one 2 (.q 3 (.q 4 (.q 5 (.one 6 (.one 7 (.q 8 .done))))))))) (by kernel_rfl) (by kernel_rfl) (by kernel_rfl) (by kernel_rfl) (by simp) (by kernel_rfl) ?_
  simp only [List.drop_succ_cons, List.drop_zero]
  repeat (refine wpMB_quiet rfl (fun K hK => ?_); go_simp; refine hK _ ?_; clear hK K)
  refine wpMB_one ?_
  refine spB_of rfl (fun K hK x1 => ?_)
  rw [lay_bw]
  go_simp
  refine (HI1.out _).mono ?_
  rintro e w' ⟨va, da, rfl, rfl, ha⟩
  rw [lay_bw] at ha ⊢
  have HA := Lib.hid ha
  clear ha
  refine ⟨_, rfl, hK _ _ (lay_in w [.inr da, .inr x1] _) ?_⟩
  clear hK K
  refine wpMB_one ?_
  refine spB_of rfl (fun K hK x2 => ?_)
  rw [lay_bw]
  go_simp
  refine (HC1.out _ (lay w [.inr x2, .inr da, .inr x1, .inl (.cells #[.slice a m c, .bool ng] 130 (0, 0))]) (H.out.lay _) (nmK_on (A := [.inr x2]) HA.out.k)).mono ?_
  rintro e w' ⟨rfl, dc, rfl⟩
  rw [lay_bw]
  refine ⟨_, rfl, hK _ _ (lay_in w [.inr dc, .inr x2, .inr da, .inr x1] _) ?_⟩
  clear hK K
  repeat (refine wpMB_quiet rfl (fun K hK => ?_); go_simp; refine hK _ ?_; clear hK K)
  refine wpMB_one ?_
  refine spB_of rfl (fun K hK x3 => ?_)
  rw [lay_bw]
  go_simp
  refine (HI2.out _).mono ?_
  rintro e w' ⟨vb, db, rfl, rfl, hb⟩
  rw [lay_bw] at hb ⊢
  have HB := Lib.hid hb
  clear hb
  refine ⟨_, rfl, hK _ _ (lay_in w [.inr db, .inr x3, .inr dc, .inr x2, .inr da, .inr x1] _) ?_⟩
  clear hK K
  refine wpMB_one ?_
  refine spB_of rfl (fun K hK x4 => ?_)
  rw [lay_bw]
  go_simp
  refine (HC2.out _ (lay w [.inr x4, .inr db, .inr x3, .inr dc, .inr x2, .inr da, .inr x1, .inl (.cells #[.slice a m c, .bool ng] 130 (0, 0))]) (H.out.lay _) (nmK_on (A := [.inr x4]) HB.out.k)).mono ?_
  rintro e w' ⟨rfl, dd, rfl⟩
  rw [lay_bw]
  refine ⟨_, rfl, hK _ _ (lay_in w [.inr dd, .inr x4, .inr db, .inr x3, .inr dc, .inr x2, .inr da, .inr x1] _) ?_⟩
  clear hK K
  repeat (refine wpMB_quiet rfl (fun K hK => ?_); go_simp; refine hK _ ?_; clear hK K)
  refine wpMB_done (fun x5 => ?_)
  show wpList _ _ _ _ _ _
  rw [lay_bw]
  obtain ⟨d0, e0⟩ := lay_fold w [.inr x5, .inr dd, .inr x4, .inr db, .inr x3, .inr dc, .inr x2, .inr da, .inr x1] [.inl (.cells #[.slice a m c, .bool ng] 130 (0, 0))]
  change lay w [.inr x5, .inr dd, .inr x4, .inr db, .inr x3, .inr dc, .inr x2, .inr da, .inr x1, .inl (.cells #[.slice a m c, .bool ng] 130 (0, 0))] = lay w [.inr d0, .inl (.cells #[.slice a m c, .bool ng] 130 (0, 0))] at e0
  rw [e0]
  clear e0 HA HB HC1 HC2 HI1 HI2 H
  go_wp2_with fail
  go_loopw [4, 5] (fun v4 v5 wr => ∃ (j : Nat) (N n : Int), j ≤ m ∧ N = (j : Int) - 1 ∧ v5 = .int .i64 N ∧ v4 = .int .i64 n ∧ wr = lay w [.inr d0, .inl (.cells #[.slice a m c, .bool ng] 130 (0, 0))] ∧ n = sgV ng (valD (l.drop j))) (fun _ v5 _ => (intOf v5 + 1).toNat)
  case atStart => exact ⟨m, M0, 0, Nat.le_refl _, hM0.symm, rfl, rfl, rfl, by rw [drop_none (Nat.le_of_eq HX.out.2.2.1)]; cases ng <;> rfl⟩
  case round =>
    obtain ⟨j0, N, n, hj, hN, rfl, rfl, rfl, hv⟩ := hrel
    by_cases h0 : j0 = 0
    · subst h0
      obtain rfl : N = -1 := by omega
      have hnz : n = z := by rw [hv, List.drop_zero]; exact sgV_num HX.out.1
      subst hnz
      clear hN hv hM0 kM0
      go_wp2_with fail
      go_ret2
      exact ⟨rfl, lay_ex _ _⟩
    · obtain ⟨j, rfl⟩ : ∃ j, j0 = j + 1 := ⟨j0 - 1, by omega⟩
      obtain rfl : N = (j : Int) := by omega
      have hjl : j < l.length := by rw [HX.out.2.2.1]; omega
      obtain ⟨b, o, rfl, hb, hcell⟩ := HX.out.2.1 (by intro e; rw [e] at hjl; simp at hjl)
      have e1 := hcell j hjl
      have x0 : (0 : Int) ≤ (j : Int) := by omega
      have x1 : (j : Int) < (m : Int) := by omega
      have hst := back_step hjl
      have hle := back_le HX.out.1.can.1 j
      have hab := HX.out.1.abs
      have hzz := HX.out.2.2.2
      have nd := HX.out.1.can.1.nth j
      rw [dB_eq] at hst nd
      have hle2 := back_le HX.out.1.can.1 (j + 1)
      obtain ⟨N2, hN2⟩ : ∃ N2 : Int, (j : Int) - 1 = N2 := ⟨_, rfl⟩
      have kN2 : IntKind.i64.wrap N2 = N2 := IntWalk.i64_in _ (by omega)
      obtain ⟨P, hP⟩ : ∃ P, n * 268435456 = P := ⟨_, rfl⟩
      generalize nth l j = D at *
      have HJ := Lib.hid (show j ≤ m by omega)
      have HN2 := Lib.hid hN2
      cases ng
      · have hv' : n = valD (l.drop (j + 1)) := hv
        obtain ⟨S, hS⟩ : ∃ S, P + D = S := ⟨_, rfl⟩
        have kP : IntKind.i64.wrap P = P := IntWalk.i64_in _ (by omega)
        have kS : IntKind.i64.wrap S = S := IntWalk.i64_in _ (by omega)
        have HV : Hid (S = sgV false (valD (l.drop j))) := Lib.hid (by show S = valD (l.drop j); omega)
        clear hcell hv hv' hst hle hab hzz nd hle2 hN hM0 kM0 hjl
        go_wp2_with fail
        go_roundw
        case rel => exact ⟨j, N2, S, HJ.out, HN2.out.symm, rfl, rfl, (by first | rfl | exact trivial), HV.out⟩
        case measure => have := HN2.out; simp [intOf]; omega
      · have hv' : n = -valD (l.drop (j + 1)) := hv
        obtain ⟨E, hE⟩ : ∃ E, -D = E := ⟨_, rfl⟩
        have kE : IntKind.i64.wrap E = E := IntWalk.i64_in _ (by omega)
        obtain ⟨S, hS⟩ : ∃ S, P + E = S := ⟨_, rfl⟩
        have kP : IntKind.i64.wrap P = P := IntWalk.i64_in _ (by omega)
        have kS : IntKind.i64.wrap S = S := IntWalk.i64_in _ (by omega)
        have HV : Hid (S = sgV true (valD (l.drop j))) := Lib.hid (by show S = -valD (l.drop j); omega)
        clear hcell hv hv' hst hle hab hzz nd hle2 hN hM0 kM0 hjl
        go_wp2_with fail
        go_roundw
        case rel => exact ⟨j, N2, S, HJ.out, HN2.out.symm, rfl, rfl, (by first | rfl | exact trivial), HV.out⟩
        case measure => have := HN2.out; simp [intOf]; omega
end Go.Proofs.YtmomoeagnkjbiaaGreat
/- The reference's Residual. -/
namespace Go.Proofs.YtmomoeagnkjbiaaGreat
open Go.RowKit

theorem lay_sub {w : World} (P : List (Obj ⊕ Ext)) {Q Q' : List (Obj ⊕ Ext)} (h : lay w Q = lay w Q') : lay w (P ++ Q) = lay w (P ++ Q') := by rw [lay_app, lay_app, h]
theorem nmKO_swap {w : World} {T : List (Obj ⊕ Ext)} {o : Obj} (o' : Obj) {e : Ext} {base : Nat} {v : Value} {z : Int} {k : Nat} (hb : (Go.Proofs.YtmomoeagnkjbiaaGreat.lay w T).heap.size < base)
    (h : NmKO (Go.Proofs.YtmomoeagnkjbiaaGreat.lay w (.inr e :: .inl o :: T)) base v z k) : NmKO (Go.Proofs.YtmomoeagnkjbiaaGreat.lay w (.inr e :: .inl o' :: T)) base v z k := by
  obtain ⟨a, c, l, neg, h1, h2, h3, h4⟩ := h
  exact ⟨a, c, l, neg, h1, ow_swap o' hb h2, h3, h4⟩
set_option maxHeartbeats 1000000 in
set_option maxRecDepth 100000 in
theorem r23_num (z : Int) (w : World) (hz : -4611686018427387904 ≤ z ∧ z ≤ 4611686018427387904) :
    Calls Tryz.prog 106 #[.int .i64 z] w (NmPO w z 3) := by
  have HI := Lib.hid (fun W => dg_OfInt z W (by omega))
  refine lay_start ?_
  go_enter Tryz.func106, Tryz.ntmps106
  go_wp2_with fail
  refine (HI.out _).mono ?_
  rintro e w' ⟨v, d1, rfl, rfl, hv⟩
  obtain ⟨A, C, l, g, rfl, hO, hk, hl⟩ := hv
  rw [lay_bw] at hO ⊢
  have HO := Lib.hid (And.intro hO (And.intro hk hl))
  clear hO hk hl
  obtain ⟨m, hm⟩ : ∃ m, l.length = m := ⟨_, rfl⟩
  have HM := Lib.hid hm
  rw [hm] at HO ⊢
  clear hm
  go_wp2_with fail
  refine bodyPost_ret (v := .agg #[.slice A m C, .bool g]) (by simp [results, Tryz.results106, go_sem]) rfl ?_
  obtain ⟨y, hy⟩ := lay_ex w [.inr d1, .inl (.cells #[.slice A m C, .bool g] 130 (0, 0))]
  refine ⟨_, y, rfl, hy, A, C, l, g, by rw [HM.out], ?_, HO.out.2.1, by rw [HM.out]; exact HO.out.2.2⟩
  rw [HM.out, ← hy]
  exact (ow_swap _ (lay_lt w _ _) HO.out.1).le (lay_extends w _).size
set_option maxRecDepth 100000 in
theorem r23_integer (v : Value) (z : Int) (k : Nat) (w : World) (h : NmK w v z k) (hz : -4611686018427387904 ≤ z ∧ z ≤ 4611686018427387904) (hk : k ≤ 1000) :
    Calls Tryz.prog 107 #[v] w fun e w' => e = .returned (.int .i64 z) ∧ ∃ d, w' = bw w d := by
  have HI := Lib.hid (fun L => dg_IsInt v z k (lay w L) (h.lay L) hz hk)
  obtain ⟨a, c, l, g, rfl, -⟩ := h
  obtain ⟨m, hm⟩ : ∃ m, l.length = m := ⟨_, rfl⟩
  rw [hm] at HI ⊢
  clear hm
  refine lay_start ?_
  go_enter Tryz.func107, Tryz.ntmps107
  go_wp2_with (go_at_call 149; refine (HI.out _).mono ?_; rintro e w' ⟨rfl, d1, rfl⟩)
  go_ret
  exact ⟨rfl, lay_ex _ _⟩
/-- The reference's quotient is the program's. -/
theorem res_num {t h n d : Int} (hd : 1 ≤ d) : (2000 * d * h + (-(2 * n)) * t + 1000 * d) / (2000 * d) = resI t h n d := by
  unfold resI
  rw [show 2000 * d * h + (-(2 * n)) * t + 1000 * d = (1000 * d - 2 * n * t) + h * (2000 * d) by rw [Int.neg_mul, Int.mul_comm h]; omega]
  rw [Int.add_mul_ediv_right _ _ (by omega)]
  omega
set_option maxHeartbeats 8000000 in
set_option maxRecDepth 100000 in
theorem r23_Residual (t h n dn : Int) (w : World) (hs : SlOk n dn) (t1 : -172800000 ≤ t ∧ t ≤ 172800000) (h1 : -1099511627776 ≤ h ∧ h ≤ 1099511627776) :
    Calls Tryz.prog 58 #[.int .i64 t, .int .i64 h, (.agg #[.int .i64 (n), .int .i64 (dn)])] w fun e w' => e = .returned (.int .i64 (resI t h n dn)) ∧ ∃ d, w' = bw w d := by
  obtain ⟨-, -, -, b3, b4⟩ := res_bd hs t1
  obtain ⟨n1, n2, d1, d2⟩ := hs
  have hr := res_num (t := t) (h := h) (n := n) d1
  have hrb : -4611686018427387904 ≤ resI t h n dn ∧ resI t h n dn ≤ 4611686018427387904 := by unfold resI; omega
  have HNd := Lib.hid (fun W => r23_num (2000 * dn) W (by omega))
  have HNh := Lib.hid (fun W => r23_num h W (by omega))
  have HNm := Lib.hid (fun W => r23_num (-(2 * n)) W (by omega))
  have HNt := Lib.hid (fun W => r23_num t W (by omega))
  have HNk := Lib.hid (fun W => r23_num (1000 * dn) W (by omega))
  have HM1 := Lib.hid (fun a b W (q1 : NmK W a (2000 * dn) 3) (q2 : NmK W b h 3) => dg_Mul a b _ _ 3 3 W q1 q2 (by decide) (by decide))
  have HM2 := Lib.hid (fun a b W (q1 : NmK W a (-(2 * n)) 3) (q2 : NmK W b t 3) => dg_Mul a b _ _ 3 3 W q1 q2 (by decide) (by decide))
  have HP1 := Lib.hid (fun a b W (q1 : NmK W a (2000 * dn * h) 6) (q2 : NmK W b ((-(2 * n)) * t) 6) => dg_Plus a b _ _ 6 6 W q1 q2 (by decide) (by decide))
  have HP2 := Lib.hid (fun a b W (q1 : NmK W a (2000 * dn * h + (-(2 * n)) * t) 7) (q2 : NmK W b (1000 * dn) 3) => dg_Plus a b _ _ 7 3 W q1 q2 (by decide) (by decide))
  have HDn := Lib.hid (fun a b W (q1 : NmK W a (2000 * dn * h + (-(2 * n)) * t + 1000 * dn) 8) (q2 : NmK W b (2000 * dn) 3) => dg_Down a b _ _ 8 3 W q1 q2 (by omega) (by decide) (by decide))
  have HIn := Lib.hid (fun a W (q : NmK W a (resI t h n dn) 10) => r23_integer a _ 10 W q hrb (by decide))
  rw [hr] at HDn
  have k1 : IntKind.i64.wrap (2000 * dn) = 2000 * dn := IntWalk.i64_in _ (by omega)
  have k2 : IntKind.i64.wrap (2 * n) = 2 * n := IntWalk.i64_in _ (by omega)
  have k3 : IntKind.i64.wrap (-(2 * n)) = -(2 * n) := IntWalk.i64_in _ (by omega)
  have k4 : IntKind.i64.wrap (1000 * dn) = 1000 * dn := IntWalk.i64_in _ (by omega)
  generalize resI t h n dn = RES at *
  clear hr hrb b3 b4 n1 n2 d1 d2 t1 h1
  refine lay_start ?_
  go_enter Tryz.func58, Tryz.ntmps58
  go_wp2_with fail
  refine region_mixB 15 (.q 0 (.q 2 (.q 5 (.q 6 (.q 7 (.q 8 (.q 10 (.two 1 (.two 3 (.two 4 (.two 9 (.two 11 (.two 12 (.two 13 (.one 14 .done) 14 (.one 13 .done)) 14 (.one 12 (.one 13 .done))) 14 (.one 11 (.one 12 (.one 13 .done)))) 14 (.one 9 (.one 11 (.one 12 (.one 13 .done))))) 14 (.one 4 (.one 9 (.one 11 (.one 12 (.one 13 .done)))))) 14 (.one 3 (.one 4 (.one 9 (.one 11 (.one 12 (.one 13 .done))))))) 14 (.one 1 (.one 3 (.one 4 (.one 9 (.one 11 (.one 12 (.one 13 .done))))))))))))))) (by kernel_rfl) (by kernel_rfl) (by kernel_rfl) (by kernel_rfl) (by simp) (by kernel_rfl) ?_
  simp only [List.drop_succ_cons, List.drop_zero]
  repeat (refine wpMB_quiet rfl (fun K hK => ?_); go_simp; refine hK _ ?_; clear hK K)
  refine wpMB_two ?_ ?_
  · refine spB_of rfl (fun K hK e1 => ?_)
    rw [lay_bw]
    go_simp
    refine (HNd.out _).mono ?_
    rintro e w' ⟨v1, d1, rfl, rfl, h1⟩
    rw [lay_bw] at h1 ⊢
    have H1 := Lib.hid h1
    clear h1
    refine ⟨_, rfl, hK _ _ (lay_in w [.inr d1, .inr e1] [.inl (.cells #[.int .i64 n, .int .i64 dn] 26 (0, 0))]) ?_⟩
    clear hK K
    refine wpMB_two ?_ ?_
    · refine spB_of rfl (fun K hK e2 => ?_)
      rw [lay_bw]
      go_simp
      refine (HNh.out _).mono ?_
      rintro e w' ⟨v2, d2, rfl, rfl, h2⟩
      rw [lay_bw] at h2 ⊢
      have H2 := Lib.hid h2
      clear h2
      refine ⟨_, rfl, hK _ _ (lay_in w [.inr d2, .inr e2, .inr d1, .inr e1] [.inl (.cells #[.int .i64 n, .int .i64 dn] 26 (0, 0))]) ?_⟩
      clear hK K
      refine wpMB_two ?_ ?_
      · refine spB_of rfl (fun K hK e3 => ?_)
        rw [lay_bw]
        go_simp
        refine (HM1.out _ _ (lay w [.inr e3, .inr d2, .inr e2, .inr d1, .inr e1, .inl (.cells #[.int .i64 n, .int .i64 dn] 26 (0, 0))]) ((nmKO_on (A := [.inr e3, .inr d2, .inr e2]) H1.out).k) ((nmKO_on (A := [.inr e3]) H2.out).k)).mono ?_
        rintro e w' ⟨v3, d3, rfl, rfl, h3⟩
        rw [lay_bw] at h3 ⊢
        have H3 := Lib.hid h3
        clear h3
        refine ⟨_, rfl, hK _ _ (lay_in w [.inr d3, .inr e3, .inr d2, .inr e2, .inr d1, .inr e1] [.inl (.cells #[.int .i64 n, .int .i64 dn] 26 (0, 0))]) ?_⟩
        clear hK K
        refine wpMB_two ?_ ?_
        · refine spB_of rfl (fun K hK e4 => ?_)
          rw [lay_bw]
          go_simp
          refine (HNm.out _).mono ?_
          rintro e w' ⟨v4, d4, rfl, rfl, h4⟩
          rw [lay_bw] at h4 ⊢
          have H4 := Lib.hid h4
          clear h4
          refine ⟨_, rfl, hK _ _ (lay_in w [.inr d4, .inr e4, .inr d3, .inr e3, .inr d2, .inr e2, .inr d1, .inr e1] [.inl (.cells #[.int .i64 n, .int .i64 dn] 26 (0, 0))]) ?_⟩
          clear hK K
          refine wpMB_two ?_ ?_
          · refine spB_of rfl (fun K hK e5 => ?_)
            rw [lay_bw]
            go_simp
            refine (HNt.out _).mono ?_
            rintro e w' ⟨v5, d5, rfl, rfl, h5⟩
            rw [lay_bw] at h5 ⊢
            have H5 := Lib.hid h5
            clear h5
            refine ⟨_, rfl, hK _ _ (lay_in w [.inr d5, .inr e5, .inr d4, .inr e4, .inr d3, .inr e3, .inr d2, .inr e2, .inr d1, .inr e1] [.inl (.cells #[.int .i64 n, .int .i64 dn] 26 (0, 0))]) ?_⟩
            clear hK K
            refine wpMB_two ?_ ?_
            · refine spB_of rfl (fun K hK e6 => ?_)
              rw [lay_bw]
              go_simp
              refine (HM2.out _ _ (lay w [.inr e6, .inr d5, .inr e5, .inr d4, .inr e4, .inr d3, .inr e3, .inr d2, .inr e2, .inr d1, .inr e1, .inl (.cells #[.int .i64 n, .int .i64 dn] 26 (0, 0))]) ((nmKO_on (A := [.inr e6, .inr d5, .inr e5]) H4.out).k) ((nmKO_on (A := [.inr e6]) H5.out).k)).mono ?_
              rintro e w' ⟨v6, d6, rfl, rfl, h6⟩
              rw [lay_bw] at h6 ⊢
              have H6 := Lib.hid h6
              clear h6
              refine ⟨_, rfl, hK _ _ (lay_in w [.inr d6, .inr e6, .inr d5, .inr e5, .inr d4, .inr e4, .inr d3, .inr e3, .inr d2, .inr e2, .inr d1, .inr e1] [.inl (.cells #[.int .i64 n, .int .i64 dn] 26 (0, 0))]) ?_⟩
              clear hK K
              refine wpMB_two ?_ ?_
              · refine spB_of rfl (fun K hK e7 => ?_)
                rw [lay_bw]
                go_simp
                refine (HP1.out _ _ (lay w [.inr e7, .inr d6, .inr e6, .inr d5, .inr e5, .inr d4, .inr e4, .inr d3, .inr e3, .inr d2, .inr e2, .inr d1, .inr e1, .inl (.cells #[.int .i64 n, .int .i64 dn] 26 (0, 0))]) ((nmKO_on (A := [.inr e7, .inr d6, .inr e6, .inr d5, .inr e5, .inr d4, .inr e4]) H3.out).k) ((nmKO_on (A := [.inr e7]) H6.out).k)).mono ?_
                rintro e w' ⟨v7, d7, rfl, rfl, h7⟩
                rw [lay_bw] at h7 ⊢
                have H7 := Lib.hid h7
                clear h7
                refine ⟨_, rfl, hK _ _ (lay_in w [.inr d7, .inr e7, .inr d6, .inr e6, .inr d5, .inr e5, .inr d4, .inr e4, .inr d3, .inr e3, .inr d2, .inr e2, .inr d1, .inr e1] [.inl (.cells #[.int .i64 n, .int .i64 dn] 26 (0, 0))]) ?_⟩
                clear hK K
                refine wpMB_one ?_
                refine spB_of rfl (fun K hK eA => ?_)
                go_simp
                refine hK _ _ (lay_in w [.inl (.cells #[.slice none 0 0, .bool false] 130 (0, 0)), .inr eA, .inr d7, .inr e7, .inr d6, .inr e6, .inr d5, .inr e5, .inr d4, .inr e4, .inr d3, .inr e3, .inr d2, .inr e2, .inr d1, .inr e1] [.inl (.cells #[.int .i64 n, .int .i64 dn] 26 (0, 0))]) ?_
                clear hK K
                refine wpMB_done (fun dz => ?_)
                show wpList _ _ _ _ _ _
                rw [lay_bw]
                obtain ⟨y, ey⟩ := lay_fold w [.inr eA, .inr d7, .inr e7, .inr d6, .inr e6, .inr d5, .inr e5, .inr d4, .inr e4, .inr d3, .inr e3, .inr d2, .inr e2, .inr d1, .inr e1] [.inl (.cells #[.int .i64 n, .int .i64 dn] 26 (0, 0))]
                obtain ⟨x, rfl⟩ : ∃ x, x = dz := ⟨dz, rfl⟩
                have E : lay w [.inr x, .inl (.cells #[.slice none 0 0, .bool false] 130 (0, 0)), .inr eA, .inr d7, .inr e7, .inr d6, .inr e6, .inr d5, .inr e5, .inr d4, .inr e4, .inr d3, .inr e3, .inr d2, .inr e2, .inr d1, .inr e1, .inl (.cells #[.int .i64 n, .int .i64 dn] 26 (0, 0))] = lay w [.inr x, .inl (.cells #[.slice none 0 0, .bool false] 130 (0, 0)), .inr y, .inl (.cells #[.int .i64 n, .int .i64 dn] 26 (0, 0))] := lay_sub [.inr x, .inl (.cells #[.slice none 0 0, .bool false] 130 (0, 0))] ey
                have H8 : Hid (∀ o', NmK (lay w [.inr x, .inl o', .inr y, .inl (.cells #[.int .i64 n, .int .i64 dn] 26 (0, 0))]) v7 (2000 * dn * h + (-(2 * n)) * t) 7) := Lib.hid fun o' => by
                  have h8 := (nmKO_on (A := [.inr x, .inl o', .inr eA]) H7.out).k
                  have E2 : lay w [.inr x, .inl o', .inr eA, .inr d7, .inr e7, .inr d6, .inr e6, .inr d5, .inr e5, .inr d4, .inr e4, .inr d3, .inr e3, .inr d2, .inr e2, .inr d1, .inr e1, .inl (.cells #[.int .i64 n, .int .i64 dn] 26 (0, 0))] = lay w [.inr x, .inl o', .inr y, .inl (.cells #[.int .i64 n, .int .i64 dn] 26 (0, 0))] := lay_sub [.inr x, .inl o'] ey
                  change NmK (lay w [.inr x, .inl o', .inr eA, .inr d7, .inr e7, .inr d6, .inr e6, .inr d5, .inr e5, .inr d4, .inr e4, .inr d3, .inr e3, .inr d2, .inr e2, .inr d1, .inr e1, .inl (.cells #[.int .i64 n, .int .i64 dn] 26 (0, 0))]) _ _ _ at h8
                  rw [E2] at h8
                  exact h8
                rw [E]
                have ep : posn w [eA.n, d7.n, e7.n, d6.n, e6.n, d5.n, e5.n, d4.n, e4.n, d3.n, e3.n, d2.n, e2.n, d1.n, e1.n, 1] = posn w [y.n, 1] := (lay_size w [.inr eA, .inr d7, .inr e7, .inr d6, .inr e6, .inr d5, .inr e5, .inr d4, .inr e4, .inr d3, .inr e3, .inr d2, .inr e2, .inr d1, .inr e1, .inl (.cells #[.int .i64 n, .int .i64 dn] 26 (0, 0))]).symm.trans ((congrArg (fun W : World => W.heap.size) ey).trans (lay_size w [.inr y, .inl (.cells #[.int .i64 n, .int .i64 dn] 26 (0, 0))]))
                rw [ep]
                clear ep
                clear E ey
                obtain ⟨A, C, l, g, hv7, -⟩ := H7.out
                subst hv7
                obtain ⟨m, hm⟩ : ∃ m, l.length = m := ⟨_, rfl⟩
                rw [hm] at H8 ⊢
                clear hm H1 H2 H3 H4 H5 H6 H7
                go_wp2_with fail
                have H9 := Lib.hid (H8.out (.cells #[.slice A m C, .bool g] 130 (0, 0)))
                clear H8
                refine region_mixB 10 (.q 0 (.q 1 (.q 2 (.q 3 (.q 6 (.one 4 (.one 5 (.one 7 (.one 8 (.one 9 .done)))))))))) (by kernel_rfl) (by kernel_rfl) (by kernel_rfl) (by kernel_rfl) (by simp) (by kernel_rfl) ?_
                simp only [List.drop_succ_cons, List.drop_zero]
                repeat (refine wpMB_quiet rfl (fun K hK => ?_); go_simp; refine hK _ ?_; clear hK K)
                refine wpMB_one ?_
                refine spB_of rfl (fun K hK f1 => ?_)
                rw [lay_bw]
                go_simp
                refine (HNk.out _).mono ?_
                rintro e w' ⟨u1, c1, rfl, rfl, g1⟩
                rw [lay_bw] at g1 ⊢
                have G1 := Lib.hid g1
                clear g1
                refine ⟨_, rfl, hK _ _ (lay_in w [.inr c1, .inr f1] [.inr x, .inl (.cells #[.slice A m C, .bool g] 130 (0, 0)), .inr y, .inl (.cells #[.int .i64 n, .int .i64 dn] 26 (0, 0))]) ?_⟩
                clear hK K
                refine wpMB_one ?_
                refine spB_of rfl (fun K hK f2 => ?_)
                rw [lay_bw]
                go_simp
                refine (HP2.out _ _ (lay w [.inr f2, .inr c1, .inr f1, .inr x, .inl (.cells #[.slice A m C, .bool g] 130 (0, 0)), .inr y, .inl (.cells #[.int .i64 n, .int .i64 dn] 26 (0, 0))]) (nmK_on (A := [.inr f2, .inr c1, .inr f1]) H9.out) ((nmKO_on (A := [.inr f2]) G1.out).k)).mono ?_
                rintro e w' ⟨u2, c2, rfl, rfl, g2⟩
                rw [lay_bw] at g2 ⊢
                have G2 := Lib.hid g2
                clear g2
                refine ⟨_, rfl, hK _ _ (lay_in w [.inr c2, .inr f2, .inr c1, .inr f1] [.inr x, .inl (.cells #[.slice A m C, .bool g] 130 (0, 0)), .inr y, .inl (.cells #[.int .i64 n, .int .i64 dn] 26 (0, 0))]) ?_⟩
                clear hK K
                refine wpMB_one ?_
                refine spB_of rfl (fun K hK f3 => ?_)
                rw [lay_bw]
                go_simp
                refine (HNd.out _).mono ?_
                rintro e w' ⟨u3, c3, rfl, rfl, g3⟩
                rw [lay_bw] at g3 ⊢
                have G3 := Lib.hid g3
                clear g3
                refine ⟨_, rfl, hK _ _ (lay_in w [.inr c3, .inr f3, .inr c2, .inr f2, .inr c1, .inr f1] [.inr x, .inl (.cells #[.slice A m C, .bool g] 130 (0, 0)), .inr y, .inl (.cells #[.int .i64 n, .int .i64 dn] 26 (0, 0))]) ?_⟩
                clear hK K
                refine wpMB_one ?_
                refine spB_of rfl (fun K hK f4 => ?_)
                rw [lay_bw]
                go_simp
                refine (HDn.out _ _ (lay w [.inr f4, .inr c3, .inr f3, .inr c2, .inr f2, .inr c1, .inr f1, .inr x, .inl (.cells #[.slice A m C, .bool g] 130 (0, 0)), .inr y, .inl (.cells #[.int .i64 n, .int .i64 dn] 26 (0, 0))]) ((nmKO_on (A := [.inr f4, .inr c3, .inr f3]) G2.out).k) ((nmKO_on (A := [.inr f4]) G3.out).k)).mono ?_
                rintro e w' ⟨u4, c4, rfl, rfl, g4⟩
                rw [lay_bw] at g4 ⊢
                have G4 := Lib.hid g4
                clear g4
                refine ⟨_, rfl, hK _ _ (lay_in w [.inr c4, .inr f4, .inr c3, .inr f3, .inr c2, .inr f2, .inr c1, .inr f1] [.inr x, .inl (.cells #[.slice A m C, .bool g] 130 (0, 0)), .inr y, .inl (.cells #[.int .i64 n, .int .i64 dn] 26 (0, 0))]) ?_⟩
                clear hK K
                refine wpMB_one ?_
                refine spB_of rfl (fun K hK f5 => ?_)
                rw [lay_bw]
                go_simp
                refine (HIn.out _ (lay w [.inr f5, .inr c4, .inr f4, .inr c3, .inr f3, .inr c2, .inr f2, .inr c1, .inr f1, .inr x, .inl (.cells #[.slice A m C, .bool g] 130 (0, 0)), .inr y, .inl (.cells #[.int .i64 n, .int .i64 dn] 26 (0, 0))]) ((nmKO_on (A := [.inr f5]) G4.out).k)).mono ?_
                rintro e w' ⟨rfl, c5, rfl⟩
                rw [lay_bw]
                refine ⟨_, rfl, hK _ _ (lay_in w [.inr c5, .inr f5, .inr c4, .inr f4, .inr c3, .inr f3, .inr c2, .inr f2, .inr c1, .inr f1] [.inr x, .inl (.cells #[.slice A m C, .bool g] 130 (0, 0)), .inr y, .inl (.cells #[.int .i64 n, .int .i64 dn] 26 (0, 0))]) ?_⟩
                clear hK K
                refine wpMB_done (fun fz => ?_)
                show wpList _ _ _ _ _ _
                rw [lay_bw]
                go_wp2_with fail
                go_ret
                exact ⟨rfl, lay_ex _ _⟩
              · refine spB_of rfl (fun K hK eA => ?_)
                go_simp
                refine hK _ _ (lay_in w [.inl (.cells #[.slice none 0 0, .bool false] 130 (0, 0)), .inr eA, .inr d6, .inr e6, .inr d5, .inr e5, .inr d4, .inr e4, .inr d3, .inr e3, .inr d2, .inr e2, .inr d1, .inr e1] [.inl (.cells #[.int .i64 n, .int .i64 dn] 26 (0, 0))]) ?_
                clear hK K
                refine wpMB_one ?_
                refine spB_of rfl (fun K hK e7 => ?_)
                rw [lay_bw]
                go_simp
                refine (HP1.out _ _ (lay w [.inr e7, .inl (.cells #[.slice none 0 0, .bool false] 130 (0, 0)), .inr eA, .inr d6, .inr e6, .inr d5, .inr e5, .inr d4, .inr e4, .inr d3, .inr e3, .inr d2, .inr e2, .inr d1, .inr e1, .inl (.cells #[.int .i64 n, .int .i64 dn] 26 (0, 0))]) ((nmKO_on (A := [.inr e7, .inl (.cells #[.slice none 0 0, .bool false] 130 (0, 0)), .inr eA, .inr d6, .inr e6, .inr d5, .inr e5, .inr d4, .inr e4]) H3.out).k) ((nmKO_on (A := [.inr e7, .inl (.cells #[.slice none 0 0, .bool false] 130 (0, 0)), .inr eA]) H6.out).k)).mono ?_
                rintro e w' ⟨v7, d7, rfl, rfl, h7⟩
                rw [lay_bw] at h7 ⊢
                have H7 := Lib.hid h7
                clear h7
                refine ⟨_, rfl, hK _ _ (lay_in w [.inr d7, .inr e7, .inl (.cells #[.slice none 0 0, .bool false] 130 (0, 0)), .inr eA, .inr d6, .inr e6, .inr d5, .inr e5, .inr d4, .inr e4, .inr d3, .inr e3, .inr d2, .inr e2, .inr d1, .inr e1] [.inl (.cells #[.int .i64 n, .int .i64 dn] 26 (0, 0))]) ?_⟩
                clear hK K
                refine wpMB_done (fun dz => ?_)
                show wpList _ _ _ _ _ _
                rw [lay_bw]
                obtain ⟨y, ey⟩ := lay_fold w [.inr eA, .inr d6, .inr e6, .inr d5, .inr e5, .inr d4, .inr e4, .inr d3, .inr e3, .inr d2, .inr e2, .inr d1, .inr e1] [.inl (.cells #[.int .i64 n, .int .i64 dn] 26 (0, 0))]
                obtain ⟨x, ex⟩ := lay_fold w [.inr dz, .inr d7, .inr e7] [.inl (.cells #[.slice none 0 0, .bool false] 130 (0, 0)), .inr y, .inl (.cells #[.int .i64 n, .int .i64 dn] 26 (0, 0))]
                have E : lay w [.inr dz, .inr d7, .inr e7, .inl (.cells #[.slice none 0 0, .bool false] 130 (0, 0)), .inr eA, .inr d6, .inr e6, .inr d5, .inr e5, .inr d4, .inr e4, .inr d3, .inr e3, .inr d2, .inr e2, .inr d1, .inr e1, .inl (.cells #[.int .i64 n, .int .i64 dn] 26 (0, 0))] = lay w [.inr x, .inl (.cells #[.slice none 0 0, .bool false] 130 (0, 0)), .inr y, .inl (.cells #[.int .i64 n, .int .i64 dn] 26 (0, 0))] := (lay_sub [.inr dz, .inr d7, .inr e7, .inl (.cells #[.slice none 0 0, .bool false] 130 (0, 0))] ey).trans ex
                have h8 := nmKO_on (A := [.inr dz]) H7.out
                change NmKO (lay w [.inr dz, .inr d7, .inr e7, .inl (.cells #[.slice none 0 0, .bool false] 130 (0, 0)), .inr eA, .inr d6, .inr e6, .inr d5, .inr e5, .inr d4, .inr e4, .inr d3, .inr e3, .inr d2, .inr e2, .inr d1, .inr e1, .inl (.cells #[.int .i64 n, .int .i64 dn] 26 (0, 0))]) _ _ _ _ at h8
                rw [E] at h8 ⊢
                have hb : (lay w [.inr y, .inl (.cells #[.int .i64 n, .int .i64 dn] 26 (0, 0))]).heap.size < (lay w [.inr e7, .inl (.cells #[.slice none 0 0, .bool false] 130 (0, 0)), .inr eA, .inr d6, .inr e6, .inr d5, .inr e5, .inr d4, .inr e4, .inr d3, .inr e3, .inr d2, .inr e2, .inr d1, .inr e1, .inl (.cells #[.int .i64 n, .int .i64 dn] 26 (0, 0))]).heap.size := by
                  have hs := congrArg (fun W : World => W.heap.size) ey
                  exact Nat.lt_of_le_of_lt (Nat.le_of_eq hs.symm) (Nat.lt_of_lt_of_le (lay_lt w _ [.inr eA, .inr d6, .inr e6, .inr d5, .inr e5, .inr d4, .inr e4, .inr d3, .inr e3, .inr d2, .inr e2, .inr d1, .inr e1, .inl (.cells #[.int .i64 n, .int .i64 dn] 26 (0, 0))]) (lay_below (w := w) (A := [.inr e7]) (B := [.inl (.cells #[.slice none 0 0, .bool false] 130 (0, 0)), .inr eA, .inr d6, .inr e6, .inr d5, .inr e5, .inr d4, .inr e4, .inr d3, .inr e3, .inr d2, .inr e2, .inr d1, .inr e1, .inl (.cells #[.int .i64 n, .int .i64 dn] 26 (0, 0))])).size)
                have H8 : Hid (∀ o', NmK (lay w [.inr x, .inl o', .inr y, .inl (.cells #[.int .i64 n, .int .i64 dn] 26 (0, 0))]) v7 (2000 * dn * h + (-(2 * n)) * t) 7) := Lib.hid fun o' => (nmKO_swap o' hb h8).k
                clear h8 hb
                have ep : posn w [eA.n, d6.n, e6.n, d5.n, e5.n, d4.n, e4.n, d3.n, e3.n, d2.n, e2.n, d1.n, e1.n, 1] = posn w [y.n, 1] := (lay_size w [.inr eA, .inr d6, .inr e6, .inr d5, .inr e5, .inr d4, .inr e4, .inr d3, .inr e3, .inr d2, .inr e2, .inr d1, .inr e1, .inl (.cells #[.int .i64 n, .int .i64 dn] 26 (0, 0))]).symm.trans ((congrArg (fun W : World => W.heap.size) ey).trans (lay_size w [.inr y, .inl (.cells #[.int .i64 n, .int .i64 dn] 26 (0, 0))]))
                rw [ep]
                clear ep
                clear E ex ey
                obtain ⟨A, C, l, g, hv7, -⟩ := H7.out
                subst hv7
                obtain ⟨m, hm⟩ : ∃ m, l.length = m := ⟨_, rfl⟩
                rw [hm] at H8 ⊢
                clear hm H1 H2 H3 H4 H5 H6 H7
                go_wp2_with fail
                have H9 := Lib.hid (H8.out (.cells #[.slice A m C, .bool g] 130 (0, 0)))
                clear H8
                refine region_mixB 10 (.q 0 (.q 1 (.q 2 (.q 3 (.q 6 (.one 4 (.one 5 (.one 7 (.one 8 (.one 9 .done)))))))))) (by kernel_rfl) (by kernel_rfl) (by kernel_rfl) (by kernel_rfl) (by simp) (by kernel_rfl) ?_
                simp only [List.drop_succ_cons, List.drop_zero]
                repeat (refine wpMB_quiet rfl (fun K hK => ?_); go_simp; refine hK _ ?_; clear hK K)
                refine wpMB_one ?_
                refine spB_of rfl (fun K hK f1 => ?_)
                rw [lay_bw]
                go_simp
                refine (HNk.out _).mono ?_
                rintro e w' ⟨u1, c1, rfl, rfl, g1⟩
                rw [lay_bw] at g1 ⊢
                have G1 := Lib.hid g1
                clear g1
                refine ⟨_, rfl, hK _ _ (lay_in w [.inr c1, .inr f1] [.inr x, .inl (.cells #[.slice A m C, .bool g] 130 (0, 0)), .inr y, .inl (.cells #[.int .i64 n, .int .i64 dn] 26 (0, 0))]) ?_⟩
                clear hK K
                refine wpMB_one ?_
                refine spB_of rfl (fun K hK f2 => ?_)
                rw [lay_bw]
                go_simp
                refine (HP2.out _ _ (lay w [.inr f2, .inr c1, .inr f1, .inr x, .inl (.cells #[.slice A m C, .bool g] 130 (0, 0)), .inr y, .inl (.cells #[.int .i64 n, .int .i64 dn] 26 (0, 0))]) (nmK_on (A := [.inr f2, .inr c1, .inr f1]) H9.out) ((nmKO_on (A := [.inr f2]) G1.out).k)).mono ?_
                rintro e w' ⟨u2, c2, rfl, rfl, g2⟩
                rw [lay_bw] at g2 ⊢
                have G2 := Lib.hid g2
                clear g2
                refine ⟨_, rfl, hK _ _ (lay_in w [.inr c2, .inr f2, .inr c1, .inr f1] [.inr x, .inl (.cells #[.slice A m C, .bool g] 130 (0, 0)), .inr y, .inl (.cells #[.int .i64 n, .int .i64 dn] 26 (0, 0))]) ?_⟩
                clear hK K
                refine wpMB_one ?_
                refine spB_of rfl (fun K hK f3 => ?_)
                rw [lay_bw]
                go_simp
                refine (HNd.out _).mono ?_
                rintro e w' ⟨u3, c3, rfl, rfl, g3⟩
                rw [lay_bw] at g3 ⊢
                have G3 := Lib.hid g3
                clear g3
                refine ⟨_, rfl, hK _ _ (lay_in w [.inr c3, .inr f3, .inr c2, .inr f2, .inr c1, .inr f1] [.inr x, .inl (.cells #[.slice A m C, .bool g] 130 (0, 0)), .inr y, .inl (.cells #[.int .i64 n, .int .i64 dn] 26 (0, 0))]) ?_⟩
                clear hK K
                refine wpMB_one ?_
                refine spB_of rfl (fun K hK f4 => ?_)
                rw [lay_bw]
                go_simp
                refine (HDn.out _ _ (lay w [.inr f4, .inr c3, .inr f3, .inr c2, .inr f2, .inr c1, .inr f1, .inr x, .inl (.cells #[.slice A m C, .bool g] 130 (0, 0)), .inr y, .inl (.cells #[.int .i64 n, .int .i64 dn] 26 (0, 0))]) ((nmKO_on (A := [.inr f4, .inr c3, .inr f3]) G2.out).k) ((nmKO_on (A := [.inr f4]) G3.out).k)).mono ?_
                rintro e w' ⟨u4, c4, rfl, rfl, g4⟩
                rw [lay_bw] at g4 ⊢
                have G4 := Lib.hid g4
                clear g4
                refine ⟨_, rfl, hK _ _ (lay_in w [.inr c4, .inr f4, .inr c3, .inr f3, .inr c2, .inr f2, .inr c1, .inr f1] [.inr x, .inl (.cells #[.slice A m C, .bool g] 130 (0, 0)), .inr y, .inl (.cells #[.int .i64 n, .int .i64 dn] 26 (0, 0))]) ?_⟩
                clear hK K
                refine wpMB_one ?_
                refine spB_of rfl (fun K hK f5 => ?_)
                rw [lay_bw]
                go_simp
                refine (HIn.out _ (lay w [.inr f5, .inr c4, .inr f4, .inr c3, .inr f3, .inr c2, .inr f2, .inr c1, .inr f1, .inr x, .inl (.cells #[.slice A m C, .bool g] 130 (0, 0)), .inr y, .inl (.cells #[.int .i64 n, .int .i64 dn] 26 (0, 0))]) ((nmKO_on (A := [.inr f5]) G4.out).k)).mono ?_
                rintro e w' ⟨rfl, c5, rfl⟩
                rw [lay_bw]
                refine ⟨_, rfl, hK _ _ (lay_in w [.inr c5, .inr f5, .inr c4, .inr f4, .inr c3, .inr f3, .inr c2, .inr f2, .inr c1, .inr f1] [.inr x, .inl (.cells #[.slice A m C, .bool g] 130 (0, 0)), .inr y, .inl (.cells #[.int .i64 n, .int .i64 dn] 26 (0, 0))]) ?_⟩
                clear hK K
                refine wpMB_done (fun fz => ?_)
                show wpList _ _ _ _ _ _
                rw [lay_bw]
                go_wp2_with fail
                go_ret
                exact ⟨rfl, lay_ex _ _⟩
            · refine spB_of rfl (fun K hK eA => ?_)
              go_simp
              refine hK _ _ (lay_in w [.inl (.cells #[.slice none 0 0, .bool false] 130 (0, 0)), .inr eA, .inr d5, .inr e5, .inr d4, .inr e4, .inr d3, .inr e3, .inr d2, .inr e2, .inr d1, .inr e1] [.inl (.cells #[.int .i64 n, .int .i64 dn] 26 (0, 0))]) ?_
              clear hK K
              refine wpMB_one ?_
              refine spB_of rfl (fun K hK e6 => ?_)
              rw [lay_bw]
              go_simp
              refine (HM2.out _ _ (lay w [.inr e6, .inl (.cells #[.slice none 0 0, .bool false] 130 (0, 0)), .inr eA, .inr d5, .inr e5, .inr d4, .inr e4, .inr d3, .inr e3, .inr d2, .inr e2, .inr d1, .inr e1, .inl (.cells #[.int .i64 n, .int .i64 dn] 26 (0, 0))]) ((nmKO_on (A := [.inr e6, .inl (.cells #[.slice none 0 0, .bool false] 130 (0, 0)), .inr eA, .inr d5, .inr e5]) H4.out).k) ((nmKO_on (A := [.inr e6, .inl (.cells #[.slice none 0 0, .bool false] 130 (0, 0)), .inr eA]) H5.out).k)).mono ?_
              rintro e w' ⟨v6, d6, rfl, rfl, h6⟩
              rw [lay_bw] at h6 ⊢
              have H6 := Lib.hid h6
              clear h6
              refine ⟨_, rfl, hK _ _ (lay_in w [.inr d6, .inr e6, .inl (.cells #[.slice none 0 0, .bool false] 130 (0, 0)), .inr eA, .inr d5, .inr e5, .inr d4, .inr e4, .inr d3, .inr e3, .inr d2, .inr e2, .inr d1, .inr e1] [.inl (.cells #[.int .i64 n, .int .i64 dn] 26 (0, 0))]) ?_⟩
              clear hK K
              refine wpMB_one ?_
              refine spB_of rfl (fun K hK e7 => ?_)
              rw [lay_bw]
              go_simp
              refine (HP1.out _ _ (lay w [.inr e7, .inr d6, .inr e6, .inl (.cells #[.slice none 0 0, .bool false] 130 (0, 0)), .inr eA, .inr d5, .inr e5, .inr d4, .inr e4, .inr d3, .inr e3, .inr d2, .inr e2, .inr d1, .inr e1, .inl (.cells #[.int .i64 n, .int .i64 dn] 26 (0, 0))]) ((nmKO_on (A := [.inr e7, .inr d6, .inr e6, .inl (.cells #[.slice none 0 0, .bool false] 130 (0, 0)), .inr eA, .inr d5, .inr e5, .inr d4, .inr e4]) H3.out).k) ((nmKO_on (A := [.inr e7]) H6.out).k)).mono ?_
              rintro e w' ⟨v7, d7, rfl, rfl, h7⟩
              rw [lay_bw] at h7 ⊢
              have H7 := Lib.hid h7
              clear h7
              refine ⟨_, rfl, hK _ _ (lay_in w [.inr d7, .inr e7, .inr d6, .inr e6, .inl (.cells #[.slice none 0 0, .bool false] 130 (0, 0)), .inr eA, .inr d5, .inr e5, .inr d4, .inr e4, .inr d3, .inr e3, .inr d2, .inr e2, .inr d1, .inr e1] [.inl (.cells #[.int .i64 n, .int .i64 dn] 26 (0, 0))]) ?_⟩
              clear hK K
              refine wpMB_done (fun dz => ?_)
              show wpList _ _ _ _ _ _
              rw [lay_bw]
              obtain ⟨y, ey⟩ := lay_fold w [.inr eA, .inr d5, .inr e5, .inr d4, .inr e4, .inr d3, .inr e3, .inr d2, .inr e2, .inr d1, .inr e1] [.inl (.cells #[.int .i64 n, .int .i64 dn] 26 (0, 0))]
              obtain ⟨x, ex⟩ := lay_fold w [.inr dz, .inr d7, .inr e7, .inr d6, .inr e6] [.inl (.cells #[.slice none 0 0, .bool false] 130 (0, 0)), .inr y, .inl (.cells #[.int .i64 n, .int .i64 dn] 26 (0, 0))]
              have E : lay w [.inr dz, .inr d7, .inr e7, .inr d6, .inr e6, .inl (.cells #[.slice none 0 0, .bool false] 130 (0, 0)), .inr eA, .inr d5, .inr e5, .inr d4, .inr e4, .inr d3, .inr e3, .inr d2, .inr e2, .inr d1, .inr e1, .inl (.cells #[.int .i64 n, .int .i64 dn] 26 (0, 0))] = lay w [.inr x, .inl (.cells #[.slice none 0 0, .bool false] 130 (0, 0)), .inr y, .inl (.cells #[.int .i64 n, .int .i64 dn] 26 (0, 0))] := (lay_sub [.inr dz, .inr d7, .inr e7, .inr d6, .inr e6, .inl (.cells #[.slice none 0 0, .bool false] 130 (0, 0))] ey).trans ex
              have h8 := nmKO_on (A := [.inr dz]) H7.out
              change NmKO (lay w [.inr dz, .inr d7, .inr e7, .inr d6, .inr e6, .inl (.cells #[.slice none 0 0, .bool false] 130 (0, 0)), .inr eA, .inr d5, .inr e5, .inr d4, .inr e4, .inr d3, .inr e3, .inr d2, .inr e2, .inr d1, .inr e1, .inl (.cells #[.int .i64 n, .int .i64 dn] 26 (0, 0))]) _ _ _ _ at h8
              rw [E] at h8 ⊢
              have hb : (lay w [.inr y, .inl (.cells #[.int .i64 n, .int .i64 dn] 26 (0, 0))]).heap.size < (lay w [.inr e7, .inr d6, .inr e6, .inl (.cells #[.slice none 0 0, .bool false] 130 (0, 0)), .inr eA, .inr d5, .inr e5, .inr d4, .inr e4, .inr d3, .inr e3, .inr d2, .inr e2, .inr d1, .inr e1, .inl (.cells #[.int .i64 n, .int .i64 dn] 26 (0, 0))]).heap.size := by
                have hs := congrArg (fun W : World => W.heap.size) ey
                exact Nat.lt_of_le_of_lt (Nat.le_of_eq hs.symm) (Nat.lt_of_lt_of_le (lay_lt w _ [.inr eA, .inr d5, .inr e5, .inr d4, .inr e4, .inr d3, .inr e3, .inr d2, .inr e2, .inr d1, .inr e1, .inl (.cells #[.int .i64 n, .int .i64 dn] 26 (0, 0))]) (lay_below (w := w) (A := [.inr e7, .inr d6, .inr e6]) (B := [.inl (.cells #[.slice none 0 0, .bool false] 130 (0, 0)), .inr eA, .inr d5, .inr e5, .inr d4, .inr e4, .inr d3, .inr e3, .inr d2, .inr e2, .inr d1, .inr e1, .inl (.cells #[.int .i64 n, .int .i64 dn] 26 (0, 0))])).size)
              have H8 : Hid (∀ o', NmK (lay w [.inr x, .inl o', .inr y, .inl (.cells #[.int .i64 n, .int .i64 dn] 26 (0, 0))]) v7 (2000 * dn * h + (-(2 * n)) * t) 7) := Lib.hid fun o' => (nmKO_swap o' hb h8).k
              clear h8 hb
              have ep : posn w [eA.n, d5.n, e5.n, d4.n, e4.n, d3.n, e3.n, d2.n, e2.n, d1.n, e1.n, 1] = posn w [y.n, 1] := (lay_size w [.inr eA, .inr d5, .inr e5, .inr d4, .inr e4, .inr d3, .inr e3, .inr d2, .inr e2, .inr d1, .inr e1, .inl (.cells #[.int .i64 n, .int .i64 dn] 26 (0, 0))]).symm.trans ((congrArg (fun W : World => W.heap.size) ey).trans (lay_size w [.inr y, .inl (.cells #[.int .i64 n, .int .i64 dn] 26 (0, 0))]))
              rw [ep]
              clear ep
              clear E ex ey
              obtain ⟨A, C, l, g, hv7, -⟩ := H7.out
              subst hv7
              obtain ⟨m, hm⟩ : ∃ m, l.length = m := ⟨_, rfl⟩
              rw [hm] at H8 ⊢
              clear hm H1 H2 H3 H4 H5 H6 H7
              go_wp2_with fail
              have H9 := Lib.hid (H8.out (.cells #[.slice A m C, .bool g] 130 (0, 0)))
              clear H8
              refine region_mixB 10 (.q 0 (.q 1 (.q 2 (.q 3 (.q 6 (.one 4 (.one 5 (.one 7 (.one 8 (.one 9 .done)))))))))) (by kernel_rfl) (by kernel_rfl) (by kernel_rfl) (by kernel_rfl) (by simp) (by kernel_rfl) ?_
              simp only [List.drop_succ_cons, List.drop_zero]
              repeat (refine wpMB_quiet rfl (fun K hK => ?_); go_simp; refine hK _ ?_; clear hK K)
              refine wpMB_one ?_
              refine spB_of rfl (fun K hK f1 => ?_)
              rw [lay_bw]
              go_simp
              refine (HNk.out _).mono ?_
              rintro e w' ⟨u1, c1, rfl, rfl, g1⟩
              rw [lay_bw] at g1 ⊢
              have G1 := Lib.hid g1
              clear g1
              refine ⟨_, rfl, hK _ _ (lay_in w [.inr c1, .inr f1] [.inr x, .inl (.cells #[.slice A m C, .bool g] 130 (0, 0)), .inr y, .inl (.cells #[.int .i64 n, .int .i64 dn] 26 (0, 0))]) ?_⟩
              clear hK K
              refine wpMB_one ?_
              refine spB_of rfl (fun K hK f2 => ?_)
              rw [lay_bw]
              go_simp
              refine (HP2.out _ _ (lay w [.inr f2, .inr c1, .inr f1, .inr x, .inl (.cells #[.slice A m C, .bool g] 130 (0, 0)), .inr y, .inl (.cells #[.int .i64 n, .int .i64 dn] 26 (0, 0))]) (nmK_on (A := [.inr f2, .inr c1, .inr f1]) H9.out) ((nmKO_on (A := [.inr f2]) G1.out).k)).mono ?_
              rintro e w' ⟨u2, c2, rfl, rfl, g2⟩
              rw [lay_bw] at g2 ⊢
              have G2 := Lib.hid g2
              clear g2
              refine ⟨_, rfl, hK _ _ (lay_in w [.inr c2, .inr f2, .inr c1, .inr f1] [.inr x, .inl (.cells #[.slice A m C, .bool g] 130 (0, 0)), .inr y, .inl (.cells #[.int .i64 n, .int .i64 dn] 26 (0, 0))]) ?_⟩
              clear hK K
              refine wpMB_one ?_
              refine spB_of rfl (fun K hK f3 => ?_)
              rw [lay_bw]
              go_simp
              refine (HNd.out _).mono ?_
              rintro e w' ⟨u3, c3, rfl, rfl, g3⟩
              rw [lay_bw] at g3 ⊢
              have G3 := Lib.hid g3
              clear g3
              refine ⟨_, rfl, hK _ _ (lay_in w [.inr c3, .inr f3, .inr c2, .inr f2, .inr c1, .inr f1] [.inr x, .inl (.cells #[.slice A m C, .bool g] 130 (0, 0)), .inr y, .inl (.cells #[.int .i64 n, .int .i64 dn] 26 (0, 0))]) ?_⟩
              clear hK K
              refine wpMB_one ?_
              refine spB_of rfl (fun K hK f4 => ?_)
              rw [lay_bw]
              go_simp
              refine (HDn.out _ _ (lay w [.inr f4, .inr c3, .inr f3, .inr c2, .inr f2, .inr c1, .inr f1, .inr x, .inl (.cells #[.slice A m C, .bool g] 130 (0, 0)), .inr y, .inl (.cells #[.int .i64 n, .int .i64 dn] 26 (0, 0))]) ((nmKO_on (A := [.inr f4, .inr c3, .inr f3]) G2.out).k) ((nmKO_on (A := [.inr f4]) G3.out).k)).mono ?_
              rintro e w' ⟨u4, c4, rfl, rfl, g4⟩
              rw [lay_bw] at g4 ⊢
              have G4 := Lib.hid g4
              clear g4
              refine ⟨_, rfl, hK _ _ (lay_in w [.inr c4, .inr f4, .inr c3, .inr f3, .inr c2, .inr f2, .inr c1, .inr f1] [.inr x, .inl (.cells #[.slice A m C, .bool g] 130 (0, 0)), .inr y, .inl (.cells #[.int .i64 n, .int .i64 dn] 26 (0, 0))]) ?_⟩
              clear hK K
              refine wpMB_one ?_
              refine spB_of rfl (fun K hK f5 => ?_)
              rw [lay_bw]
              go_simp
              refine (HIn.out _ (lay w [.inr f5, .inr c4, .inr f4, .inr c3, .inr f3, .inr c2, .inr f2, .inr c1, .inr f1, .inr x, .inl (.cells #[.slice A m C, .bool g] 130 (0, 0)), .inr y, .inl (.cells #[.int .i64 n, .int .i64 dn] 26 (0, 0))]) ((nmKO_on (A := [.inr f5]) G4.out).k)).mono ?_
              rintro e w' ⟨rfl, c5, rfl⟩
              rw [lay_bw]
              refine ⟨_, rfl, hK _ _ (lay_in w [.inr c5, .inr f5, .inr c4, .inr f4, .inr c3, .inr f3, .inr c2, .inr f2, .inr c1, .inr f1] [.inr x, .inl (.cells #[.slice A m C, .bool g] 130 (0, 0)), .inr y, .inl (.cells #[.int .i64 n, .int .i64 dn] 26 (0, 0))]) ?_⟩
              clear hK K
              refine wpMB_done (fun fz => ?_)
              show wpList _ _ _ _ _ _
              rw [lay_bw]
              go_wp2_with fail
              go_ret
              exact ⟨rfl, lay_ex _ _⟩
          · refine spB_of rfl (fun K hK eA => ?_)
            go_simp
            refine hK _ _ (lay_in w [.inl (.cells #[.slice none 0 0, .bool false] 130 (0, 0)), .inr eA, .inr d4, .inr e4, .inr d3, .inr e3, .inr d2, .inr e2, .inr d1, .inr e1] [.inl (.cells #[.int .i64 n, .int .i64 dn] 26 (0, 0))]) ?_
            clear hK K
            refine wpMB_one ?_
            refine spB_of rfl (fun K hK e5 => ?_)
            rw [lay_bw]
            go_simp
            refine (HNt.out _).mono ?_
            rintro e w' ⟨v5, d5, rfl, rfl, h5⟩
            rw [lay_bw] at h5 ⊢
            have H5 := Lib.hid h5
            clear h5
            refine ⟨_, rfl, hK _ _ (lay_in w [.inr d5, .inr e5, .inl (.cells #[.slice none 0 0, .bool false] 130 (0, 0)), .inr eA, .inr d4, .inr e4, .inr d3, .inr e3, .inr d2, .inr e2, .inr d1, .inr e1] [.inl (.cells #[.int .i64 n, .int .i64 dn] 26 (0, 0))]) ?_⟩
            clear hK K
            refine wpMB_one ?_
            refine spB_of rfl (fun K hK e6 => ?_)
            rw [lay_bw]
            go_simp
            refine (HM2.out _ _ (lay w [.inr e6, .inr d5, .inr e5, .inl (.cells #[.slice none 0 0, .bool false] 130 (0, 0)), .inr eA, .inr d4, .inr e4, .inr d3, .inr e3, .inr d2, .inr e2, .inr d1, .inr e1, .inl (.cells #[.int .i64 n, .int .i64 dn] 26 (0, 0))]) ((nmKO_on (A := [.inr e6, .inr d5, .inr e5, .inl (.cells #[.slice none 0 0, .bool false] 130 (0, 0)), .inr eA]) H4.out).k) ((nmKO_on (A := [.inr e6]) H5.out).k)).mono ?_
            rintro e w' ⟨v6, d6, rfl, rfl, h6⟩
            rw [lay_bw] at h6 ⊢
            have H6 := Lib.hid h6
            clear h6
            refine ⟨_, rfl, hK _ _ (lay_in w [.inr d6, .inr e6, .inr d5, .inr e5, .inl (.cells #[.slice none 0 0, .bool false] 130 (0, 0)), .inr eA, .inr d4, .inr e4, .inr d3, .inr e3, .inr d2, .inr e2, .inr d1, .inr e1] [.inl (.cells #[.int .i64 n, .int .i64 dn] 26 (0, 0))]) ?_⟩
            clear hK K
            refine wpMB_one ?_
            refine spB_of rfl (fun K hK e7 => ?_)
            rw [lay_bw]
            go_simp
            refine (HP1.out _ _ (lay w [.inr e7, .inr d6, .inr e6, .inr d5, .inr e5, .inl (.cells #[.slice none 0 0, .bool false] 130 (0, 0)), .inr eA, .inr d4, .inr e4, .inr d3, .inr e3, .inr d2, .inr e2, .inr d1, .inr e1, .inl (.cells #[.int .i64 n, .int .i64 dn] 26 (0, 0))]) ((nmKO_on (A := [.inr e7, .inr d6, .inr e6, .inr d5, .inr e5, .inl (.cells #[.slice none 0 0, .bool false] 130 (0, 0)), .inr eA, .inr d4, .inr e4]) H3.out).k) ((nmKO_on (A := [.inr e7]) H6.out).k)).mono ?_
            rintro e w' ⟨v7, d7, rfl, rfl, h7⟩
            rw [lay_bw] at h7 ⊢
            have H7 := Lib.hid h7
            clear h7
            refine ⟨_, rfl, hK _ _ (lay_in w [.inr d7, .inr e7, .inr d6, .inr e6, .inr d5, .inr e5, .inl (.cells #[.slice none 0 0, .bool false] 130 (0, 0)), .inr eA, .inr d4, .inr e4, .inr d3, .inr e3, .inr d2, .inr e2, .inr d1, .inr e1] [.inl (.cells #[.int .i64 n, .int .i64 dn] 26 (0, 0))]) ?_⟩
            clear hK K
            refine wpMB_done (fun dz => ?_)
            show wpList _ _ _ _ _ _
            rw [lay_bw]
            obtain ⟨y, ey⟩ := lay_fold w [.inr eA, .inr d4, .inr e4, .inr d3, .inr e3, .inr d2, .inr e2, .inr d1, .inr e1] [.inl (.cells #[.int .i64 n, .int .i64 dn] 26 (0, 0))]
            obtain ⟨x, ex⟩ := lay_fold w [.inr dz, .inr d7, .inr e7, .inr d6, .inr e6, .inr d5, .inr e5] [.inl (.cells #[.slice none 0 0, .bool false] 130 (0, 0)), .inr y, .inl (.cells #[.int .i64 n, .int .i64 dn] 26 (0, 0))]
            have E : lay w [.inr dz, .inr d7, .inr e7, .inr d6, .inr e6, .inr d5, .inr e5, .inl (.cells #[.slice none 0 0, .bool false] 130 (0, 0)), .inr eA, .inr d4, .inr e4, .inr d3, .inr e3, .inr d2, .inr e2, .inr d1, .inr e1, .inl (.cells #[.int .i64 n, .int .i64 dn] 26 (0, 0))] = lay w [.inr x, .inl (.cells #[.slice none 0 0, .bool false] 130 (0, 0)), .inr y, .inl (.cells #[.int .i64 n, .int .i64 dn] 26 (0, 0))] := (lay_sub [.inr dz, .inr d7, .inr e7, .inr d6, .inr e6, .inr d5, .inr e5, .inl (.cells #[.slice none 0 0, .bool false] 130 (0, 0))] ey).trans ex
            have h8 := nmKO_on (A := [.inr dz]) H7.out
            change NmKO (lay w [.inr dz, .inr d7, .inr e7, .inr d6, .inr e6, .inr d5, .inr e5, .inl (.cells #[.slice none 0 0, .bool false] 130 (0, 0)), .inr eA, .inr d4, .inr e4, .inr d3, .inr e3, .inr d2, .inr e2, .inr d1, .inr e1, .inl (.cells #[.int .i64 n, .int .i64 dn] 26 (0, 0))]) _ _ _ _ at h8
            rw [E] at h8 ⊢
            have hb : (lay w [.inr y, .inl (.cells #[.int .i64 n, .int .i64 dn] 26 (0, 0))]).heap.size < (lay w [.inr e7, .inr d6, .inr e6, .inr d5, .inr e5, .inl (.cells #[.slice none 0 0, .bool false] 130 (0, 0)), .inr eA, .inr d4, .inr e4, .inr d3, .inr e3, .inr d2, .inr e2, .inr d1, .inr e1, .inl (.cells #[.int .i64 n, .int .i64 dn] 26 (0, 0))]).heap.size := by
              have hs := congrArg (fun W : World => W.heap.size) ey
              exact Nat.lt_of_le_of_lt (Nat.le_of_eq hs.symm) (Nat.lt_of_lt_of_le (lay_lt w _ [.inr eA, .inr d4, .inr e4, .inr d3, .inr e3, .inr d2, .inr e2, .inr d1, .inr e1, .inl (.cells #[.int .i64 n, .int .i64 dn] 26 (0, 0))]) (lay_below (w := w) (A := [.inr e7, .inr d6, .inr e6, .inr d5, .inr e5]) (B := [.inl (.cells #[.slice none 0 0, .bool false] 130 (0, 0)), .inr eA, .inr d4, .inr e4, .inr d3, .inr e3, .inr d2, .inr e2, .inr d1, .inr e1, .inl (.cells #[.int .i64 n, .int .i64 dn] 26 (0, 0))])).size)
            have H8 : Hid (∀ o', NmK (lay w [.inr x, .inl o', .inr y, .inl (.cells #[.int .i64 n, .int .i64 dn] 26 (0, 0))]) v7 (2000 * dn * h + (-(2 * n)) * t) 7) := Lib.hid fun o' => (nmKO_swap o' hb h8).k
            clear h8 hb
            have ep : posn w [eA.n, d4.n, e4.n, d3.n, e3.n, d2.n, e2.n, d1.n, e1.n, 1] = posn w [y.n, 1] := (lay_size w [.inr eA, .inr d4, .inr e4, .inr d3, .inr e3, .inr d2, .inr e2, .inr d1, .inr e1, .inl (.cells #[.int .i64 n, .int .i64 dn] 26 (0, 0))]).symm.trans ((congrArg (fun W : World => W.heap.size) ey).trans (lay_size w [.inr y, .inl (.cells #[.int .i64 n, .int .i64 dn] 26 (0, 0))]))
            rw [ep]
            clear ep
            clear E ex ey
            obtain ⟨A, C, l, g, hv7, -⟩ := H7.out
            subst hv7
            obtain ⟨m, hm⟩ : ∃ m, l.length = m := ⟨_, rfl⟩
            rw [hm] at H8 ⊢
            clear hm H1 H2 H3 H4 H5 H6 H7
            go_wp2_with fail
            have H9 := Lib.hid (H8.out (.cells #[.slice A m C, .bool g] 130 (0, 0)))
            clear H8
            refine region_mixB 10 (.q 0 (.q 1 (.q 2 (.q 3 (.q 6 (.one 4 (.one 5 (.one 7 (.one 8 (.one 9 .done)))))))))) (by kernel_rfl) (by kernel_rfl) (by kernel_rfl) (by kernel_rfl) (by simp) (by kernel_rfl) ?_
            simp only [List.drop_succ_cons, List.drop_zero]
            repeat (refine wpMB_quiet rfl (fun K hK => ?_); go_simp; refine hK _ ?_; clear hK K)
            refine wpMB_one ?_
            refine spB_of rfl (fun K hK f1 => ?_)
            rw [lay_bw]
            go_simp
            refine (HNk.out _).mono ?_
            rintro e w' ⟨u1, c1, rfl, rfl, g1⟩
            rw [lay_bw] at g1 ⊢
            have G1 := Lib.hid g1
            clear g1
            refine ⟨_, rfl, hK _ _ (lay_in w [.inr c1, .inr f1] [.inr x, .inl (.cells #[.slice A m C, .bool g] 130 (0, 0)), .inr y, .inl (.cells #[.int .i64 n, .int .i64 dn] 26 (0, 0))]) ?_⟩
            clear hK K
            refine wpMB_one ?_
            refine spB_of rfl (fun K hK f2 => ?_)
            rw [lay_bw]
            go_simp
            refine (HP2.out _ _ (lay w [.inr f2, .inr c1, .inr f1, .inr x, .inl (.cells #[.slice A m C, .bool g] 130 (0, 0)), .inr y, .inl (.cells #[.int .i64 n, .int .i64 dn] 26 (0, 0))]) (nmK_on (A := [.inr f2, .inr c1, .inr f1]) H9.out) ((nmKO_on (A := [.inr f2]) G1.out).k)).mono ?_
            rintro e w' ⟨u2, c2, rfl, rfl, g2⟩
            rw [lay_bw] at g2 ⊢
            have G2 := Lib.hid g2
            clear g2
            refine ⟨_, rfl, hK _ _ (lay_in w [.inr c2, .inr f2, .inr c1, .inr f1] [.inr x, .inl (.cells #[.slice A m C, .bool g] 130 (0, 0)), .inr y, .inl (.cells #[.int .i64 n, .int .i64 dn] 26 (0, 0))]) ?_⟩
            clear hK K
            refine wpMB_one ?_
            refine spB_of rfl (fun K hK f3 => ?_)
            rw [lay_bw]
            go_simp
            refine (HNd.out _).mono ?_
            rintro e w' ⟨u3, c3, rfl, rfl, g3⟩
            rw [lay_bw] at g3 ⊢
            have G3 := Lib.hid g3
            clear g3
            refine ⟨_, rfl, hK _ _ (lay_in w [.inr c3, .inr f3, .inr c2, .inr f2, .inr c1, .inr f1] [.inr x, .inl (.cells #[.slice A m C, .bool g] 130 (0, 0)), .inr y, .inl (.cells #[.int .i64 n, .int .i64 dn] 26 (0, 0))]) ?_⟩
            clear hK K
            refine wpMB_one ?_
            refine spB_of rfl (fun K hK f4 => ?_)
            rw [lay_bw]
            go_simp
            refine (HDn.out _ _ (lay w [.inr f4, .inr c3, .inr f3, .inr c2, .inr f2, .inr c1, .inr f1, .inr x, .inl (.cells #[.slice A m C, .bool g] 130 (0, 0)), .inr y, .inl (.cells #[.int .i64 n, .int .i64 dn] 26 (0, 0))]) ((nmKO_on (A := [.inr f4, .inr c3, .inr f3]) G2.out).k) ((nmKO_on (A := [.inr f4]) G3.out).k)).mono ?_
            rintro e w' ⟨u4, c4, rfl, rfl, g4⟩
            rw [lay_bw] at g4 ⊢
            have G4 := Lib.hid g4
            clear g4
            refine ⟨_, rfl, hK _ _ (lay_in w [.inr c4, .inr f4, .inr c3, .inr f3, .inr c2, .inr f2, .inr c1, .inr f1] [.inr x, .inl (.cells #[.slice A m C, .bool g] 130 (0, 0)), .inr y, .inl (.cells #[.int .i64 n, .int .i64 dn] 26 (0, 0))]) ?_⟩
            clear hK K
            refine wpMB_one ?_
            refine spB_of rfl (fun K hK f5 => ?_)
            rw [lay_bw]
            go_simp
            refine (HIn.out _ (lay w [.inr f5, .inr c4, .inr f4, .inr c3, .inr f3, .inr c2, .inr f2, .inr c1, .inr f1, .inr x, .inl (.cells #[.slice A m C, .bool g] 130 (0, 0)), .inr y, .inl (.cells #[.int .i64 n, .int .i64 dn] 26 (0, 0))]) ((nmKO_on (A := [.inr f5]) G4.out).k)).mono ?_
            rintro e w' ⟨rfl, c5, rfl⟩
            rw [lay_bw]
            refine ⟨_, rfl, hK _ _ (lay_in w [.inr c5, .inr f5, .inr c4, .inr f4, .inr c3, .inr f3, .inr c2, .inr f2, .inr c1, .inr f1] [.inr x, .inl (.cells #[.slice A m C, .bool g] 130 (0, 0)), .inr y, .inl (.cells #[.int .i64 n, .int .i64 dn] 26 (0, 0))]) ?_⟩
            clear hK K
            refine wpMB_done (fun fz => ?_)
            show wpList _ _ _ _ _ _
            rw [lay_bw]
            go_wp2_with fail
            go_ret
            exact ⟨rfl, lay_ex _ _⟩
        · refine spB_of rfl (fun K hK eA => ?_)
          go_simp
          refine hK _ _ (lay_in w [.inl (.cells #[.slice none 0 0, .bool false] 130 (0, 0)), .inr eA, .inr d3, .inr e3, .inr d2, .inr e2, .inr d1, .inr e1] [.inl (.cells #[.int .i64 n, .int .i64 dn] 26 (0, 0))]) ?_
          clear hK K
          refine wpMB_one ?_
          refine spB_of rfl (fun K hK e4 => ?_)
          rw [lay_bw]
          go_simp
          refine (HNm.out _).mono ?_
          rintro e w' ⟨v4, d4, rfl, rfl, h4⟩
          rw [lay_bw] at h4 ⊢
          have H4 := Lib.hid h4
          clear h4
          refine ⟨_, rfl, hK _ _ (lay_in w [.inr d4, .inr e4, .inl (.cells #[.slice none 0 0, .bool false] 130 (0, 0)), .inr eA, .inr d3, .inr e3, .inr d2, .inr e2, .inr d1, .inr e1] [.inl (.cells #[.int .i64 n, .int .i64 dn] 26 (0, 0))]) ?_⟩
          clear hK K
          refine wpMB_one ?_
          refine spB_of rfl (fun K hK e5 => ?_)
          rw [lay_bw]
          go_simp
          refine (HNt.out _).mono ?_
          rintro e w' ⟨v5, d5, rfl, rfl, h5⟩
          rw [lay_bw] at h5 ⊢
          have H5 := Lib.hid h5
          clear h5
          refine ⟨_, rfl, hK _ _ (lay_in w [.inr d5, .inr e5, .inr d4, .inr e4, .inl (.cells #[.slice none 0 0, .bool false] 130 (0, 0)), .inr eA, .inr d3, .inr e3, .inr d2, .inr e2, .inr d1, .inr e1] [.inl (.cells #[.int .i64 n, .int .i64 dn] 26 (0, 0))]) ?_⟩
          clear hK K
          refine wpMB_one ?_
          refine spB_of rfl (fun K hK e6 => ?_)
          rw [lay_bw]
          go_simp
          refine (HM2.out _ _ (lay w [.inr e6, .inr d5, .inr e5, .inr d4, .inr e4, .inl (.cells #[.slice none 0 0, .bool false] 130 (0, 0)), .inr eA, .inr d3, .inr e3, .inr d2, .inr e2, .inr d1, .inr e1, .inl (.cells #[.int .i64 n, .int .i64 dn] 26 (0, 0))]) ((nmKO_on (A := [.inr e6, .inr d5, .inr e5]) H4.out).k) ((nmKO_on (A := [.inr e6]) H5.out).k)).mono ?_
          rintro e w' ⟨v6, d6, rfl, rfl, h6⟩
          rw [lay_bw] at h6 ⊢
          have H6 := Lib.hid h6
          clear h6
          refine ⟨_, rfl, hK _ _ (lay_in w [.inr d6, .inr e6, .inr d5, .inr e5, .inr d4, .inr e4, .inl (.cells #[.slice none 0 0, .bool false] 130 (0, 0)), .inr eA, .inr d3, .inr e3, .inr d2, .inr e2, .inr d1, .inr e1] [.inl (.cells #[.int .i64 n, .int .i64 dn] 26 (0, 0))]) ?_⟩
          clear hK K
          refine wpMB_one ?_
          refine spB_of rfl (fun K hK e7 => ?_)
          rw [lay_bw]
          go_simp
          refine (HP1.out _ _ (lay w [.inr e7, .inr d6, .inr e6, .inr d5, .inr e5, .inr d4, .inr e4, .inl (.cells #[.slice none 0 0, .bool false] 130 (0, 0)), .inr eA, .inr d3, .inr e3, .inr d2, .inr e2, .inr d1, .inr e1, .inl (.cells #[.int .i64 n, .int .i64 dn] 26 (0, 0))]) ((nmKO_on (A := [.inr e7, .inr d6, .inr e6, .inr d5, .inr e5, .inr d4, .inr e4, .inl (.cells #[.slice none 0 0, .bool false] 130 (0, 0)), .inr eA]) H3.out).k) ((nmKO_on (A := [.inr e7]) H6.out).k)).mono ?_
          rintro e w' ⟨v7, d7, rfl, rfl, h7⟩
          rw [lay_bw] at h7 ⊢
          have H7 := Lib.hid h7
          clear h7
          refine ⟨_, rfl, hK _ _ (lay_in w [.inr d7, .inr e7, .inr d6, .inr e6, .inr d5, .inr e5, .inr d4, .inr e4, .inl (.cells #[.slice none 0 0, .bool false] 130 (0, 0)), .inr eA, .inr d3, .inr e3, .inr d2, .inr e2, .inr d1, .inr e1] [.inl (.cells #[.int .i64 n, .int .i64 dn] 26 (0, 0))]) ?_⟩
          clear hK K
          refine wpMB_done (fun dz => ?_)
          show wpList _ _ _ _ _ _
          rw [lay_bw]
          obtain ⟨y, ey⟩ := lay_fold w [.inr eA, .inr d3, .inr e3, .inr d2, .inr e2, .inr d1, .inr e1] [.inl (.cells #[.int .i64 n, .int .i64 dn] 26 (0, 0))]
          obtain ⟨x, ex⟩ := lay_fold w [.inr dz, .inr d7, .inr e7, .inr d6, .inr e6, .inr d5, .inr e5, .inr d4, .inr e4] [.inl (.cells #[.slice none 0 0, .bool false] 130 (0, 0)), .inr y, .inl (.cells #[.int .i64 n, .int .i64 dn] 26 (0, 0))]
          have E : lay w [.inr dz, .inr d7, .inr e7, .inr d6, .inr e6, .inr d5, .inr e5, .inr d4, .inr e4, .inl (.cells #[.slice none 0 0, .bool false] 130 (0, 0)), .inr eA, .inr d3, .inr e3, .inr d2, .inr e2, .inr d1, .inr e1, .inl (.cells #[.int .i64 n, .int .i64 dn] 26 (0, 0))] = lay w [.inr x, .inl (.cells #[.slice none 0 0, .bool false] 130 (0, 0)), .inr y, .inl (.cells #[.int .i64 n, .int .i64 dn] 26 (0, 0))] := (lay_sub [.inr dz, .inr d7, .inr e7, .inr d6, .inr e6, .inr d5, .inr e5, .inr d4, .inr e4, .inl (.cells #[.slice none 0 0, .bool false] 130 (0, 0))] ey).trans ex
          have h8 := nmKO_on (A := [.inr dz]) H7.out
          change NmKO (lay w [.inr dz, .inr d7, .inr e7, .inr d6, .inr e6, .inr d5, .inr e5, .inr d4, .inr e4, .inl (.cells #[.slice none 0 0, .bool false] 130 (0, 0)), .inr eA, .inr d3, .inr e3, .inr d2, .inr e2, .inr d1, .inr e1, .inl (.cells #[.int .i64 n, .int .i64 dn] 26 (0, 0))]) _ _ _ _ at h8
          rw [E] at h8 ⊢
          have hb : (lay w [.inr y, .inl (.cells #[.int .i64 n, .int .i64 dn] 26 (0, 0))]).heap.size < (lay w [.inr e7, .inr d6, .inr e6, .inr d5, .inr e5, .inr d4, .inr e4, .inl (.cells #[.slice none 0 0, .bool false] 130 (0, 0)), .inr eA, .inr d3, .inr e3, .inr d2, .inr e2, .inr d1, .inr e1, .inl (.cells #[.int .i64 n, .int .i64 dn] 26 (0, 0))]).heap.size := by
            have hs := congrArg (fun W : World => W.heap.size) ey
            exact Nat.lt_of_le_of_lt (Nat.le_of_eq hs.symm) (Nat.lt_of_lt_of_le (lay_lt w _ [.inr eA, .inr d3, .inr e3, .inr d2, .inr e2, .inr d1, .inr e1, .inl (.cells #[.int .i64 n, .int .i64 dn] 26 (0, 0))]) (lay_below (w := w) (A := [.inr e7, .inr d6, .inr e6, .inr d5, .inr e5, .inr d4, .inr e4]) (B := [.inl (.cells #[.slice none 0 0, .bool false] 130 (0, 0)), .inr eA, .inr d3, .inr e3, .inr d2, .inr e2, .inr d1, .inr e1, .inl (.cells #[.int .i64 n, .int .i64 dn] 26 (0, 0))])).size)
          have H8 : Hid (∀ o', NmK (lay w [.inr x, .inl o', .inr y, .inl (.cells #[.int .i64 n, .int .i64 dn] 26 (0, 0))]) v7 (2000 * dn * h + (-(2 * n)) * t) 7) := Lib.hid fun o' => (nmKO_swap o' hb h8).k
          clear h8 hb
          have ep : posn w [eA.n, d3.n, e3.n, d2.n, e2.n, d1.n, e1.n, 1] = posn w [y.n, 1] := (lay_size w [.inr eA, .inr d3, .inr e3, .inr d2, .inr e2, .inr d1, .inr e1, .inl (.cells #[.int .i64 n, .int .i64 dn] 26 (0, 0))]).symm.trans ((congrArg (fun W : World => W.heap.size) ey).trans (lay_size w [.inr y, .inl (.cells #[.int .i64 n, .int .i64 dn] 26 (0, 0))]))
          rw [ep]
          clear ep
          clear E ex ey
          obtain ⟨A, C, l, g, hv7, -⟩ := H7.out
          subst hv7
          obtain ⟨m, hm⟩ : ∃ m, l.length = m := ⟨_, rfl⟩
          rw [hm] at H8 ⊢
          clear hm H1 H2 H3 H4 H5 H6 H7
          go_wp2_with fail
          have H9 := Lib.hid (H8.out (.cells #[.slice A m C, .bool g] 130 (0, 0)))
          clear H8
          refine region_mixB 10 (.q 0 (.q 1 (.q 2 (.q 3 (.q 6 (.one 4 (.one 5 (.one 7 (.one 8 (.one 9 .done)))))))))) (by kernel_rfl) (by kernel_rfl) (by kernel_rfl) (by kernel_rfl) (by simp) (by kernel_rfl) ?_
          simp only [List.drop_succ_cons, List.drop_zero]
          repeat (refine wpMB_quiet rfl (fun K hK => ?_); go_simp; refine hK _ ?_; clear hK K)
          refine wpMB_one ?_
          refine spB_of rfl (fun K hK f1 => ?_)
          rw [lay_bw]
          go_simp
          refine (HNk.out _).mono ?_
          rintro e w' ⟨u1, c1, rfl, rfl, g1⟩
          rw [lay_bw] at g1 ⊢
          have G1 := Lib.hid g1
          clear g1
          refine ⟨_, rfl, hK _ _ (lay_in w [.inr c1, .inr f1] [.inr x, .inl (.cells #[.slice A m C, .bool g] 130 (0, 0)), .inr y, .inl (.cells #[.int .i64 n, .int .i64 dn] 26 (0, 0))]) ?_⟩
          clear hK K
          refine wpMB_one ?_
          refine spB_of rfl (fun K hK f2 => ?_)
          rw [lay_bw]
          go_simp
          refine (HP2.out _ _ (lay w [.inr f2, .inr c1, .inr f1, .inr x, .inl (.cells #[.slice A m C, .bool g] 130 (0, 0)), .inr y, .inl (.cells #[.int .i64 n, .int .i64 dn] 26 (0, 0))]) (nmK_on (A := [.inr f2, .inr c1, .inr f1]) H9.out) ((nmKO_on (A := [.inr f2]) G1.out).k)).mono ?_
          rintro e w' ⟨u2, c2, rfl, rfl, g2⟩
          rw [lay_bw] at g2 ⊢
          have G2 := Lib.hid g2
          clear g2
          refine ⟨_, rfl, hK _ _ (lay_in w [.inr c2, .inr f2, .inr c1, .inr f1] [.inr x, .inl (.cells #[.slice A m C, .bool g] 130 (0, 0)), .inr y, .inl (.cells #[.int .i64 n, .int .i64 dn] 26 (0, 0))]) ?_⟩
          clear hK K
          refine wpMB_one ?_
          refine spB_of rfl (fun K hK f3 => ?_)
          rw [lay_bw]
          go_simp
          refine (HNd.out _).mono ?_
          rintro e w' ⟨u3, c3, rfl, rfl, g3⟩
          rw [lay_bw] at g3 ⊢
          have G3 := Lib.hid g3
          clear g3
          refine ⟨_, rfl, hK _ _ (lay_in w [.inr c3, .inr f3, .inr c2, .inr f2, .inr c1, .inr f1] [.inr x, .inl (.cells #[.slice A m C, .bool g] 130 (0, 0)), .inr y, .inl (.cells #[.int .i64 n, .int .i64 dn] 26 (0, 0))]) ?_⟩
          clear hK K
          refine wpMB_one ?_
          refine spB_of rfl (fun K hK f4 => ?_)
          rw [lay_bw]
          go_simp
          refine (HDn.out _ _ (lay w [.inr f4, .inr c3, .inr f3, .inr c2, .inr f2, .inr c1, .inr f1, .inr x, .inl (.cells #[.slice A m C, .bool g] 130 (0, 0)), .inr y, .inl (.cells #[.int .i64 n, .int .i64 dn] 26 (0, 0))]) ((nmKO_on (A := [.inr f4, .inr c3, .inr f3]) G2.out).k) ((nmKO_on (A := [.inr f4]) G3.out).k)).mono ?_
          rintro e w' ⟨u4, c4, rfl, rfl, g4⟩
          rw [lay_bw] at g4 ⊢
          have G4 := Lib.hid g4
          clear g4
          refine ⟨_, rfl, hK _ _ (lay_in w [.inr c4, .inr f4, .inr c3, .inr f3, .inr c2, .inr f2, .inr c1, .inr f1] [.inr x, .inl (.cells #[.slice A m C, .bool g] 130 (0, 0)), .inr y, .inl (.cells #[.int .i64 n, .int .i64 dn] 26 (0, 0))]) ?_⟩
          clear hK K
          refine wpMB_one ?_
          refine spB_of rfl (fun K hK f5 => ?_)
          rw [lay_bw]
          go_simp
          refine (HIn.out _ (lay w [.inr f5, .inr c4, .inr f4, .inr c3, .inr f3, .inr c2, .inr f2, .inr c1, .inr f1, .inr x, .inl (.cells #[.slice A m C, .bool g] 130 (0, 0)), .inr y, .inl (.cells #[.int .i64 n, .int .i64 dn] 26 (0, 0))]) ((nmKO_on (A := [.inr f5]) G4.out).k)).mono ?_
          rintro e w' ⟨rfl, c5, rfl⟩
          rw [lay_bw]
          refine ⟨_, rfl, hK _ _ (lay_in w [.inr c5, .inr f5, .inr c4, .inr f4, .inr c3, .inr f3, .inr c2, .inr f2, .inr c1, .inr f1] [.inr x, .inl (.cells #[.slice A m C, .bool g] 130 (0, 0)), .inr y, .inl (.cells #[.int .i64 n, .int .i64 dn] 26 (0, 0))]) ?_⟩
          clear hK K
          refine wpMB_done (fun fz => ?_)
          show wpList _ _ _ _ _ _
          rw [lay_bw]
          go_wp2_with fail
          go_ret
          exact ⟨rfl, lay_ex _ _⟩
      · refine spB_of rfl (fun K hK eA => ?_)
        go_simp
        refine hK _ _ (lay_in w [.inl (.cells #[.slice none 0 0, .bool false] 130 (0, 0)), .inr eA, .inr d2, .inr e2, .inr d1, .inr e1] [.inl (.cells #[.int .i64 n, .int .i64 dn] 26 (0, 0))]) ?_
        clear hK K
        refine wpMB_one ?_
        refine spB_of rfl (fun K hK e3 => ?_)
        rw [lay_bw]
        go_simp
        refine (HM1.out _ _ (lay w [.inr e3, .inl (.cells #[.slice none 0 0, .bool false] 130 (0, 0)), .inr eA, .inr d2, .inr e2, .inr d1, .inr e1, .inl (.cells #[.int .i64 n, .int .i64 dn] 26 (0, 0))]) ((nmKO_on (A := [.inr e3, .inl (.cells #[.slice none 0 0, .bool false] 130 (0, 0)), .inr eA, .inr d2, .inr e2]) H1.out).k) ((nmKO_on (A := [.inr e3, .inl (.cells #[.slice none 0 0, .bool false] 130 (0, 0)), .inr eA]) H2.out).k)).mono ?_
        rintro e w' ⟨v3, d3, rfl, rfl, h3⟩
        rw [lay_bw] at h3 ⊢
        have H3 := Lib.hid h3
        clear h3
        refine ⟨_, rfl, hK _ _ (lay_in w [.inr d3, .inr e3, .inl (.cells #[.slice none 0 0, .bool false] 130 (0, 0)), .inr eA, .inr d2, .inr e2, .inr d1, .inr e1] [.inl (.cells #[.int .i64 n, .int .i64 dn] 26 (0, 0))]) ?_⟩
        clear hK K
        refine wpMB_one ?_
        refine spB_of rfl (fun K hK e4 => ?_)
        rw [lay_bw]
        go_simp
        refine (HNm.out _).mono ?_
        rintro e w' ⟨v4, d4, rfl, rfl, h4⟩
        rw [lay_bw] at h4 ⊢
        have H4 := Lib.hid h4
        clear h4
        refine ⟨_, rfl, hK _ _ (lay_in w [.inr d4, .inr e4, .inr d3, .inr e3, .inl (.cells #[.slice none 0 0, .bool false] 130 (0, 0)), .inr eA, .inr d2, .inr e2, .inr d1, .inr e1] [.inl (.cells #[.int .i64 n, .int .i64 dn] 26 (0, 0))]) ?_⟩
        clear hK K
        refine wpMB_one ?_
        refine spB_of rfl (fun K hK e5 => ?_)
        rw [lay_bw]
        go_simp
        refine (HNt.out _).mono ?_
        rintro e w' ⟨v5, d5, rfl, rfl, h5⟩
        rw [lay_bw] at h5 ⊢
        have H5 := Lib.hid h5
        clear h5
        refine ⟨_, rfl, hK _ _ (lay_in w [.inr d5, .inr e5, .inr d4, .inr e4, .inr d3, .inr e3, .inl (.cells #[.slice none 0 0, .bool false] 130 (0, 0)), .inr eA, .inr d2, .inr e2, .inr d1, .inr e1] [.inl (.cells #[.int .i64 n, .int .i64 dn] 26 (0, 0))]) ?_⟩
        clear hK K
        refine wpMB_one ?_
        refine spB_of rfl (fun K hK e6 => ?_)
        rw [lay_bw]
        go_simp
        refine (HM2.out _ _ (lay w [.inr e6, .inr d5, .inr e5, .inr d4, .inr e4, .inr d3, .inr e3, .inl (.cells #[.slice none 0 0, .bool false] 130 (0, 0)), .inr eA, .inr d2, .inr e2, .inr d1, .inr e1, .inl (.cells #[.int .i64 n, .int .i64 dn] 26 (0, 0))]) ((nmKO_on (A := [.inr e6, .inr d5, .inr e5]) H4.out).k) ((nmKO_on (A := [.inr e6]) H5.out).k)).mono ?_
        rintro e w' ⟨v6, d6, rfl, rfl, h6⟩
        rw [lay_bw] at h6 ⊢
        have H6 := Lib.hid h6
        clear h6
        refine ⟨_, rfl, hK _ _ (lay_in w [.inr d6, .inr e6, .inr d5, .inr e5, .inr d4, .inr e4, .inr d3, .inr e3, .inl (.cells #[.slice none 0 0, .bool false] 130 (0, 0)), .inr eA, .inr d2, .inr e2, .inr d1, .inr e1] [.inl (.cells #[.int .i64 n, .int .i64 dn] 26 (0, 0))]) ?_⟩
        clear hK K
        refine wpMB_one ?_
        refine spB_of rfl (fun K hK e7 => ?_)
        rw [lay_bw]
        go_simp
        refine (HP1.out _ _ (lay w [.inr e7, .inr d6, .inr e6, .inr d5, .inr e5, .inr d4, .inr e4, .inr d3, .inr e3, .inl (.cells #[.slice none 0 0, .bool false] 130 (0, 0)), .inr eA, .inr d2, .inr e2, .inr d1, .inr e1, .inl (.cells #[.int .i64 n, .int .i64 dn] 26 (0, 0))]) ((nmKO_on (A := [.inr e7, .inr d6, .inr e6, .inr d5, .inr e5, .inr d4, .inr e4]) H3.out).k) ((nmKO_on (A := [.inr e7]) H6.out).k)).mono ?_
        rintro e w' ⟨v7, d7, rfl, rfl, h7⟩
        rw [lay_bw] at h7 ⊢
        have H7 := Lib.hid h7
        clear h7
        refine ⟨_, rfl, hK _ _ (lay_in w [.inr d7, .inr e7, .inr d6, .inr e6, .inr d5, .inr e5, .inr d4, .inr e4, .inr d3, .inr e3, .inl (.cells #[.slice none 0 0, .bool false] 130 (0, 0)), .inr eA, .inr d2, .inr e2, .inr d1, .inr e1] [.inl (.cells #[.int .i64 n, .int .i64 dn] 26 (0, 0))]) ?_⟩
        clear hK K
        refine wpMB_done (fun dz => ?_)
        show wpList _ _ _ _ _ _
        rw [lay_bw]
        obtain ⟨y, ey⟩ := lay_fold w [.inr eA, .inr d2, .inr e2, .inr d1, .inr e1] [.inl (.cells #[.int .i64 n, .int .i64 dn] 26 (0, 0))]
        obtain ⟨x, ex⟩ := lay_fold w [.inr dz, .inr d7, .inr e7, .inr d6, .inr e6, .inr d5, .inr e5, .inr d4, .inr e4, .inr d3, .inr e3] [.inl (.cells #[.slice none 0 0, .bool false] 130 (0, 0)), .inr y, .inl (.cells #[.int .i64 n, .int .i64 dn] 26 (0, 0))]
        have E : lay w [.inr dz, .inr d7, .inr e7, .inr d6, .inr e6, .inr d5, .inr e5, .inr d4, .inr e4, .inr d3, .inr e3, .inl (.cells #[.slice none 0 0, .bool false] 130 (0, 0)), .inr eA, .inr d2, .inr e2, .inr d1, .inr e1, .inl (.cells #[.int .i64 n, .int .i64 dn] 26 (0, 0))] = lay w [.inr x, .inl (.cells #[.slice none 0 0, .bool false] 130 (0, 0)), .inr y, .inl (.cells #[.int .i64 n, .int .i64 dn] 26 (0, 0))] := (lay_sub [.inr dz, .inr d7, .inr e7, .inr d6, .inr e6, .inr d5, .inr e5, .inr d4, .inr e4, .inr d3, .inr e3, .inl (.cells #[.slice none 0 0, .bool false] 130 (0, 0))] ey).trans ex
        have h8 := nmKO_on (A := [.inr dz]) H7.out
        change NmKO (lay w [.inr dz, .inr d7, .inr e7, .inr d6, .inr e6, .inr d5, .inr e5, .inr d4, .inr e4, .inr d3, .inr e3, .inl (.cells #[.slice none 0 0, .bool false] 130 (0, 0)), .inr eA, .inr d2, .inr e2, .inr d1, .inr e1, .inl (.cells #[.int .i64 n, .int .i64 dn] 26 (0, 0))]) _ _ _ _ at h8
        rw [E] at h8 ⊢
        have hb : (lay w [.inr y, .inl (.cells #[.int .i64 n, .int .i64 dn] 26 (0, 0))]).heap.size < (lay w [.inr e7, .inr d6, .inr e6, .inr d5, .inr e5, .inr d4, .inr e4, .inr d3, .inr e3, .inl (.cells #[.slice none 0 0, .bool false] 130 (0, 0)), .inr eA, .inr d2, .inr e2, .inr d1, .inr e1, .inl (.cells #[.int .i64 n, .int .i64 dn] 26 (0, 0))]).heap.size := by
          have hs := congrArg (fun W : World => W.heap.size) ey
          exact Nat.lt_of_le_of_lt (Nat.le_of_eq hs.symm) (Nat.lt_of_lt_of_le (lay_lt w _ [.inr eA, .inr d2, .inr e2, .inr d1, .inr e1, .inl (.cells #[.int .i64 n, .int .i64 dn] 26 (0, 0))]) (lay_below (w := w) (A := [.inr e7, .inr d6, .inr e6, .inr d5, .inr e5, .inr d4, .inr e4, .inr d3, .inr e3]) (B := [.inl (.cells #[.slice none 0 0, .bool false] 130 (0, 0)), .inr eA, .inr d2, .inr e2, .inr d1, .inr e1, .inl (.cells #[.int .i64 n, .int .i64 dn] 26 (0, 0))])).size)
        have H8 : Hid (∀ o', NmK (lay w [.inr x, .inl o', .inr y, .inl (.cells #[.int .i64 n, .int .i64 dn] 26 (0, 0))]) v7 (2000 * dn * h + (-(2 * n)) * t) 7) := Lib.hid fun o' => (nmKO_swap o' hb h8).k
        clear h8 hb
        have ep : posn w [eA.n, d2.n, e2.n, d1.n, e1.n, 1] = posn w [y.n, 1] := (lay_size w [.inr eA, .inr d2, .inr e2, .inr d1, .inr e1, .inl (.cells #[.int .i64 n, .int .i64 dn] 26 (0, 0))]).symm.trans ((congrArg (fun W : World => W.heap.size) ey).trans (lay_size w [.inr y, .inl (.cells #[.int .i64 n, .int .i64 dn] 26 (0, 0))]))
        rw [ep]
        clear ep
        clear E ex ey
        obtain ⟨A, C, l, g, hv7, -⟩ := H7.out
        subst hv7
        obtain ⟨m, hm⟩ : ∃ m, l.length = m := ⟨_, rfl⟩
        rw [hm] at H8 ⊢
        clear hm H1 H2 H3 H4 H5 H6 H7
        go_wp2_with fail
        have H9 := Lib.hid (H8.out (.cells #[.slice A m C, .bool g] 130 (0, 0)))
        clear H8
        refine region_mixB 10 (.q 0 (.q 1 (.q 2 (.q 3 (.q 6 (.one 4 (.one 5 (.one 7 (.one 8 (.one 9 .done)))))))))) (by kernel_rfl) (by kernel_rfl) (by kernel_rfl) (by kernel_rfl) (by simp) (by kernel_rfl) ?_
        simp only [List.drop_succ_cons, List.drop_zero]
        repeat (refine wpMB_quiet rfl (fun K hK => ?_); go_simp; refine hK _ ?_; clear hK K)
        refine wpMB_one ?_
        refine spB_of rfl (fun K hK f1 => ?_)
        rw [lay_bw]
        go_simp
        refine (HNk.out _).mono ?_
        rintro e w' ⟨u1, c1, rfl, rfl, g1⟩
        rw [lay_bw] at g1 ⊢
        have G1 := Lib.hid g1
        clear g1
        refine ⟨_, rfl, hK _ _ (lay_in w [.inr c1, .inr f1] [.inr x, .inl (.cells #[.slice A m C, .bool g] 130 (0, 0)), .inr y, .inl (.cells #[.int .i64 n, .int .i64 dn] 26 (0, 0))]) ?_⟩
        clear hK K
        refine wpMB_one ?_
        refine spB_of rfl (fun K hK f2 => ?_)
        rw [lay_bw]
        go_simp
        refine (HP2.out _ _ (lay w [.inr f2, .inr c1, .inr f1, .inr x, .inl (.cells #[.slice A m C, .bool g] 130 (0, 0)), .inr y, .inl (.cells #[.int .i64 n, .int .i64 dn] 26 (0, 0))]) (nmK_on (A := [.inr f2, .inr c1, .inr f1]) H9.out) ((nmKO_on (A := [.inr f2]) G1.out).k)).mono ?_
        rintro e w' ⟨u2, c2, rfl, rfl, g2⟩
        rw [lay_bw] at g2 ⊢
        have G2 := Lib.hid g2
        clear g2
        refine ⟨_, rfl, hK _ _ (lay_in w [.inr c2, .inr f2, .inr c1, .inr f1] [.inr x, .inl (.cells #[.slice A m C, .bool g] 130 (0, 0)), .inr y, .inl (.cells #[.int .i64 n, .int .i64 dn] 26 (0, 0))]) ?_⟩
        clear hK K
        refine wpMB_one ?_
        refine spB_of rfl (fun K hK f3 => ?_)
        rw [lay_bw]
        go_simp
        refine (HNd.out _).mono ?_
        rintro e w' ⟨u3, c3, rfl, rfl, g3⟩
        rw [lay_bw] at g3 ⊢
        have G3 := Lib.hid g3
        clear g3
        refine ⟨_, rfl, hK _ _ (lay_in w [.inr c3, .inr f3, .inr c2, .inr f2, .inr c1, .inr f1] [.inr x, .inl (.cells #[.slice A m C, .bool g] 130 (0, 0)), .inr y, .inl (.cells #[.int .i64 n, .int .i64 dn] 26 (0, 0))]) ?_⟩
        clear hK K
        refine wpMB_one ?_
        refine spB_of rfl (fun K hK f4 => ?_)
        rw [lay_bw]
        go_simp
        refine (HDn.out _ _ (lay w [.inr f4, .inr c3, .inr f3, .inr c2, .inr f2, .inr c1, .inr f1, .inr x, .inl (.cells #[.slice A m C, .bool g] 130 (0, 0)), .inr y, .inl (.cells #[.int .i64 n, .int .i64 dn] 26 (0, 0))]) ((nmKO_on (A := [.inr f4, .inr c3, .inr f3]) G2.out).k) ((nmKO_on (A := [.inr f4]) G3.out).k)).mono ?_
        rintro e w' ⟨u4, c4, rfl, rfl, g4⟩
        rw [lay_bw] at g4 ⊢
        have G4 := Lib.hid g4
        clear g4
        refine ⟨_, rfl, hK _ _ (lay_in w [.inr c4, .inr f4, .inr c3, .inr f3, .inr c2, .inr f2, .inr c1, .inr f1] [.inr x, .inl (.cells #[.slice A m C, .bool g] 130 (0, 0)), .inr y, .inl (.cells #[.int .i64 n, .int .i64 dn] 26 (0, 0))]) ?_⟩
        clear hK K
        refine wpMB_one ?_
        refine spB_of rfl (fun K hK f5 => ?_)
        rw [lay_bw]
        go_simp
        refine (HIn.out _ (lay w [.inr f5, .inr c4, .inr f4, .inr c3, .inr f3, .inr c2, .inr f2, .inr c1, .inr f1, .inr x, .inl (.cells #[.slice A m C, .bool g] 130 (0, 0)), .inr y, .inl (.cells #[.int .i64 n, .int .i64 dn] 26 (0, 0))]) ((nmKO_on (A := [.inr f5]) G4.out).k)).mono ?_
        rintro e w' ⟨rfl, c5, rfl⟩
        rw [lay_bw]
        refine ⟨_, rfl, hK _ _ (lay_in w [.inr c5, .inr f5, .inr c4, .inr f4, .inr c3, .inr f3, .inr c2, .inr f2, .inr c1, .inr f1] [.inr x, .inl (.cells #[.slice A m C, .bool g] 130 (0, 0)), .inr y, .inl (.cells #[.int .i64 n, .int .i64 dn] 26 (0, 0))]) ?_⟩
        clear hK K
        refine wpMB_done (fun fz => ?_)
        show wpList _ _ _ _ _ _
        rw [lay_bw]
        go_wp2_with fail
        go_ret
        exact ⟨rfl, lay_ex _ _⟩
    · refine spB_of rfl (fun K hK eA => ?_)
      go_simp
      refine hK _ _ (lay_in w [.inl (.cells #[.slice none 0 0, .bool false] 130 (0, 0)), .inr eA, .inr d1, .inr e1] [.inl (.cells #[.int .i64 n, .int .i64 dn] 26 (0, 0))]) ?_
      clear hK K
      refine wpMB_one ?_
      refine spB_of rfl (fun K hK e2 => ?_)
      rw [lay_bw]
      go_simp
      refine (HNh.out _).mono ?_
      rintro e w' ⟨v2, d2, rfl, rfl, h2⟩
      rw [lay_bw] at h2 ⊢
      have H2 := Lib.hid h2
      clear h2
      refine ⟨_, rfl, hK _ _ (lay_in w [.inr d2, .inr e2, .inl (.cells #[.slice none 0 0, .bool false] 130 (0, 0)), .inr eA, .inr d1, .inr e1] [.inl (.cells #[.int .i64 n, .int .i64 dn] 26 (0, 0))]) ?_⟩
      clear hK K
      refine wpMB_one ?_
      refine spB_of rfl (fun K hK e3 => ?_)
      rw [lay_bw]
      go_simp
      refine (HM1.out _ _ (lay w [.inr e3, .inr d2, .inr e2, .inl (.cells #[.slice none 0 0, .bool false] 130 (0, 0)), .inr eA, .inr d1, .inr e1, .inl (.cells #[.int .i64 n, .int .i64 dn] 26 (0, 0))]) ((nmKO_on (A := [.inr e3, .inr d2, .inr e2, .inl (.cells #[.slice none 0 0, .bool false] 130 (0, 0)), .inr eA]) H1.out).k) ((nmKO_on (A := [.inr e3]) H2.out).k)).mono ?_
      rintro e w' ⟨v3, d3, rfl, rfl, h3⟩
      rw [lay_bw] at h3 ⊢
      have H3 := Lib.hid h3
      clear h3
      refine ⟨_, rfl, hK _ _ (lay_in w [.inr d3, .inr e3, .inr d2, .inr e2, .inl (.cells #[.slice none 0 0, .bool false] 130 (0, 0)), .inr eA, .inr d1, .inr e1] [.inl (.cells #[.int .i64 n, .int .i64 dn] 26 (0, 0))]) ?_⟩
      clear hK K
      refine wpMB_one ?_
      refine spB_of rfl (fun K hK e4 => ?_)
      rw [lay_bw]
      go_simp
      refine (HNm.out _).mono ?_
      rintro e w' ⟨v4, d4, rfl, rfl, h4⟩
      rw [lay_bw] at h4 ⊢
      have H4 := Lib.hid h4
      clear h4
      refine ⟨_, rfl, hK _ _ (lay_in w [.inr d4, .inr e4, .inr d3, .inr e3, .inr d2, .inr e2, .inl (.cells #[.slice none 0 0, .bool false] 130 (0, 0)), .inr eA, .inr d1, .inr e1] [.inl (.cells #[.int .i64 n, .int .i64 dn] 26 (0, 0))]) ?_⟩
      clear hK K
      refine wpMB_one ?_
      refine spB_of rfl (fun K hK e5 => ?_)
      rw [lay_bw]
      go_simp
      refine (HNt.out _).mono ?_
      rintro e w' ⟨v5, d5, rfl, rfl, h5⟩
      rw [lay_bw] at h5 ⊢
      have H5 := Lib.hid h5
      clear h5
      refine ⟨_, rfl, hK _ _ (lay_in w [.inr d5, .inr e5, .inr d4, .inr e4, .inr d3, .inr e3, .inr d2, .inr e2, .inl (.cells #[.slice none 0 0, .bool false] 130 (0, 0)), .inr eA, .inr d1, .inr e1] [.inl (.cells #[.int .i64 n, .int .i64 dn] 26 (0, 0))]) ?_⟩
      clear hK K
      refine wpMB_one ?_
      refine spB_of rfl (fun K hK e6 => ?_)
      rw [lay_bw]
      go_simp
      refine (HM2.out _ _ (lay w [.inr e6, .inr d5, .inr e5, .inr d4, .inr e4, .inr d3, .inr e3, .inr d2, .inr e2, .inl (.cells #[.slice none 0 0, .bool false] 130 (0, 0)), .inr eA, .inr d1, .inr e1, .inl (.cells #[.int .i64 n, .int .i64 dn] 26 (0, 0))]) ((nmKO_on (A := [.inr e6, .inr d5, .inr e5]) H4.out).k) ((nmKO_on (A := [.inr e6]) H5.out).k)).mono ?_
      rintro e w' ⟨v6, d6, rfl, rfl, h6⟩
      rw [lay_bw] at h6 ⊢
      have H6 := Lib.hid h6
      clear h6
      refine ⟨_, rfl, hK _ _ (lay_in w [.inr d6, .inr e6, .inr d5, .inr e5, .inr d4, .inr e4, .inr d3, .inr e3, .inr d2, .inr e2, .inl (.cells #[.slice none 0 0, .bool false] 130 (0, 0)), .inr eA, .inr d1, .inr e1] [.inl (.cells #[.int .i64 n, .int .i64 dn] 26 (0, 0))]) ?_⟩
      clear hK K
      refine wpMB_one ?_
      refine spB_of rfl (fun K hK e7 => ?_)
      rw [lay_bw]
      go_simp
      refine (HP1.out _ _ (lay w [.inr e7, .inr d6, .inr e6, .inr d5, .inr e5, .inr d4, .inr e4, .inr d3, .inr e3, .inr d2, .inr e2, .inl (.cells #[.slice none 0 0, .bool false] 130 (0, 0)), .inr eA, .inr d1, .inr e1, .inl (.cells #[.int .i64 n, .int .i64 dn] 26 (0, 0))]) ((nmKO_on (A := [.inr e7, .inr d6, .inr e6, .inr d5, .inr e5, .inr d4, .inr e4]) H3.out).k) ((nmKO_on (A := [.inr e7]) H6.out).k)).mono ?_
      rintro e w' ⟨v7, d7, rfl, rfl, h7⟩
      rw [lay_bw] at h7 ⊢
      have H7 := Lib.hid h7
      clear h7
      refine ⟨_, rfl, hK _ _ (lay_in w [.inr d7, .inr e7, .inr d6, .inr e6, .inr d5, .inr e5, .inr d4, .inr e4, .inr d3, .inr e3, .inr d2, .inr e2, .inl (.cells #[.slice none 0 0, .bool false] 130 (0, 0)), .inr eA, .inr d1, .inr e1] [.inl (.cells #[.int .i64 n, .int .i64 dn] 26 (0, 0))]) ?_⟩
      clear hK K
      refine wpMB_done (fun dz => ?_)
      show wpList _ _ _ _ _ _
      rw [lay_bw]
      obtain ⟨y, ey⟩ := lay_fold w [.inr eA, .inr d1, .inr e1] [.inl (.cells #[.int .i64 n, .int .i64 dn] 26 (0, 0))]
      obtain ⟨x, ex⟩ := lay_fold w [.inr dz, .inr d7, .inr e7, .inr d6, .inr e6, .inr d5, .inr e5, .inr d4, .inr e4, .inr d3, .inr e3, .inr d2, .inr e2] [.inl (.cells #[.slice none 0 0, .bool false] 130 (0, 0)), .inr y, .inl (.cells #[.int .i64 n, .int .i64 dn] 26 (0, 0))]
      have E : lay w [.inr dz, .inr d7, .inr e7, .inr d6, .inr e6, .inr d5, .inr e5, .inr d4, .inr e4, .inr d3, .inr e3, .inr d2, .inr e2, .inl (.cells #[.slice none 0 0, .bool false] 130 (0, 0)), .inr eA, .inr d1, .inr e1, .inl (.cells #[.int .i64 n, .int .i64 dn] 26 (0, 0))] = lay w [.inr x, .inl (.cells #[.slice none 0 0, .bool false] 130 (0, 0)), .inr y, .inl (.cells #[.int .i64 n, .int .i64 dn] 26 (0, 0))] := (lay_sub [.inr dz, .inr d7, .inr e7, .inr d6, .inr e6, .inr d5, .inr e5, .inr d4, .inr e4, .inr d3, .inr e3, .inr d2, .inr e2, .inl (.cells #[.slice none 0 0, .bool false] 130 (0, 0))] ey).trans ex
      have h8 := nmKO_on (A := [.inr dz]) H7.out
      change NmKO (lay w [.inr dz, .inr d7, .inr e7, .inr d6, .inr e6, .inr d5, .inr e5, .inr d4, .inr e4, .inr d3, .inr e3, .inr d2, .inr e2, .inl (.cells #[.slice none 0 0, .bool false] 130 (0, 0)), .inr eA, .inr d1, .inr e1, .inl (.cells #[.int .i64 n, .int .i64 dn] 26 (0, 0))]) _ _ _ _ at h8
      rw [E] at h8 ⊢
      have hb : (lay w [.inr y, .inl (.cells #[.int .i64 n, .int .i64 dn] 26 (0, 0))]).heap.size < (lay w [.inr e7, .inr d6, .inr e6, .inr d5, .inr e5, .inr d4, .inr e4, .inr d3, .inr e3, .inr d2, .inr e2, .inl (.cells #[.slice none 0 0, .bool false] 130 (0, 0)), .inr eA, .inr d1, .inr e1, .inl (.cells #[.int .i64 n, .int .i64 dn] 26 (0, 0))]).heap.size := by
        have hs := congrArg (fun W : World => W.heap.size) ey
        exact Nat.lt_of_le_of_lt (Nat.le_of_eq hs.symm) (Nat.lt_of_lt_of_le (lay_lt w _ [.inr eA, .inr d1, .inr e1, .inl (.cells #[.int .i64 n, .int .i64 dn] 26 (0, 0))]) (lay_below (w := w) (A := [.inr e7, .inr d6, .inr e6, .inr d5, .inr e5, .inr d4, .inr e4, .inr d3, .inr e3, .inr d2, .inr e2]) (B := [.inl (.cells #[.slice none 0 0, .bool false] 130 (0, 0)), .inr eA, .inr d1, .inr e1, .inl (.cells #[.int .i64 n, .int .i64 dn] 26 (0, 0))])).size)
      have H8 : Hid (∀ o', NmK (lay w [.inr x, .inl o', .inr y, .inl (.cells #[.int .i64 n, .int .i64 dn] 26 (0, 0))]) v7 (2000 * dn * h + (-(2 * n)) * t) 7) := Lib.hid fun o' => (nmKO_swap o' hb h8).k
      clear h8 hb
      have ep : posn w [eA.n, d1.n, e1.n, 1] = posn w [y.n, 1] := (lay_size w [.inr eA, .inr d1, .inr e1, .inl (.cells #[.int .i64 n, .int .i64 dn] 26 (0, 0))]).symm.trans ((congrArg (fun W : World => W.heap.size) ey).trans (lay_size w [.inr y, .inl (.cells #[.int .i64 n, .int .i64 dn] 26 (0, 0))]))
      rw [ep]
      clear ep
      clear E ex ey
      obtain ⟨A, C, l, g, hv7, -⟩ := H7.out
      subst hv7
      obtain ⟨m, hm⟩ : ∃ m, l.length = m := ⟨_, rfl⟩
      rw [hm] at H8 ⊢
      clear hm H1 H2 H3 H4 H5 H6 H7
      go_wp2_with fail
      have H9 := Lib.hid (H8.out (.cells #[.slice A m C, .bool g] 130 (0, 0)))
      clear H8
      refine region_mixB 10 (.q 0 (.q 1 (.q 2 (.q 3 (.q 6 (.one 4 (.one 5 (.one 7 (.one 8 (.one 9 .done)))))))))) (by kernel_rfl) (by kernel_rfl) (by kernel_rfl) (by kernel_rfl) (by simp) (by kernel_rfl) ?_
      simp only [List.drop_succ_cons, List.drop_zero]
      repeat (refine wpMB_quiet rfl (fun K hK => ?_); go_simp; refine hK _ ?_; clear hK K)
      refine wpMB_one ?_
      refine spB_of rfl (fun K hK f1 => ?_)
      rw [lay_bw]
      go_simp
      refine (HNk.out _).mono ?_
      rintro e w' ⟨u1, c1, rfl, rfl, g1⟩
      rw [lay_bw] at g1 ⊢
      have G1 := Lib.hid g1
      clear g1
      refine ⟨_, rfl, hK _ _ (lay_in w [.inr c1, .inr f1] [.inr x, .inl (.cells #[.slice A m C, .bool g] 130 (0, 0)), .inr y, .inl (.cells #[.int .i64 n, .int .i64 dn] 26 (0, 0))]) ?_⟩
      clear hK K
      refine wpMB_one ?_
      refine spB_of rfl (fun K hK f2 => ?_)
      rw [lay_bw]
      go_simp
      refine (HP2.out _ _ (lay w [.inr f2, .inr c1, .inr f1, .inr x, .inl (.cells #[.slice A m C, .bool g] 130 (0, 0)), .inr y, .inl (.cells #[.int .i64 n, .int .i64 dn] 26 (0, 0))]) (nmK_on (A := [.inr f2, .inr c1, .inr f1]) H9.out) ((nmKO_on (A := [.inr f2]) G1.out).k)).mono ?_
      rintro e w' ⟨u2, c2, rfl, rfl, g2⟩
      rw [lay_bw] at g2 ⊢
      have G2 := Lib.hid g2
      clear g2
      refine ⟨_, rfl, hK _ _ (lay_in w [.inr c2, .inr f2, .inr c1, .inr f1] [.inr x, .inl (.cells #[.slice A m C, .bool g] 130 (0, 0)), .inr y, .inl (.cells #[.int .i64 n, .int .i64 dn] 26 (0, 0))]) ?_⟩
      clear hK K
      refine wpMB_one ?_
      refine spB_of rfl (fun K hK f3 => ?_)
      rw [lay_bw]
      go_simp
      refine (HNd.out _).mono ?_
      rintro e w' ⟨u3, c3, rfl, rfl, g3⟩
      rw [lay_bw] at g3 ⊢
      have G3 := Lib.hid g3
      clear g3
      refine ⟨_, rfl, hK _ _ (lay_in w [.inr c3, .inr f3, .inr c2, .inr f2, .inr c1, .inr f1] [.inr x, .inl (.cells #[.slice A m C, .bool g] 130 (0, 0)), .inr y, .inl (.cells #[.int .i64 n, .int .i64 dn] 26 (0, 0))]) ?_⟩
      clear hK K
      refine wpMB_one ?_
      refine spB_of rfl (fun K hK f4 => ?_)
      rw [lay_bw]
      go_simp
      refine (HDn.out _ _ (lay w [.inr f4, .inr c3, .inr f3, .inr c2, .inr f2, .inr c1, .inr f1, .inr x, .inl (.cells #[.slice A m C, .bool g] 130 (0, 0)), .inr y, .inl (.cells #[.int .i64 n, .int .i64 dn] 26 (0, 0))]) ((nmKO_on (A := [.inr f4, .inr c3, .inr f3]) G2.out).k) ((nmKO_on (A := [.inr f4]) G3.out).k)).mono ?_
      rintro e w' ⟨u4, c4, rfl, rfl, g4⟩
      rw [lay_bw] at g4 ⊢
      have G4 := Lib.hid g4
      clear g4
      refine ⟨_, rfl, hK _ _ (lay_in w [.inr c4, .inr f4, .inr c3, .inr f3, .inr c2, .inr f2, .inr c1, .inr f1] [.inr x, .inl (.cells #[.slice A m C, .bool g] 130 (0, 0)), .inr y, .inl (.cells #[.int .i64 n, .int .i64 dn] 26 (0, 0))]) ?_⟩
      clear hK K
      refine wpMB_one ?_
      refine spB_of rfl (fun K hK f5 => ?_)
      rw [lay_bw]
      go_simp
      refine (HIn.out _ (lay w [.inr f5, .inr c4, .inr f4, .inr c3, .inr f3, .inr c2, .inr f2, .inr c1, .inr f1, .inr x, .inl (.cells #[.slice A m C, .bool g] 130 (0, 0)), .inr y, .inl (.cells #[.int .i64 n, .int .i64 dn] 26 (0, 0))]) ((nmKO_on (A := [.inr f5]) G4.out).k)).mono ?_
      rintro e w' ⟨rfl, c5, rfl⟩
      rw [lay_bw]
      refine ⟨_, rfl, hK _ _ (lay_in w [.inr c5, .inr f5, .inr c4, .inr f4, .inr c3, .inr f3, .inr c2, .inr f2, .inr c1, .inr f1] [.inr x, .inl (.cells #[.slice A m C, .bool g] 130 (0, 0)), .inr y, .inl (.cells #[.int .i64 n, .int .i64 dn] 26 (0, 0))]) ?_⟩
      clear hK K
      refine wpMB_done (fun fz => ?_)
      show wpList _ _ _ _ _ _
      rw [lay_bw]
      go_wp2_with fail
      go_ret
      exact ⟨rfl, lay_ex _ _⟩
  · refine spB_of rfl (fun K hK eA => ?_)
    go_simp
    refine hK _ _ (lay_in w [.inl (.cells #[.slice none 0 0, .bool false] 130 (0, 0)), .inr eA] [.inl (.cells #[.int .i64 n, .int .i64 dn] 26 (0, 0))]) ?_
    clear hK K
    refine wpMB_one ?_
    refine spB_of rfl (fun K hK e1 => ?_)
    rw [lay_bw]
    go_simp
    refine (HNd.out _).mono ?_
    rintro e w' ⟨v1, d1, rfl, rfl, h1⟩
    rw [lay_bw] at h1 ⊢
    have H1 := Lib.hid h1
    clear h1
    refine ⟨_, rfl, hK _ _ (lay_in w [.inr d1, .inr e1, .inl (.cells #[.slice none 0 0, .bool false] 130 (0, 0)), .inr eA] [.inl (.cells #[.int .i64 n, .int .i64 dn] 26 (0, 0))]) ?_⟩
    clear hK K
    refine wpMB_one ?_
    refine spB_of rfl (fun K hK e2 => ?_)
    rw [lay_bw]
    go_simp
    refine (HNh.out _).mono ?_
    rintro e w' ⟨v2, d2, rfl, rfl, h2⟩
    rw [lay_bw] at h2 ⊢
    have H2 := Lib.hid h2
    clear h2
    refine ⟨_, rfl, hK _ _ (lay_in w [.inr d2, .inr e2, .inr d1, .inr e1, .inl (.cells #[.slice none 0 0, .bool false] 130 (0, 0)), .inr eA] [.inl (.cells #[.int .i64 n, .int .i64 dn] 26 (0, 0))]) ?_⟩
    clear hK K
    refine wpMB_one ?_
    refine spB_of rfl (fun K hK e3 => ?_)
    rw [lay_bw]
    go_simp
    refine (HM1.out _ _ (lay w [.inr e3, .inr d2, .inr e2, .inr d1, .inr e1, .inl (.cells #[.slice none 0 0, .bool false] 130 (0, 0)), .inr eA, .inl (.cells #[.int .i64 n, .int .i64 dn] 26 (0, 0))]) ((nmKO_on (A := [.inr e3, .inr d2, .inr e2]) H1.out).k) ((nmKO_on (A := [.inr e3]) H2.out).k)).mono ?_
    rintro e w' ⟨v3, d3, rfl, rfl, h3⟩
    rw [lay_bw] at h3 ⊢
    have H3 := Lib.hid h3
    clear h3
    refine ⟨_, rfl, hK _ _ (lay_in w [.inr d3, .inr e3, .inr d2, .inr e2, .inr d1, .inr e1, .inl (.cells #[.slice none 0 0, .bool false] 130 (0, 0)), .inr eA] [.inl (.cells #[.int .i64 n, .int .i64 dn] 26 (0, 0))]) ?_⟩
    clear hK K
    refine wpMB_one ?_
    refine spB_of rfl (fun K hK e4 => ?_)
    rw [lay_bw]
    go_simp
    refine (HNm.out _).mono ?_
    rintro e w' ⟨v4, d4, rfl, rfl, h4⟩
    rw [lay_bw] at h4 ⊢
    have H4 := Lib.hid h4
    clear h4
    refine ⟨_, rfl, hK _ _ (lay_in w [.inr d4, .inr e4, .inr d3, .inr e3, .inr d2, .inr e2, .inr d1, .inr e1, .inl (.cells #[.slice none 0 0, .bool false] 130 (0, 0)), .inr eA] [.inl (.cells #[.int .i64 n, .int .i64 dn] 26 (0, 0))]) ?_⟩
    clear hK K
    refine wpMB_one ?_
    refine spB_of rfl (fun K hK e5 => ?_)
    rw [lay_bw]
    go_simp
    refine (HNt.out _).mono ?_
    rintro e w' ⟨v5, d5, rfl, rfl, h5⟩
    rw [lay_bw] at h5 ⊢
    have H5 := Lib.hid h5
    clear h5
    refine ⟨_, rfl, hK _ _ (lay_in w [.inr d5, .inr e5, .inr d4, .inr e4, .inr d3, .inr e3, .inr d2, .inr e2, .inr d1, .inr e1, .inl (.cells #[.slice none 0 0, .bool false] 130 (0, 0)), .inr eA] [.inl (.cells #[.int .i64 n, .int .i64 dn] 26 (0, 0))]) ?_⟩
    clear hK K
    refine wpMB_one ?_
    refine spB_of rfl (fun K hK e6 => ?_)
    rw [lay_bw]
    go_simp
    refine (HM2.out _ _ (lay w [.inr e6, .inr d5, .inr e5, .inr d4, .inr e4, .inr d3, .inr e3, .inr d2, .inr e2, .inr d1, .inr e1, .inl (.cells #[.slice none 0 0, .bool false] 130 (0, 0)), .inr eA, .inl (.cells #[.int .i64 n, .int .i64 dn] 26 (0, 0))]) ((nmKO_on (A := [.inr e6, .inr d5, .inr e5]) H4.out).k) ((nmKO_on (A := [.inr e6]) H5.out).k)).mono ?_
    rintro e w' ⟨v6, d6, rfl, rfl, h6⟩
    rw [lay_bw] at h6 ⊢
    have H6 := Lib.hid h6
    clear h6
    refine ⟨_, rfl, hK _ _ (lay_in w [.inr d6, .inr e6, .inr d5, .inr e5, .inr d4, .inr e4, .inr d3, .inr e3, .inr d2, .inr e2, .inr d1, .inr e1, .inl (.cells #[.slice none 0 0, .bool false] 130 (0, 0)), .inr eA] [.inl (.cells #[.int .i64 n, .int .i64 dn] 26 (0, 0))]) ?_⟩
    clear hK K
    refine wpMB_one ?_
    refine spB_of rfl (fun K hK e7 => ?_)
    rw [lay_bw]
    go_simp
    refine (HP1.out _ _ (lay w [.inr e7, .inr d6, .inr e6, .inr d5, .inr e5, .inr d4, .inr e4, .inr d3, .inr e3, .inr d2, .inr e2, .inr d1, .inr e1, .inl (.cells #[.slice none 0 0, .bool false] 130 (0, 0)), .inr eA, .inl (.cells #[.int .i64 n, .int .i64 dn] 26 (0, 0))]) ((nmKO_on (A := [.inr e7, .inr d6, .inr e6, .inr d5, .inr e5, .inr d4, .inr e4]) H3.out).k) ((nmKO_on (A := [.inr e7]) H6.out).k)).mono ?_
    rintro e w' ⟨v7, d7, rfl, rfl, h7⟩
    rw [lay_bw] at h7 ⊢
    have H7 := Lib.hid h7
    clear h7
    refine ⟨_, rfl, hK _ _ (lay_in w [.inr d7, .inr e7, .inr d6, .inr e6, .inr d5, .inr e5, .inr d4, .inr e4, .inr d3, .inr e3, .inr d2, .inr e2, .inr d1, .inr e1, .inl (.cells #[.slice none 0 0, .bool false] 130 (0, 0)), .inr eA] [.inl (.cells #[.int .i64 n, .int .i64 dn] 26 (0, 0))]) ?_⟩
    clear hK K
    refine wpMB_done (fun dz => ?_)
    show wpList _ _ _ _ _ _
    rw [lay_bw]
    obtain ⟨y, ey⟩ := lay_fold w [.inr eA] [.inl (.cells #[.int .i64 n, .int .i64 dn] 26 (0, 0))]
    obtain ⟨x, ex⟩ := lay_fold w [.inr dz, .inr d7, .inr e7, .inr d6, .inr e6, .inr d5, .inr e5, .inr d4, .inr e4, .inr d3, .inr e3, .inr d2, .inr e2, .inr d1, .inr e1] [.inl (.cells #[.slice none 0 0, .bool false] 130 (0, 0)), .inr y, .inl (.cells #[.int .i64 n, .int .i64 dn] 26 (0, 0))]
    have E : lay w [.inr dz, .inr d7, .inr e7, .inr d6, .inr e6, .inr d5, .inr e5, .inr d4, .inr e4, .inr d3, .inr e3, .inr d2, .inr e2, .inr d1, .inr e1, .inl (.cells #[.slice none 0 0, .bool false] 130 (0, 0)), .inr eA, .inl (.cells #[.int .i64 n, .int .i64 dn] 26 (0, 0))] = lay w [.inr x, .inl (.cells #[.slice none 0 0, .bool false] 130 (0, 0)), .inr y, .inl (.cells #[.int .i64 n, .int .i64 dn] 26 (0, 0))] := (lay_sub [.inr dz, .inr d7, .inr e7, .inr d6, .inr e6, .inr d5, .inr e5, .inr d4, .inr e4, .inr d3, .inr e3, .inr d2, .inr e2, .inr d1, .inr e1, .inl (.cells #[.slice none 0 0, .bool false] 130 (0, 0))] ey).trans ex
    have h8 := nmKO_on (A := [.inr dz]) H7.out
    change NmKO (lay w [.inr dz, .inr d7, .inr e7, .inr d6, .inr e6, .inr d5, .inr e5, .inr d4, .inr e4, .inr d3, .inr e3, .inr d2, .inr e2, .inr d1, .inr e1, .inl (.cells #[.slice none 0 0, .bool false] 130 (0, 0)), .inr eA, .inl (.cells #[.int .i64 n, .int .i64 dn] 26 (0, 0))]) _ _ _ _ at h8
    rw [E] at h8 ⊢
    have hb : (lay w [.inr y, .inl (.cells #[.int .i64 n, .int .i64 dn] 26 (0, 0))]).heap.size < (lay w [.inr e7, .inr d6, .inr e6, .inr d5, .inr e5, .inr d4, .inr e4, .inr d3, .inr e3, .inr d2, .inr e2, .inr d1, .inr e1, .inl (.cells #[.slice none 0 0, .bool false] 130 (0, 0)), .inr eA, .inl (.cells #[.int .i64 n, .int .i64 dn] 26 (0, 0))]).heap.size := by
      have hs := congrArg (fun W : World => W.heap.size) ey
      exact Nat.lt_of_le_of_lt (Nat.le_of_eq hs.symm) (Nat.lt_of_lt_of_le (lay_lt w _ [.inr eA, .inl (.cells #[.int .i64 n, .int .i64 dn] 26 (0, 0))]) (lay_below (w := w) (A := [.inr e7, .inr d6, .inr e6, .inr d5, .inr e5, .inr d4, .inr e4, .inr d3, .inr e3, .inr d2, .inr e2, .inr d1, .inr e1]) (B := [.inl (.cells #[.slice none 0 0, .bool false] 130 (0, 0)), .inr eA, .inl (.cells #[.int .i64 n, .int .i64 dn] 26 (0, 0))])).size)
    have H8 : Hid (∀ o', NmK (lay w [.inr x, .inl o', .inr y, .inl (.cells #[.int .i64 n, .int .i64 dn] 26 (0, 0))]) v7 (2000 * dn * h + (-(2 * n)) * t) 7) := Lib.hid fun o' => (nmKO_swap o' hb h8).k
    clear h8 hb
    have ep : posn w [eA.n, 1] = posn w [y.n, 1] := (lay_size w [.inr eA, .inl (.cells #[.int .i64 n, .int .i64 dn] 26 (0, 0))]).symm.trans ((congrArg (fun W : World => W.heap.size) ey).trans (lay_size w [.inr y, .inl (.cells #[.int .i64 n, .int .i64 dn] 26 (0, 0))]))
    rw [ep]
    clear ep
    clear E ex ey
    obtain ⟨A, C, l, g, hv7, -⟩ := H7.out
    subst hv7
    obtain ⟨m, hm⟩ : ∃ m, l.length = m := ⟨_, rfl⟩
    rw [hm] at H8 ⊢
    clear hm H1 H2 H3 H4 H5 H6 H7
    go_wp2_with fail
    have H9 := Lib.hid (H8.out (.cells #[.slice A m C, .bool g] 130 (0, 0)))
    clear H8
    refine region_mixB 10 (.q 0 (.q 1 (.q 2 (.q 3 (.q 6 (.one 4 (.one 5 (.one 7 (.one 8 (.one 9 .done)))))))))) (by kernel_rfl) (by kernel_rfl) (by kernel_rfl) (by kernel_rfl) (by simp) (by kernel_rfl) ?_
    simp only [List.drop_succ_cons, List.drop_zero]
    repeat (refine wpMB_quiet rfl (fun K hK => ?_); go_simp; refine hK _ ?_; clear hK K)
    refine wpMB_one ?_
    refine spB_of rfl (fun K hK f1 => ?_)
    rw [lay_bw]
    go_simp
    refine (HNk.out _).mono ?_
    rintro e w' ⟨u1, c1, rfl, rfl, g1⟩
    rw [lay_bw] at g1 ⊢
    have G1 := Lib.hid g1
    clear g1
    refine ⟨_, rfl, hK _ _ (lay_in w [.inr c1, .inr f1] [.inr x, .inl (.cells #[.slice A m C, .bool g] 130 (0, 0)), .inr y, .inl (.cells #[.int .i64 n, .int .i64 dn] 26 (0, 0))]) ?_⟩
    clear hK K
    refine wpMB_one ?_
    refine spB_of rfl (fun K hK f2 => ?_)
    rw [lay_bw]
    go_simp
    refine (HP2.out _ _ (lay w [.inr f2, .inr c1, .inr f1, .inr x, .inl (.cells #[.slice A m C, .bool g] 130 (0, 0)), .inr y, .inl (.cells #[.int .i64 n, .int .i64 dn] 26 (0, 0))]) (nmK_on (A := [.inr f2, .inr c1, .inr f1]) H9.out) ((nmKO_on (A := [.inr f2]) G1.out).k)).mono ?_
    rintro e w' ⟨u2, c2, rfl, rfl, g2⟩
    rw [lay_bw] at g2 ⊢
    have G2 := Lib.hid g2
    clear g2
    refine ⟨_, rfl, hK _ _ (lay_in w [.inr c2, .inr f2, .inr c1, .inr f1] [.inr x, .inl (.cells #[.slice A m C, .bool g] 130 (0, 0)), .inr y, .inl (.cells #[.int .i64 n, .int .i64 dn] 26 (0, 0))]) ?_⟩
    clear hK K
    refine wpMB_one ?_
    refine spB_of rfl (fun K hK f3 => ?_)
    rw [lay_bw]
    go_simp
    refine (HNd.out _).mono ?_
    rintro e w' ⟨u3, c3, rfl, rfl, g3⟩
    rw [lay_bw] at g3 ⊢
    have G3 := Lib.hid g3
    clear g3
    refine ⟨_, rfl, hK _ _ (lay_in w [.inr c3, .inr f3, .inr c2, .inr f2, .inr c1, .inr f1] [.inr x, .inl (.cells #[.slice A m C, .bool g] 130 (0, 0)), .inr y, .inl (.cells #[.int .i64 n, .int .i64 dn] 26 (0, 0))]) ?_⟩
    clear hK K
    refine wpMB_one ?_
    refine spB_of rfl (fun K hK f4 => ?_)
    rw [lay_bw]
    go_simp
    refine (HDn.out _ _ (lay w [.inr f4, .inr c3, .inr f3, .inr c2, .inr f2, .inr c1, .inr f1, .inr x, .inl (.cells #[.slice A m C, .bool g] 130 (0, 0)), .inr y, .inl (.cells #[.int .i64 n, .int .i64 dn] 26 (0, 0))]) ((nmKO_on (A := [.inr f4, .inr c3, .inr f3]) G2.out).k) ((nmKO_on (A := [.inr f4]) G3.out).k)).mono ?_
    rintro e w' ⟨u4, c4, rfl, rfl, g4⟩
    rw [lay_bw] at g4 ⊢
    have G4 := Lib.hid g4
    clear g4
    refine ⟨_, rfl, hK _ _ (lay_in w [.inr c4, .inr f4, .inr c3, .inr f3, .inr c2, .inr f2, .inr c1, .inr f1] [.inr x, .inl (.cells #[.slice A m C, .bool g] 130 (0, 0)), .inr y, .inl (.cells #[.int .i64 n, .int .i64 dn] 26 (0, 0))]) ?_⟩
    clear hK K
    refine wpMB_one ?_
    refine spB_of rfl (fun K hK f5 => ?_)
    rw [lay_bw]
    go_simp
    refine (HIn.out _ (lay w [.inr f5, .inr c4, .inr f4, .inr c3, .inr f3, .inr c2, .inr f2, .inr c1, .inr f1, .inr x, .inl (.cells #[.slice A m C, .bool g] 130 (0, 0)), .inr y, .inl (.cells #[.int .i64 n, .int .i64 dn] 26 (0, 0))]) ((nmKO_on (A := [.inr f5]) G4.out).k)).mono ?_
    rintro e w' ⟨rfl, c5, rfl⟩
    rw [lay_bw]
    refine ⟨_, rfl, hK _ _ (lay_in w [.inr c5, .inr f5, .inr c4, .inr f4, .inr c3, .inr f3, .inr c2, .inr f2, .inr c1, .inr f1] [.inr x, .inl (.cells #[.slice A m C, .bool g] 130 (0, 0)), .inr y, .inl (.cells #[.int .i64 n, .int .i64 dn] 26 (0, 0))]) ?_⟩
    clear hK K
    refine wpMB_done (fun fz => ?_)
    show wpList _ _ _ _ _ _
    rw [lay_bw]
    go_wp2_with fail
    go_ret
    exact ⟨rfl, lay_ex _ _⟩
end Go.Proofs.YtmomoeagnkjbiaaGreat
/- The average of sights: the plain law. No function of the program. -/
namespace Go.Proofs.YtmomoeagnkjbiaaGreat

/-- The mean's reading and width. -/
def mnHs (readings times n at_ p d : Int) : Int := (2000 * d * readings + 2 * p * (at_ * n - times) + 1000 * d * n) / (2000 * d * n)
def mnWi (w n : Int) : Int := -((-2 * w - n) / (2 * n))
/-- As the program reckons it: first the whole part. -/
theorem mn_split {readings times n at_ p d : Int} (hn : 0 < n) (hd : 0 < d) :
    readings / n + (2 * 1000 * d * (readings - readings / n * n) + 2 * p * (at_ * n - times) + 1000 * d * n) / (2 * 1000 * d * n) = mnHs readings times n at_ p d := by
  unfold mnHs
  have hk : 2000 * d * n ≠ 0 := by
    have := Int.mul_pos (Int.mul_pos (show (0 : Int) < 2000 by decide) hd) hn
    omega
  have e : 2000 * d * readings + 2 * p * (at_ * n - times) + 1000 * d * n = (2 * 1000 * d * (readings - readings / n * n) + 2 * p * (at_ * n - times) + 1000 * d * n) + readings / n * (2000 * d * n) := by
    have e2 : 2000 * d * (readings - readings / n * n) + readings / n * (2000 * d * n) = 2000 * d * readings := by
      rw [Int.mul_sub, Int.mul_comm (readings / n) n, Int.mul_comm (readings / n) (2000 * d * n), Int.mul_assoc (2000 * d) n]
      omega
    rw [show (2 : Int) * 1000 = 2000 from rfl]
    omega
  rw [e, Int.add_mul_ediv_right _ _ hk, show (2 : Int) * 1000 = 2000 from rfl]
  omega
theorem mn_up (w : Int) {n : Int} (hn : 0 < n) : 2 * w + n ≤ 2 * n * mnWi w n := by
  unfold mnWi
  have h := Int.mul_ediv_self_le (x := -2 * w - n) (k := 2 * n) (by omega)
  rw [Int.mul_neg]; omega
/-- The average of sights that are wrong by at most e, at the slope s: wrong by at most its width. -/
theorem mn_sound {n E W s X Hs x0 at_ : Int} (hn : 0 < n) (h1 : E ≤ W) (h2 : -W ≤ E) :
    let hs := mnHs (n * Hs + s * X + E) (1000 * (X - n * x0)) n at_ s 1
    let off := 1000 * (hs - Hs) - s * (1000 * x0 + at_)
    off ≤ 1000 * mnWi W n ∧ -(1000 * mnWi W n) ≤ off := by
  intro hs off
  have hw := mn_up W hn
  have hk : (0 : Int) < 2000 * n := by omega
  have en : 2000 * 1 * (n * Hs + s * X + E) + 2 * s * (at_ * n - 1000 * (X - n * x0)) + 1000 * 1 * n = 2000 * (n * Hs) + 2 * (n * (s * at_)) + 2000 * (n * (s * x0)) + 1000 * n + 2000 * E := by
    have k1 : 2 * s * (at_ * n - 1000 * (X - n * x0)) = 2 * (n * (s * at_)) - 2000 * (s * X) + 2000 * (n * (s * x0)) := by
      rw [Int.mul_assoc 2 s, Int.mul_sub s, Int.mul_left_comm s 1000, Int.mul_sub s, Int.mul_left_comm s n x0, Int.mul_comm at_ n, Int.mul_left_comm s n at_]
      omega
    rw [k1]
    omega
  have e0 : hs = (2000 * (n * Hs) + 2 * (n * (s * at_)) + 2000 * (n * (s * x0)) + 1000 * n + 2000 * E) / (2000 * n) := by
    show mnHs _ _ _ _ _ _ = _
    unfold mnHs
    rw [en, show (2000 : Int) * 1 = 2000 from rfl]
  have l1 := Int.mul_ediv_self_le (x := 2000 * (n * Hs) + 2 * (n * (s * at_)) + 2000 * (n * (s * x0)) + 1000 * n + 2000 * E) (k := 2000 * n) (by omega)
  have l2 := Int.lt_mul_ediv_self_add (x := 2000 * (n * Hs) + 2 * (n * (s * at_)) + 2000 * (n * (s * x0)) + 1000 * n + 2000 * E) (k := 2000 * n) hk
  rw [← e0] at l1 l2
  have eo : n * off = 1000 * (n * hs) - 1000 * (n * Hs) - (1000 * (n * (s * x0)) + n * (s * at_)) := by
    show n * (1000 * (hs - Hs) - s * (1000 * x0 + at_)) = _
    rw [Int.mul_sub, Int.mul_left_comm n 1000, Int.mul_sub, Int.mul_add s, Int.mul_left_comm s 1000, Int.mul_add n, Int.mul_left_comm n 1000]
    omega
  have eh : 2000 * n * hs = 2000 * (n * hs) := Int.mul_assoc _ _ _
  have ew : 2 * n * mnWi W n = 2 * (n * mnWi W n) := Int.mul_assoc _ _ _
  rw [eh] at l1 l2
  rw [ew] at hw
  constructor
  · refine Int.le_of_mul_le_mul_left (a := n) ?_ hn
    rw [Int.mul_left_comm n 1000, eo]; omega
  · refine Int.le_of_mul_le_mul_left (a := n) ?_ hn
    rw [Int.mul_neg, Int.mul_left_comm n 1000, eo]; omega
/-- The residual of a reading that is wrong by e. -/
theorem res_off (Hs s x x0 e : Int) : resI (1000 * (x - x0)) (Hs + s * x + e) s 1 = Hs + s * x0 + e := by
  unfold resI
  have e1 : 2 * s * (1000 * (x - x0)) = 2000 * (s * x) - 2000 * (s * x0) := by
    rw [Int.mul_assoc, Int.mul_left_comm s, Int.mul_sub]; omega
  rw [e1]; omega
/-- One sight, repeated. -/
theorem mn_one {n h p d : Int} (hn : 0 < n) (hd : 0 < d) : mnHs (n * h) 0 n 0 p d = h := by
  unfold mnHs
  have hk : (0 : Int) < 2000 * d * n := Int.mul_pos (Int.mul_pos (by decide) hd) hn
  have e : 2000 * d * (n * h) + 2 * p * (0 * n - 0) + 1000 * d * n = 1000 * d * n + h * (2000 * d * n) := by
    rw [← Int.mul_assoc, Int.mul_comm h]; simp; omega
  have e2 : 2000 * d * n = 2 * (1000 * d * n) := by rw [← Int.mul_assoc, ← Int.mul_assoc]; rfl
  rw [e, Int.add_mul_ediv_right _ _ (by omega), Int.ediv_eq_zero_of_lt (by omega) (by omega), Int.zero_add]
theorem wi_one {n w : Int} (hn : 0 < n) : mnWi (n * w) n = w + 1 := by
  unfold mnWi
  have e : -2 * (n * w) - n = n + -(w + 1) * (2 * n) := by
    have : -(w + 1) * (2 * n) = -2 * (n * w) - 2 * n := by rw [Int.neg_mul, Int.add_mul, Int.mul_left_comm, Int.mul_comm w]; omega
    omega
  rw [e, Int.add_mul_ediv_right _ _ (by omega), Int.ediv_eq_zero_of_lt (by omega) (by omega)]
  omega
theorem res_one (h p : Int) {d : Int} (hd : 0 < d) : resI 0 h p d = h := by
  unfold resI
  rw [Int.mul_zero, Int.sub_zero, Int.ediv_eq_zero_of_lt (by omega) (by omega), Int.add_zero]
end Go.Proofs.YtmomoeagnkjbiaaGreat
