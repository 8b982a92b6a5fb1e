/- Contracts and plain laws, several texts in one: Nd2; Ne1; Lb3 -/
import Derived.Test.YtnnmfdeeicpdlaaGreatProg
import Derived.WalkKit
import Derived.WalkSpells
import Derived.WalkLawsBesides
import Derived.Lib.Hide
import Derived.BigQuiet
import GoSem.Core.Next
import Derived.Test.YtnnmfdeeicpdlaaGreatPAA
import Derived.Test.YtnnmfdeeicpdlaaGreatPAQ
import Derived.Test.YtnnmfdeeicpdlaaGreatPAR
/- The reference's side of a direction of the first quadrant. -/
namespace Go.Proofs.YtnnmfdeeicpdlaaGreat
set_option maxHeartbeats 8000000
set_option maxRecDepth 100000
open Go.RowKit

theorem r6_SideE0 (x y : Int) (w : World) (x0 : 0 ≤ x) (x1 : x ≤ 2147483648) (y0 : 0 ≤ y) (y1 : y ≤ 2147483648) :
    Calls Tryz.prog 250 #[.int .i64 0, .int .i64 x, .int .i64 y] w fun e w' => e = .returned (.int .i64 (sgI (-y))) ∧ ∃ d, w' = bw w d := by
  have HS := Lib.hid (fun W => r6_sign (-y) W)
  have ky : IntKind.i64.wrap y = y := IntWalk.i64_in _ (by omega)
  have kx : IntKind.i64.wrap x = x := IntWalk.i64_in _ (by omega)
  have kn : IntKind.i64.wrap (-y) = -y := IntWalk.i64_in _ (by omega)
  clear x0 x1 y0 y1
  refine lay_start ?_
  go_enter Tryz.func250, Tryz.ntmps250
  go_wp2_with (go_at_call 303; refine (HS.out _).mono ?_; rintro e w' ⟨rfl, d1, rfl⟩; rw [lay_bw])
  refine region_bw (by kernel_rfl) (by kernel_rfl) ?_
  repeat (go_big_quiet_step ((first | fail)))
  refine wpQuiet_nil ?_
  rintro w' ⟨d, rfl⟩
  rw [lay_bw]
  go_wp2_with (go_at_call 303; refine (HS.out _).mono ?_; rintro e w' ⟨rfl, d1, rfl⟩; rw [lay_bw])
  go_ret
  exact ⟨rfl, lay_ex _ _⟩
theorem r6_SideE1 (x y : Int) (w : World) (x0 : 0 ≤ x) (x1 : x ≤ 2147483648) (y0 : 0 ≤ y) (y1 : y ≤ 2147483648) :
    Calls Tryz.prog 250 #[.int .i64 2700000, .int .i64 x, .int .i64 y] w fun e w' => e = .returned (.int .i64 (sgI (x - y))) ∧ ∃ d, w' = bw w d := by
  have HS := Lib.hid (fun W => r6_sign (x - y) W)
  have ky : IntKind.i64.wrap y = y := IntWalk.i64_in _ (by omega)
  have kx : IntKind.i64.wrap x = x := IntWalk.i64_in _ (by omega)
  have kn : IntKind.i64.wrap (x - y) = x - y := IntWalk.i64_in _ (by omega)
  clear x0 x1 y0 y1
  refine lay_start ?_
  go_enter Tryz.func250, Tryz.ntmps250
  go_wp2_with (go_at_call 303; refine (HS.out _).mono ?_; rintro e w' ⟨rfl, d1, rfl⟩; rw [lay_bw])
  refine region_bw (by kernel_rfl) (by kernel_rfl) ?_
  repeat (go_big_quiet_step ((first | fail)))
  refine wpQuiet_nil ?_
  rintro w' ⟨d, rfl⟩
  rw [lay_bw]
  go_wp2_with (go_at_call 303; refine (HS.out _).mono ?_; rintro e w' ⟨rfl, d1, rfl⟩; rw [lay_bw])
  go_ret
  exact ⟨rfl, lay_ex _ _⟩
theorem r6_SideE2 (x y : Int) (w : World) (x0 : 0 ≤ x) (x1 : x ≤ 2147483648) (y0 : 0 ≤ y) (y1 : y ≤ 2147483648) :
    Calls Tryz.prog 250 #[.int .i64 5400000, .int .i64 x, .int .i64 y] w fun e w' => e = .returned (.int .i64 (sgI x)) ∧ ∃ d, w' = bw w d := by
  have HS := Lib.hid (fun W => r6_sign x W)
  have ky : IntKind.i64.wrap y = y := IntWalk.i64_in _ (by omega)
  have kx : IntKind.i64.wrap x = x := IntWalk.i64_in _ (by omega)
  clear x0 x1 y0 y1
  refine lay_start ?_
  go_enter Tryz.func250, Tryz.ntmps250
  go_wp2_with (go_at_call 303; refine (HS.out _).mono ?_; rintro e w' ⟨rfl, d1, rfl⟩; rw [lay_bw])
  refine region_bw (by kernel_rfl) (by kernel_rfl) ?_
  repeat (go_big_quiet_step ((first | fail)))
  refine wpQuiet_nil ?_
  rintro w' ⟨d, rfl⟩
  rw [lay_bw]
  go_wp2_with (go_at_call 303; refine (HS.out _).mono ?_; rintro e w' ⟨rfl, d1, rfl⟩; rw [lay_bw])
  go_ret
  exact ⟨rfl, lay_ex _ _⟩
theorem arith_n {n : Nat} (h0 : 1 ≤ n) (h1 : n ≠ 2700000) (h2 : n < 5400000) : ((n : Int) % 2700000 == 0) = false := by
  refine beq_eq_false_iff_ne.2 ?_
  intro h
  omega
theorem r6_SideGx (hF : FarU 2699999) (n : Nat) (x y : Int) (w : World) (h0 : 1 ≤ n) (h1 : n ≠ 2700000) (h2 : n < 5400000) (x0 : 0 < x) (x1 : x ≤ 2147483648) (y0 : 0 ≤ y) (y1 : y ≤ 2147483648) :
    Calls Tryz.prog 250 #[.int .i64 (n : Int), .int .i64 x, .int .i64 y] w fun e w' => e = .returned (.int .i64 (sideV n x y)) ∧ ∃ d, w' = bw w d := by
  have hxy : x ≠ 0 ∨ y ≠ 0 := .inl (by omega)
  have cx : (x == 0) = false := beq_eq_false_iff_ne.2 (by omega)
  have HQ := Lib.hid (fun W => r6_quickSide n x y W h0 h2 (by omega) x1 y0 y1)
  have HLm := Lib.hid (fun k (hk : k = 3 ∨ k = 4) => lim_ok hF hk h0 h1 h2 (show 0 ≤ x by omega) x1 y0 y1 hxy)
  have hqs := qs_side (x := x) (y := y) h0 h1 h2 (by omega) y0
  have HOx := Lib.hid (fun W => dg_OfInt x W (by omega))
  have HOy := Lib.hid (fun W => dg_OfInt y W (by omega))
  have HO1 := Lib.hid (fun W => dg_OfInt 1024 W (by omega))
  have HO2 := Lib.hid (fun W => dg_OfInt 4294967296 W (by omega))
  have HNs := Lib.hid (fun k W (hk : k = 3 ∨ k = 4) => r6_NearS n k W hk h2)
  have HNc := Lib.hid (fun k W (hk : k = 3 ∨ k = 4) => r6_NearC n k W hk h2)
  have HMu := Lib.hid (fun W v1 v2 a b k1 k2 (q1 : NmK W v1 a k1) (q2 : NmK W v2 b k2) (b1 : k1 ≤ 1000) (b2 : k2 ≤ 1000) => dg_Mul v1 v2 a b k1 k2 W q1 q2 b1 b2)
  have HMi := Lib.hid (fun W v a k (q1 : NmK W v a k) => dg_Minus v a k W q1)
  have HPl := Lib.hid (fun W v1 v2 a b k1 k2 (q1 : NmK W v1 a k1) (q2 : NmK W v2 b k2) (b1 : k1 ≤ 1000) (b2 : k2 ≤ 1000) => dg_Plus v1 v2 a b k1 k2 W q1 q2 b1 b2)
  have HOr := Lib.hid (fun W va vb a b (ha : Sl W va a) (hb : Sl W vb b) (ca : Can a) (cb : Can b) => dg_Order va vb a b W ha hb ca cb)
  have f1 : (n : Int) % 21600000 = (n : Int) := by omega
  have g1 := arith_n h0 h1 h2
  obtain ⟨N2, hN2⟩ : ∃ N2 : Int, (n : Int) + 5400000 = N2 := ⟨_, rfl⟩
  rw [hN2] at HNc
  have kn2 : IntKind.i64.wrap N2 = N2 := IntWalk.i64_in _ (by omega)
  generalize qsV n x y = t at *
  obtain ⟨R, hR⟩ : ∃ R, sideV n x y = R := ⟨_, rfl⟩
  rw [hR] at hqs ⊢
  have HR := Lib.hid hR
  clear hR hF h0 h1 h2 x0 x1 y0 y1 hxy
  rcases hqs with rfl | ⟨rfl, hpm⟩
  · refine lay_start ?_
    go_enter Tryz.func250, Tryz.ntmps250
    go_wp2_with (go_at_call 304; refine (HQ.out _).mono ?_; rintro e w' ⟨rfl, d0, rfl⟩; rw [lay_bw])
    go_loopw [11] (fun v11 wr => ∃ (k : Nat) (dd : Ext), (k = 3 ∨ k = 4) ∧ v11 = .int .i64 (k : Int) ∧ wr = lay w [.inr dd]) (fun v11 _ => (5 - intOf v11).toNat)
    case atStart => exact ⟨3, d0, .inl rfl, rfl, rfl⟩
    case round =>
      obtain ⟨k, dd, hk, rfl, rfl⟩ := hrel
      have HK := Lib.hid hk
      have k12 : (k : Int) ≤ 12 := by omega
      have kk : IntKind.i64.wrap ((k : Int) + 1) = (k : Int) + 1 := IntWalk.i64_in _ (by omega)
      have hlm := HLm.out k hk
      have hn1 := fun W => HNs.out k W hk
      have hn2 := fun W => HNc.out k W hk
      generalize siM (mK k) (piK k) n = si at *
      generalize coM (mK k) (piK k) n = co at *
      have HL := Lib.hid hlm
      have HN1 := Lib.hid hn1
      have HN2 := Lib.hid hn2
      clear hk hlm hn1 hn2 HLm HNs HNc HQ
      go_wp2_with fail
      refine (HOx.out _).mono ?_
      rintro e w' ⟨v1, d1, rfl, rfl, hv⟩
      rw [lay_bw] at hv ⊢
      have H1 := Lib.hid hv.k
      clear hv
      go_wp2_with fail
      refine (HN1.out _).mono ?_
      rintro e w' ⟨v2, d2, rfl, rfl, hv⟩
      rw [lay_bw] at hv ⊢
      have H2 := Lib.hid hv.k
      clear hv
      go_wp2_with fail
      refine (HMu.out _ _ _ _ _ _ _ (nmK_on (A := [.inr d2]) H1.out) H2.out (by decide) (by decide)).mono ?_
      rintro e w' ⟨v3, d3, rfl, rfl, hv⟩
      rw [lay_bw] at hv ⊢
      have hvk := hv.k
      obtain ⟨aA, aC, aL, aG, rfl, -, -, -⟩ := hv
      obtain ⟨aN, haN⟩ : ∃ m, aL.length = m := ⟨_, rfl⟩
      rw [haN] at hvk ⊢
      have HA := Lib.hid hvk
      clear hvk haN
      go_wp2_with fail
      refine (HOy.out _).mono ?_
      rintro e w' ⟨v4, d4, rfl, rfl, hv⟩
      rw [lay_bw] at hv ⊢
      have H4 := Lib.hid hv.k
      clear hv
      go_wp2_with fail
      refine (HN2.out _).mono ?_
      rintro e w' ⟨v5, d5, rfl, rfl, hv⟩
      rw [lay_bw] at hv ⊢
      have H5 := Lib.hid hv.k
      clear hv
      go_wp2_with fail
      refine (HMu.out _ _ _ _ _ _ _ (nmK_on (A := [.inr d5]) H4.out) H5.out (by decide) (by decide)).mono ?_
      rintro e w' ⟨v6, d6, rfl, rfl, hv⟩
      rw [lay_bw] at hv ⊢
      have hvk := hv.k
      obtain ⟨bA, bC, bL, bG, rfl, -, -, -⟩ := hv
      obtain ⟨bN, hbN⟩ : ∃ m, bL.length = m := ⟨_, rfl⟩
      rw [hbN] at hvk ⊢
      have HB := Lib.hid hvk
      clear hvk hbN
      go_wp2_with fail
      have HBT : Hid (NmK (lay w [.inl (.cells #[.slice bA bN bC, .bool bG] 276 (0, 0)), .inr d6, .inr d5, .inr d4, .inl (.cells #[.slice aA aN aC, .bool aG] 276 (0, 0)), .inr d3, .inr d2, .inr d1, .inr dd]) (.agg #[.slice bA bN bC, .bool bG]) (y * co) (3 + 300)) := Lib.hid (nmK_on (A := [.inl (.cells #[.slice bA bN bC, .bool bG] 276 (0, 0))]) HB.out)
      have HAT : Hid (NmK (lay w [.inl (.cells #[.slice bA bN bC, .bool bG] 276 (0, 0)), .inr d6, .inr d5, .inr d4, .inl (.cells #[.slice aA aN aC, .bool aG] 276 (0, 0)), .inr d3, .inr d2, .inr d1, .inr dd]) (.agg #[.slice aA aN aC, .bool aG]) (x * si) (3 + 300)) := Lib.hid (nmK_on (A := [.inl (.cells #[.slice bA bN bC, .bool bG] 276 (0, 0)), .inr d6, .inr d5, .inr d4, .inl (.cells #[.slice aA aN aC, .bool aG] 276 (0, 0))]) HA.out)
      clear HA HB H1 H2 H4 H5 HN1 HN2 HOx HOy
      refine region_mixB 5 (.q 0 (.q 1 (.two 2 (.two 3 (.one 4 .done) 4 (.one 3 .done)) 4 (.one 2 (.one 3 .done))))) (by kernel_rfl) (by kernel_rfl) (by kernel_rfl) (by kernel_rfl) (by simp) (by kernel_rfl) ?_
      simp only [List.drop_succ_cons, List.drop_zero]
      repeat (refine wpMB_quiet rfl (fun K hK => ?_); go_simp; refine hK _ ?_; clear hK K)
      refine wpMB_two ?_ ?_
      · refine spB_of rfl (fun K hK eM => ?_)
        rw [lay_bw]
        go_simp
        refine (HMi.out _ _ _ _ (nmK_on (A := [.inr eM]) HBT.out)).mono ?_
        rintro e w' ⟨vM, dM, rfl, rfl, hM⟩
        rw [lay_bw] at hM ⊢
        have HMM := Lib.hid hM
        clear hM
        refine ⟨_, rfl, hK _ _ (lay_in w [.inr dM, .inr eM] [.inl (.cells #[.slice bA bN bC, .bool bG] 276 (0, 0)), .inr d6, .inr d5, .inr d4, .inl (.cells #[.slice aA aN aC, .bool aG] 276 (0, 0)), .inr d3, .inr d2, .inr d1, .inr dd]) ?_⟩
        clear hK K
        refine wpMB_two ?_ ?_
        · refine spB_of rfl (fun K hK eP => ?_)
          rw [lay_bw]
          go_simp
          refine (HPl.out _ _ _ _ _ _ _ (nmK_on (A := [.inr eP, .inr dM, .inr eM]) HAT.out) (nmK_on (A := [.inr eP]) HMM.out) (by decide) (by decide)).mono ?_
          rintro e w' ⟨vP, dP, rfl, rfl, hP⟩
          obtain ⟨A, C, l, ng, rfl, ho, hnk, -⟩ := hP
          rw [lay_bw] at ho ⊢
          have HNK := Lib.hid hnk
          obtain ⟨m, hm⟩ : ∃ m, l.length = m := ⟨_, rfl⟩
          rw [hm] at ho ⊢
          have HOw := Lib.hid ho
          clear hm hnk ho
          refine ⟨_, rfl, hK _ _ (lay_in w [.inr dP, .inr eP, .inr dM, .inr eM] [.inl (.cells #[.slice bA bN bC, .bool bG] 276 (0, 0)), .inr d6, .inr d5, .inr d4, .inl (.cells #[.slice aA aN aC, .bool aG] 276 (0, 0)), .inr d3, .inr d2, .inr d1, .inr dd]) ?_⟩
          clear hK K
          refine wpMB_one ?_
          refine spB_of rfl (fun K hK eA => ?_)
          go_simp
          refine hK _ _ (lay_in w [.inl (.cells #[.slice none 0 0, .bool false] 276 (0, 0)), .inr eA, .inr dP, .inr eP, .inr dM, .inr eM] [.inl (.cells #[.slice bA bN bC, .bool bG] 276 (0, 0)), .inr d6, .inr d5, .inr d4, .inl (.cells #[.slice aA aN aC, .bool aG] 276 (0, 0)), .inr d3, .inr d2, .inr d1, .inr dd]) ?_
          clear hK K
          refine wpMB_done (fun dz => ?_)
          show wpList _ _ _ _ _ _
          rw [lay_bw]
          go_wp2_with fail
          have HSl : Hid (Sl (lay w [.inr dz, .inl (.cells #[.slice A m C, .bool ng] 276 (0, 0)), .inr eA, .inr dP, .inr eP, .inr dM, .inr eM, .inl (.cells #[.slice bA bN bC, .bool bG] 276 (0, 0)), .inr d6, .inr d5, .inr d4, .inl (.cells #[.slice aA aN aC, .bool aG] 276 (0, 0)), .inr d3, .inr d2, .inr d1, .inr dd]) (.slice A m C) l) := Lib.hid (sl_on (A := [.inr dz, .inl (.cells #[.slice A m C, .bool ng] 276 (0, 0)), .inr eA]) HOw.out.sl)
          clear HOw HMM HBT HAT
          refine (HO1.out _).mono ?_
          rintro e w' ⟨v7, d7, rfl, rfl, hv⟩
          rw [lay_bw] at hv ⊢
          have H7 := Lib.hid hv.k
          clear hv
          go_wp2_with fail
          refine (HO2.out _).mono ?_
          rintro e w' ⟨v8, d8, rfl, rfl, hv⟩
          rw [lay_bw] at hv ⊢
          have H8 := Lib.hid hv.k
          clear hv
          go_wp2_with fail
          refine (HMu.out _ _ _ _ _ _ _ (nmK_on (A := [.inr d8]) H7.out) H8.out (by decide) (by decide)).mono ?_
          rintro e w' ⟨v9, d9, rfl, rfl, hv⟩
          rw [lay_bw] at hv ⊢
          obtain ⟨cA, cC, cL, cG, rfl, ho, hnk, -⟩ := hv
          have hcv : valD cL = (e42 : Int) := by rw [hnk.abs]; rfl
          obtain ⟨cN, hcN⟩ : ∃ m, cL.length = m := ⟨_, rfl⟩
          rw [hcN] at ho ⊢
          have HCo := Lib.hid (And.intro ho.sl (And.intro hnk.can hcv))
          clear ho hnk hcv hcN H7 H8
          go_wp2_with fail
          refine (HOr.out _ _ _ l cL (sl_on (A := [.inl (.cells #[.slice cA cN cC, .bool cG] 276 (0, 0)), .inr d9, .inr d8, .inr d7]) HSl.out) (sl_on (A := [.inl (.cells #[.slice cA cN cC, .bool cG] 276 (0, 0))]) HCo.out.1) HNK.out.can HCo.out.2.1).mono ?_
          rintro e w' ⟨rfl, d10, rfl⟩
          rw [lay_bw]
          have hva := HNK.out.abs
          have hng := HNK.out.neg_iff
          have hup := HL.out.up
          have hdn := HL.out.dn
          have hfo := HL.out.four
          have hcv := HCo.out.2.2
          generalize x * si + -(y * co) = D at *
          by_cases hgt : valD cL < valD l
          · rw [ord_gt hgt]
            cases ng
            · have hD : ¬ D < 0 := fun h => by rw [decide_eq_true h] at hng; cases hng
              have hR1 : R = 1 := by rw [← HR.out]; exact hup (by omega)
              subst hR1
              clear hva hng hup hdn hfo hcv hgt hD
              go_wp2_with fail
              go_ret
              exact ⟨rfl, lay_ex _ _⟩
            · have hD : D < 0 := of_decide_eq_true hng.symm
              have hR1 : R = -1 := by rw [← HR.out]; exact hdn (by omega)
              subst hR1
              clear hva hng hup hdn hfo hcv hgt hD
              go_wp2_with fail
              go_ret
              exact ⟨rfl, lay_ex _ _⟩
          · have h3 : k = 3 := by
              rcases HK.out with h | h
              · exact h
              · exfalso
                have := hfo h
                omega
            subst h3
            obtain ⟨O, hO⟩ : ∃ O, ordI (valD l) (valD cL) = O := ⟨_, rfl⟩
            have tO : ¬ (0 : Int) < O := by
              rw [← hO]
              unfold ordI
              split <;> first | decide | (rw [if_neg hgt]; decide)
            rw [hO]
            clear hva hng hup hdn hfo hcv hgt hO
            go_wp2_with fail
            go_roundw
            case rel => exact ⟨4, _, .inr rfl, rfl, (lay_ex w _).choose_spec⟩
            case measure => simp [intOf]
        · refine spB_of rfl (fun K hK eA => ?_)
          go_simp
          refine hK _ _ (lay_in w [.inl (.cells #[.slice none 0 0, .bool false] 276 (0, 0)), .inr eA, .inr dM, .inr eM] [.inl (.cells #[.slice bA bN bC, .bool bG] 276 (0, 0)), .inr d6, .inr d5, .inr d4, .inl (.cells #[.slice aA aN aC, .bool aG] 276 (0, 0)), .inr d3, .inr d2, .inr d1, .inr dd]) ?_
          clear hK K
          refine wpMB_one ?_
          refine spB_of rfl (fun K hK eP => ?_)
          rw [lay_bw]
          go_simp
          refine (HPl.out _ _ _ _ _ _ _ (nmK_on (A := [.inr eP, .inl (.cells #[.slice none 0 0, .bool false] 276 (0, 0)), .inr eA, .inr dM, .inr eM]) HAT.out) (nmK_on (A := [.inr eP, .inl (.cells #[.slice none 0 0, .bool false] 276 (0, 0)), .inr eA]) HMM.out) (by decide) (by decide)).mono ?_
          rintro e w' ⟨vP, dP, rfl, rfl, hP⟩
          obtain ⟨A, C, l, ng, rfl, ho, hnk, -⟩ := hP
          rw [lay_bw] at ho ⊢
          have HNK := Lib.hid hnk
          obtain ⟨m, hm⟩ : ∃ m, l.length = m := ⟨_, rfl⟩
          rw [hm] at ho ⊢
          have HOw := Lib.hid ho
          clear hm hnk ho
          refine ⟨_, rfl, hK _ _ (lay_in w [.inr dP, .inr eP, .inl (.cells #[.slice none 0 0, .bool false] 276 (0, 0)), .inr eA, .inr dM, .inr eM] [.inl (.cells #[.slice bA bN bC, .bool bG] 276 (0, 0)), .inr d6, .inr d5, .inr d4, .inl (.cells #[.slice aA aN aC, .bool aG] 276 (0, 0)), .inr d3, .inr d2, .inr d1, .inr dd]) ?_⟩
          clear hK K
          refine wpMB_done (fun dz => ?_)
          show wpList _ _ _ _ _ _
          rw [lay_bw]
          go_wp2_with fail
          have HSl : Hid (Sl (lay w [.inr dz, .inr dP, .inr eP, .inl (.cells #[.slice A m C, .bool ng] 276 (0, 0)), .inr eA, .inr dM, .inr eM, .inl (.cells #[.slice bA bN bC, .bool bG] 276 (0, 0)), .inr d6, .inr d5, .inr d4, .inl (.cells #[.slice aA aN aC, .bool aG] 276 (0, 0)), .inr d3, .inr d2, .inr d1, .inr dd]) (.slice A m C) l) := Lib.hid (sl_on (A := [.inr dz]) (ow_keepA (.cells #[.slice A m C, .bool ng] 276 (0, 0)) [.inr dP, .inr eP] (lay_lt2 w _ _ [.inr eP]) HOw.out).sl)
          clear HOw HMM HBT HAT
          refine (HO1.out _).mono ?_
          rintro e w' ⟨v7, d7, rfl, rfl, hv⟩
          rw [lay_bw] at hv ⊢
          have H7 := Lib.hid hv.k
          clear hv
          go_wp2_with fail
          refine (HO2.out _).mono ?_
          rintro e w' ⟨v8, d8, rfl, rfl, hv⟩
          rw [lay_bw] at hv ⊢
          have H8 := Lib.hid hv.k
          clear hv
          go_wp2_with fail
          refine (HMu.out _ _ _ _ _ _ _ (nmK_on (A := [.inr d8]) H7.out) H8.out (by decide) (by decide)).mono ?_
          rintro e w' ⟨v9, d9, rfl, rfl, hv⟩
          rw [lay_bw] at hv ⊢
          obtain ⟨cA, cC, cL, cG, rfl, ho, hnk, -⟩ := hv
          have hcv : valD cL = (e42 : Int) := by rw [hnk.abs]; rfl
          obtain ⟨cN, hcN⟩ : ∃ m, cL.length = m := ⟨_, rfl⟩
          rw [hcN] at ho ⊢
          have HCo := Lib.hid (And.intro ho.sl (And.intro hnk.can hcv))
          clear ho hnk hcv hcN H7 H8
          go_wp2_with fail
          refine (HOr.out _ _ _ l cL (sl_on (A := [.inl (.cells #[.slice cA cN cC, .bool cG] 276 (0, 0)), .inr d9, .inr d8, .inr d7]) HSl.out) (sl_on (A := [.inl (.cells #[.slice cA cN cC, .bool cG] 276 (0, 0))]) HCo.out.1) HNK.out.can HCo.out.2.1).mono ?_
          rintro e w' ⟨rfl, d10, rfl⟩
          rw [lay_bw]
          have hva := HNK.out.abs
          have hng := HNK.out.neg_iff
          have hup := HL.out.up
          have hdn := HL.out.dn
          have hfo := HL.out.four
          have hcv := HCo.out.2.2
          generalize x * si + -(y * co) = D at *
          by_cases hgt : valD cL < valD l
          · rw [ord_gt hgt]
            cases ng
            · have hD : ¬ D < 0 := fun h => by rw [decide_eq_true h] at hng; cases hng
              have hR1 : R = 1 := by rw [← HR.out]; exact hup (by omega)
              subst hR1
              clear hva hng hup hdn hfo hcv hgt hD
              go_wp2_with fail
              go_ret
              exact ⟨rfl, lay_ex _ _⟩
            · have hD : D < 0 := of_decide_eq_true hng.symm
              have hR1 : R = -1 := by rw [← HR.out]; exact hdn (by omega)
              subst hR1
              clear hva hng hup hdn hfo hcv hgt hD
              go_wp2_with fail
              go_ret
              exact ⟨rfl, lay_ex _ _⟩
          · have h3 : k = 3 := by
              rcases HK.out with h | h
              · exact h
              · exfalso
                have := hfo h
                omega
            subst h3
            obtain ⟨O, hO⟩ : ∃ O, ordI (valD l) (valD cL) = O := ⟨_, rfl⟩
            have tO : ¬ (0 : Int) < O := by
              rw [← hO]
              unfold ordI
              split <;> first | decide | (rw [if_neg hgt]; decide)
            rw [hO]
            clear hva hng hup hdn hfo hcv hgt hO
            go_wp2_with fail
            go_roundw
            case rel => exact ⟨4, _, .inr rfl, rfl, (lay_ex w _).choose_spec⟩
            case measure => simp [intOf]
      · refine spB_of rfl (fun K hK eA => ?_)
        go_simp
        refine hK _ _ (lay_in w [.inl (.cells #[.slice none 0 0, .bool false] 276 (0, 0)), .inr eA] [.inl (.cells #[.slice bA bN bC, .bool bG] 276 (0, 0)), .inr d6, .inr d5, .inr d4, .inl (.cells #[.slice aA aN aC, .bool aG] 276 (0, 0)), .inr d3, .inr d2, .inr d1, .inr dd]) ?_
        clear hK K
        refine wpMB_one ?_
        refine spB_of rfl (fun K hK eM => ?_)
        rw [lay_bw]
        go_simp
        refine (HMi.out _ _ _ _ (nmK_on (A := [.inr eM, .inl (.cells #[.slice none 0 0, .bool false] 276 (0, 0)), .inr eA]) HBT.out)).mono ?_
        rintro e w' ⟨vM, dM, rfl, rfl, hM⟩
        rw [lay_bw] at hM ⊢
        have HMM := Lib.hid hM
        clear hM
        refine ⟨_, rfl, hK _ _ (lay_in w [.inr dM, .inr eM, .inl (.cells #[.slice none 0 0, .bool false] 276 (0, 0)), .inr eA] [.inl (.cells #[.slice bA bN bC, .bool bG] 276 (0, 0)), .inr d6, .inr d5, .inr d4, .inl (.cells #[.slice aA aN aC, .bool aG] 276 (0, 0)), .inr d3, .inr d2, .inr d1, .inr dd]) ?_⟩
        clear hK K
        refine wpMB_one ?_
        refine spB_of rfl (fun K hK eP => ?_)
        rw [lay_bw]
        go_simp
        refine (HPl.out _ _ _ _ _ _ _ (nmK_on (A := [.inr eP, .inr dM, .inr eM, .inl (.cells #[.slice none 0 0, .bool false] 276 (0, 0)), .inr eA]) HAT.out) (nmK_on (A := [.inr eP]) HMM.out) (by decide) (by decide)).mono ?_
        rintro e w' ⟨vP, dP, rfl, rfl, hP⟩
        obtain ⟨A, C, l, ng, rfl, ho, hnk, -⟩ := hP
        rw [lay_bw] at ho ⊢
        have HNK := Lib.hid hnk
        obtain ⟨m, hm⟩ : ∃ m, l.length = m := ⟨_, rfl⟩
        rw [hm] at ho ⊢
        have HOw := Lib.hid ho
        clear hm hnk ho
        refine ⟨_, rfl, hK _ _ (lay_in w [.inr dP, .inr eP, .inr dM, .inr eM, .inl (.cells #[.slice none 0 0, .bool false] 276 (0, 0)), .inr eA] [.inl (.cells #[.slice bA bN bC, .bool bG] 276 (0, 0)), .inr d6, .inr d5, .inr d4, .inl (.cells #[.slice aA aN aC, .bool aG] 276 (0, 0)), .inr d3, .inr d2, .inr d1, .inr dd]) ?_⟩
        clear hK K
        refine wpMB_done (fun dz => ?_)
        show wpList _ _ _ _ _ _
        rw [lay_bw]
        go_wp2_with fail
        have HSl : Hid (Sl (lay w [.inr dz, .inr dP, .inr eP, .inr dM, .inr eM, .inl (.cells #[.slice A m C, .bool ng] 276 (0, 0)), .inr eA, .inl (.cells #[.slice bA bN bC, .bool bG] 276 (0, 0)), .inr d6, .inr d5, .inr d4, .inl (.cells #[.slice aA aN aC, .bool aG] 276 (0, 0)), .inr d3, .inr d2, .inr d1, .inr dd]) (.slice A m C) l) := Lib.hid (sl_on (A := [.inr dz]) (ow_keepA (.cells #[.slice A m C, .bool ng] 276 (0, 0)) [.inr dP, .inr eP, .inr dM, .inr eM] (lay_lt2 w _ _ [.inr eP, .inr dM, .inr eM]) HOw.out).sl)
        clear HOw HMM HBT HAT
        refine (HO1.out _).mono ?_
        rintro e w' ⟨v7, d7, rfl, rfl, hv⟩
        rw [lay_bw] at hv ⊢
        have H7 := Lib.hid hv.k
        clear hv
        go_wp2_with fail
        refine (HO2.out _).mono ?_
        rintro e w' ⟨v8, d8, rfl, rfl, hv⟩
        rw [lay_bw] at hv ⊢
        have H8 := Lib.hid hv.k
        clear hv
        go_wp2_with fail
        refine (HMu.out _ _ _ _ _ _ _ (nmK_on (A := [.inr d8]) H7.out) H8.out (by decide) (by decide)).mono ?_
        rintro e w' ⟨v9, d9, rfl, rfl, hv⟩
        rw [lay_bw] at hv ⊢
        obtain ⟨cA, cC, cL, cG, rfl, ho, hnk, -⟩ := hv
        have hcv : valD cL = (e42 : Int) := by rw [hnk.abs]; rfl
        obtain ⟨cN, hcN⟩ : ∃ m, cL.length = m := ⟨_, rfl⟩
        rw [hcN] at ho ⊢
        have HCo := Lib.hid (And.intro ho.sl (And.intro hnk.can hcv))
        clear ho hnk hcv hcN H7 H8
        go_wp2_with fail
        refine (HOr.out _ _ _ l cL (sl_on (A := [.inl (.cells #[.slice cA cN cC, .bool cG] 276 (0, 0)), .inr d9, .inr d8, .inr d7]) HSl.out) (sl_on (A := [.inl (.cells #[.slice cA cN cC, .bool cG] 276 (0, 0))]) HCo.out.1) HNK.out.can HCo.out.2.1).mono ?_
        rintro e w' ⟨rfl, d10, rfl⟩
        rw [lay_bw]
        have hva := HNK.out.abs
        have hng := HNK.out.neg_iff
        have hup := HL.out.up
        have hdn := HL.out.dn
        have hfo := HL.out.four
        have hcv := HCo.out.2.2
        generalize x * si + -(y * co) = D at *
        by_cases hgt : valD cL < valD l
        · rw [ord_gt hgt]
          cases ng
          · have hD : ¬ D < 0 := fun h => by rw [decide_eq_true h] at hng; cases hng
            have hR1 : R = 1 := by rw [← HR.out]; exact hup (by omega)
            subst hR1
            clear hva hng hup hdn hfo hcv hgt hD
            go_wp2_with fail
            go_ret
            exact ⟨rfl, lay_ex _ _⟩
          · have hD : D < 0 := of_decide_eq_true hng.symm
            have hR1 : R = -1 := by rw [← HR.out]; exact hdn (by omega)
            subst hR1
            clear hva hng hup hdn hfo hcv hgt hD
            go_wp2_with fail
            go_ret
            exact ⟨rfl, lay_ex _ _⟩
        · have h3 : k = 3 := by
            rcases HK.out with h | h
            · exact h
            · exfalso
              have := hfo h
              omega
          subst h3
          obtain ⟨O, hO⟩ : ∃ O, ordI (valD l) (valD cL) = O := ⟨_, rfl⟩
          have tO : ¬ (0 : Int) < O := by
            rw [← hO]
            unfold ordI
            split <;> first | decide | (rw [if_neg hgt]; decide)
          rw [hO]
          clear hva hng hup hdn hfo hcv hgt hO
          go_wp2_with fail
          go_roundw
          case rel => exact ⟨4, _, .inr rfl, rfl, (lay_ex w _).choose_spec⟩
          case measure => simp [intOf]
  · have t1 : (t != 0) = true := by rcases hpm with rfl | rfl <;> rfl
    have t2 : (t == 0) = false := by rcases hpm with rfl | rfl <;> rfl
    clear hpm
    refine lay_start ?_
    go_enter Tryz.func250, Tryz.ntmps250
    go_wp2_with (go_at_call 304; refine (HQ.out _).mono ?_; rintro e w' ⟨rfl, d0, rfl⟩; rw [lay_bw])
    go_ret
    exact ⟨rfl, lay_ex _ _⟩
end Go.Proofs.YtnnmfdeeicpdlaaGreat
/- The reference's guess of a direction: Rough, direction. -/
namespace Go.Proofs.YtnnmfdeeicpdlaaGreat
open Go.RowKit

def rgS (y : Int) : Nat → Int
  | 0 => 1073741824
  | i + 1 => 1073741824 - y * rgS y i / 1073741824 / ((13 - 2 * (i : Int)) * (13 - 2 * (i : Int) - 1))
theorem rgS_in {y : Int} (y0 : 0 ≤ y) (y1 : y ≤ 2700000000) : ∀ i : Nat, i ≤ 6 → 0 ≤ rgS y i ∧ rgS y i ≤ 1073741824
  | 0, _ => ⟨show (0 : Int) ≤ 1073741824 by decide, show (1073741824 : Int) ≤ 1073741824 by decide⟩
  | i + 1, hi => by
    obtain ⟨h0, h1⟩ := rgS_in y0 y1 i (by omega)
    have p0 := Int.mul_nonneg y0 h0
    have p1 := Int.mul_le_mul y1 h1 h0 (show (0 : Int) ≤ 2700000000 by decide)
    unfold rgS
    generalize y * rgS y i = p at *
    have q : 0 ≤ p / 1073741824 ∧ p / 1073741824 ≤ 2700000000 := by omega
    have hd : ∀ {a d : Int}, 0 ≤ a → a ≤ 2700000000 → 6 ≤ d → 0 ≤ a / d ∧ a / d ≤ 450000000 := fun {a d} a0 a1 d6 =>
      ⟨Int.ediv_nonneg a0 (by omega), by
        have h1 := Int.ediv_mul_le a (show d ≠ 0 by omega)
        have h0 := Int.ediv_nonneg a0 (show 0 ≤ d by omega)
        have h2 := Int.mul_le_mul_of_nonneg_left d6 h0
        omega⟩
    have d6 : 6 ≤ (13 - 2 * (i : Int)) * (13 - 2 * (i : Int) - 1) := by
      have := Int.mul_le_mul (show (3 : Int) ≤ 13 - 2 * (i : Int) by omega) (show (2 : Int) ≤ 13 - 2 * (i : Int) - 1 by omega) (by decide) (by omega)
      omega
    have := hd q.1 q.2 d6
    omega
def rghX (n : Nat) : Int := (n : Int) * 3373259426 / 10800000
def rghY (n : Nat) : Int := rghX n * rghX n / 1073741824
def rghV (n : Nat) : Int := rghX n * rgS (rghY n) 6 / 1073741824
theorem rghX_in {n : Nat} (h : n ≤ 5400000) : 0 ≤ rghX n ∧ rghX n ≤ 1686629713 := by unfold rghX; omega
theorem rghY_in {n : Nat} (h : n ≤ 5400000) : 0 ≤ rghX n * rghX n ∧ rghX n * rghX n ≤ 2844719788774462369 ∧ 0 ≤ rghY n ∧ rghY n ≤ 2700000000 := by
  obtain ⟨a, b⟩ := rghX_in h
  have p0 := Int.mul_nonneg a a
  have p1 := Int.mul_le_mul b b a (show (0 : Int) ≤ 1686629713 by decide)
  unfold rghY
  generalize rghX n * rghX n = p at *
  omega
theorem rghV_in {n : Nat} (h : n ≤ 5400000) : 0 ≤ rghX n * rgS (rghY n) 6 ∧ rghX n * rgS (rghY n) 6 ≤ 1811004864449216512 ∧ 0 ≤ rghV n ∧ rghV n ≤ 1686629713 := by
  obtain ⟨a, b⟩ := rghX_in h
  obtain ⟨-, -, y0, y1⟩ := rghY_in h
  obtain ⟨s0, s1⟩ := rgS_in y0 y1 6 (by decide)
  have p0 := Int.mul_nonneg a s0
  have p1 := Int.mul_le_mul b s1 s0 (show (0 : Int) ≤ 1686629713 by decide)
  unfold rghV
  generalize rghX n * rgS (rghY n) 6 = p at *
  omega
set_option maxHeartbeats 2000000 in
set_option maxRecDepth 100000 in
theorem r7_RoughN (n : Nat) (w : World) (h : n ≤ 5400000) :
    Calls Tryz.prog 251 #[.int .i64 (n : Int)] w fun e w' => e = .returned (.int .i64 (rghV n)) ∧ ∃ d, w' = bw w d := by
  obtain ⟨x0, x1⟩ := rghX_in h
  obtain ⟨q0, q1, y0, y1⟩ := rghY_in h
  obtain ⟨v0, v1, -, -⟩ := rghV_in h
  have hS := rgS_in y0 y1
  have HS := Lib.hid hS
  have hV : rghX n * rgS (rghY n) 6 / 1073741824 = rghV n := rfl
  have hX : (n : Int) * 3373259426 / 10800000 = rghX n := rfl
  have hY : rghX n * rghX n / 1073741824 = rghY n := rfl
  have hstep : ∀ i : Nat, 1073741824 - rghY n * rgS (rghY n) i / 1073741824 / ((13 - 2 * (i : Int)) * (13 - 2 * (i : Int) - 1)) = rgS (rghY n) (i + 1) := fun i => rfl
  have HST := Lib.hid hstep
  generalize rghV n = V at *
  generalize rghX n = X at *
  generalize rghY n = Y at *
  obtain ⟨P, hP⟩ : ∃ P : Int, (n : Int) * 3373259426 = P := ⟨_, rfl⟩
  rw [hP] at hX
  have kP : IntKind.i64.wrap P = P := IntWalk.i64_in _ (by omega)
  have tP : P.tdiv 10800000 = X := by rw [Int.tdiv_eq_ediv_of_nonneg (by omega)]; exact hX
  obtain ⟨Q, hQ⟩ : ∃ Q, X * X = Q := ⟨_, rfl⟩
  rw [hQ] at hY q0 q1
  have kQ : IntKind.i64.wrap Q = Q := IntWalk.i64_in _ (by omega)
  have tQ : Q.tdiv 1073741824 = Y := by rw [Int.tdiv_eq_ediv_of_nonneg q0]; exact hY
  have kX : IntKind.i64.wrap X = X := IntWalk.i64_in _ (by omega)
  have kY : IntKind.i64.wrap Y = Y := IntWalk.i64_in _ (by omega)
  have HV := Lib.hid (And.intro hV (And.intro v0 v1))
  have HYb := Lib.hid (And.intro y0 y1)
  clear hX hY q0 q1 hV v0 v1 x0 x1 y0 y1 hS hstep h
  refine lay_start ?_
  go_enter Tryz.func251, Tryz.ntmps251
  go_wp2_with fail
  go_loop [5, 6] (fun v5 v6 => ∃ (i : Nat) (K : Int), i ≤ 6 ∧ 13 - 2 * (i : Int) = K ∧ v6 = .int .i64 K ∧ v5 = .int .i64 (rgS Y i)) (fun _ v6 => (intOf v6).toNat)
  case atStart => exact ⟨0, 13, by decide, rfl, rfl, rfl⟩
  case round =>
    obtain ⟨i, K, hi, hK, rfl, rfl⟩ := hrel
    by_cases c : i < 6
    · have hs0 := HS.out i hi
      have hs1 := HS.out (i + 1) (by omega)
      have hst := HST.out i
      have hy := HYb.out
      have HI := Lib.hid c
      obtain ⟨K1, hK1⟩ : ∃ K1 : Int, K - 1 = K1 := ⟨_, rfl⟩
      rw [hK, hK1] at hst
      obtain ⟨KK, hKK⟩ : ∃ KK : Int, K * K1 = KK := ⟨_, rfl⟩
      rw [hKK] at hst
      have b1 : 6 ≤ KK ∧ KK ≤ 156 := by
        have m1 := Int.mul_le_mul (show (3 : Int) ≤ K by omega) (show (2 : Int) ≤ K1 by omega) (by decide) (by omega)
        have m2 := Int.mul_le_mul (show K ≤ 13 by omega) (show K1 ≤ 12 by omega) (by omega) (by decide)
        omega
      generalize rgS Y i = t at *
      obtain ⟨p, hp⟩ : ∃ p : Int, Y * t = p := ⟨_, rfl⟩
      have p0 : 0 ≤ p := by rw [← hp]; exact Int.mul_nonneg hy.1 hs0.1
      have p1 : p ≤ 2899102924800000000 := by rw [← hp]; have := Int.mul_le_mul hy.2 hs0.2 hs0.1 (show (0 : Int) ≤ 2700000000 by decide); omega
      rw [hp] at hst
      obtain ⟨r, hr⟩ : ∃ r : Int, p / 1073741824 = r := ⟨_, rfl⟩
      rw [hr] at hst
      have r0 : 0 ≤ r ∧ r ≤ 2700000000 := by omega
      obtain ⟨s, hs⟩ : ∃ s : Int, r / KK = s := ⟨_, rfl⟩
      rw [hs] at hst
      have tp : p.tdiv 1073741824 = r := by rw [Int.tdiv_eq_ediv_of_nonneg p0]; exact hr
      have tr : r.tdiv KK = s := by rw [Int.tdiv_eq_ediv_of_nonneg r0.1]; exact hs
      obtain ⟨u, hu⟩ : ∃ u, rgS Y (i + 1) = u := ⟨_, rfl⟩
      rw [hu] at hst hs1
      have nK : KK ≠ 0 := by omega
      have kK1 : IntKind.i64.wrap K1 = K1 := IntWalk.i64_in _ (by omega)
      have kKK : IntKind.i64.wrap KK = KK := IntWalk.i64_in _ (by omega)
      have kp : IntKind.i64.wrap p = p := IntWalk.i64_in _ (by omega)
      have kr : IntKind.i64.wrap r = r := IntWalk.i64_in _ (by omega)
      have ks : IntKind.i64.wrap s = s := IntWalk.i64_in _ (by omega)
      have ku : IntKind.i64.wrap u = u := IntWalk.i64_in _ (by omega)
      obtain ⟨K2, hK2⟩ : ∃ K2 : Int, K - 2 = K2 := ⟨_, rfl⟩
      have kK2 : IntKind.i64.wrap K2 = K2 := IntWalk.i64_in _ (by omega)
      have c1 : (1 : Int) < K := by omega
      have HK := Lib.hid (show K2 = 13 - 2 * ((i + 1 : Nat) : Int) by omega)
      have HKK := Lib.hid (show K2 < K ∧ 0 < K by omega)
      have HU := Lib.hid hu
      clear hu hs0 hs1 hy b1 p0 p1 r0 hK hi c
      go_wp2_with fail
      go_round
      case rel => exact ⟨i + 1, K2, HI.out, HK.out.symm, rfl, by rw [HU.out]⟩
      case measure => have := HKK.out; simp [intOf]; omega
    · obtain rfl : i = 6 := by omega
      obtain rfl : K = 1 := by omega
      have v0 := HV.out.2.1
      have v1 := HV.out.2.2
      have hv := HV.out.1
      generalize rgS Y 6 = t at *
      obtain ⟨p, hp⟩ : ∃ p : Int, X * t = p := ⟨_, rfl⟩
      rw [hp] at v0 v1 hv
      have kp : IntKind.i64.wrap p = p := IntWalk.i64_in _ (by omega)
      have tp : p.tdiv 1073741824 = V := by rw [Int.tdiv_eq_ediv_of_nonneg v0]; exact hv
      have kV : IntKind.i64.wrap V = V := IntWalk.i64_in _ (by omega)
      clear v0 v1 hi c hK
      go_wp2_with fail
      go_ret
      exact ⟨rfl, lay_ex _ _⟩
end Go.Proofs.YtnnmfdeeicpdlaaGreat
/- No whole point is near to the directions up to 190000 thousandths of a minute, by the kernel. No program in sight. -/
namespace Go.Proofs.YtnnmfdeeicpdlaaGreat
set_option maxRecDepth 100000

def FarN (a s c : Nat) : Prop := FarTo c1U s1U k160 2147483648 1267650600228229401496703205376 a s c
theorem far_1 : FarN 1 425133593245199460169970897845407932666872 1461501637330841085028993473485354317854231948077 := ⟨by decide +kernel, fun r h1 h2 => by omega⟩
theorem far_10000 : FarN 10000 4251329936940783775392260813667500399981857843 1461495454017793841685857527086231697413274335901 := far_1.next 9999 _ _ (by decide +kernel) rfl
theorem far_20000 : FarN 20000 8502623900874820732330221791291652617636133120 1461476904130787266489906083007572049443636236772 := far_10000.next 10000 _ _ (by decide +kernel) rfl
theorem far_30000 : FarN 30000 12753845919099752851535644502602646984011550463 1461445987826844712972547094162030713865379830791 := far_20000.next 10000 _ _ (by decide +kernel) rfl
theorem far_40000 : FarN 40000 17004960019521997136469490118363218055370463892 1461402705367567239345804880632027178477424460283 := far_30000.next 10000 _ _ (by decide +kernel) rfl
theorem far_50000 : FarN 50000 21255930230961126685691004962648781531689345911 1461347057119193228116367732382751977371441922224 := far_40000.next 10000 _ _ (by decide +kernel) rfl
theorem far_60000 : FarN 60000 25506720583454244038465211361374766791586027051 1461279043552595287126909031150840008655417152786 := far_50000.next 10000 _ _ (by decide +kernel) rfl
theorem far_70000 : FarN 70000 29757295108560344218136642322809387412552491956 1461198665243276265225595365493595948319558664347 := far_60000.next 10000 _ _ (by decide +kernel) rfl
theorem far_80000 : FarN 80000 34007617839664664897874331853920309501375769377 1461105922871364382597495406170949774830481647886 := far_70000.next 10000 _ _ (by decide +kernel) rfl
theorem far_90000 : FarN 90000 38257652812283021113502037918487565677369366191 1461000817221607475799094676178499077867166778390 := far_80000.next 10000 _ _ (by decide +kernel) rfl
theorem far_100000 : FarN 100000 42507364064366121948258431256953862795141050495 1460883349183366357544612368235261057425069679045 := far_90000.next 10000 _ _ (by decide +kernel) rfl
theorem far_110000 : FarN 110000 46756715636603866614484529407571797972305128016 1460753519750607291300306968968191106376482316119 := far_100000.next 10000 _ _ (by decide +kernel) rfl
theorem far_120000 : FarN 120000 51005671572729617357409990002762858499948146364 1460611330021893580750447580044693361503950831348 := far_110000.next 10000 _ _ (by decide +kernel) rfl
theorem far_130000 : FarN 130000 55254195919824446606405999288576561421485234595 1460456781200376274206117418705841243093634499907 := far_120000.next 10000 _ _ (by decide +kernel) rfl
theorem far_140000 : FarN 140000 59502252728621355799290399169226991096616149642 1460289874593783984035504970172991588579325798109 := far_130000.next 10000 _ _ (by decide +kernel) rfl
theorem far_150000 : FarN 150000 63749806053809463305510387069045841545139769039 1460110611614411821201826588870158741259683505377 := far_140000.next 10000 _ _ (by decide +kernel) rfl
theorem far_160000 : FarN 160000 67996819954338158874289595502659210747332138115 1459918993779109445002511940960790713535762143858 := far_150000.next 10000 _ _ (by decide +kernel) rfl
theorem far_170000 : FarN 170000 72243258493721222034109610238296156166245683059 1459715022709268228110770483983501903884519248423 := far_160000.next 10000 _ _ (by decide +kernel) rfl
theorem far_180000 : FarN 180000 76489085740340901870201014932108439244277254151 1459498700130807537028143127036613272561783872985 := far_170000.next 10000 _ _ (by decide +kernel) rfl
theorem far_190000 : FarN 190000 80734265767751955607045853522192981506880891910 1459270027874160128064128243663018747495825859769 := far_180000.next 10000 _ _ (by decide +kernel) rfl
end Go.Proofs.YtnnmfdeeicpdlaaGreat
