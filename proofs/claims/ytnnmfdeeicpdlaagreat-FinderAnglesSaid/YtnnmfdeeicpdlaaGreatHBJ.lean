/- Contracts and plain laws, several texts in one: Nd2 -/
import Derived.Test.YtnnmfdeeicpdlaaGreatProg
import Derived.WalkKit
import Derived.WalkSpells
import Derived.WalkLawsBesides
import Derived.Lib.Hide
import Derived.BigQuiet
import Derived.Test.YtnnmfdeeicpdlaaGreatHAC
import Derived.Test.YtnnmfdeeicpdlaaGreatHAD
import Derived.Test.YtnnmfdeeicpdlaaGreatHAE
import Derived.Test.YtnnmfdeeicpdlaaGreatHBA
import Derived.Test.YtnnmfdeeicpdlaaGreatHBI
/- The reference's side of a direction of the first quadrant. -/
namespace Go.Proofs.YtnnmfdeeicpdlaaGreat
set_option maxHeartbeats 8000000
set_option maxRecDepth 100000
open Go.RowKit

theorem r6_SideE0 (x y : Int) (w : World) (x0 : 0 ≤ x) (x1 : x ≤ 2147483648) (y0 : 0 ≤ y) (y1 : y ≤ 2147483648) :
    Calls Tryz.prog 250 #[.int .i64 0, .int .i64 x, .int .i64 y] w fun e w' => e = .returned (.int .i64 (sgI (-y))) ∧ ∃ d, w' = bw w d := by
  have HS := Lib.hid (fun W => r6_sign (-y) W)
  have ky : IntKind.i64.wrap y = y := IntWalk.i64_in _ (by omega)
  have kx : IntKind.i64.wrap x = x := IntWalk.i64_in _ (by omega)
  have kn : IntKind.i64.wrap (-y) = -y := IntWalk.i64_in _ (by omega)
  clear x0 x1 y0 y1
  refine lay_start ?_
  go_enter Tryz.func250, Tryz.ntmps250
  go_wp2_with (go_at_call 303; refine (HS.out _).mono ?_; rintro e w' ⟨rfl, d1, rfl⟩; rw [lay_bw])
  refine region_bw (by kernel_rfl) (by kernel_rfl) ?_
  repeat (go_big_quiet_step ((first | fail)))
  refine wpQuiet_nil ?_
  rintro w' ⟨d, rfl⟩
  rw [lay_bw]
  go_wp2_with (go_at_call 303; refine (HS.out _).mono ?_; rintro e w' ⟨rfl, d1, rfl⟩; rw [lay_bw])
  go_ret
  exact ⟨rfl, lay_ex _ _⟩
theorem r6_SideE1 (x y : Int) (w : World) (x0 : 0 ≤ x) (x1 : x ≤ 2147483648) (y0 : 0 ≤ y) (y1 : y ≤ 2147483648) :
    Calls Tryz.prog 250 #[.int .i64 2700000, .int .i64 x, .int .i64 y] w fun e w' => e = .returned (.int .i64 (sgI (x - y))) ∧ ∃ d, w' = bw w d := by
  have HS := Lib.hid (fun W => r6_sign (x - y) W)
  have ky : IntKind.i64.wrap y = y := IntWalk.i64_in _ (by omega)
  have kx : IntKind.i64.wrap x = x := IntWalk.i64_in _ (by omega)
  have kn : IntKind.i64.wrap (x - y) = x - y := IntWalk.i64_in _ (by omega)
  clear x0 x1 y0 y1
  refine lay_start ?_
  go_enter Tryz.func250, Tryz.ntmps250
  go_wp2_with (go_at_call 303; refine (HS.out _).mono ?_; rintro e w' ⟨rfl, d1, rfl⟩; rw [lay_bw])
  refine region_bw (by kernel_rfl) (by kernel_rfl) ?_
  repeat (go_big_quiet_step ((first | fail)))
  refine wpQuiet_nil ?_
  rintro w' ⟨d, rfl⟩
  rw [lay_bw]
  go_wp2_with (go_at_call 303; refine (HS.out _).mono ?_; rintro e w' ⟨rfl, d1, rfl⟩; rw [lay_bw])
  go_ret
  exact ⟨rfl, lay_ex _ _⟩
theorem r6_SideE2 (x y : Int) (w : World) (x0 : 0 ≤ x) (x1 : x ≤ 2147483648) (y0 : 0 ≤ y) (y1 : y ≤ 2147483648) :
    Calls Tryz.prog 250 #[.int .i64 5400000, .int .i64 x, .int .i64 y] w fun e w' => e = .returned (.int .i64 (sgI x)) ∧ ∃ d, w' = bw w d := by
  have HS := Lib.hid (fun W => r6_sign x W)
  have ky : IntKind.i64.wrap y = y := IntWalk.i64_in _ (by omega)
  have kx : IntKind.i64.wrap x = x := IntWalk.i64_in _ (by omega)
  clear x0 x1 y0 y1
  refine lay_start ?_
  go_enter Tryz.func250, Tryz.ntmps250
  go_wp2_with (go_at_call 303; refine (HS.out _).mono ?_; rintro e w' ⟨rfl, d1, rfl⟩; rw [lay_bw])
  refine region_bw (by kernel_rfl) (by kernel_rfl) ?_
  repeat (go_big_quiet_step ((first | fail)))
  refine wpQuiet_nil ?_
  rintro w' ⟨d, rfl⟩
  rw [lay_bw]
  go_wp2_with (go_at_call 303; refine (HS.out _).mono ?_; rintro e w' ⟨rfl, d1, rfl⟩; rw [lay_bw])
  go_ret
  exact ⟨rfl, lay_ex _ _⟩
theorem arith_n {n : Nat} (h0 : 1 ≤ n) (h1 : n ≠ 2700000) (h2 : n < 5400000) : ((n : Int) % 2700000 == 0) = false := by
  refine beq_eq_false_iff_ne.2 ?_
  intro h
  omega
theorem r6_SideGx (hF : FarU 2699999) (n : Nat) (x y : Int) (w : World) (h0 : 1 ≤ n) (h1 : n ≠ 2700000) (h2 : n < 5400000) (x0 : 0 < x) (x1 : x ≤ 2147483648) (y0 : 0 ≤ y) (y1 : y ≤ 2147483648) :
    Calls Tryz.prog 250 #[.int .i64 (n : Int), .int .i64 x, .int .i64 y] w fun e w' => e = .returned (.int .i64 (sideV n x y)) ∧ ∃ d, w' = bw w d := by
  have hxy : x ≠ 0 ∨ y ≠ 0 := .inl (by omega)
  have cx : (x == 0) = false := beq_eq_false_iff_ne.2 (by omega)
  have HQ := Lib.hid (fun W => r6_quickSide n x y W h0 h2 (by omega) x1 y0 y1)
  have HLm := Lib.hid (fun k (hk : k = 3 ∨ k = 4) => lim_ok hF hk h0 h1 h2 (show 0 ≤ x by omega) x1 y0 y1 hxy)
  have hqs := qs_side (x := x) (y := y) h0 h1 h2 (by omega) y0
  have HOx := Lib.hid (fun W => dg_OfInt x W (by omega))
  have HOy := Lib.hid (fun W => dg_OfInt y W (by omega))
  have HO1 := Lib.hid (fun W => dg_OfInt 1024 W (by omega))
  have HO2 := Lib.hid (fun W => dg_OfInt 4294967296 W (by omega))
  have HNs := Lib.hid (fun k W (hk : k = 3 ∨ k = 4) => r6_NearS n k W hk h2)
  have HNc := Lib.hid (fun k W (hk : k = 3 ∨ k = 4) => r6_NearC n k W hk h2)
  have HMu := Lib.hid (fun W v1 v2 a b k1 k2 (q1 : NmK W v1 a k1) (q2 : NmK W v2 b k2) (b1 : k1 ≤ 1000) (b2 : k2 ≤ 1000) => dg_Mul v1 v2 a b k1 k2 W q1 q2 b1 b2)
  have HMi := Lib.hid (fun W v a k (q1 : NmK W v a k) => dg_Minus v a k W q1)
  have HPl := Lib.hid (fun W v1 v2 a b k1 k2 (q1 : NmK W v1 a k1) (q2 : NmK W v2 b k2) (b1 : k1 ≤ 1000) (b2 : k2 ≤ 1000) => dg_Plus v1 v2 a b k1 k2 W q1 q2 b1 b2)
  have HOr := Lib.hid (fun W va vb a b (ha : Sl W va a) (hb : Sl W vb b) (ca : Can a) (cb : Can b) => dg_Order va vb a b W ha hb ca cb)
  have f1 : (n : Int) % 21600000 = (n : Int) := by omega
  have g1 := arith_n h0 h1 h2
  obtain ⟨N2, hN2⟩ : ∃ N2 : Int, (n : Int) + 5400000 = N2 := ⟨_, rfl⟩
  rw [hN2] at HNc
  have kn2 : IntKind.i64.wrap N2 = N2 := IntWalk.i64_in _ (by omega)
  generalize qsV n x y = t at *
  obtain ⟨R, hR⟩ : ∃ R, sideV n x y = R := ⟨_, rfl⟩
  rw [hR] at hqs ⊢
  have HR := Lib.hid hR
  clear hR hF h0 h1 h2 x0 x1 y0 y1 hxy
  rcases hqs with rfl | ⟨rfl, hpm⟩
  · refine lay_start ?_
    go_enter Tryz.func250, Tryz.ntmps250
    go_wp2_with (go_at_call 304; refine (HQ.out _).mono ?_; rintro e w' ⟨rfl, d0, rfl⟩; rw [lay_bw])
    go_loopw [11] (fun v11 wr => ∃ (k : Nat) (dd : Ext), (k = 3 ∨ k = 4) ∧ v11 = .int .i64 (k : Int) ∧ wr = lay w [.inr dd]) (fun v11 _ => (5 - intOf v11).toNat)
    case atStart => exact ⟨3, d0, .inl rfl, rfl, rfl⟩
    case round =>
      obtain ⟨k, dd, hk, rfl, rfl⟩ := hrel
      have HK := Lib.hid hk
      have k12 : (k : Int) ≤ 12 := by omega
      have kk : IntKind.i64.wrap ((k : Int) + 1) = (k : Int) + 1 := IntWalk.i64_in _ (by omega)
      have hlm := HLm.out k hk
      have hn1 := fun W => HNs.out k W hk
      have hn2 := fun W => HNc.out k W hk
      generalize siM (mK k) (piK k) n = si at *
      generalize coM (mK k) (piK k) n = co at *
      have HL := Lib.hid hlm
      have HN1 := Lib.hid hn1
      have HN2 := Lib.hid hn2
      clear hk hlm hn1 hn2 HLm HNs HNc HQ
      go_wp2_with fail
      refine (HOx.out _).mono ?_
      rintro e w' ⟨v1, d1, rfl, rfl, hv⟩
      rw [lay_bw] at hv ⊢
      have H1 := Lib.hid hv.k
      clear hv
      go_wp2_with fail
      refine (HN1.out _).mono ?_
      rintro e w' ⟨v2, d2, rfl, rfl, hv⟩
      rw [lay_bw] at hv ⊢
      have H2 := Lib.hid hv.k
      clear hv
      go_wp2_with fail
      refine (HMu.out _ _ _ _ _ _ _ (nmK_on (A := [.inr d2]) H1.out) H2.out (by decide) (by decide)).mono ?_
      rintro e w' ⟨v3, d3, rfl, rfl, hv⟩
      rw [lay_bw] at hv ⊢
      have hvk := hv.k
      obtain ⟨aA, aC, aL, aG, rfl, -, -, -⟩ := hv
      obtain ⟨aN, haN⟩ : ∃ m, aL.length = m := ⟨_, rfl⟩
      rw [haN] at hvk ⊢
      have HA := Lib.hid hvk
      clear hvk haN
      go_wp2_with fail
      refine (HOy.out _).mono ?_
      rintro e w' ⟨v4, d4, rfl, rfl, hv⟩
      rw [lay_bw] at hv ⊢
      have H4 := Lib.hid hv.k
      clear hv
      go_wp2_with fail
      refine (HN2.out _).mono ?_
      rintro e w' ⟨v5, d5, rfl, rfl, hv⟩
      rw [lay_bw] at hv ⊢
      have H5 := Lib.hid hv.k
      clear hv
      go_wp2_with fail
      refine (HMu.out _ _ _ _ _ _ _ (nmK_on (A := [.inr d5]) H4.out) H5.out (by decide) (by decide)).mono ?_
      rintro e w' ⟨v6, d6, rfl, rfl, hv⟩
      rw [lay_bw] at hv ⊢
      have hvk := hv.k
      obtain ⟨bA, bC, bL, bG, rfl, -, -, -⟩ := hv
      obtain ⟨bN, hbN⟩ : ∃ m, bL.length = m := ⟨_, rfl⟩
      rw [hbN] at hvk ⊢
      have HB := Lib.hid hvk
      clear hvk hbN
      go_wp2_with fail
      have HBT : Hid (NmK (lay w [.inl (.cells #[.slice bA bN bC, .bool bG] 276 (0, 0)), .inr d6, .inr d5, .inr d4, .inl (.cells #[.slice aA aN aC, .bool aG] 276 (0, 0)), .inr d3, .inr d2, .inr d1, .inr dd]) (.agg #[.slice bA bN bC, .bool bG]) (y * co) (3 + 300)) := Lib.hid (nmK_on (A := [.inl (.cells #[.slice bA bN bC, .bool bG] 276 (0, 0))]) HB.out)
      have HAT : Hid (NmK (lay w [.inl (.cells #[.slice bA bN bC, .bool bG] 276 (0, 0)), .inr d6, .inr d5, .inr d4, .inl (.cells #[.slice aA aN aC, .bool aG] 276 (0, 0)), .inr d3, .inr d2, .inr d1, .inr dd]) (.agg #[.slice aA aN aC, .bool aG]) (x * si) (3 + 300)) := Lib.hid (nmK_on (A := [.inl (.cells #[.slice bA bN bC, .bool bG] 276 (0, 0)), .inr d6, .inr d5, .inr d4, .inl (.cells #[.slice aA aN aC, .bool aG] 276 (0, 0))]) HA.out)
      clear HA HB H1 H2 H4 H5 HN1 HN2 HOx HOy
      refine region_mixB 5 (.q 0 (.q 1 (.two 2 (.two 3 (.one 4 .done) 4 (.one 3 .done)) 4 (.one 2 (.one 3 .done))))) (by kernel_rfl) (by kernel_rfl) (by kernel_rfl) (by kernel_rfl) (by simp) (by kernel_rfl) ?_
      simp only [List.drop_succ_cons, List.drop_zero]
      repeat (refine wpMB_quiet rfl (fun K hK => ?_); go_simp; refine hK _ ?_; clear hK K)
      refine wpMB_two ?_ ?_
      · refine spB_of rfl (fun K hK eM => ?_)
        rw [lay_bw]
        go_simp
        refine (HMi.out _ _ _ _ (nmK_on (A := [.inr eM]) HBT.out)).mono ?_
        rintro e w' ⟨vM, dM, rfl, rfl, hM⟩
        rw [lay_bw] at hM ⊢
        have HMM := Lib.hid hM
        clear hM
        refine ⟨_, rfl, hK _ _ (lay_in w [.inr dM, .inr eM] [.inl (.cells #[.slice bA bN bC, .bool bG] 276 (0, 0)), .inr d6, .inr d5, .inr d4, .inl (.cells #[.slice aA aN aC, .bool aG] 276 (0, 0)), .inr d3, .inr d2, .inr d1, .inr dd]) ?_⟩
        clear hK K
        refine wpMB_two ?_ ?_
        · refine spB_of rfl (fun K hK eP => ?_)
          rw [lay_bw]
          go_simp
          refine (HPl.out _ _ _ _ _ _ _ (nmK_on (A := [.inr eP, .inr dM, .inr eM]) HAT.out) (nmK_on (A := [.inr eP]) HMM.out) (by decide) (by decide)).mono ?_
          rintro e w' ⟨vP, dP, rfl, rfl, hP⟩
          obtain ⟨A, C, l, ng, rfl, ho, hnk, -⟩ := hP
          rw [lay_bw] at ho ⊢
          have HNK := Lib.hid hnk
          obtain ⟨m, hm⟩ : ∃ m, l.length = m := ⟨_, rfl⟩
          rw [hm] at ho ⊢
          have HOw := Lib.hid ho
          clear hm hnk ho
          refine ⟨_, rfl, hK _ _ (lay_in w [.inr dP, .inr eP, .inr dM, .inr eM] [.inl (.cells #[.slice bA bN bC, .bool bG] 276 (0, 0)), .inr d6, .inr d5, .inr d4, .inl (.cells #[.slice aA aN aC, .bool aG] 276 (0, 0)), .inr d3, .inr d2, .inr d1, .inr dd]) ?_⟩
          clear hK K
          refine wpMB_one ?_
          refine spB_of rfl (fun K hK eA => ?_)
          go_simp
          refine hK _ _ (lay_in w [.inl (.cells #[.slice none 0 0, .bool false] 276 (0, 0)), .inr eA, .inr dP, .inr eP, .inr dM, .inr eM] [.inl (.cells #[.slice bA bN bC, .bool bG] 276 (0, 0)), .inr d6, .inr d5, .inr d4, .inl (.cells #[.slice aA aN aC, .bool aG] 276 (0, 0)), .inr d3, .inr d2, .inr d1, .inr dd]) ?_
          clear hK K
          refine wpMB_done (fun dz => ?_)
          show wpList _ _ _ _ _ _
          rw [lay_bw]
          go_wp2_with fail
          have HSl : Hid (Sl (lay w [.inr dz, .inl (.cells #[.slice A m C, .bool ng] 276 (0, 0)), .inr eA, .inr dP, .inr eP, .inr dM, .inr eM, .inl (.cells #[.slice bA bN bC, .bool bG] 276 (0, 0)), .inr d6, .inr d5, .inr d4, .inl (.cells #[.slice aA aN aC, .bool aG] 276 (0, 0)), .inr d3, .inr d2, .inr d1, .inr dd]) (.slice A m C) l) := Lib.hid (sl_on (A := [.inr dz, .inl (.cells #[.slice A m C, .bool ng] 276 (0, 0)), .inr eA]) HOw.out.sl)
          clear HOw HMM HBT HAT
          refine (HO1.out _).mono ?_
          rintro e w' ⟨v7, d7, rfl, rfl, hv⟩
          rw [lay_bw] at hv ⊢
          have H7 := Lib.hid hv.k
          clear hv
          go_wp2_with fail
          refine (HO2.out _).mono ?_
          rintro e w' ⟨v8, d8, rfl, rfl, hv⟩
          rw [lay_bw] at hv ⊢
          have H8 := Lib.hid hv.k
          clear hv
          go_wp2_with fail
          refine (HMu.out _ _ _ _ _ _ _ (nmK_on (A := [.inr d8]) H7.out) H8.out (by decide) (by decide)).mono ?_
          rintro e w' ⟨v9, d9, rfl, rfl, hv⟩
          rw [lay_bw] at hv ⊢
          obtain ⟨cA, cC, cL, cG, rfl, ho, hnk, -⟩ := hv
          have hcv : valD cL = (e42 : Int) := by rw [hnk.abs]; rfl
          obtain ⟨cN, hcN⟩ : ∃ m, cL.length = m := ⟨_, rfl⟩
          rw [hcN] at ho ⊢
          have HCo := Lib.hid (And.intro ho.sl (And.intro hnk.can hcv))
          clear ho hnk hcv hcN H7 H8
          go_wp2_with fail
          refine (HOr.out _ _ _ l cL (sl_on (A := [.inl (.cells #[.slice cA cN cC, .bool cG] 276 (0, 0)), .inr d9, .inr d8, .inr d7]) HSl.out) (sl_on (A := [.inl (.cells #[.slice cA cN cC, .bool cG] 276 (0, 0))]) HCo.out.1) HNK.out.can HCo.out.2.1).mono ?_
          rintro e w' ⟨rfl, d10, rfl⟩
          rw [lay_bw]
          have hva := HNK.out.abs
          have hng := HNK.out.neg_iff
          have hup := HL.out.up
          have hdn := HL.out.dn
          have hfo := HL.out.four
          have hcv := HCo.out.2.2
          generalize x * si + -(y * co) = D at *
          by_cases hgt : valD cL < valD l
          · rw [ord_gt hgt]
            cases ng
            · have hD : ¬ D < 0 := fun h => by rw [decide_eq_true h] at hng; cases hng
              have hR1 : R = 1 := by rw [← HR.out]; exact hup (by omega)
              subst hR1
              clear hva hng hup hdn hfo hcv hgt hD
              go_wp2_with fail
              go_ret
              exact ⟨rfl, lay_ex _ _⟩
            · have hD : D < 0 := of_decide_eq_true hng.symm
              have hR1 : R = -1 := by rw [← HR.out]; exact hdn (by omega)
              subst hR1
              clear hva hng hup hdn hfo hcv hgt hD
              go_wp2_with fail
              go_ret
              exact ⟨rfl, lay_ex _ _⟩
          · have h3 : k = 3 := by
              rcases HK.out with h | h
              · exact h
              · exfalso
                have := hfo h
                omega
            subst h3
            obtain ⟨O, hO⟩ : ∃ O, ordI (valD l) (valD cL) = O := ⟨_, rfl⟩
            have tO : ¬ (0 : Int) < O := by
              rw [← hO]
              unfold ordI
              split <;> first | decide | (rw [if_neg hgt]; decide)
            rw [hO]
            clear hva hng hup hdn hfo hcv hgt hO
            go_wp2_with fail
            go_roundw
            case rel => exact ⟨4, _, .inr rfl, rfl, (lay_ex w _).choose_spec⟩
            case measure => simp [intOf]
        · refine spB_of rfl (fun K hK eA => ?_)
          go_simp
          refine hK _ _ (lay_in w [.inl (.cells #[.slice none 0 0, .bool false] 276 (0, 0)), .inr eA, .inr dM, .inr eM] [.inl (.cells #[.slice bA bN bC, .bool bG] 276 (0, 0)), .inr d6, .inr d5, .inr d4, .inl (.cells #[.slice aA aN aC, .bool aG] 276 (0, 0)), .inr d3, .inr d2, .inr d1, .inr dd]) ?_
          clear hK K
          refine wpMB_one ?_
          refine spB_of rfl (fun K hK eP => ?_)
          rw [lay_bw]
          go_simp
          refine (HPl.out _ _ _ _ _ _ _ (nmK_on (A := [.inr eP, .inl (.cells #[.slice none 0 0, .bool false] 276 (0, 0)), .inr eA, .inr dM, .inr eM]) HAT.out) (nmK_on (A := [.inr eP, .inl (.cells #[.slice none 0 0, .bool false] 276 (0, 0)), .inr eA]) HMM.out) (by decide) (by decide)).mono ?_
          rintro e w' ⟨vP, dP, rfl, rfl, hP⟩
          obtain ⟨A, C, l, ng, rfl, ho, hnk, -⟩ := hP
          rw [lay_bw] at ho ⊢
          have HNK := Lib.hid hnk
          obtain ⟨m, hm⟩ : ∃ m, l.length = m := ⟨_, rfl⟩
          rw [hm] at ho ⊢
          have HOw := Lib.hid ho
          clear hm hnk ho
          refine ⟨_, rfl, hK _ _ (lay_in w [.inr dP, .inr eP, .inl (.cells #[.slice none 0 0, .bool false] 276 (0, 0)), .inr eA, .inr dM, .inr eM] [.inl (.cells #[.slice bA bN bC, .bool bG] 276 (0, 0)), .inr d6, .inr d5, .inr d4, .inl (.cells #[.slice aA aN aC, .bool aG] 276 (0, 0)), .inr d3, .inr d2, .inr d1, .inr dd]) ?_⟩
          clear hK K
          refine wpMB_done (fun dz => ?_)
          show wpList _ _ _ _ _ _
          rw [lay_bw]
          go_wp2_with fail
          have HSl : Hid (Sl (lay w [.inr dz, .inr dP, .inr eP, .inl (.cells #[.slice A m C, .bool ng] 276 (0, 0)), .inr eA, .inr dM, .inr eM, .inl (.cells #[.slice bA bN bC, .bool bG] 276 (0, 0)), .inr d6, .inr d5, .inr d4, .inl (.cells #[.slice aA aN aC, .bool aG] 276 (0, 0)), .inr d3, .inr d2, .inr d1, .inr dd]) (.slice A m C) l) := Lib.hid (sl_on (A := [.inr dz]) (ow_keepA (.cells #[.slice A m C, .bool ng] 276 (0, 0)) [.inr dP, .inr eP] (lay_lt2 w _ _ [.inr eP]) HOw.out).sl)
          clear HOw HMM HBT HAT
          refine (HO1.out _).mono ?_
          rintro e w' ⟨v7, d7, rfl, rfl, hv⟩
          rw [lay_bw] at hv ⊢
          have H7 := Lib.hid hv.k
          clear hv
          go_wp2_with fail
          refine (HO2.out _).mono ?_
          rintro e w' ⟨v8, d8, rfl, rfl, hv⟩
          rw [lay_bw] at hv ⊢
          have H8 := Lib.hid hv.k
          clear hv
          go_wp2_with fail
          refine (HMu.out _ _ _ _ _ _ _ (nmK_on (A := [.inr d8]) H7.out) H8.out (by decide) (by decide)).mono ?_
          rintro e w' ⟨v9, d9, rfl, rfl, hv⟩
          rw [lay_bw] at hv ⊢
          obtain ⟨cA, cC, cL, cG, rfl, ho, hnk, -⟩ := hv
          have hcv : valD cL = (e42 : Int) := by rw [hnk.abs]; rfl
          obtain ⟨cN, hcN⟩ : ∃ m, cL.length = m := ⟨_, rfl⟩
          rw [hcN] at ho ⊢
          have HCo := Lib.hid (And.intro ho.sl (And.intro hnk.can hcv))
          clear ho hnk hcv hcN H7 H8
          go_wp2_with fail
          refine (HOr.out _ _ _ l cL (sl_on (A := [.inl (.cells #[.slice cA cN cC, .bool cG] 276 (0, 0)), .inr d9, .inr d8, .inr d7]) HSl.out) (sl_on (A := [.inl (.cells #[.slice cA cN cC, .bool cG] 276 (0, 0))]) HCo.out.1) HNK.out.can HCo.out.2.1).mono ?_
          rintro e w' ⟨rfl, d10, rfl⟩
          rw [lay_bw]
          have hva := HNK.out.abs
          have hng := HNK.out.neg_iff
          have hup := HL.out.up
          have hdn := HL.out.dn
          have hfo := HL.out.four
          have hcv := HCo.out.2.2
          generalize x * si + -(y * co) = D at *
          by_cases hgt : valD cL < valD l
          · rw [ord_gt hgt]
            cases ng
            · have hD : ¬ D < 0 := fun h => by rw [decide_eq_true h] at hng; cases hng
              have hR1 : R = 1 := by rw [← HR.out]; exact hup (by omega)
              subst hR1
              clear hva hng hup hdn hfo hcv hgt hD
              go_wp2_with fail
              go_ret
              exact ⟨rfl, lay_ex _ _⟩
            · have hD : D < 0 := of_decide_eq_true hng.symm
              have hR1 : R = -1 := by rw [← HR.out]; exact hdn (by omega)
              subst hR1
              clear hva hng hup hdn hfo hcv hgt hD
              go_wp2_with fail
              go_ret
              exact ⟨rfl, lay_ex _ _⟩
          · have h3 : k = 3 := by
              rcases HK.out with h | h
              · exact h
              · exfalso
                have := hfo h
                omega
            subst h3
            obtain ⟨O, hO⟩ : ∃ O, ordI (valD l) (valD cL) = O := ⟨_, rfl⟩
            have tO : ¬ (0 : Int) < O := by
              rw [← hO]
              unfold ordI
              split <;> first | decide | (rw [if_neg hgt]; decide)
            rw [hO]
            clear hva hng hup hdn hfo hcv hgt hO
            go_wp2_with fail
            go_roundw
            case rel => exact ⟨4, _, .inr rfl, rfl, (lay_ex w _).choose_spec⟩
            case measure => simp [intOf]
      · refine spB_of rfl (fun K hK eA => ?_)
        go_simp
        refine hK _ _ (lay_in w [.inl (.cells #[.slice none 0 0, .bool false] 276 (0, 0)), .inr eA] [.inl (.cells #[.slice bA bN bC, .bool bG] 276 (0, 0)), .inr d6, .inr d5, .inr d4, .inl (.cells #[.slice aA aN aC, .bool aG] 276 (0, 0)), .inr d3, .inr d2, .inr d1, .inr dd]) ?_
        clear hK K
        refine wpMB_one ?_
        refine spB_of rfl (fun K hK eM => ?_)
        rw [lay_bw]
        go_simp
        refine (HMi.out _ _ _ _ (nmK_on (A := [.inr eM, .inl (.cells #[.slice none 0 0, .bool false] 276 (0, 0)), .inr eA]) HBT.out)).mono ?_
        rintro e w' ⟨vM, dM, rfl, rfl, hM⟩
        rw [lay_bw] at hM ⊢
        have HMM := Lib.hid hM
        clear hM
        refine ⟨_, rfl, hK _ _ (lay_in w [.inr dM, .inr eM, .inl (.cells #[.slice none 0 0, .bool false] 276 (0, 0)), .inr eA] [.inl (.cells #[.slice bA bN bC, .bool bG] 276 (0, 0)), .inr d6, .inr d5, .inr d4, .inl (.cells #[.slice aA aN aC, .bool aG] 276 (0, 0)), .inr d3, .inr d2, .inr d1, .inr dd]) ?_⟩
        clear hK K
        refine wpMB_one ?_
        refine spB_of rfl (fun K hK eP => ?_)
        rw [lay_bw]
        go_simp
        refine (HPl.out _ _ _ _ _ _ _ (nmK_on (A := [.inr eP, .inr dM, .inr eM, .inl (.cells #[.slice none 0 0, .bool false] 276 (0, 0)), .inr eA]) HAT.out) (nmK_on (A := [.inr eP]) HMM.out) (by decide) (by decide)).mono ?_
        rintro e w' ⟨vP, dP, rfl, rfl, hP⟩
        obtain ⟨A, C, l, ng, rfl, ho, hnk, -⟩ := hP
        rw [lay_bw] at ho ⊢
        have HNK := Lib.hid hnk
        obtain ⟨m, hm⟩ : ∃ m, l.length = m := ⟨_, rfl⟩
        rw [hm] at ho ⊢
        have HOw := Lib.hid ho
        clear hm hnk ho
        refine ⟨_, rfl, hK _ _ (lay_in w [.inr dP, .inr eP, .inr dM, .inr eM, .inl (.cells #[.slice none 0 0, .bool false] 276 (0, 0)), .inr eA] [.inl (.cells #[.slice bA bN bC, .bool bG] 276 (0, 0)), .inr d6, .inr d5, .inr d4, .inl (.cells #[.slice aA aN aC, .bool aG] 276 (0, 0)), .inr d3, .inr d2, .inr d1, .inr dd]) ?_⟩
        clear hK K
        refine wpMB_done (fun dz => ?_)
        show wpList _ _ _ _ _ _
        rw [lay_bw]
        go_wp2_with fail
        have HSl : Hid (Sl (lay w [.inr dz, .inr dP, .inr eP, .inr dM, .inr eM, .inl (.cells #[.slice A m C, .bool ng] 276 (0, 0)), .inr eA, .inl (.cells #[.slice bA bN bC, .bool bG] 276 (0, 0)), .inr d6, .inr d5, .inr d4, .inl (.cells #[.slice aA aN aC, .bool aG] 276 (0, 0)), .inr d3, .inr d2, .inr d1, .inr dd]) (.slice A m C) l) := Lib.hid (sl_on (A := [.inr dz]) (ow_keepA (.cells #[.slice A m C, .bool ng] 276 (0, 0)) [.inr dP, .inr eP, .inr dM, .inr eM] (lay_lt2 w _ _ [.inr eP, .inr dM, .inr eM]) HOw.out).sl)
        clear HOw HMM HBT HAT
        refine (HO1.out _).mono ?_
        rintro e w' ⟨v7, d7, rfl, rfl, hv⟩
        rw [lay_bw] at hv ⊢
        have H7 := Lib.hid hv.k
        clear hv
        go_wp2_with fail
        refine (HO2.out _).mono ?_
        rintro e w' ⟨v8, d8, rfl, rfl, hv⟩
        rw [lay_bw] at hv ⊢
        have H8 := Lib.hid hv.k
        clear hv
        go_wp2_with fail
        refine (HMu.out _ _ _ _ _ _ _ (nmK_on (A := [.inr d8]) H7.out) H8.out (by decide) (by decide)).mono ?_
        rintro e w' ⟨v9, d9, rfl, rfl, hv⟩
        rw [lay_bw] at hv ⊢
        obtain ⟨cA, cC, cL, cG, rfl, ho, hnk, -⟩ := hv
        have hcv : valD cL = (e42 : Int) := by rw [hnk.abs]; rfl
        obtain ⟨cN, hcN⟩ : ∃ m, cL.length = m := ⟨_, rfl⟩
        rw [hcN] at ho ⊢
        have HCo := Lib.hid (And.intro ho.sl (And.intro hnk.can hcv))
        clear ho hnk hcv hcN H7 H8
        go_wp2_with fail
        refine (HOr.out _ _ _ l cL (sl_on (A := [.inl (.cells #[.slice cA cN cC, .bool cG] 276 (0, 0)), .inr d9, .inr d8, .inr d7]) HSl.out) (sl_on (A := [.inl (.cells #[.slice cA cN cC, .bool cG] 276 (0, 0))]) HCo.out.1) HNK.out.can HCo.out.2.1).mono ?_
        rintro e w' ⟨rfl, d10, rfl⟩
        rw [lay_bw]
        have hva := HNK.out.abs
        have hng := HNK.out.neg_iff
        have hup := HL.out.up
        have hdn := HL.out.dn
        have hfo := HL.out.four
        have hcv := HCo.out.2.2
        generalize x * si + -(y * co) = D at *
        by_cases hgt : valD cL < valD l
        · rw [ord_gt hgt]
          cases ng
          · have hD : ¬ D < 0 := fun h => by rw [decide_eq_true h] at hng; cases hng
            have hR1 : R = 1 := by rw [← HR.out]; exact hup (by omega)
            subst hR1
            clear hva hng hup hdn hfo hcv hgt hD
            go_wp2_with fail
            go_ret
            exact ⟨rfl, lay_ex _ _⟩
          · have hD : D < 0 := of_decide_eq_true hng.symm
            have hR1 : R = -1 := by rw [← HR.out]; exact hdn (by omega)
            subst hR1
            clear hva hng hup hdn hfo hcv hgt hD
            go_wp2_with fail
            go_ret
            exact ⟨rfl, lay_ex _ _⟩
        · have h3 : k = 3 := by
            rcases HK.out with h | h
            · exact h
            · exfalso
              have := hfo h
              omega
          subst h3
          obtain ⟨O, hO⟩ : ∃ O, ordI (valD l) (valD cL) = O := ⟨_, rfl⟩
          have tO : ¬ (0 : Int) < O := by
            rw [← hO]
            unfold ordI
            split <;> first | decide | (rw [if_neg hgt]; decide)
          rw [hO]
          clear hva hng hup hdn hfo hcv hgt hO
          go_wp2_with fail
          go_roundw
          case rel => exact ⟨4, _, .inr rfl, rfl, (lay_ex w _).choose_spec⟩
          case measure => simp [intOf]
  · have t1 : (t != 0) = true := by rcases hpm with rfl | rfl <;> rfl
    have t2 : (t == 0) = false := by rcases hpm with rfl | rfl <;> rfl
    clear hpm
    refine lay_start ?_
    go_enter Tryz.func250, Tryz.ntmps250
    go_wp2_with (go_at_call 304; refine (HQ.out _).mono ?_; rintro e w' ⟨rfl, d0, rfl⟩; rw [lay_bw])
    go_ret
    exact ⟨rfl, lay_ex _ _⟩
end Go.Proofs.YtnnmfdeeicpdlaaGreat
