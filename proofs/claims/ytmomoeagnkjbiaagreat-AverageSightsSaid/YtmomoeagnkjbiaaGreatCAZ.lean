/- Contracts and plain laws, several texts in one: LiA; Rg4; Div -/
import Derived.Test.YtmomoeagnkjbiaaGreatProg
import Derived.WalkKit
import Derived.WalkSpells
import Derived.WalkLawsBesides
import Derived.Lib.Hide
import Derived.BigQuiet
import Derived.Test.YtmomoeagnkjbiaaGreatCAA
import Derived.Test.YtmomoeagnkjbiaaGreatCAB
import Derived.Test.YtmomoeagnkjbiaaGreatCAE
import Derived.Test.YtmomoeagnkjbiaaGreatCAF
import Derived.Test.YtmomoeagnkjbiaaGreatCAL
import Derived.Test.YtmomoeagnkjbiaaGreatCAV
import Derived.Test.YtmomoeagnkjbiaaGreatCAW
import Derived.Test.YtmomoeagnkjbiaaGreatCAY
/- The reference's residuals and the error of lists. -/
namespace Go.Proofs.YtmomoeagnkjbiaaGreat
open Go.RowKit

set_option maxHeartbeats 1000000 in
set_option maxRecDepth 100000 in
theorem r23_residuals (vt vh : Value) (t h : List Int) (n dn : Int) (w : World) (ht : Sl w vt t) (hh : Sl w vh h) (hl : t.length = h.length) (h1 : 1 ≤ t.length) (hn : t.length ≤ 1000000) (bt : Bd t 172800000) (bh : Bd h 1099511627776) (hs : SlOk n dn) :
    Calls Tryz.prog 49 #[vt, vh, (.agg #[.int .i64 (n), .int .i64 (dn)])] w (RwO w (resK t h n dn t.length)) := by
  have HR := Lib.hid (fun W i (hi : i < t.length) => r23_Residual (nth t i) (nth h i) n dn W hs (bt i hi) (bh i (by omega)))
  have HW := Lib.hid (fun i (hi : i < t.length) => resI_bd hs (bt i hi) (bh i (by omega)))
  have HK := Lib.hid (resK_succ t h n dn)
  have HL := Lib.hid (resK_len t h n dn)
  obtain ⟨b, o, cap, rfl, hc, -, hbs, hr⟩ := ht.open (by omega)
  obtain ⟨b2, o2, cap2, rfl, hc2, -, hbs2, hr2⟩ := hh.open (by omega)
  rw [← hl] at hr2 hc2 ⊢
  obtain ⟨m, hm⟩ : ∃ m, t.length = m := ⟨_, rfl⟩
  rw [hm] at HR HW hr hr2 hc hc2 h1 hn ⊢
  have HT := Lib.hid hr
  have HH := Lib.hid hr2
  have HRes : Hid (∀ k, resK t h n dn k = resK t h n dn k) := Lib.hid fun _ => rfl
  generalize resK t h n dn = RES at *
  clear hr hr2 hm hl ht hh bt bh hs HRes
  refine lay_start ?_
  go_enter Tryz.func49, Tryz.ntmps49
  go_wp2_with fail
  go_loopw [7, 8] (fun v7 v8 wr => ∃ (k : Nat) (dd : Ext), k ≤ m ∧ v8 = .int .i64 (k : Int) ∧ wr = lay w [.inr dd, .inl (.cells #[.int .i64 n, .int .i64 dn] 26 (0, 0))] ∧ Ow (lay w [.inr dd, .inl (.cells #[.int .i64 n, .int .i64 dn] 26 (0, 0))]) (lay w [.inl (.cells #[.int .i64 n, .int .i64 dn] 26 (0, 0))]).heap.size v7 (RES k)) (fun _ v8 _ => m - (intOf v8).toNat)
  case atStart => exact ⟨0, noExt _, Nat.zero_le _, rfl, (bw_noExt _).symm, by rw [show RES 0 = [] from List.eq_nil_of_length_eq_zero (HL.out 0)]; exact Ow.nil _ _⟩
  case round =>
    obtain ⟨k, dd, hk, rfl, rfl, hO⟩ := hrel
    have HO := Lib.hid hO
    clear hO
    by_cases hlt : k < m
    · have e1 := HT.out k hlt
      have e2 := HH.out k hlt
      have H1 := Lib.hid (fun W => HR.out W k hlt)
      have hwf := HW.out k hlt
      have hst := HK.out k
      have HST := Lib.hid hst
      have hlen : (RES k).length ≤ 1000000000 := by rw [HL.out]; omega
      have x1 : (k : Int) < (m : Int) := by omega
      have x0 : (0 : Int) ≤ (k : Int) := by omega
      have w3 : IntKind.i64.wrap ((k : Int) + 1) = (k : Int) + 1 := IntWalk.i64_in _ (by omega)
      obtain ⟨P, hP⟩ : ∃ P, resI (nth t k) (nth h k) n dn = P := ⟨_, rfl⟩
      rw [hP] at H1 hwf HST
      generalize nth t k = A at *
      generalize nth h k = B at *
      clear hst hP
      go_wp2_with fail
      refine region_mixT 12 [0, 0, 0, 0, 0, 0, 0, 0, 0, 0, 0, 1] (by kernel_rfl) (by kernel_rfl) (by kernel_rfl) (by kernel_rfl) (by simp) (by kernel_rfl) ?_
      simp only [List.take_succ_cons, List.take_zero, List.drop_succ_cons, List.drop_zero]
      repeat (first | (refine wpM_quiet (fun K hK => ?_); go_simp; first | (refine hK _ ?_; clear hK K) | (apply Exists.intro; refine ⟨fun _ => ?_, hK _ ?_⟩; (first | (go_at_call 58; exact bq (H1.out _) (fun d => ⟨d, rfl⟩))); clear hK K)) | (refine wpM_special (fun K hK d => ?_); go_simp; refine hK _ _ (by first | exact lay_in w [_] _ | exact lay_in w [_, _] _ | exact lay_in w [_, _, _] _ | exact lay_in w [_, _, _, _] _ | exact lay_in w [_, _, _, _, _] _ | exact lay_in w [_, _, _, _, _, _] _) ?_; clear hK K))
      refine wpM_nil ?_
      intro d1
      rw [lay_bw]
      refine push_int rfl _ _ rfl (lay w [.inl (.cells #[.int .i64 n, .int .i64 dn] 26 (0, 0))]) _ P 3 _ _ _ ?_ (ow_on (A := [_, _, _]) HO.out) ?_ rfl rfl hlen hwf ?_
      · exact lay_below (A := [_, _, _, _])
      · exact lay_get w _ 1 _ rfl
      intro v' d' hv'
      have HV := Lib.hid hv'
      clear hv'
      go_wp2_with fail
      go_roundw
      case rel => exact ⟨k + 1, d', hlt, by go_num, rfl, by rw [HST.out]; exact HV.out⟩
      case measure => simp [intOf]; omega
    · obtain rfl : k = m := by omega
      go_wp2_with fail
      go_ret
      obtain ⟨y, hy⟩ := lay_ex w [.inr dd, .inl (.cells #[.int .i64 n, .int .i64 dn] 26 (0, 0))]
      exact ⟨_, y, rfl, hy, by rw [← hy]; exact HO.out.le (lay_below (w := w) (A := [.inl (.cells #[.int .i64 n, .int .i64 dn] 26 (0, 0))]) (B := [])).size⟩
set_option maxHeartbeats 4000000 in
set_option maxRecDepth 100000 in
theorem r23_lists (vt vh : Value) (t h : List Int) (w : World) (ht : Sl w vt t) (hh : Sl w vh h) :
    Calls Tryz.prog 45 #[vt, vh] w fun e w' => e = .returned (.int .i64 (chkE t h)) ∧ ∃ d, w' = bw w d := by
  obtain ⟨a1, c1, rfl, hc1, hw1, hx1⟩ := ht
  obtain ⟨a2, c2, rfl, hc2, hw2, hx2⟩ := hh
  have HX1 := Lib.hid hx1
  have HX2 := Lib.hid hx2
  obtain ⟨m, hm⟩ : ∃ m, t.length = m := ⟨_, rfl⟩
  obtain ⟨q, hq⟩ : ∃ q, h.length = q := ⟨_, rfl⟩
  have HE := Lib.hid (And.intro hm hq)
  obtain ⟨E, hE⟩ : ∃ E, chkE t h = E := ⟨_, rfl⟩
  have HEE := Lib.hid hE
  rw [hE, hm, hq]
  clear hx1 hx2 hw1 hw2 hE hm hq
  by_cases e1 : m = q
  · subst e1
    have t1 : ((m : Int) == (m : Int)) = true := beq_iff_eq.2 rfl
    have t3 : ((m : Int) != (m : Int)) = false := by rw [bne, t1]; rfl
    by_cases e2 : m < 1
    · obtain rfl : E = 3 := by rw [← HEE.out]; unfold chkE; rw [if_pos (by have := HE.out; omega)]
      have x1 := decide_eq_true (show (m : Int) < 1 by omega)
      refine lay_start ?_
      go_enter Tryz.func45, Tryz.ntmps45
      go_wp2_with fail
      go_ret
      exact ⟨rfl, lay_ex _ _⟩
    · have x1 := decide_eq_false (show ¬ (m : Int) < 1 by omega)
      by_cases e3 : 1000 < m
      · obtain rfl : E = 3 := by rw [← HEE.out]; unfold chkE; rw [if_pos (by have := HE.out; omega)]
        have x2 := decide_eq_true (show (1000 : Int) < (m : Int) by omega)
        refine lay_start ?_
        go_enter Tryz.func45, Tryz.ntmps45
        go_wp2_with fail
        go_ret
        exact ⟨rfl, lay_ex _ _⟩
      · have x2 := decide_eq_false (show ¬ (1000 : Int) < (m : Int) by omega)
        have HE2 : Hid (E = if outB t 86400000 = true ∨ outB h 10800000 = true then 2 else 0) := Lib.hid (by rw [← HEE.out]; unfold chkE; rw [if_neg (by have := HE.out; omega)])
        obtain ⟨b1, o1, rfl, hb1, hcell1⟩ := HX1.out (by intro e; have := HE.out.1; rw [e] at this; simp at this; omega)
        obtain ⟨b2, o2, rfl, hb2, hcell2⟩ := HX2.out (by intro e; have := HE.out.2; rw [e] at this; simp at this; omega)
        rw [HE.out.1] at hcell1
        rw [HE.out.2] at hcell2
        have K1 := Lib.hid hcell1
        have K2 := Lib.hid hcell2
        clear hcell1 hcell2
        refine lay_start ?_
        go_enter Tryz.func45, Tryz.ntmps45
        go_wp2_with fail
        clear x1 x2 t1 t3
        go_loopw [5] (fun v5 wr => ∃ (i : Nat) (dd : Ext), i ≤ m ∧ v5 = .int .i64 (i : Int) ∧ wr = lay w [.inr dd] ∧ ∀ j, j < i → (-86400000 ≤ nth t j ∧ nth t j ≤ 86400000) ∧ (-10800000 ≤ nth h j ∧ nth h j ≤ 10800000)) (fun v5 _ => m - (intOf v5).toNat)
        case atStart => exact ⟨0, noExt _, Nat.zero_le _, rfl, (bw_noExt _).symm, fun j hj => absurd hj (Nat.not_lt_zero j)⟩
        case round =>
          obtain ⟨i, dd, hi, rfl, rfl, hg⟩ := hrel
          have HG := Lib.hid hg
          clear hg
          by_cases hlt : i < m
          · have k1 := K1.out i hlt
            have k2 := K2.out i hlt
            have y1 : (i : Int) < (m : Int) := by omega
            have y0 : (0 : Int) ≤ (i : Int) := by omega
            have w3 : IntKind.i64.wrap ((i : Int) + 1) = (i : Int) + 1 := IntWalk.i64_in _ (by omega)
            have HB1 : Hid (nth t i < -86400000 ∨ 86400000 < nth t i → E = 2) := Lib.hid fun e => by rw [HE2.out, if_pos (.inl (outB_out (by rw [HE.out.1]; exact hlt) e))]
            have HB2 : Hid (nth h i < -10800000 ∨ 10800000 < nth h i → E = 2) := Lib.hid fun e => by rw [HE2.out, if_pos (.inr (outB_out (by rw [HE.out.2]; exact hlt) e))]
            obtain ⟨A, hA⟩ : ∃ A, nth t i = A := ⟨_, rfl⟩
            obtain ⟨B, hB⟩ : ∃ B, nth h i = B := ⟨_, rfl⟩
            rw [hA] at k1 HB1
            rw [hB] at k2 HB2
            have HAB := Lib.hid (And.intro hA hB)
            have HLT := Lib.hid hlt
            clear hA hB
            by_cases g1 : A < -86400000
            · obtain rfl := HB1.out (.inl g1)
              have g1d := decide_eq_true g1
              go_wp2_with fail
              go_ret
              exact ⟨rfl, lay_ex _ _⟩
            have g1d := decide_eq_false g1
            by_cases g2 : 86400000 < A
            · obtain rfl := HB1.out (.inr g2)
              have g2d := decide_eq_true g2
              go_wp2_with fail
              go_ret
              exact ⟨rfl, lay_ex _ _⟩
            have g2d := decide_eq_false g2
            by_cases g3 : B < -10800000
            · obtain rfl := HB2.out (.inl g3)
              have g3d := decide_eq_true g3
              go_wp2_with fail
              go_ret
              exact ⟨rfl, lay_ex _ _⟩
            have g3d := decide_eq_false g3
            by_cases g4 : 10800000 < B
            · obtain rfl := HB2.out (.inr g4)
              have g4d := decide_eq_true g4
              go_wp2_with fail
              go_ret
              exact ⟨rfl, lay_ex _ _⟩
            have g4d := decide_eq_false g4
            have HN := Lib.hid (show (-86400000 ≤ A ∧ A ≤ 86400000) ∧ (-10800000 ≤ B ∧ B ≤ 10800000) by omega)
            clear g1 g2 g3 g4
            go_wp2_with fail
            go_roundw
            case rel => exact ⟨i + 1, dd, HLT.out, by go_num, rfl, fun j hj => by
              rcases Nat.lt_or_ge j i with h1 | h1
              · exact HG.out j h1
              · obtain rfl : j = i := by omega
                rw [HAB.out.1, HAB.out.2]; exact HN.out⟩
            case measure => have := HLT.out; simp [intOf]; omega
          · obtain rfl : i = m := by omega
            obtain rfl : E = 0 := by
              rw [HE2.out, if_neg]
              intro e
              rcases e with e | e
              · rw [outB_in (fun j hj => (HG.out j (by rw [← HE.out.1]; exact hj)).1)] at e; cases e
              · rw [outB_in (fun j hj => (HG.out j (by rw [← HE.out.2]; exact hj)).2)] at e; cases e
            go_wp2_with fail
            go_ret
            exact ⟨rfl, lay_ex _ _⟩
  · obtain rfl : E = 3 := by rw [← HEE.out]; unfold chkE; rw [if_pos (by have := HE.out; omega)]
    have t1 : ((m : Int) == (q : Int)) = false := beq_eq_false_iff_ne.2 (by omega)
    have t3 : ((m : Int) != (q : Int)) = true := by rw [bne, t1]; rfl
    refine lay_start ?_
    go_enter Tryz.func45, Tryz.ntmps45
    go_wp2_with fail
    go_ret
    exact ⟨rfl, lay_ex _ _⟩
end Go.Proofs.YtmomoeagnkjbiaaGreat
/- The reference on sights: Sights. -/
namespace Go.Proofs.YtmomoeagnkjbiaaGreat
open Go.RowKit

theorem outI_len (l : List Int) (f : Int) : (outI l f).length ≤ l.length := by
  unfold outI outN
  rw [List.length_map]
  exact Nat.le_trans (List.length_filter_le _ _) (by rw [List.length_range]; exact Nat.le_refl _)
set_option maxHeartbeats 8000000 in
set_option maxRecDepth 100000 in
theorem r23_Sights (v : Value) (l : List SgV) (n dn f : Int) (w : World) (hl : SlG sgR w v l) :
    Calls Tryz.prog 24 #[v, (.agg #[.int .i64 (n), .int .i64 (dn)]), .int .i64 f] w (SgtP w (sgtS l n dn f) (sgtL l n dn f) (sgtE l n dn f)) := by
  have HG := Lib.hid (fun W (q : SlG sgR W v l) => r23_given v l n dn f W q)
  have HL := Lib.hid hl
  by_cases c0 : gvnE l n dn f = 0
  · have o := gvn_ok c0
    rw [c0] at HG
    have HO := Lib.hid o
    have HE0 := Lib.hid c0
    have o1 := o.l1
    have o2 := o.l2
    have HW0 : Hid (SgOk (fstS l)) := Lib.hid (hl.wf _ (List.mem_of_getElem? (getS_some (by omega) : l[0]? = some (fstS l))))
    have HMean := Lib.hid (fun L vo (q : Sl (lay w L) vo (outS l n dn f)) => r23_Mean v vo l n dn f (outS l n dn f) (lay w L) (hl.lay L) q (by have := outI_len (resS l n dn) f; rw [resS_len] at this; unfold outS; omega) o (acc_one o))
    have HOl := Lib.hid (fun W v (q : Sl W v (resS l n dn)) => r23_Outliers v (resS l n dn) f W q (by rw [resS_len]; exact o1) (by rw [resS_len]; omega) o.res o.f1 o.f2)
    obtain ⟨b, oo, cap, rfl, hcp, hb, hC⟩ := sg_cells hl o1
    have HC := Lib.hid hC
    have HF := Lib.hid (hC 0 (by omega))
    rw [← fstS_get, Nat.zero_mul, Nat.add_zero] at HF
    have hv0 := o.get (i := 0) (by omega)
    rw [← fstS_get] at hv0
    have HX0 := Lib.hid (And.intro hv0.t.mid hv0)
    have HM0 := Lib.hid (fun W => r23_Middle (fstS l) W hv0.t)
    have HRS : Hid (resS l n dn = resK (tsS l) (rdS l) n dn l.length) := Lib.hid (by unfold resS; rw [tsS_len])
    have HK := Lib.hid (resK_succ (tsS l) (rdS l) n dn)
    have HLn := Lib.hid (resK_len (tsS l) (rdS l) n dn)
    have HTn := Lib.hid (fun i (hi : i < l.length) => tsS_nth hi)
    have HRn := Lib.hid (fun i (hi : i < l.length) => rdS_nth hi)
    have HBd := Lib.hid (fun i (hi : i < l.length) => resI_bd o.fr (show -172800000 ≤ nth (tsS l) i ∧ nth (tsS l) i ≤ 172800000 by have := o.t hi; omega) (show -1099511627776 ≤ nth (rdS l) i ∧ nth (rdS l) i ≤ 1099511627776 by rw [rdS_nth hi]; have := (o.get hi).hs; omega))
    have hE : sgtE l n dn f = if sgB (menS l n dn (accS l (outS l n dn f) l.length)) = true then 0 else 24 := by
      unfold sgtE
      rw [if_neg (fun h => h c0)]
    have hS : sgtS l n dn f = if sgtE l n dn f = 0 then menS l n dn (accS l (outS l n dn f) l.length) else default := rfl
    have hLl : sgtL l n dn f = if sgtE l n dn f = 0 then outS l n dn f else [] := rfl
    have hok : SgOk (menS l n dn (accS l (outS l n dn f) l.length)) := by
      have hAB := acc_bd o (outS l n dn f) l.length (Nat.le_refl _)
      have hMB := men_bd hAB o2 (acc_one o) o.fr
      have hm2 := hv0.t.mid
      have h1 := hMB.wh0; have h2 := hMB.fq; have h3 := hMB.wi; have h4 := hMB.at0
      have h5 := hAB.b0; have h6 := hAB.b1; have h7 := hAB.a0; have h8 := hAB.a1
      refine ⟨HW0.out.body, ?_, ?_, ?_, ?_⟩ <;> (unfold i64B menS; dsimp only; omega)
    obtain ⟨MEN, hMEN⟩ : ∃ z, menS l n dn (accS l (outS l n dn f) l.length) = z := ⟨_, rfl⟩
    rw [hMEN] at hE hS hok HMean
    obtain ⟨OUT, hOUT⟩ : ∃ z, outS l n dn f = z := ⟨_, rfl⟩
    rw [hOUT] at hLl HMean
    have HOUT := Lib.hid hOUT
    have HV := Lib.hid (fun W => ref22_Valid MEN W hok)
    obtain ⟨m, hm⟩ : ∃ m, l.length = m := ⟨_, rfl⟩
    have HM := Lib.hid hm
    rw [hm] at HG HL hcp HC HTn HRn HBd HRS HMean o1 o2 ⊢
    obtain ⟨xE, hxE⟩ : ∃ z, sgtE l n dn f = z := ⟨_, rfl⟩
    obtain ⟨xS, hxS⟩ : ∃ z, sgtS l n dn f = z := ⟨_, rfl⟩
    obtain ⟨xL, hxL⟩ : ∃ z, sgtL l n dn f = z := ⟨_, rfl⟩
    rw [hxE] at hE hS hLl
    rw [hxS] at hS
    rw [hxL] at hLl
    rw [hxE, hxS, hxL]
    have HEd := Lib.hid hE
    have HSd := Lib.hid hS
    have HLd := Lib.hid hLl
    clear hE hS hLl hxE hxS hxL hMEN hOUT hm hok hl hC hv0 o c0
    generalize resK (tsS l) (rdS l) n dn = RES at *
    obtain ⟨q0, q1, q2, q3, q4, q5, q6, q7, q8, q9, q10⟩ := HF.out
    have y1 : (0 : Int) < (m : Int) := by omega
    have y2 : 0 < m := by omega
    refine lay_start ?_
    go_enter Tryz.func24, Tryz.ntmps24
    go_wp2_with (go_at_call 57; refine (HG.out _ (HL.out.lay _)).mono ?_; rintro e w' ⟨rfl, dA, rfl⟩)
    go_loopw [10, 11] (fun v10 v11 wr => ∃ (k : Nat) (dd : Ext), k ≤ m ∧ v11 = .int .i64 (k : Int) ∧ wr = lay w [.inr dd, .inl (.cells #[.string ⟨#[]⟩, .int .i64 0, .int .i64 0, .int .i64 0, .int .i64 0, .int .i64 0, .int .i64 0, .int .i64 0, .int .i64 0, .int .i64 0, .int .i64 0] 57 (0, 0)), .inl (.cells #[.int .i64 n, .int .i64 dn] 26 (0, 0))] ∧ Ow (lay w [.inr dd, .inl (.cells #[.string ⟨#[]⟩, .int .i64 0, .int .i64 0, .int .i64 0, .int .i64 0, .int .i64 0, .int .i64 0, .int .i64 0, .int .i64 0, .int .i64 0, .int .i64 0] 57 (0, 0)), .inl (.cells #[.int .i64 n, .int .i64 dn] 26 (0, 0))]) (lay w [.inl (.cells #[.string ⟨#[]⟩, .int .i64 0, .int .i64 0, .int .i64 0, .int .i64 0, .int .i64 0, .int .i64 0, .int .i64 0, .int .i64 0, .int .i64 0, .int .i64 0] 57 (0, 0)), .inl (.cells #[.int .i64 n, .int .i64 dn] 26 (0, 0))]).heap.size v10 (RES k)) (fun _ v11 _ => m - (intOf v11).toNat)
    case atStart => exact ⟨0, dA, Nat.zero_le _, rfl, rfl, by rw [show RES 0 = [] from List.eq_nil_of_length_eq_zero (HLn.out 0)]; exact Ow.nil _ _⟩
    case round =>
      obtain ⟨k, dd, hk, rfl, rfl, hO⟩ := hrel
      have HT := Lib.hid hO
      clear hO
      by_cases hlt : k < m
      · obtain ⟨c0, c1, c2, c3, c4, c5, c6, c7, c8, c9, c10⟩ := HC.out k hlt
        have x1 : (k : Int) < (m : Int) := by omega
        have x0 : (0 : Int) ≤ (k : Int) := by omega
        have w3 : IntKind.i64.wrap ((k : Int) + 1) = (k : Int) + 1 := IntWalk.i64_in _ (by omega)
        have hv := HO.out.get (i := k) (by rw [HM.out]; exact hlt)
        have hm1 := hv.t.mid
        have hm2 := HX0.out.1
        have ht1 := HO.out.t (i := k) (by rw [HM.out]; exact hlt)
        rw [HTn.out k hlt] at ht1
        have hhs := hv.hs
        have hwf := HBd.out k hlt
        rw [HTn.out k hlt, HRn.out k hlt] at hwf
        have HST := Lib.hid (HK.out k)
        rw [HTn.out k hlt, HRn.out k hlt] at HST
        have HMs := Lib.hid (fun W => r23_Middle (getS l k) W hv.t)
        have HR := Lib.hid (fun W => r23_Residual (midI (getS l k) - midI (fstS l)) (getS l k).hs n dn W HO.out.fr (by omega) (by omega))
        have hlen : (RES k).length ≤ 1000000000 := by rw [HLn.out]; omega
        obtain ⟨P, hP⟩ : ∃ P, resI (midI (getS l k) - midI (fstS l)) (getS l k).hs n dn = P := ⟨_, rfl⟩
        rw [hP] at HR hwf HST
        have k1 : IntKind.i64.wrap (midI (getS l k) - midI (fstS l)) = midI (getS l k) - midI (fstS l) := IntWalk.i64_in _ (by omega)
        generalize getS l k = s at *
        generalize fstS l = s0 at *
        rw [sg_val] at HMs HM0
        generalize midI s = M at *
        generalize midI s0 = M0 at *
        clear hv hm1 hm2 ht1 hhs hP
        go_wp2_with fail
        refine region_mixT 19 [0, 0, 0, 0, 0, 0, 0, 0, 0, 0, 0, 0, 0, 0, 0, 0, 0, 0, 1] (by kernel_rfl) (by kernel_rfl) (by kernel_rfl) (by kernel_rfl) (by simp) (by kernel_rfl) ?_
        simp only [List.take_succ_cons, List.take_zero, List.drop_succ_cons, List.drop_zero]
        repeat (first | (refine wpM_quiet (fun K hK => ?_); go_simp; first | (refine hK _ ?_; clear hK K) | (apply Exists.intro; refine ⟨fun _ => ?_, hK _ ?_⟩; (first | (go_at_call 58; exact bq (HR.out _) (fun d => ⟨d, rfl⟩)) | (go_at_call 59; first | ((with_reducible refine bq (HMs.out _) ?_); exact (fun d => ⟨d, rfl⟩)) | ((with_reducible refine bq (HM0.out _) ?_); exact (fun d => ⟨d, rfl⟩)))); clear hK K)) | (refine wpM_special (fun K hK d => ?_); go_simp; refine hK _ _ (by first | exact lay_in w [_] _ | exact lay_in w [_, _] _ | exact lay_in w [_, _, _] _ | exact lay_in w [_, _, _, _] _ | exact lay_in w [_, _, _, _, _] _ | exact lay_in w [_, _, _, _, _, _] _) ?_; clear hK K))
        refine wpM_nil ?_
        intro d1
        rw [lay_bw]
        refine push_int rfl _ _ rfl (lay w [.inl (.cells #[.string ⟨#[]⟩, .int .i64 0, .int .i64 0, .int .i64 0, .int .i64 0, .int .i64 0, .int .i64 0, .int .i64 0, .int .i64 0, .int .i64 0, .int .i64 0] 57 (0, 0)), .inl (.cells #[.int .i64 n, .int .i64 dn] 26 (0, 0))]) _ P 3 _ _ _ ?_ (ow_on (A := [_, _, _]) HT.out) ?_ rfl rfl hlen hwf ?_
        · exact lay_below (A := [_, _, _, _])
        · exact lay_get w _ 1 _ rfl
        intro v' d' hv'
        have HV' := Lib.hid hv'
        clear hv'
        go_wp2_with fail
        go_roundw
        case rel => exact ⟨k + 1, d', hlt, by go_num, rfl, by rw [HST.out]; exact HV'.out⟩
        case measure => simp [intOf]; omega
      · obtain rfl : k = m := by omega
        have x9 : ¬ (k : Int) < (k : Int) := by omega
        rw [← HRS.out] at HT
        go_wp2_with fail
        refine (HOl.out _ _ HT.out.sl).mono ?_
        rintro e w' ⟨vo, dO, rfl, rfl, ho⟩
        rw [lay_bw] at ho ⊢
        rw [show outI (resS l n dn) f = OUT from HOUT.out] at ho
        obtain ⟨dE, eE⟩ := lay_fold w [.inr dO, .inr dd] [.inl (.cells #[.string ⟨#[]⟩, .int .i64 0, .int .i64 0, .int .i64 0, .int .i64 0, .int .i64 0, .int .i64 0, .int .i64 0, .int .i64 0, .int .i64 0, .int .i64 0] 57 (0, 0)), .inl (.cells #[.int .i64 n, .int .i64 dn] 26 (0, 0))]
        change lay w [.inr dO, .inr dd, .inl (.cells #[.string ⟨#[]⟩, .int .i64 0, .int .i64 0, .int .i64 0, .int .i64 0, .int .i64 0, .int .i64 0, .int .i64 0, .int .i64 0, .int .i64 0, .int .i64 0] 57 (0, 0)), .inl (.cells #[.int .i64 n, .int .i64 dn] 26 (0, 0))] = lay w [.inr dE, .inl (.cells #[.string ⟨#[]⟩, .int .i64 0, .int .i64 0, .int .i64 0, .int .i64 0, .int .i64 0, .int .i64 0, .int .i64 0, .int .i64 0, .int .i64 0, .int .i64 0] 57 (0, 0)), .inl (.cells #[.int .i64 n, .int .i64 dn] 26 (0, 0))] at eE
        have ho2 := ho.le (show (lay w [.inl (.cells #[.string ⟨#[]⟩, .int .i64 0, .int .i64 0, .int .i64 0, .int .i64 0, .int .i64 0, .int .i64 0, .int .i64 0, .int .i64 0, .int .i64 0, .int .i64 0] 57 (0, 0)), .inl (.cells #[.int .i64 n, .int .i64 dn] 26 (0, 0))]).heap.size ≤ _ from (lay_below (A := [.inr dd]) (B := [.inl (.cells #[.string ⟨#[]⟩, .int .i64 0, .int .i64 0, .int .i64 0, .int .i64 0, .int .i64 0, .int .i64 0, .int .i64 0, .int .i64 0, .int .i64 0, .int .i64 0] 57 (0, 0)), .inl (.cells #[.int .i64 n, .int .i64 dn] 26 (0, 0))])).size)
        rw [eE] at ho2 ⊢
        have HOut := Lib.hid ho2
        clear ho ho2 eE HT
        go_wp2_with fail
        refine (HMean.out _ _ HOut.out.sl).mono ?_
        rintro e w' ⟨rfl, dM, rfl⟩
        rw [lay_bw, sg_val]
        rw [sg_val] at HV
        have hsz : (lay w [.inl (.cells #[.int .i64 n, .int .i64 dn] 26 (0, 0))]).heap.size < (lay w [.inl (.cells #[.string ⟨#[]⟩, .int .i64 0, .int .i64 0, .int .i64 0, .int .i64 0, .int .i64 0, .int .i64 0, .int .i64 0, .int .i64 0, .int .i64 0, .int .i64 0] 57 (0, 0)), .inl (.cells #[.int .i64 n, .int .i64 dn] 26 (0, 0))]).heap.size := lay_lt _ _ _
        cases hb : sgB MEN
        · rw [hb] at HV HEd
          go_wp2_with (go_at_call 62; refine (HV.out _).mono ?_; rintro e w' ⟨rfl, dV, rfl⟩; rw [lay_bw])
          have q0 : xE = 24 := by rw [HEd.out]; rfl
          have q1 : xS = default := by rw [HSd.out, q0]; rfl
          have q2 : xL = [] := by rw [HLd.out, q0]; rfl
          refine bodyPost_ret (v := .tuple #[zsV, .slice none 0 0, .int .i64 24]) (by simp [results, Tryz.results24, go_sem, zsV]) rfl ?_
          rw [q0, q1, q2]
          obtain ⟨dF, hdF⟩ := lay_ex w [.inr dV, .inl (.cells #[.string MEN.body, .int .i64 MEN.limb, .int .i64 MEN.lo, .int .i64 MEN.hi, .int .i64 MEN.hs, .int .i64 MEN.wi, .int .i64 MEN.hz, .int .i64 MEN.ey, .int .i64 MEN.sh, .int .i64 MEN.te, .int .i64 MEN.pr] 57 (0, 0)), .inr dM, .inr dE, .inl (.cells #[.string ⟨#[]⟩, .int .i64 0, .int .i64 0, .int .i64 0, .int .i64 0, .int .i64 0, .int .i64 0, .int .i64 0, .int .i64 0, .int .i64 0, .int .i64 0] 57 (0, 0)), .inl (.cells #[.int .i64 n, .int .i64 dn] 26 (0, 0))]
          exact ⟨_, dF, rfl, hdF, Ow.nil _ _⟩
        · rw [hb] at HV HEd
          obtain ⟨av, cv, hvo⟩ := HOut.out.form
          subst hvo
          go_wp2_with (go_at_call 62; refine (HV.out _).mono ?_; rintro e w' ⟨rfl, dV, rfl⟩; rw [lay_bw])
          have q0 : xE = 0 := by rw [HEd.out]; rfl
          have q1 : xS = MEN := by rw [HSd.out, q0]; rfl
          have q2 : xL = OUT := by rw [HLd.out, q0]; rfl
          refine bodyPost_ret (v := .tuple #[.agg #[.string MEN.body, .int .i64 MEN.limb, .int .i64 MEN.lo, .int .i64 MEN.hi, .int .i64 MEN.hs, .int .i64 MEN.wi, .int .i64 MEN.hz, .int .i64 MEN.ey, .int .i64 MEN.sh, .int .i64 MEN.te, .int .i64 MEN.pr], .slice av OUT.length cv, .int .i64 0]) (by simp [results, Tryz.results24, go_sem]) rfl ?_
          rw [q0, q1, q2]
          have hsw := ow_swap (.cells #[.string MEN.body, .int .i64 MEN.limb, .int .i64 MEN.lo, .int .i64 MEN.hi, .int .i64 MEN.hs, .int .i64 MEN.wi, .int .i64 MEN.hz, .int .i64 MEN.ey, .int .i64 MEN.sh, .int .i64 MEN.te, .int .i64 MEN.pr] 57 (0, 0)) hsz HOut.out
          have hon := ow_on (A := [.inr dV, .inl (.cells #[.string MEN.body, .int .i64 MEN.limb, .int .i64 MEN.lo, .int .i64 MEN.hi, .int .i64 MEN.hs, .int .i64 MEN.wi, .int .i64 MEN.hz, .int .i64 MEN.ey, .int .i64 MEN.sh, .int .i64 MEN.te, .int .i64 MEN.pr] 57 (0, 0)), .inr dM]) hsw
          obtain ⟨dF, hdF⟩ := lay_ex w [.inr dV, .inl (.cells #[.string MEN.body, .int .i64 MEN.limb, .int .i64 MEN.lo, .int .i64 MEN.hi, .int .i64 MEN.hs, .int .i64 MEN.wi, .int .i64 MEN.hz, .int .i64 MEN.ey, .int .i64 MEN.sh, .int .i64 MEN.te, .int .i64 MEN.pr] 57 (0, 0)), .inr dM, .inr dE, .inl (.cells #[.string MEN.body, .int .i64 MEN.limb, .int .i64 MEN.lo, .int .i64 MEN.hi, .int .i64 MEN.hs, .int .i64 MEN.wi, .int .i64 MEN.hz, .int .i64 MEN.ey, .int .i64 MEN.sh, .int .i64 MEN.te, .int .i64 MEN.pr] 57 (0, 0)), .inl (.cells #[.int .i64 n, .int .i64 dn] 26 (0, 0))]
          refine ⟨_, dF, rfl, hdF, ?_⟩
          rw [← hdF]
          exact hon.le (lay_below (w := w) (A := [.inl (.cells #[.string ⟨#[]⟩, .int .i64 0, .int .i64 0, .int .i64 0, .int .i64 0, .int .i64 0, .int .i64 0, .int .i64 0, .int .i64 0, .int .i64 0, .int .i64 0] 57 (0, 0)), .inl (.cells #[.int .i64 n, .int .i64 dn] 26 (0, 0))]) (B := [])).size
  · have hE : sgtE l n dn f = gvnE l n dn f := if_pos c0
    have hS : sgtS l n dn f = default := by unfold sgtS; rw [if_neg (by rw [hE]; exact c0)]
    have hL : sgtL l n dn f = [] := by unfold sgtL; rw [if_neg (by rw [hE]; exact c0)]
    rw [hE, hS, hL]
    obtain ⟨a, cap, rfl⟩ := hl.form
    have t1 : (gvnE l n dn f == 0) = false := beq_eq_false_iff_ne.2 c0
    have t2 : (gvnE l n dn f != 0) = true := by rw [bne, t1]; rfl
    clear hl hE hS hL c0
    generalize gvnE l n dn f = E at *
    refine lay_start ?_
    go_enter Tryz.func24, Tryz.ntmps24
    go_wp2_with (go_at_call 57; refine (HG.out _ (HL.out.lay _)).mono ?_; rintro e w' ⟨rfl, dA, rfl⟩)
    refine bodyPost_ret (v := .tuple #[zsV, .slice none 0 0, .int .i64 E]) (by simp [results, Tryz.results24, go_sem, zsV]) rfl ?_
    obtain ⟨dF, hdF⟩ := lay_ex w [.inr dA, .inl (.cells #[.string ⟨#[]⟩, .int .i64 0, .int .i64 0, .int .i64 0, .int .i64 0, .int .i64 0, .int .i64 0, .int .i64 0, .int .i64 0, .int .i64 0, .int .i64 0] 57 (0, 0)), .inl (.cells #[.int .i64 n, .int .i64 dn] 26 (0, 0))]
    exact ⟨_, dF, rfl, hdF, Ow.nil _ _⟩
end Go.Proofs.YtmomoeagnkjbiaaGreat
/- The quotient of two words by one, as math/bits reckons it: the plain law (Knuth's digits, of any base B). No program in sight. -/
namespace Go.Proofs.YtmomoeagnkjbiaaGreat

/-- A digit's guess and its rest. -/
structure DI (B U y1 y0 c q r : Nat) : Prop where
  eq : q * y1 + r = U
  up : U * B + c < (q + 1) * (y1 * B + y0)
  qb : q ≤ B + 1
theorem di_init {B U y1 y0 c : Nat} (h1 : B ≤ 2 * y1) (h0 : y0 < B) (hU : U < y1 * B + y0) (hc : c < B) : DI B U y1 y0 c (U / y1) (U % y1) ∧ U % y1 < y1 := by
  have hlt : U % y1 < y1 := Nat.mod_lt _ (by omega)
  have he : U / y1 * y1 + U % y1 = U := by rw [Nat.mul_comm]; exact Nat.div_add_mod U y1
  refine ⟨⟨he, ?_, ?_⟩, hlt⟩
  · have h2 : U + 1 ≤ (U / y1 + 1) * y1 := by rw [Nat.succ_mul]; omega
    have h3 : (U + 1) * B ≤ (U / y1 + 1) * y1 * B := Nat.mul_le_mul_right _ h2
    have h4 : (U / y1 + 1) * (y1 * B + y0) = (U / y1 + 1) * y1 * B + (U / y1 + 1) * y0 := by rw [Nat.mul_add, Nat.mul_assoc]
    rw [h4]
    rw [Nat.succ_mul] at h3
    generalize (U / y1 + 1) * y1 * B = A at *
    generalize (U / y1 + 1) * y0 = C at *
    generalize U * B = D at *
    omega
  · have e : y1 * (B + 2) = y1 * B + y1 * 2 := Nat.mul_add _ _ _
    have h2 : U < y1 * (B + 2) := by
      rw [e]
      generalize y1 * B = A at *
      omega
    have := Nat.div_lt_of_lt_mul h2
    omega
theorem di_step {B U y1 y0 c q r : Nat} (h : DI B U y1 y0 c q r) (hU : U < y1 * B + y0) (hc : c < B) (hcond : B ≤ q ∨ r * B + c < q * y0) : 0 < q ∧ DI B U y1 y0 c (q - 1) (r + y1) ∧ q - 1 ≤ B := by
  have hq : 0 < q := by
    rcases hcond with h1 | h1
    · omega
    · rcases Nat.eq_zero_or_pos q with e | e
      · rw [e, Nat.zero_mul] at h1; omega
      · exact e
  obtain ⟨p, rfl⟩ : ∃ p, q = p + 1 := ⟨q - 1, by omega⟩
  have he := h.eq
  rw [Nat.succ_mul] at he
  refine ⟨hq, ⟨by rw [Nat.add_sub_cancel]; omega, ?_, by have := h.qb; omega⟩, by have := h.qb; omega⟩
  rw [Nat.add_sub_cancel]
  rcases hcond with h1 | h1
  · have h2 : (U + 1) * B ≤ (y1 * B + y0) * B := Nat.mul_le_mul_right _ hU
    have h3 : B * (y1 * B + y0) ≤ (p + 1) * (y1 * B + y0) := Nat.mul_le_mul_right _ h1
    rw [Nat.succ_mul] at h2
    rw [Nat.mul_comm B] at h3
    generalize (p + 1) * (y1 * B + y0) = A at *
    generalize (y1 * B + y0) * B = C at *
    generalize U * B = D at *
    omega
  · have h4 : (p + 1) * (y1 * B + y0) = (p + 1) * y1 * B + (p + 1) * y0 := by rw [Nat.mul_add, Nat.mul_assoc]
    have h5 : U * B = (p + 1) * y1 * B + r * B := by rw [← Nat.add_mul, h.eq]
    rw [h4, h5]
    generalize (p + 1) * y1 * B = A at *
    generalize (p + 1) * y0 = C at *
    generalize r * B = D at *
    omega
theorem di_done {B U y1 y0 c q r : Nat} (h : DI B U y1 y0 c q r) (hle : q * y0 ≤ r * B + c) : (U * B + c) / (y1 * B + y0) = q ∧ q * (y1 * B + y0) ≤ U * B + c := by
  have h4 : q * (y1 * B + y0) = q * y1 * B + q * y0 := by rw [Nat.mul_add, Nat.mul_assoc]
  have h5 : U * B = q * y1 * B + r * B := by rw [← Nat.add_mul, h.eq]
  have hup := h.up
  have hle2 : q * (y1 * B + y0) ≤ U * B + c := by
    rw [h4, h5]
    generalize q * y1 * B = A at *
    generalize q * y0 = C at *
    generalize r * B = D at *
    omega
  exact ⟨Nat.div_eq_of_lt_le hle2 hup, hle2⟩
theorem di_break {B y0 c q r : Nat} (h0 : y0 < B) (hq : q ≤ B) (hr : B ≤ r) : q * y0 ≤ r * B + c :=
  Nat.le_trans (Nat.mul_le_mul hq (Nat.le_of_lt h0)) (Nat.le_trans (Nat.mul_le_mul_right B hr) (Nat.le_add_right _ _))
/-- Two digits make the quotient. -/
theorem two_digits {B U c1 c0 y : Nat} (hy : 0 < y) : ((U * B + c1) * B + c0) / y = (U * B + c1) / y * B + ((U * B + c1) % y * B + c0) / y ∧
    ((U * B + c1) * B + c0) % y = ((U * B + c1) % y * B + c0) % y := by
  have h := Nat.div_add_mod (U * B + c1) y
  generalize U * B + c1 = T at *
  have e : T * B + c0 = y * (T / y * B) + (T % y * B + c0) := by
    have h2 : T * B = y * (T / y) * B + T % y * B := by rw [← Nat.add_mul, h]
    rw [h2, ← Nat.mul_assoc, Nat.add_assoc]
  constructor
  · rw [e, Nat.mul_add_div hy]
  · rw [e, Nat.mul_add_mod]
/-- The shift of both by the same count. -/
theorem shifted (M y s : Nat) : (M * 2 ^ s) / (y * 2 ^ s) = M / y ∧ (M * 2 ^ s) % (y * 2 ^ s) / 2 ^ s = M % y := by
  have hp : 0 < 2 ^ s := Nat.pow_pos (by decide)
  constructor
  · exact Nat.mul_div_mul_right M y hp
  · rw [Nat.mul_mod_mul_right, Nat.mul_div_cancel _ hp]
end Go.Proofs.YtmomoeagnkjbiaaGreat
