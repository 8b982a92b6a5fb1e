/- Contracts and plain laws, several texts in one: LiC; LaN -/
import Derived.Test.YtmomoeagnkjbiaaGreatProg
import Derived.WalkKit
import Derived.WalkSpells
import Derived.WalkLawsBesides
import Derived.Lib.Hide
import Derived.BigQuiet
import Derived.Test.YtmomoeagnkjbiaaGreatBAA
import Derived.Test.YtmomoeagnkjbiaaGreatBAB
import Derived.Test.YtmomoeagnkjbiaaGreatBAV
import Derived.Test.YtmomoeagnkjbiaaGreatBAY
import Derived.Test.YtmomoeagnkjbiaaGreatBBF
import Derived.Test.YtmomoeagnkjbiaaGreatBBG
/- The reference's Line. -/
namespace Go.Proofs.YtmomoeagnkjbiaaGreat
open Go.RowKit

set_option maxHeartbeats 4000000 in
set_option maxRecDepth 100000 in
theorem r23_Line (vt vh : Value) (t h : List Int) (w : World) (ht : Sl w vt t) (hh : Sl w vh h) :
    Calls Tryz.prog 18 #[vt, vh] w fun e w' => e = .returned (.tuple #[(.agg #[.int .i64 (lnN t h), .int .i64 (lnD t h)]), .int .i64 (lnK t h), .int .i64 (lnE t h)]) ∧ ∃ d, w' = bw w d := by
  have HC := Lib.hid (fun W (q1 : Sl W vt t) (q2 : Sl W vh h) => r23_lists vt vh t h W q1 q2)
  have HT := Lib.hid ht
  have HH := Lib.hid hh
  by_cases c0 : chkE t h = 0
  · obtain ⟨hl, h1, hn, bt, bh⟩ := chk_bd c0
    rw [c0] at HC
    have HLl := Lib.hid (risAll_len t h t.length)
    have HF := Lib.hid (ln_cases t h c0)
    have HSp := Lib.hid (fun W (q1 : Sl W vt t) (q2 : Sl W vh h) => r23_slopes vt vh t h W q1 q2 hl h1 hn bt bh)
    have HRs := Lib.hid (fun W n d (q1 : Sl W vt t) (q2 : Sl W vh h) hs => r23_residuals vt vh t h n d W q1 q2 hl h1 (by omega) (fun i hi => by have := bt i hi; omega) (fun i hi => by have := bh i hi; omega) hs)
    obtain ⟨a1, cap1, rfl, -⟩ := ht
    obtain ⟨a2, cap2, rfl, -⟩ := hh
    rw [← hl] at HH HC HSp HRs ⊢
    have HB1 := Lib.hid (And.intro h1 hn)
    obtain ⟨eN, hN⟩ : ∃ z, lnN t h = z := ⟨_, rfl⟩
    obtain ⟨eD, hD⟩ : ∃ z, lnD t h = z := ⟨_, rfl⟩
    obtain ⟨eK, hK⟩ : ∃ z, lnK t h = z := ⟨_, rfl⟩
    obtain ⟨eE, hE⟩ : ∃ z, lnE t h = z := ⟨_, rfl⟩
    rw [hN, hD, hK, hE] at HF ⊢
    obtain ⟨m, hm⟩ : ∃ m, t.length = m := ⟨_, rfl⟩
    have HR0 : Hid (∃ R, risAll t h t.length = R) := Lib.hid ⟨_, rfl⟩
    obtain ⟨R0, hR0⟩ := HR0.out
    unfold SlpP at HSp
    rw [hR0] at HSp HLl HF
    rw [hm] at HH HT HC HSp HRs HB1 HLl HF ⊢
    clear hl bt bh c0 hN hD hK hE hm h1 hn
    refine lay_start ?_
    go_enter Tryz.func18, Tryz.ntmps18
    go_wp2_with (go_at_call 45; refine (HC.out _ (HT.out.lay _) (HH.out.lay _)).mono ?_; rintro e w' ⟨rfl, dA, rfl⟩)
    refine (HSp.out _ (HT.out.lay _) (HH.out.lay _)).mono ?_
    rintro e w' ⟨v8, d2, L', rfl, rfl, hO, hp, hs⟩
    rw [lay_bw] at hO ⊢
    have HO := Lib.hid hO
    obtain ⟨q, hq⟩ : ∃ q, R0.length = q := ⟨_, rfl⟩
    have hqb : q ≤ 1000000 := by
      rw [← hq]
      have := HLl.out
      have h2 : m * m ≤ 1000 * 1000 := Nat.mul_le_mul HB1.out.2 HB1.out.2
      omega
    rw [hq] at HF
    have HQ : Hid (L'.length = q) := Lib.hid (by rw [hp.length_eq]; exact hq)
    have HPS := Lib.hid (And.intro hp hs)
    have HQ0 := Lib.hid hq
    clear hO hp hs hq HSp HLl
    by_cases hq0 : q = 0
    · subst hq0
      obtain ⟨a, cp, hv8⟩ := HO.out.form
      rw [HQ.out] at hv8
      subst hv8
      obtain ⟨r1, r2, r3, r4⟩ := HF.out.1 (List.eq_nil_of_length_eq_zero HQ0.out)
      subst r1 r2 r3 r4
      go_wp2_with fail
      exact bodyPost_ret (v := .tuple #[(.agg #[.int .i64 (0), .int .i64 (0)]), .int .i64 0, .int .i64 12]) (by simp [results, Tryz.results18, go_sem]) rfl ⟨rfl, lay_ex _ _⟩
    · obtain ⟨g, cp, hv8, hg1, hg2, hg3⟩ := HO.out.form1 (by rw [HQ.out]; omega)
      rw [HQ.out] at hv8 hg3
      subst hv8
      have z1 : ((q : Int) == 0) = false := beq_eq_false_iff_ne.2 (by omega)
      obtain ⟨lo, hlo⟩ : ∃ lo, (q - 1) / 2 = lo := ⟨_, rfl⟩
      rw [hlo] at HF
      have hlq : lo < q := by omega
      have z2 : IntKind.i64.wrap ((q : Int) - 1) = (q : Int) - 1 := IntWalk.i64_in _ (by omega)
      have z3 : ((q : Int) - 1).tdiv 2 = (lo : Int) := by rw [Int.tdiv_eq_ediv_of_nonneg (by omega)]; omega
      obtain ⟨x, hx⟩ : ∃ x, L'[lo]? = some x := ⟨_, List.getElem?_eq_getElem (by rw [HQ.out]; exact hlq)⟩
      have HC2 := Lib.hid (HF.out.2 L' x HPS.out.1 HPS.out.2 hx)
      have g1 := HO.out.cell prOk hx (j := 0) rfl
      have g2 := HO.out.cell prOk hx (j := 1) rfl
      have hxb := x.2
      obtain ⟨X, hX⟩ : ∃ X, 1000 * x.1.h = X := ⟨_, rfl⟩
      obtain ⟨T, hT⟩ : ∃ T, x.1.t = T := ⟨_, rfl⟩
      rw [hX, hT] at HC2
      have g1' : (lay w [.inr d2, .inr dA, .inl (.cells #[.int .i64 0, .int .i64 0] 26 (0, 0))]).cell? ⟨g, lo * 2, none⟩ = some (.int .i64 X) := by rw [← hX]; exact g1
      have g2' : (lay w [.inr d2, .inr dA, .inl (.cells #[.int .i64 0, .int .i64 0] 26 (0, 0))]).cell? ⟨g, lo * 2 + 1, none⟩ = some (.int .i64 T) := by rw [← hT]; exact g2
      have HMk := Lib.hid (fun W => r3_Make X T W (by omega) (by omega))
      have eMk : mkE X T = if mkBig X T = true then 5 else 0 := if_neg (by omega)
      have u2 : (0 : Int) ≤ (lo : Int) := by omega
      have u3 : (lo : Int) < (q : Int) := by omega
      have hT1 : 1 ≤ T := by omega
      have HT1 := Lib.hid hT1
      clear hx hxb hX hT g1 g2 HF hg1 hg2 hg3 hlo HPS hT1
      cases hbig : mkBig X T
      · have HOk := Lib.hid (mk_ok HT1.out hbig)
        rw [hbig, if_neg (by decide)] at eMk
        unfold mkNN mkDD at HMk
        rw [eMk, if_pos rfl, if_pos rfl] at HMk
        have HSl := Lib.hid (fun W => r23_Slope1 _ _ W HOk.out)
        have HC3 := Lib.hid (HC2.out.2 hbig)
        have HC4 := Lib.hid (fun hh => HC2.out.1 (.inr hh))
        clear hbig eMk HC2
        generalize mkN X T = N at *
        generalize mkD X T = Dn at *
        cases hsl : slpB N Dn
        · rw [hsl] at HSl
          obtain ⟨r1, r2, r3, r4⟩ := HC4.out hsl
          subst r1 r2 r3 r4
          clear hsl HC3 HC4
          go_wp2_with (first | (go_at_call 37; refine (HMk.out _).mono ?_; rintro e w' ⟨rfl, d4, rfl⟩) | (go_at_call 47; refine (HSl.out _).mono ?_; rintro e w' ⟨rfl, d5, rfl⟩))
          exact bodyPost_ret (v := .tuple #[(.agg #[.int .i64 (0), .int .i64 (0)]), .int .i64 0, .int .i64 5]) (by simp [results, Tryz.results18, go_sem]) rfl ⟨rfl, lay_ex _ _⟩
        · rw [hsl] at HSl
          obtain ⟨r1, r2, r3, r4⟩ := HC3.out hsl
          subst r1 r2 r4
          clear hsl HC3 HC4
          go_wp2_with (first | (go_at_call 37; refine (HMk.out _).mono ?_; rintro e w' ⟨rfl, d4, rfl⟩) | (go_at_call 47; refine (HSl.out _).mono ?_; rintro e w' ⟨rfl, d5, rfl⟩))
          have HMd := Lib.hid (fun v W q => r23_Lower v (resK t h eN eD m) W q (by rw [resK_len]; exact HB1.out.1) (by rw [resK_len]; have := HB1.out.2; omega))
          rw [← r3] at HMd
          clear r3
          refine region_mixS 6 [(0, 0), (1, 2), (2, 2), (3, 1), (4, 1), (5, 1), (6, 3), (7, 2), (8, 2)] (by kernel_rfl) (by kernel_rfl) (by kernel_rfl) rfl ?_
          repeat (first | (refine wpMS_pure rfl (fun K hK => ?_); go_simp; refine hK _ ?_; clear hK K) | (refine wpMS_quiet rfl (fun K hK => ?_); go_simp; first | (refine hK _ ?_; clear hK K) | (apply Exists.intro; refine ⟨fun _ => ?_, hK _ ?_⟩; (first | fail); clear hK K)))
          refine wpMS_special rfl (fun K hK e1 => ?_)
          go_simp
          refine hK _ _ ⟨_, rfl⟩ ?_
          clear hK K
          refine wpMS_special rfl (fun K hK e2 => ?_)
          go_simp
          refine (HRs.out _ _ _ (HT.out.lay _) (HH.out.lay _) HOk.out).mono ?_
          rintro e w' ⟨v, d6, rfl, rfl, hv⟩
          refine ⟨_, rfl, ?_⟩
          rw [lay_bw] at hv ⊢
          have HV := Lib.hid (fun e3 => hv.sl.bw e3)
          clear hv
          refine hK _ _ (lay_in w [_, _, _] _) ?_
          clear hK K
          refine wpMS_special rfl (fun K hK e3 => ?_)
          rw [lay_bw]
          go_simp
          refine (HMd.out v _ (HV.out e3)).mono ?_
          rintro e w' ⟨rfl, d7, rfl⟩
          refine ⟨_, rfl, ?_⟩
          rw [lay_bw, lay_bw]
          refine hK _ _ (lay_in w [_, _, _, _, _] _) ?_
          clear hK K
          refine wpMS_store rfl (fun K hK e4 => ?_)
          rw [lay_bw]
          go_simp
          refine hK _ _ ?_
          clear hK K
          repeat (first | (refine wpMS_pure rfl (fun K hK => ?_); go_simp; refine hK _ ?_; clear hK K) | (refine wpMS_quiet rfl (fun K hK => ?_); go_simp; first | (refine hK _ ?_; clear hK K) | (apply Exists.intro; refine ⟨fun _ => ?_, hK _ ?_⟩; (first | fail); clear hK K)))
          refine wpMS_nil ?_
          intro d9
          rw [lay_bw]
          go_wp2_with fail
          exact bodyPost_ret (v := .tuple #[(.agg #[.int .i64 (eN), .int .i64 (eD)]), .int .i64 eK, .int .i64 0]) (by simp [results, Tryz.results18, go_sem]) rfl ⟨rfl, lay_ex _ _⟩
      · rw [hbig, if_pos rfl] at eMk
        unfold mkNN mkDD at HMk
        rw [eMk, if_neg (by decide), if_neg (by decide)] at HMk
        obtain ⟨r1, r2, r3, r4⟩ := HC2.out.1 (.inl hbig)
        subst r1 r2 r3 r4
        clear HC2 hbig eMk
        go_wp2_with (go_at_call 37; refine (HMk.out _).mono ?_; rintro e w' ⟨rfl, d4, rfl⟩)
        exact bodyPost_ret (v := .tuple #[(.agg #[.int .i64 (0), .int .i64 (0)]), .int .i64 0, .int .i64 5]) (by simp [results, Tryz.results18, go_sem]) rfl ⟨rfl, lay_ex _ _⟩
  · have hE := lnE_chk c0
    obtain ⟨n1, n2, n3⟩ := ln_bad (t := t) (h := h) (by rw [hE]; exact c0)
    rw [n1, n2, n3, hE]
    obtain ⟨a1, c1, rfl, -⟩ := ht
    obtain ⟨a2, c2, rfl, -⟩ := hh
    have t1 : (chkE t h == 0) = false := beq_eq_false_iff_ne.2 c0
    have t2 : (chkE t h != 0) = true := by rw [bne, t1]; rfl
    clear hE n1 n2 n3
    generalize chkE t h = E at *
    refine lay_start ?_
    go_enter Tryz.func18, Tryz.ntmps18
    go_wp2_with (go_at_call 45; refine (HC.out _ (HT.out.lay _) (HH.out.lay _)).mono ?_; rintro e w' ⟨rfl, dA, rfl⟩)
    exact bodyPost_ret (v := .tuple #[(.agg #[.int .i64 (0), .int .i64 (0)]), .int .i64 0, .int .i64 E]) (by simp [results, Tryz.results18, go_sem]) rfl ⟨rfl, lay_ex _ _⟩
end Go.Proofs.YtmomoeagnkjbiaaGreat
/- The law AverageLines. -/
namespace Go.Proofs.YtmomoeagnkjbiaaGreat
open Go.RowKit

set_option maxHeartbeats 4000000 in
set_option maxRecDepth 100000 in
theorem law23_Lines {w : World} (vt : Value) (t : List Int) (ht : Sl w vt t) (vh : Value) (h : List Int) (hh : Sl w vh h) (n d : Int) (_g0 : (Lit.int .i64 n).wf = true) (_g1 : (Lit.int .i64 d).wf = true) :
    Calls Tryz.prog 5 #[vt, vh, (.agg #[.int .i64 (n), .int .i64 (d)])] w fun e w' => e = .returned (.bool true) ∧ ∃ d, w' = bw w d := by
  have HT := Lib.hid ht
  have HH := Lib.hid hh
  have HM1 := Lib.hid (fun W (q : Sl W vt t) => law23_many vt t W q)
  have HM2 := Lib.hid (fun W (q : Sl W vh h) => law23_many vh h W q)
  have HA := Lib.hid (fun W (q1 : Sl W vt t) (q2 : Sl W vh h) => av_Line vt vh t h W q1 q2)
  have HB := Lib.hid (fun W (q1 : Sl W vt t) (q2 : Sl W vh h) => r23_Line vt vh t h W q1 q2)
  have HC := Lib.hid (fun W (q1 : Sl W vt t) (q2 : Sl W vh h) => av_Residuals vt vh t h n d W q1 q2)
  have HD := Lib.hid (fun W (q1 : Sl W vt t) (q2 : Sl W vh h) => r23_Residuals vt vh t h n d W q1 q2)
  obtain ⟨a1, c1, rfl, -⟩ := ht
  obtain ⟨a2, c2, rfl, -⟩ := hh
  cases hm1 : manyA t.length
  · rw [hm1] at HM1
    cases hm2 : manyA h.length
    · rw [hm2] at HM2
      generalize lnN t h = N at *
      generalize lnD t h = D at *
      generalize lnK t h = K at *
      generalize lnE t h = E at *
      generalize rsdL t h n d = R at *
      generalize rsdE t h n d = F at *
      have t1 : (N == N) = true := beq_iff_eq.2 rfl
      have t2 : (D == D) = true := beq_iff_eq.2 rfl
      have t3 : (K == K) = true := beq_iff_eq.2 rfl
      have t4 : (E == E) = true := beq_iff_eq.2 rfl
      have t5 : (F == F) = true := beq_iff_eq.2 rfl
      clear hm1 hm2
      refine lay_start ?_
      go_enter Tryz.func5, Tryz.ntmps5
      go_wp2_with (go_at_call 7; refine (law23_awake _).mono ?_; rintro e w' ⟨rfl, dA, rfl⟩)
      refine (HM1.out _ (HT.out.lay _)).mono ?_
      rintro e w1 ⟨rfl, hw1⟩
      rw [hw1]
      go_wp2_with fail
      refine (HM2.out _ (HH.out.lay _)).mono ?_
      rintro e w1 ⟨rfl, hw1⟩
      rw [hw1]
      go_wp2_with (first | (go_at_call 17; refine (HA.out _ (HT.out.lay _) (HH.out.lay _)).mono ?_; rintro e w' ⟨rfl, dB, rfl⟩) | (go_at_call 18; refine (HB.out _ (HT.out.lay _) (HH.out.lay _)).mono ?_; rintro e w' ⟨rfl, dC, rfl⟩))
      refine (HC.out _ (HT.out.lay _) (HH.out.lay _)).mono ?_
      rintro e w' ⟨v1, d1, rfl, rfl, h1⟩
      rw [lay_bw] at h1 ⊢
      have H1 := Lib.hid h1
      clear h1
      go_wp2_with fail
      refine (HD.out _ (HT.out.lay _) (HH.out.lay _)).mono ?_
      rintro e w' ⟨v2, d2, rfl, rfl, h2⟩
      rw [lay_bw] at h2 ⊢
      have H2 := Lib.hid h2
      clear h2
      go_wp2_with fail
      refine (sl_EqT _ _ R _ (sl_on (A := [_]) H1.out.sl) H2.out.sl).mono ?_
      rintro e w' ⟨rfl, d3, rfl⟩
      rw [lay_bw]
      go_wp2_with fail
      go_ret
      exact ⟨rfl, lay_ex _ _⟩
    · rw [hm2] at HM2
      clear hm1 hm2
      refine lay_start ?_
      go_enter Tryz.func5, Tryz.ntmps5
      go_wp2_with (go_at_call 7; refine (law23_awake _).mono ?_; rintro e w' ⟨rfl, dA, rfl⟩)
      refine (HM1.out _ (HT.out.lay _)).mono ?_
      rintro e w1 ⟨rfl, hw1⟩
      rw [hw1]
      go_wp2_with fail
      refine (HM2.out _ (HH.out.lay _)).mono ?_
      rintro e w1 ⟨rfl, hw1⟩
      rw [hw1]
      go_wp2_with fail
      go_ret
      exact ⟨rfl, lay_ex _ _⟩
  · rw [hm1] at HM1
    clear hm1
    refine lay_start ?_
    go_enter Tryz.func5, Tryz.ntmps5
    go_wp2_with (go_at_call 7; refine (law23_awake _).mono ?_; rintro e w' ⟨rfl, dA, rfl⟩)
    refine (HM1.out _ (HT.out.lay _)).mono ?_
    rintro e w1 ⟨rfl, hw1⟩
    rw [hw1]
    go_wp2_with fail
    go_ret
    exact ⟨rfl, lay_ex _ _⟩
end Go.Proofs.YtmomoeagnkjbiaaGreat
