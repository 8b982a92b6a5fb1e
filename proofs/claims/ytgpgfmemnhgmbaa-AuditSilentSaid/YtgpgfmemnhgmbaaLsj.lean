/- AuditSilent walked. -/
import Derived.Test.YtgpgfmemnhgmbaaProg
import Derived.Test.YtgpgfmemnhgmbaaLay
import Derived.Test.YtgpgfmemnhgmbaaRegion
import Derived.Test.YtgpgfmemnhgmbaaMix
import Derived.WalkKit
import Derived.WalkSpells
import Derived.WalkLawsBesides
import Derived.Lib.Hide
import Derived.BigQuiet
import Derived.Test.YtgpgfmemnhgmbaaPlain
import Derived.Test.YtgpgfmemnhgmbaaAngle
import Derived.Test.YtgpgfmemnhgmbaaLsi
import Derived.Test.YtgpgfmemnhgmbaaTrk16
namespace Go.Proofs.Ytgpgfmemnhgmbaa
open Go.RowKit

theorem posK_ok {wr : Bool} {l : List Int} {b : Int} (h : gvE wr l b = 0) (hp : Poss wr l b) : posK wr l b = -1 := by
  unfold posK
  rw [if_pos h, if_pos (poss_iff.2 hp)]
theorem lit_i16 {l : List Int} (h : ∀ i, i < l.length → (Lit.int .i16 (l.getD i 0)).wf = true) : ∀ i, -32768 ≤ nth l i ∧ nth l i ≤ 32767 := fun i => by
  by_cases hi : i < l.length
  · have := h i hi
    have e : nth l i = l.getD i 0 := rfl
    rw [← e] at this
    simp [Lit.wf, IntKind.min, IntKind.max, IntKind.bits, IntKind.signed] at this
    omega
  · rw [nth_off (by omega)]; omega
theorem ks_small {m : Int} (hm : 1 ≤ m ∧ m ≤ 64001) (l : List Int) (k : Nat) : ∀ i, -64000 ≤ nth (ksL m l k) i ∧ nth (ksL m l k) i ≤ 64000 := fun i => by
  by_cases hi : i < k
  · rw [nth_ksL hi]
    have := tmod_bd (nth l i) m hm.1
    omega
  · rw [nth_off (by rw [ksL_len]; omega)]; omega
set_option maxHeartbeats 4000000 in
set_option maxRecDepth 100000 in
theorem law15_Silent_out (a0 a1 : Int) (v : Value) (l : List Int) {w : World} (hs : Lst16 w v l) (bend : Int) (bb : 0 ≤ bend ∧ bend ≤ 65535) (wr : Bool) (h : l.length = 0 ∨ 38 < l.length) :
    Calls Try.prog 6 #[.int .i32 a0, .int .i32 a1, v, .int .u16 bend, .bool wr] w fun e w' => e = .returned (.bool true) ∧ ∃ d, w' = bw w d := by
  obtain ⟨b0, b1⟩ := bb
  obtain ⟨B, hB⟩ : ∃ B, bend % 1001 = B := ⟨_, rfl⟩
  have tB : bend.tmod 1001 = B := by rw [Int.tmod_eq_emod_of_nonneg b0]; exact hB
  clear hB
  obtain ⟨a, cap, rfl, -⟩ := hs
  generalize l.length = m at *
  rcases h with h | h
  · subst h
    refine lay_start ?_
    go_enter Try.func6, Try.ntmps6
    go_wp2_with (first | (go_at_call 10; with_reducible refine (law15_awake _).mono ?_; rintro e w' ⟨rfl, d, rfl⟩))
    go_ret
    exact ⟨rfl, lay_ex _ _⟩
  · have t0 : ((m : Int) == 0) = false := beq_eq_false_iff_ne.2 (by omega)
    have t1 : decide ((38 : Int) < (m : Int)) = true := decide_eq_true (by omega)
    refine lay_start ?_
    go_enter Try.func6, Try.ntmps6
    go_wp2_with (first | (go_at_call 10; with_reducible refine (law15_awake _).mono ?_; rintro e w' ⟨rfl, d, rfl⟩))
    go_ret
    exact ⟨rfl, lay_ex _ _⟩
set_option maxHeartbeats 4000000 in
set_option maxRecDepth 100000 in
theorem law15_Silent_in (a0 a1 : Int) (x0 : -2147483648 ≤ a0 ∧ a0 ≤ 2147483647) (x1 : -2147483648 ≤ a1 ∧ a1 ≤ 2147483647) (v : Value) (l : List Int) {w : World} (hs : Lst16 w v l) (bend : Int) (bb : 0 ≤ bend ∧ bend ≤ 65535) (wr : Bool) (h0 : 0 < l.length) (h1 : l.length ≤ 38) :
    Calls Try.prog 6 #[.int .i32 a0, .int .i32 a1, v, .int .u16 bend, .bool wr] w fun e w' => e = .returned (.bool true) ∧ ∃ d, w' = bw w d := by
  obtain ⟨b0, b1⟩ := bb
  obtain ⟨B, hB⟩ : ∃ B, bend % 1001 = B := ⟨_, rfl⟩
  have tB : bend.tmod 1001 = B := by rw [Int.tmod_eq_emod_of_nonneg b0]; exact hB
  have B0 : 0 ≤ B := by omega
  have B1 : B ≤ 1000 := by omega
  clear hB
  obtain ⟨D, hD⟩ : ∃ D, 64 * B + 1 = D := ⟨_, rfl⟩
  have D0 : 1 ≤ D := by omega
  have D1 : D ≤ 64001 := by omega
  have wD : IntKind.i64.wrap (64 * B + 1) = D := by rw [IntWalk.i64_in _ (by omega)]; exact hD
  obtain ⟨a, cap, rfl, -, hwf, hr⟩ := hs
  obtain ⟨b, o, rfl, hbb, hr⟩ := hr (by intro e; rw [e] at h0; exact Nat.lt_irrefl 0 h0)
  have HN := Lib.hid (lit_i16 hwf)
  have HR : Hid (∀ i, i < l.length → w.cell? ⟨b, o + i, none⟩ = some (.int .i16 (nth l i))) := Lib.hid hr
  have HNow := Lib.hid (fun i => now_bd (l := l) (m := D) x1 ⟨D0, D1⟩ i)
  have HSm := Lib.hid (ks_small (m := D) ⟨D0, D1⟩ l l.length)
  have HP : Hid ((wr = true → 128 ≤ leaS a1 D l l.length ∧ mosS a1 D l l.length ≤ 13823872) → Poss wr (rndL wr a0 a1 (ksL D l l.length) (l.length + 2)) B) := Lib.hid (by rw [← hD]; exact silent_poss B0)
  have X0 := Lib.hid x0
  have X1 := Lib.hid x1
  obtain ⟨m, hm⟩ : ∃ m, l.length = m := ⟨_, rfl⟩
  rw [hm] at HR HP HSm h0 h1 ⊢
  clear hr hwf hm hD
  obtain ⟨x0, x2⟩ := x0
  obtain ⟨x1, x3⟩ := x1
  have D2 : D ≠ 0 := by omega
  have t0 : ((m : Int) == 0) = false := beq_eq_false_iff_ne.2 (by omega)
  have t1 : decide ((38 : Int) < (m : Int)) = false := decide_eq_false (by omega)
  refine lay_start ?_
  go_enter Try.func6, Try.ntmps6
  go_wp2_with (first | (go_at_call 10; with_reducible refine (law15_awake _).mono ?_; rintro e w' ⟨rfl, dA, rfl⟩))
  go_loopw [12, 13, 14, 15, 44] (fun v12 v13 v14 v15 v44 wr' => ∃ (k : Nat) (dd : Ext), k ≤ m ∧ v13 = .int .i64 (leaS a1 D l k) ∧ v14 = .int .i64 (mosS a1 D l k) ∧ v15 = .int .i64 (nowS a1 D l k) ∧ v44 = .int .i64 (k : Int) ∧ wr' = lay w [.inr dd, .inr dA] ∧ Ow (lay w [.inr dd, .inr dA]) (lay w [.inr dA]).heap.size v12 (ksL D l k)) (fun _ _ _ _ v44 _ => m - (intOf v44).toNat)
  case atStart => exact ⟨0, noExt _, Nat.zero_le _, rfl, rfl, rfl, rfl, (bw_noExt _).symm, Ow.nil _ _⟩
  case round =>
    obtain ⟨k, dd, hk, rfl, rfl, rfl, rfl, rfl, hown⟩ := hrel
    by_cases hlt : k < m
    · have HST : Hid (ksL D l (k + 1) = ksL D l k ++ [(nth l k).tmod D]) := Lib.hid (ksL_step D l k)
      have HLE : Hid (leaS a1 D l (k + 1) = mn (leaS a1 D l k) (nowS a1 D l k + (nth l k).tmod D)) := Lib.hid rfl
      have HMO : Hid (mosS a1 D l (k + 1) = mx (mosS a1 D l k) (nowS a1 D l k + (nth l k).tmod D)) := Lib.hid rfl
      have HNO : Hid (nowS a1 D l (k + 1) = nowS a1 D l k + (nth l k).tmod D) := Lib.hid rfl
      have hll := ksL_len D l k
      obtain ⟨S0, S1⟩ := HNow.out k
      obtain ⟨N0, N1⟩ := HN.out k
      have hc := HR.out k hlt
      obtain ⟨T0, T1⟩ := tmod_bd (nth l k) D D0
      have x4 : (k : Int) < (m : Int) := by omega
      have HO := Lib.hid hown
      clear hown
      generalize ksL D l k = R at *
      generalize nowS a1 D l k = S at *
      generalize leaS a1 D l k = L at *
      generalize mosS a1 D l k = M at *
      generalize nth l k = N at *
      obtain ⟨T, hT⟩ : ∃ T, N.tmod D = T := ⟨_, rfl⟩
      have lT : (Lit.int .i64 T).wf = true := lit_bd (by omega)
      rw [hT] at HST HLE HMO HNO T0 T1
      go_wp2_with (first | (at_builtin; refine push_int rfl _ _ rfl (lay w [.inr dA]) _ (T) 3 _ _ _ ?_ (ow_on (A := [_]) HO.out) ?_ rfl rfl (by omega) lT ?_; exact lay_below (A := [_, _]); exact lay_get w _ 0 _ rfl; intro v' d' hv'))
      go_roundw
      case rel => exact ⟨k + 1, d', by omega, by rw [HLE.out], by rw [HMO.out], by rw [HNO.out], by go_num, rfl, by rw [HST.out]; exact hv'⟩
      case measure => simp [intOf]; omega
    · obtain rfl : k = m := by omega
      have x4 : ¬ (k : Int) < (k : Int) := by omega
      have HKL := Lib.hid (ksL_len D l k)
      have HO := Lib.hid hown
      obtain ⟨R, hR⟩ : ∃ R, ksL D l k = R := ⟨_, rfl⟩
      rw [hR] at HO HKL HSm HP
      obtain ⟨L, hL⟩ : ∃ L, leaS a1 D l k = L := ⟨_, rfl⟩
      obtain ⟨M, hM⟩ : ∃ M, mosS a1 D l k = M := ⟨_, rfl⟩
      rw [hL, hM] at HP
      rw [hL, hM]
      generalize nowS a1 D l k = S at *
      clear hown hR hL hM HNow
      have hcase : (wr = true ∧ decide (L < 128) = true) ∨ (wr = true ∧ decide (L < 128) = false ∧ decide ((13823872 : Int) < M) = true) ∨ (wr = true ∧ decide (L < 128) = false ∧ decide ((13823872 : Int) < M) = false ∧ 128 ≤ L ∧ M ≤ 13823872) ∨ wr = false := by
        cases wr
        · exact .inr (.inr (.inr rfl))
        · by_cases h1 : L < 128
          · exact .inl ⟨rfl, decide_eq_true h1⟩
          · by_cases h2 : (13823872 : Int) < M
            · exact .inr (.inl ⟨rfl, decide_eq_false h1, decide_eq_true h2⟩)
            · exact .inr (.inr (.inl ⟨rfl, decide_eq_false h1, decide_eq_false h2, by omega, by omega⟩))
      obtain ⟨g, c, hform⟩ := HO.out.form
      rw [HKL.out] at hform
      subst hform
      rcases hcase with ⟨rfl, t3⟩ | ⟨rfl, t3, t4⟩ | ⟨rfl, t3, t4, t5, t6⟩ | rfl
      · go_wp2
        go_ret
        exact ⟨rfl, lay_ex _ _⟩
      · go_wp2
        go_ret
        exact ⟨rfl, lay_ex _ _⟩
      · have HP' := Lib.hid (HP.out (fun _ => ⟨t5, t6⟩))
        go_wp2_with fail
        refine (law15_rounded _ R a0 a1 true _ (sl_on (A := []) HO.out.sl) (by rw [HKL.out]; exact h0) (by rw [HKL.out]; exact h1) ⟨x0, x2⟩ ⟨x1, x3⟩ HSm.out).mono ?_
        rintro e w' ⟨v2, d2, rfl, rfl, hv2⟩
        rw [HKL.out] at hv2
        obtain ⟨g2, c2, rfl⟩ := hv2.form
        rw [rndL_len, lay_bw] at hv2
        rw [rndL_len, lay_bw]
        have HV := Lib.hid hv2.sl
        have HE := Lib.hid (fun W (h : Sl W (.slice g2 (k + 2) c2) (rndL true a0 a1 R (k + 2))) => re_Given _ (rndL true a0 a1 R (k + 2)) true W h)
        have HPo := Lib.hid (fun W (h : Sl W (.slice g2 (k + 2) c2) (rndL true a0 a1 R (k + 2))) => aud_Possible _ (rndL true a0 a1 R (k + 2)) true B W h)
        clear hv2
        by_cases hg : givE true (rndL true a0 a1 R (k + 2)) = 0
        · have hg2 : gvE true (rndL true a0 a1 R (k + 2)) B = 0 := gvE_0.2 ⟨giv_iff.1 hg, B0, B1⟩
          rw [hg2, posK_ok hg2 HP'.out, (posB_iff hg2).2 HP'.out] at HPo
          rw [hg] at HE
          clear hg hg2 HP'
          generalize rndL true a0 a1 R (k + 2) = RL at *
          go_wp2_with fail
          refine (HE.out _ HV.out).mono ?_
          rintro e w' ⟨rfl, rfl⟩
          go_wp2_with fail
          refine (HPo.out _ HV.out).mono ?_
          rintro e w' ⟨rfl, d3, rfl⟩
          rw [lay_bw]
          go_wp2
          go_ret
          exact ⟨rfl, lay_ex _ _⟩
        · have hgn : (givE true (rndL true a0 a1 R (k + 2)) == 0) = false := beq_eq_false_iff_ne.2 hg
          clear HP'
          generalize givE true (rndL true a0 a1 R (k + 2)) = E at *
          generalize rndL true a0 a1 R (k + 2) = RL at *
          go_wp2_with fail
          refine (HE.out _ HV.out).mono ?_
          rintro e w' ⟨rfl, rfl⟩
          go_wp2
          go_ret
          exact ⟨rfl, lay_ex _ _⟩
      · have HP' := Lib.hid (HP.out (fun h => absurd h (by decide)))
        go_wp2_with fail
        refine (law15_rounded _ R a0 a1 false _ (sl_on (A := []) HO.out.sl) (by rw [HKL.out]; exact h0) (by rw [HKL.out]; exact h1) ⟨x0, x2⟩ ⟨x1, x3⟩ HSm.out).mono ?_
        rintro e w' ⟨v2, d2, rfl, rfl, hv2⟩
        rw [HKL.out] at hv2
        obtain ⟨g2, c2, rfl⟩ := hv2.form
        rw [rndL_len, lay_bw] at hv2
        rw [rndL_len, lay_bw]
        have HV := Lib.hid hv2.sl
        have HE := Lib.hid (fun W (h : Sl W (.slice g2 (k + 2) c2) (rndL false a0 a1 R (k + 2))) => re_Given _ (rndL false a0 a1 R (k + 2)) false W h)
        have HPo := Lib.hid (fun W (h : Sl W (.slice g2 (k + 2) c2) (rndL false a0 a1 R (k + 2))) => aud_Possible _ (rndL false a0 a1 R (k + 2)) false B W h)
        clear hv2
        by_cases hg : givE false (rndL false a0 a1 R (k + 2)) = 0
        · have hg2 : gvE false (rndL false a0 a1 R (k + 2)) B = 0 := gvE_0.2 ⟨giv_iff.1 hg, B0, B1⟩
          rw [hg2, posK_ok hg2 HP'.out, (posB_iff hg2).2 HP'.out] at HPo
          rw [hg] at HE
          clear hg hg2 HP'
          generalize rndL false a0 a1 R (k + 2) = RL at *
          go_wp2_with fail
          refine (HE.out _ HV.out).mono ?_
          rintro e w' ⟨rfl, rfl⟩
          go_wp2_with fail
          refine (HPo.out _ HV.out).mono ?_
          rintro e w' ⟨rfl, d3, rfl⟩
          rw [lay_bw]
          go_wp2
          go_ret
          exact ⟨rfl, lay_ex _ _⟩
        · have hgn : (givE false (rndL false a0 a1 R (k + 2)) == 0) = false := beq_eq_false_iff_ne.2 hg
          clear HP'
          generalize givE false (rndL false a0 a1 R (k + 2)) = E at *
          generalize rndL false a0 a1 R (k + 2) = RL at *
          go_wp2_with fail
          refine (HE.out _ HV.out).mono ?_
          rintro e w' ⟨rfl, rfl⟩
          go_wp2
          go_ret
          exact ⟨rfl, lay_ex _ _⟩
end Go.Proofs.Ytgpgfmemnhgmbaa
