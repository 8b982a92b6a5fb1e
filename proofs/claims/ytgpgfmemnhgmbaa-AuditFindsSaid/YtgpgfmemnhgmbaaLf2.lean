/- AuditFinds: the changed list. -/
import Derived.Test.YtgpgfmemnhgmbaaProg
import Derived.Test.YtgpgfmemnhgmbaaLay
import Derived.Test.YtgpgfmemnhgmbaaRegion
import Derived.Test.YtgpgfmemnhgmbaaMix
import Derived.WalkKit
import Derived.WalkSpells
import Derived.WalkLawsBesides
import Derived.Lib.Hide
import Derived.BigQuiet
import Derived.Test.YtgpgfmemnhgmbaaPlain
import Derived.Test.YtgpgfmemnhgmbaaAngle
import Derived.Test.YtgpgfmemnhgmbaaLf
namespace Go.Proofs.Ytgpgfmemnhgmbaa
open Go.RowKit

theorem finds_l0 (w : World) (L : List (Obj ⊕ Ext)) : Sl (lay w (.inl (.cells #[.int .i64 0, .int .i64 0, .int .i64 0] 3 (0, 0)) :: L)) (.slice (some ⟨posn w (shp L), 0, none⟩) 3 3) [0, 0, 0] := sl_lit [0, 0, 0] rfl (by decide) (wf_all (by decide))
set_option maxHeartbeats 40000000 in
set_option maxRecDepth 100000 in
theorem law15_Finds_yes (v : Value) (l : List Int) {w : World} (hs : Sl w v l) (bend : Int) (bb : 0 ≤ bend ∧ bend ≤ 65535) (at_ : Int) (ba : 0 ≤ at_ ∧ at_ ≤ 255) (ch : Int) (bc : -2147483648 ≤ ch ∧ ch ≤ 2147483647)
    (hn : l.length ≤ 40) (hg : Giv false l) (hc : bend % 1001 + 2 < ch ∨ ch < -(bend % 1001) - 2) (hp : Poss false l (bend % 1001)) :
    Calls Try.prog 9 #[v, .int .u16 bend, .int .u8 at_, .int .i32 ch] w fun e w' => e = .returned (.bool true) ∧ ∃ d, w' = bw w d := by
  have hn3 := hg.n3
  have HS := Lib.hid hs
  have HG := Lib.hid (fun W (h : Sl W v l) => re_Given v l false W h)
  have HC := Lib.hid (fun W (h : Sl W v l) => sl_Clone v l W h (by omega) (by omega))
  rw [giv_iff.2 hg] at HG
  obtain ⟨b0, b1⟩ := bb
  obtain ⟨c0, c1⟩ := bc
  obtain ⟨B, hB⟩ : ∃ B, bend % 1001 = B := ⟨_, rfl⟩
  have tB : bend.tmod 1001 = B := by rw [Int.tmod_eq_emod_of_nonneg b0]; exact hB
  have B0 : 0 ≤ B := by omega
  have B1 : B ≤ 1000 := by omega
  rw [hB] at hc hp
  have x0 : IntKind.i32.wrap B = B := IntWalk.i32_in _ (by omega)
  have x1 : IntKind.i32.wrap (-B) = -B := IntWalk.i32_in _ (by omega)
  have x2 : IntKind.i32.wrap (-B - 2) = -B - 2 := IntWalk.i32_in _ (by omega)
  have x3 : IntKind.i32.wrap (B + 2) = B + 2 := IntWalk.i32_in _ (by omega)
  clear hB
  have HP := Lib.hid (fun W (h : Sl W v l) => aud_Possible v l false B W h)
  have e0 : gvE false l B = 0 := gvE_0.2 ⟨hg, B0, B1⟩
  rw [e0, (posB_iff e0).2 hp] at HP
  clear e0
  generalize posK false l B = K at *
  -- the index
  obtain ⟨n, rfl⟩ := Int.eq_ofNat_of_zero_le ba.1
  obtain ⟨k, hk⟩ : ∃ k, n % l.length = k := ⟨_, rfl⟩
  have klt : k < l.length := by rw [← hk]; exact Nat.mod_lt _ (by omega)
  have tA : (n : Int).tmod (l.length : Int) = (k : Int) := by
    rw [Int.tmod_eq_emod_of_nonneg ba.1, ← hk]
    exact (Int.natCast_emod n l.length).symm
  obtain ⟨ba0, ba1⟩ := ba
  obtain ⟨N, hN⟩ : ∃ N, nth l k = N := ⟨_, rfl⟩
  have hNb := perm_bd (hg.perm k klt)
  rw [hN] at hNb
  obtain ⟨n0, n1⟩ := hNb
  obtain ⟨X, hX⟩ : ∃ X, N + ch = X := ⟨_, rfl⟩
  have wX : IntKind.i64.wrap (N + ch) = X := by rw [IntWalk.i64_in _ (by omega)]; exact hX
  have lX : (Lit.int .i64 X).wf = true := lit_bd (by omega)
  have HSL : Hid ((l.set k X).length = l.length) := Lib.hid List.length_set
  have HG2 := Lib.hid (fun W u (h : Sl W u (l.set k X)) => re_Given u (l.set k X) false W h)
  have HP2 := Lib.hid (fun W u (h : Sl W u (l.set k X)) => aud_Possible u (l.set k X) false B W h)
  have HU := Lib.hid (fun W vg u (hg : Sl W vg [0, 0, 0]) (h : Sl W u (l.set k X)) => aud_Suspects ByteArray.empty vg u [0, 0, 0] (l.set k X) 0 0 B W hg h)
  have HX1 := Lib.hid (fun h : ¬ Poss false (l.set k X) B => sus_has hg hp B0 klt h)
  have HX2 := Lib.hid (fun h : ¬ Poss false (l.set k X) B => first_near hp klt h)
  have HX3 : Hid (((0 < k ∧ k + 1 < l.length) ∨ 2 * B + 4 < mx ch (-ch)) → ¬ Poss false (l.set k X) B) := Lib.hid (fun h => by
    rw [← hX, ← hN]; exact wrong_found hn3 hp klt (by omega) h)
  have HM : ∃ m, l.length = m := ⟨_, rfl⟩
  obtain ⟨m, hm⟩ := HM
  obtain ⟨a1, c1', hv1, -⟩ := hs
  subst hv1
  rw [hm] at HG HC HS HP klt tA hn hn3 HSL HX3 ⊢
  have HM := Lib.hid hm
  clear hm hg hp hk
  have m1 : (m : Int) ≠ 0 := by omega
  have m2 : m ≠ 0 := by omega
  have y0 : (0 : Int) ≤ (k : Int) := by omega
  have y1 : (k : Int) < (m : Int) := by omega
  have t1 : decide ((40 : Int) < (m : Int)) = false := decide_eq_false (by omega)
  have ht : (decide (-B - 2 ≤ ch) = true ∧ decide (ch ≤ B + 2) = false) ∨ decide (-B - 2 ≤ ch) = false := by
    by_cases h3 : -B - 2 ≤ ch
    · exact .inl ⟨decide_eq_true h3, decide_eq_false (by omega)⟩
    · exact .inr (decide_eq_false h3)
  by_cases hG2 : givE false (l.set k X) = 0
  · have hg2 := giv_iff.1 hG2
    rw [hG2] at HG2
    have e0 : gvE false (l.set k X) B = 0 := gvE_0.2 ⟨hg2, B0, B1⟩
    have e1 : gvE true [0, 0, 0] B = 0 := gvE_0.2 ⟨giv_iff.1 (by decide), B0, B1⟩
    have e2 : susE [0, 0, 0] (l.set k X) B = 0 := by unfold susE; rw [if_pos e1]; exact e0
    have e3 : susD [0, 0, 0] (l.set k X) B = susL false (l.set k X) B := by unfold susD; rw [if_pos e2]
    rw [e0] at HP2
    rw [e2, e3] at HU
    obtain ⟨R, hR⟩ : ∃ R, susL false (l.set k X) B = R := ⟨_, rfl⟩
    obtain ⟨P, hP⟩ : ∃ P, posB false (l.set k X) B = P := ⟨_, rfl⟩
    obtain ⟨Q, hQ⟩ : ∃ Q, posK false (l.set k X) B = Q := ⟨_, rfl⟩
    obtain ⟨M, hMx⟩ : ∃ M, mx ch (-ch) = M := ⟨_, rfl⟩
    have hMb : M ≤ 2147483648 ∧ -2147483648 ≤ M := by rw [← hMx]; unfold mx; split <;> omega
    obtain ⟨M0, M1⟩ := hMb
    generalize susG [0, 0, 0] (l.set k X) B = RG at HU
    rw [hR] at HU
    rw [hP, hQ] at HP2
    by_cases hps : Poss false (l.set k X) B
    · have hPt : P = true := by rw [← hP]; exact (posB_iff e0).2 hps
      have hno := fun h => HX3.out h hps
      rw [hMx] at hno
      have t5 : decide (2 * B + 4 < M) = false := decide_eq_false (fun h => hno (.inr h))
      have t6 : ¬ 0 < k ∨ (0 < k ∧ ¬ (k : Int) < (m : Int) - 1) := by
        by_cases h : 0 < k
        · exact .inr ⟨h, fun h' => hno (.inl ⟨h, by omega⟩)⟩
        · exact .inl h
      subst hPt
      clear hP hQ hR hno hps e0 e1 e2 e3 hg2 hG2 HX1 HX2 HX3
      generalize R.contains (k : Int) = CB
      rcases t6 with t6 | ⟨t6, t7⟩ <;> rcases ht with ⟨t2, t3⟩ | t2
      · refine lay_start ?_
        go_enter Try.func9, Try.ntmps9
        go_wp2_with (first | (go_at_call 10; with_reducible refine (law15_awake _).mono ?_; rintro e w' ⟨rfl, dA, rfl⟩) | (go_at_call 13; with_reducible refine (HG.out _ (HS.out.lay _)).mono ?_; rintro e w' ⟨rfl, rfl⟩) | (go_at_call 16; with_reducible refine (HP.out _ (HS.out.lay _)).mono ?_; rintro e w' ⟨rfl, dP, rfl⟩))
        refine (HC.out _ (HS.out.lay _)).mono ?_
        rintro e w' ⟨v', dC, rfl, rfl, hv⟩
        obtain ⟨g, c, rfl, h1, h2, h3, h4⟩ := hv.form1 (by rw [HM.out]; omega)
        rw [HM.out] at hv h3 ⊢
        have k0 := hv.cell (i := k) (by rw [HM.out]; omega)
        have k1 := hv.froz k
        rw [hN] at k0
        obtain ⟨d', hd'⟩ := bw_store (d := dC) (i := k) (v := .int .i64 X) h1
        have hv2 := ow_store hv k X lX
        rw [hd'] at hv2
        rw [lay_bw] at k0 k1 hv2
        rw [lay_bw, lay_bw] at hd'
        have HV := Lib.hid hv2.sl
        clear hv hv2 h1 h2
        go_wp2_with fail
        refine (HG2.out _ _ HV.out).mono ?_
        rintro e w' ⟨rfl, rfl⟩
        go_wp2_with fail
        refine (HP2.out _ _ HV.out).mono ?_
        rintro e w' ⟨rfl, dQ, rfl⟩
        rw [lay_bw]
        go_wp2_with fail
        refine (HU.out _ _ _ (finds_l0 w [.inr dQ, .inr d', .inr dP, .inr dA]) (sl_on (A := [_, _]) HV.out)).mono ?_
        rintro e w' ⟨v1, v2, dS, rfl, rfl, hz1, hz2⟩
        rw [lay_bw] at hz1 hz2 ⊢
        have HZ := Lib.hid hz2
        clear hz1 hz2
        go_wp2_with (first | (go_at_call 21; with_reducible refine (sl_Contains _ R (k : Int) _ HZ.out).mono ?_; rintro e w' ⟨rfl, rfl⟩))
        go_ret
        exact ⟨rfl, lay_ex _ _⟩
      · refine lay_start ?_
        go_enter Try.func9, Try.ntmps9
        go_wp2_with (first | (go_at_call 10; with_reducible refine (law15_awake _).mono ?_; rintro e w' ⟨rfl, dA, rfl⟩) | (go_at_call 13; with_reducible refine (HG.out _ (HS.out.lay _)).mono ?_; rintro e w' ⟨rfl, rfl⟩) | (go_at_call 16; with_reducible refine (HP.out _ (HS.out.lay _)).mono ?_; rintro e w' ⟨rfl, dP, rfl⟩))
        refine (HC.out _ (HS.out.lay _)).mono ?_
        rintro e w' ⟨v', dC, rfl, rfl, hv⟩
        obtain ⟨g, c, rfl, h1, h2, h3, h4⟩ := hv.form1 (by rw [HM.out]; omega)
        rw [HM.out] at hv h3 ⊢
        have k0 := hv.cell (i := k) (by rw [HM.out]; omega)
        have k1 := hv.froz k
        rw [hN] at k0
        obtain ⟨d', hd'⟩ := bw_store (d := dC) (i := k) (v := .int .i64 X) h1
        have hv2 := ow_store hv k X lX
        rw [hd'] at hv2
        rw [lay_bw] at k0 k1 hv2
        rw [lay_bw, lay_bw] at hd'
        have HV := Lib.hid hv2.sl
        clear hv hv2 h1 h2
        go_wp2_with fail
        refine (HG2.out _ _ HV.out).mono ?_
        rintro e w' ⟨rfl, rfl⟩
        go_wp2_with fail
        refine (HP2.out _ _ HV.out).mono ?_
        rintro e w' ⟨rfl, dQ, rfl⟩
        rw [lay_bw]
        go_wp2_with fail
        refine (HU.out _ _ _ (finds_l0 w [.inr dQ, .inr d', .inr dP, .inr dA]) (sl_on (A := [_, _]) HV.out)).mono ?_
        rintro e w' ⟨v1, v2, dS, rfl, rfl, hz1, hz2⟩
        rw [lay_bw] at hz1 hz2 ⊢
        have HZ := Lib.hid hz2
        clear hz1 hz2
        go_wp2_with (first | (go_at_call 21; with_reducible refine (sl_Contains _ R (k : Int) _ HZ.out).mono ?_; rintro e w' ⟨rfl, rfl⟩))
        go_ret
        exact ⟨rfl, lay_ex _ _⟩
      · refine lay_start ?_
        go_enter Try.func9, Try.ntmps9
        go_wp2_with (first | (go_at_call 10; with_reducible refine (law15_awake _).mono ?_; rintro e w' ⟨rfl, dA, rfl⟩) | (go_at_call 13; with_reducible refine (HG.out _ (HS.out.lay _)).mono ?_; rintro e w' ⟨rfl, rfl⟩) | (go_at_call 16; with_reducible refine (HP.out _ (HS.out.lay _)).mono ?_; rintro e w' ⟨rfl, dP, rfl⟩))
        refine (HC.out _ (HS.out.lay _)).mono ?_
        rintro e w' ⟨v', dC, rfl, rfl, hv⟩
        obtain ⟨g, c, rfl, h1, h2, h3, h4⟩ := hv.form1 (by rw [HM.out]; omega)
        rw [HM.out] at hv h3 ⊢
        have k0 := hv.cell (i := k) (by rw [HM.out]; omega)
        have k1 := hv.froz k
        rw [hN] at k0
        obtain ⟨d', hd'⟩ := bw_store (d := dC) (i := k) (v := .int .i64 X) h1
        have hv2 := ow_store hv k X lX
        rw [hd'] at hv2
        rw [lay_bw] at k0 k1 hv2
        rw [lay_bw, lay_bw] at hd'
        have HV := Lib.hid hv2.sl
        clear hv hv2 h1 h2
        go_wp2_with fail
        refine (HG2.out _ _ HV.out).mono ?_
        rintro e w' ⟨rfl, rfl⟩
        go_wp2_with fail
        refine (HP2.out _ _ HV.out).mono ?_
        rintro e w' ⟨rfl, dQ, rfl⟩
        rw [lay_bw]
        go_wp2_with fail
        refine (HU.out _ _ _ (finds_l0 w [.inr dQ, .inr d', .inr dP, .inr dA]) (sl_on (A := [_, _]) HV.out)).mono ?_
        rintro e w' ⟨v1, v2, dS, rfl, rfl, hz1, hz2⟩
        rw [lay_bw] at hz1 hz2 ⊢
        have HZ := Lib.hid hz2
        clear hz1 hz2
        go_wp2_with (first | (go_at_call 21; with_reducible refine (sl_Contains _ R (k : Int) _ HZ.out).mono ?_; rintro e w' ⟨rfl, rfl⟩))
        go_ret
        exact ⟨rfl, lay_ex _ _⟩
      · refine lay_start ?_
        go_enter Try.func9, Try.ntmps9
        go_wp2_with (first | (go_at_call 10; with_reducible refine (law15_awake _).mono ?_; rintro e w' ⟨rfl, dA, rfl⟩) | (go_at_call 13; with_reducible refine (HG.out _ (HS.out.lay _)).mono ?_; rintro e w' ⟨rfl, rfl⟩) | (go_at_call 16; with_reducible refine (HP.out _ (HS.out.lay _)).mono ?_; rintro e w' ⟨rfl, dP, rfl⟩))
        refine (HC.out _ (HS.out.lay _)).mono ?_
        rintro e w' ⟨v', dC, rfl, rfl, hv⟩
        obtain ⟨g, c, rfl, h1, h2, h3, h4⟩ := hv.form1 (by rw [HM.out]; omega)
        rw [HM.out] at hv h3 ⊢
        have k0 := hv.cell (i := k) (by rw [HM.out]; omega)
        have k1 := hv.froz k
        rw [hN] at k0
        obtain ⟨d', hd'⟩ := bw_store (d := dC) (i := k) (v := .int .i64 X) h1
        have hv2 := ow_store hv k X lX
        rw [hd'] at hv2
        rw [lay_bw] at k0 k1 hv2
        rw [lay_bw, lay_bw] at hd'
        have HV := Lib.hid hv2.sl
        clear hv hv2 h1 h2
        go_wp2_with fail
        refine (HG2.out _ _ HV.out).mono ?_
        rintro e w' ⟨rfl, rfl⟩
        go_wp2_with fail
        refine (HP2.out _ _ HV.out).mono ?_
        rintro e w' ⟨rfl, dQ, rfl⟩
        rw [lay_bw]
        go_wp2_with fail
        refine (HU.out _ _ _ (finds_l0 w [.inr dQ, .inr d', .inr dP, .inr dA]) (sl_on (A := [_, _]) HV.out)).mono ?_
        rintro e w' ⟨v1, v2, dS, rfl, rfl, hz1, hz2⟩
        rw [lay_bw] at hz1 hz2 ⊢
        have HZ := Lib.hid hz2
        clear hz1 hz2
        go_wp2_with (first | (go_at_call 21; with_reducible refine (sl_Contains _ R (k : Int) _ HZ.out).mono ?_; rintro e w' ⟨rfl, rfl⟩))
        go_ret
        exact ⟨rfl, lay_ex _ _⟩
    · have hPf : P = false := by
        cases h : P
        · rfl
        · exact absurd ((posB_iff e0).1 (hP.trans h)) hps
      have h1 := HX1.out hps
      rw [hR] at h1
      have h2 := HX2.out hps
      have hB : badL false (l.set k X) B 1 ((l.set k X).length - 1) ≠ [] := fun h => hps (poss_iff.1 h)
      have hQ2 : Q = nth (badL false (l.set k X) B 1 ((l.set k X).length - 1)) 0 := by rw [← hQ]; unfold posK; rw [if_pos e0, if_neg hB]
      rw [← hQ2] at h2
      obtain ⟨z8, z9⟩ := h2
      have hCB : R.contains (k : Int) = true := List.contains_iff_mem.2 h1
      subst hPf
      clear hP hQ hR hps e0 e1 e2 e3 hg2 hG2 HX1 HX2 HX3 hB hQ2 h1
      have HCo := Lib.hid (fun W u (h : Sl W u R) => sl_Contains u R (k : Int) W h)
      rw [hCB] at HCo
      rcases ht with ⟨t2, t3⟩ | t2
      · refine lay_start ?_
        go_enter Try.func9, Try.ntmps9
        go_wp2_with (first | (go_at_call 10; with_reducible refine (law15_awake _).mono ?_; rintro e w' ⟨rfl, dA, rfl⟩) | (go_at_call 13; with_reducible refine (HG.out _ (HS.out.lay _)).mono ?_; rintro e w' ⟨rfl, rfl⟩) | (go_at_call 16; with_reducible refine (HP.out _ (HS.out.lay _)).mono ?_; rintro e w' ⟨rfl, dP, rfl⟩))
        refine (HC.out _ (HS.out.lay _)).mono ?_
        rintro e w' ⟨v', dC, rfl, rfl, hv⟩
        obtain ⟨g, c, rfl, h1, h2, h3, h4⟩ := hv.form1 (by rw [HM.out]; omega)
        rw [HM.out] at hv h3 ⊢
        have k0 := hv.cell (i := k) (by rw [HM.out]; omega)
        have k1 := hv.froz k
        rw [hN] at k0
        obtain ⟨d', hd'⟩ := bw_store (d := dC) (i := k) (v := .int .i64 X) h1
        have hv2 := ow_store hv k X lX
        rw [hd'] at hv2
        rw [lay_bw] at k0 k1 hv2
        rw [lay_bw, lay_bw] at hd'
        have HV := Lib.hid hv2.sl
        clear hv hv2 h1 h2
        go_wp2_with fail
        refine (HG2.out _ _ HV.out).mono ?_
        rintro e w' ⟨rfl, rfl⟩
        go_wp2_with fail
        refine (HP2.out _ _ HV.out).mono ?_
        rintro e w' ⟨rfl, dQ, rfl⟩
        rw [lay_bw]
        go_wp2_with fail
        refine (HU.out _ _ _ (finds_l0 w [.inr dQ, .inr d', .inr dP, .inr dA]) (sl_on (A := [_, _]) HV.out)).mono ?_
        rintro e w' ⟨v1, v2, dS, rfl, rfl, hz1, hz2⟩
        rw [lay_bw] at hz1 hz2 ⊢
        have HZ := Lib.hid hz2
        clear hz1 hz2
        go_wp2_with (first | (go_at_call 21; with_reducible refine (HCo.out _ _ HZ.out).mono ?_; rintro e w' ⟨rfl, rfl⟩))
        all_goals (go_ret; exact ⟨rfl, lay_ex _ _⟩)
      · refine lay_start ?_
        go_enter Try.func9, Try.ntmps9
        go_wp2_with (first | (go_at_call 10; with_reducible refine (law15_awake _).mono ?_; rintro e w' ⟨rfl, dA, rfl⟩) | (go_at_call 13; with_reducible refine (HG.out _ (HS.out.lay _)).mono ?_; rintro e w' ⟨rfl, rfl⟩) | (go_at_call 16; with_reducible refine (HP.out _ (HS.out.lay _)).mono ?_; rintro e w' ⟨rfl, dP, rfl⟩))
        refine (HC.out _ (HS.out.lay _)).mono ?_
        rintro e w' ⟨v', dC, rfl, rfl, hv⟩
        obtain ⟨g, c, rfl, h1, h2, h3, h4⟩ := hv.form1 (by rw [HM.out]; omega)
        rw [HM.out] at hv h3 ⊢
        have k0 := hv.cell (i := k) (by rw [HM.out]; omega)
        have k1 := hv.froz k
        rw [hN] at k0
        obtain ⟨d', hd'⟩ := bw_store (d := dC) (i := k) (v := .int .i64 X) h1
        have hv2 := ow_store hv k X lX
        rw [hd'] at hv2
        rw [lay_bw] at k0 k1 hv2
        rw [lay_bw, lay_bw] at hd'
        have HV := Lib.hid hv2.sl
        clear hv hv2 h1 h2
        go_wp2_with fail
        refine (HG2.out _ _ HV.out).mono ?_
        rintro e w' ⟨rfl, rfl⟩
        go_wp2_with fail
        refine (HP2.out _ _ HV.out).mono ?_
        rintro e w' ⟨rfl, dQ, rfl⟩
        rw [lay_bw]
        go_wp2_with fail
        refine (HU.out _ _ _ (finds_l0 w [.inr dQ, .inr d', .inr dP, .inr dA]) (sl_on (A := [_, _]) HV.out)).mono ?_
        rintro e w' ⟨v1, v2, dS, rfl, rfl, hz1, hz2⟩
        rw [lay_bw] at hz1 hz2 ⊢
        have HZ := Lib.hid hz2
        clear hz1 hz2
        go_wp2_with (first | (go_at_call 21; with_reducible refine (HCo.out _ _ HZ.out).mono ?_; rintro e w' ⟨rfl, rfl⟩))
        all_goals (go_ret; exact ⟨rfl, lay_ex _ _⟩)
  · have tE : (givE false (l.set k X) == 0) = false := beq_eq_false_iff_ne.2 hG2
    clear hG2 HX1 HX2 HX3 HP2 HU
    generalize givE false (l.set k X) = E2 at *
    rcases ht with ⟨t2, t3⟩ | t2
    · refine lay_start ?_
      go_enter Try.func9, Try.ntmps9
      go_wp2_with (first | (go_at_call 10; with_reducible refine (law15_awake _).mono ?_; rintro e w' ⟨rfl, dA, rfl⟩) | (go_at_call 13; with_reducible refine (HG.out _ (HS.out.lay _)).mono ?_; rintro e w' ⟨rfl, rfl⟩) | (go_at_call 16; with_reducible refine (HP.out _ (HS.out.lay _)).mono ?_; rintro e w' ⟨rfl, dP, rfl⟩))
      refine (HC.out _ (HS.out.lay _)).mono ?_
      rintro e w' ⟨v', dC, rfl, rfl, hv⟩
      obtain ⟨g, c, rfl, h1, h2, h3, h4⟩ := hv.form1 (by rw [HM.out]; omega)
      rw [HM.out] at hv h3 ⊢
      have k0 := hv.cell (i := k) (by rw [HM.out]; omega)
      have k1 := hv.froz k
      rw [hN] at k0
      obtain ⟨d', hd'⟩ := bw_store (d := dC) (i := k) (v := .int .i64 X) h1
      have hv2 := ow_store hv k X lX
      rw [hd'] at hv2
      rw [lay_bw] at k0 k1 hv2
      rw [lay_bw, lay_bw] at hd'
      have HV := Lib.hid hv2.sl
      clear hv hv2 h1 h2
      go_wp2_with fail
      refine (HG2.out _ _ HV.out).mono ?_
      rintro e w' ⟨rfl, rfl⟩
      go_wp2
      go_ret
      exact ⟨rfl, lay_ex _ _⟩
    · refine lay_start ?_
      go_enter Try.func9, Try.ntmps9
      go_wp2_with (first | (go_at_call 10; with_reducible refine (law15_awake _).mono ?_; rintro e w' ⟨rfl, dA, rfl⟩) | (go_at_call 13; with_reducible refine (HG.out _ (HS.out.lay _)).mono ?_; rintro e w' ⟨rfl, rfl⟩) | (go_at_call 16; with_reducible refine (HP.out _ (HS.out.lay _)).mono ?_; rintro e w' ⟨rfl, dP, rfl⟩))
      refine (HC.out _ (HS.out.lay _)).mono ?_
      rintro e w' ⟨v', dC, rfl, rfl, hv⟩
      obtain ⟨g, c, rfl, h1, h2, h3, h4⟩ := hv.form1 (by rw [HM.out]; omega)
      rw [HM.out] at hv h3 ⊢
      have k0 := hv.cell (i := k) (by rw [HM.out]; omega)
      have k1 := hv.froz k
      rw [hN] at k0
      obtain ⟨d', hd'⟩ := bw_store (d := dC) (i := k) (v := .int .i64 X) h1
      have hv2 := ow_store hv k X lX
      rw [hd'] at hv2
      rw [lay_bw] at k0 k1 hv2
      rw [lay_bw, lay_bw] at hd'
      have HV := Lib.hid hv2.sl
      clear hv hv2 h1 h2
      go_wp2_with fail
      refine (HG2.out _ _ HV.out).mono ?_
      rintro e w' ⟨rfl, rfl⟩
      go_wp2
      go_ret
      exact ⟨rfl, lay_ex _ _⟩
end Go.Proofs.Ytgpgfmemnhgmbaa
