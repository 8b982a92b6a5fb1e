/- Contracts and plain laws, several texts in one: Rg2; DgP; DgQ -/
import Derived.Test.YtmomoeagnkjbiaaGreatProg
import Derived.WalkKit
import Derived.WalkSpells
import Derived.WalkLawsBesides
import Derived.Lib.Hide
import Derived.BigQuiet
import Derived.Test.YtmomoeagnkjbiaaGreatCAA
import Derived.Test.YtmomoeagnkjbiaaGreatCAB
import Derived.Test.YtmomoeagnkjbiaaGreatCAF
import Derived.Test.YtmomoeagnkjbiaaGreatCAP
import Derived.Test.YtmomoeagnkjbiaaGreatCAQ
/- The reference on sights: given. -/
namespace Go.Proofs.YtmomoeagnkjbiaaGreat
open Go.RowKit

theorem any_succ {p : SgV → Bool} {l : List SgV} {k : Nat} (h : k < l.length) : (l.take (k + 1)).any p = ((l.take k).any p || p (getS l k)) := by
  rw [List.take_succ_eq_append_getElem h, List.any_append]
  simp [getS, List.getElem?_eq_getElem h]
theorem any_yes {p : SgV → Bool} {l : List SgV} {k : Nat} (h : k < l.length) (hp : p (getS l k) = true) : l.any p = true := by
  rw [List.any_eq_true]
  exact ⟨_, List.mem_of_getElem? (getS_some h), hp⟩
theorem likB_symm (a b : SgV) : likB a b = likB b a := by
  unfold likB
  rw [decide_eq_decide]
  exact ⟨fun ⟨h1, h2, h3, h4, h5, h6, h7⟩ => ⟨h1.symm, h2.symm, h3.symm, h4.symm, h5.symm, h6.symm, h7.symm⟩, fun ⟨h1, h2, h3, h4, h5, h6, h7⟩ => ⟨h1.symm, h2.symm, h3.symm, h4.symm, h5.symm, h6.symm, h7.symm⟩⟩
theorem sg_cells {w : World} {v : Value} {l : List SgV} (hl : SlG sgR w v l) (h1 : 1 ≤ l.length) :
    ∃ b o cap, v = .slice (some ⟨b, o, none⟩) l.length cap ∧ (l.length ≤ cap ∧ cap ≤ 9223372036854775807) ∧ b < w.heap.size ∧ ∀ k, k < l.length → Fst w b (o + k * 11) (getS l k) := by
  obtain ⟨b, o, cap, rfl, hc, hb, hr⟩ := hl.open (by omega)
  refine ⟨b, o, cap, rfl, hc, hb, fun k hk => ?_⟩
  have g := fun j u (hu : (getS l k).cells[j]? = some u) => hr k _ (getS_some hk) j u hu
  simp only [show sgR.k = 11 from rfl, ← Nat.add_assoc] at g
  exact ⟨g 0 _ rfl, g 1 _ rfl, g 2 _ rfl, g 3 _ rfl, g 4 _ rfl, g 5 _ rfl, g 6 _ rfl, g 7 _ rfl, g 8 _ rfl, g 9 _ rfl, g 10 _ rfl⟩
set_option maxHeartbeats 8000000 in
set_option maxRecDepth 100000 in
theorem r23_given (v : Value) (l : List SgV) (n d f : Int) (w : World) (hl : SlG sgR w v l) :
    Calls Tryz.prog 57 #[v, (.agg #[.int .i64 (n), .int .i64 (d)]), .int .i64 f] w fun e w' => e = .returned (.int .i64 (gvnE l n d f)) ∧ ∃ d, w' = bw w d := by
  have HV := Lib.hid (fun W => r3_Valid n d W)
  have HFa := Lib.hid (fun W => r23_factored f W)
  by_cases hz : l.length = 0
  · obtain rfl : l = [] := List.length_eq_zero_iff.1 hz
    obtain ⟨a, cap, rfl⟩ := hl.form
    have hE : gvnE [] n d f = if fracB n d = false then 1 else 3 := by
      unfold gvnE
      simp
    rw [hE]
    cases hf : fracB n d
    · rw [hf] at HV
      rw [if_pos rfl]
      clear hE hf hl hz
      refine lay_start ?_
      go_enter Tryz.func57, Tryz.ntmps57
      go_wp2_with fail
      go_loopw [7] (fun v7 wr => ∃ dd : Ext, v7 = .int .i64 0 ∧ wr = lay w [.inr dd, .inl (.cells #[.int .i64 n, .int .i64 d] 26 (0, 0))]) (fun _ _ => 0)
      case atStart => exact ⟨noExt _, rfl, (bw_noExt _).symm⟩
      case round =>
        obtain ⟨dd, rfl, rfl⟩ := hrel
        go_wp2_with (go_at_call 13; refine (HV.out _).mono ?_; rintro e w' ⟨rfl, dV, rfl⟩; rw [lay_bw])
        go_ret
        exact ⟨rfl, lay_ex _ _⟩
    · rw [hf] at HV
      rw [if_neg (by decide)]
      clear hE hf hl hz
      refine lay_start ?_
      go_enter Tryz.func57, Tryz.ntmps57
      go_wp2_with fail
      go_loopw [7] (fun v7 wr => ∃ dd : Ext, v7 = .int .i64 0 ∧ wr = lay w [.inr dd, .inl (.cells #[.int .i64 n, .int .i64 d] 26 (0, 0))]) (fun _ _ => 0)
      case atStart => exact ⟨noExt _, rfl, (bw_noExt _).symm⟩
      case round =>
        obtain ⟨dd, rfl, rfl⟩ := hrel
        go_wp2_with (go_at_call 13; refine (HV.out _).mono ?_; rintro e w' ⟨rfl, dV, rfl⟩; rw [lay_bw])
        go_ret
        exact ⟨rfl, lay_ex _ _⟩
  · obtain ⟨b, oo, cap, rfl, hcp, hb, hC⟩ := sg_cells hl (by omega)
    have HC := Lib.hid hC
    have HW := Lib.hid hl.wf
    have HE : Hid (gvnE l n d f = gvnE l n d f) := Lib.hid rfl
    have HE2 : Hid ((l.any fun s => !sgB s) = false → gvnE l n d f = if fracB n d = false then 1 else if 40 < l.length then 3 else if slpB n d = false ∨ f < 1 ∨ 100 < f then 2 else if (l.any fun s => !likB s (fstS l)) = true then 11 else if (l.any fun s => farS l s) = true then 20 else 0) := Lib.hid fun h => by
      unfold gvnE
      rw [h]
      by_cases c : fracB n d = false
      · rw [if_pos (.inr c), if_pos c]
      · rw [if_neg (by simp [c]), if_neg c]
        by_cases c2 : 40 < l.length
        · rw [if_pos (.inr c2), if_pos c2]
        · rw [if_neg (by omega), if_neg c2]
    have HE1 : Hid ((l.any fun s => !sgB s) = true → gvnE l n d f = 1) := Lib.hid fun h => if_pos (.inl h)
    obtain ⟨E, hE⟩ : ∃ E, gvnE l n d f = E := ⟨_, rfl⟩
    rw [hE] at HE1 HE2 ⊢
    obtain ⟨m, hm⟩ : ∃ m, l.length = m := ⟨_, rfl⟩
    have HM := Lib.hid hm
    rw [hm] at hcp HE2 hz HC ⊢
    have HZ : Hid (1 ≤ m ∧ m ≤ 9223372036854775807) := Lib.hid (by omega)
    clear HE hE hC hl hm hcp hz
    refine lay_start ?_
    go_enter Tryz.func57, Tryz.ntmps57
    go_wp2_with fail
    go_loopw [7] (fun v7 wr => ∃ (k : Nat) (dd : Ext), k ≤ m ∧ v7 = .int .i64 (k : Int) ∧ wr = lay w [.inr dd, .inl (.cells #[.int .i64 n, .int .i64 d] 26 (0, 0))] ∧ ((l.take k).any fun s => !sgB s) = false) (fun v7 _ => m - (intOf v7).toNat)
    case atStart => exact ⟨0, noExt _, Nat.zero_le _, rfl, (bw_noExt _).symm, rfl⟩
    case round =>
      obtain ⟨k, dd, hk, rfl, rfl, hA⟩ := hrel
      have HA := Lib.hid hA
      clear hA
      by_cases hlt : k < m
      · obtain ⟨c0, c1, c2, c3, c4, c5, c6, c7, c8, c9, c10⟩ := HC.out k hlt
        have x1 : (k : Int) < (m : Int) := by omega
        have w3 : IntKind.i64.wrap ((k : Int) + 1) = (k : Int) + 1 := IntWalk.i64_in _ (by have := HZ.out; omega)
        have HV22 := Lib.hid (fun W => ref22_Valid (getS l k) W (HW.out _ (List.mem_of_getElem? (getS_some (by rw [HM.out]; exact hlt)))))
        have hS := any_succ (p := fun s => !sgB s) (l := l) (k := k) (by rw [HM.out]; exact hlt)
        have hY := any_yes (p := fun s => !sgB s) (l := l) (k := k) (by rw [HM.out]; exact hlt)
        rw [HA.out, Bool.false_or] at hS
        cases hb : sgB (getS l k)
        · rw [hb] at HV22 hY
          have HY := Lib.hid (HE1.out (hY rfl))
          clear hS hY hb
          generalize getS l k = s at *
          rw [sg_val] at HV22
          go_wp2_with (go_at_call 62; refine (HV22.out _).mono ?_; rintro e w' ⟨rfl, dV, rfl⟩; rw [lay_bw])
          go_ret
          rw [HY.out]
          exact ⟨rfl, lay_ex _ _⟩
        · rw [hb] at HV22 hS
          have HS := Lib.hid hS
          clear hS hY hb
          generalize getS l k = s at *
          rw [sg_val] at HV22
          go_wp2_with (go_at_call 62; refine (HV22.out _).mono ?_; rintro e w' ⟨rfl, dV, rfl⟩; rw [lay_bw])
          go_roundw
          case rel => exact ⟨k + 1, _, by omega, by go_num, (lay_fold w [.inr dV, .inr dd] [.inl (.cells #[.int .i64 n, .int .i64 d] 26 (0, 0))]).choose_spec, HS.out⟩
          case measure => simp [intOf]; omega
      · obtain rfl : k = m := by omega
        have x2 : ¬ (k : Int) < (k : Int) := by omega
        have hE := HE2.out (by rw [← HA.out, ← HM.out, List.take_length])
        have x3 : ¬ (k : Int) < 1 := by have := HZ.out; omega
        cases hf : fracB n d
        · rw [hf] at HV
          rw [if_pos hf] at hE
          subst hE
          go_wp2_with (first | (go_at_call 13; refine (HV.out _).mono ?_; rintro e w' ⟨rfl, dV, rfl⟩; rw [lay_bw]) | (go_at_call 47; refine (HSl.out _).mono ?_; rintro e w' ⟨rfl, dS, rfl⟩; rw [lay_bw]) | (go_at_call 101; refine (HFa.out _).mono ?_; rintro e w' ⟨rfl, dF, rfl⟩; rw [lay_bw]))
          go_ret
          exact ⟨rfl, lay_ex _ _⟩
        · rw [if_neg (by rw [hf]; decide)] at hE
          have HSl := Lib.hid (fun W => r23_Slope1 n d W (fracB_ok hf))
          rw [hf] at HV
          by_cases c2 : 40 < k
          · have c2' : (40 : Int) < (k : Int) := by omega
            rw [if_pos c2] at hE
            subst hE
            go_wp2_with (first | (go_at_call 13; refine (HV.out _).mono ?_; rintro e w' ⟨rfl, dV, rfl⟩; rw [lay_bw]) | (go_at_call 47; refine (HSl.out _).mono ?_; rintro e w' ⟨rfl, dS, rfl⟩; rw [lay_bw]) | (go_at_call 101; refine (HFa.out _).mono ?_; rintro e w' ⟨rfl, dF, rfl⟩; rw [lay_bw]))
            go_ret
            exact ⟨rfl, lay_ex _ _⟩
          · have c2' : ¬ (40 : Int) < (k : Int) := by omega
            rw [if_neg c2] at hE
            cases hs : slpB n d
            · rw [hs] at HSl
              rw [if_pos (.inl hs)] at hE
              subst hE
              go_wp2_with (first | (go_at_call 13; refine (HV.out _).mono ?_; rintro e w' ⟨rfl, dV, rfl⟩; rw [lay_bw]) | (go_at_call 47; refine (HSl.out _).mono ?_; rintro e w' ⟨rfl, dS, rfl⟩; rw [lay_bw]) | (go_at_call 101; refine (HFa.out _).mono ?_; rintro e w' ⟨rfl, dF, rfl⟩; rw [lay_bw]))
              go_ret
              exact ⟨rfl, lay_ex _ _⟩
            · rw [hs] at HSl
              by_cases c4 : 1 ≤ f ∧ f ≤ 100
              · rw [decide_eq_true c4] at HFa
                rw [if_neg (by rw [hs]; simp; omega)] at hE
                clear c2 c4 hs hf
                have HE3 := Lib.hid hE
                clear hE
                go_wp2_with (first | (go_at_call 13; refine (HV.out _).mono ?_; rintro e w' ⟨rfl, dV, rfl⟩; rw [lay_bw]) | (go_at_call 47; refine (HSl.out _).mono ?_; rintro e w' ⟨rfl, dS, rfl⟩; rw [lay_bw]) | (go_at_call 101; refine (HFa.out _).mono ?_; rintro e w' ⟨rfl, dF, rfl⟩; rw [lay_bw]))
                have HVal := Lib.hid (all_of_any (show (l.any fun s => !sgB s) = false by rw [← HA.out, ← HM.out, List.take_length]))
                have HF0 := Lib.hid (HC.out 0 (by have := HZ.out; omega))
                rw [Nat.zero_mul, Nat.add_zero] at HF0
                have HT0 : Hid (SgT (fstS l)) := Lib.hid (sg_tm (HVal.out _ (List.mem_of_getElem? (getS_some (i := 0) (by rw [HM.out]; have := HZ.out; omega)))))
                rw [← fstS_get] at HF0
                obtain ⟨m, hm⟩ : ∃ m, k = m := ⟨_, rfl⟩
                subst hm
                have HMY : Hid ((l.any fun s => !likB s (fstS l)) = true → E = 11) := Lib.hid fun h => by rw [HE3.out, if_pos h]
                clear HE2 HE1 HA hk hlt x2 x3 HV HFa HSl
                go_loopw [8] (fun v8 wr => ∃ (j : Nat) (dd : Ext), j ≤ k ∧ v8 = .int .i64 (j : Int) ∧ wr = lay w [.inr dd, .inl (.cells #[.int .i64 n, .int .i64 d] 26 (0, 0))] ∧ ((l.take j).any fun s => !likB s (fstS l)) = false) (fun v8 _ => k - (intOf v8).toNat)
                case atStart => exact ⟨0, _, Nat.zero_le _, rfl, (lay_fold w [.inr dF, .inr dS, .inr dV, .inr dd] [.inl (.cells #[.int .i64 n, .int .i64 d] 26 (0, 0))]).choose_spec, rfl⟩
                case round =>
                  obtain ⟨j, d1, hj, rfl, rfl, hA⟩ := hrel
                  have HA := Lib.hid hA
                  clear hA
                  by_cases hlt : j < k
                  · obtain ⟨c0, c1, c2, c3, c4, c5, c6, c7, c8, c9, c10⟩ := HC.out j hlt
                    obtain ⟨q0, q1, q2, q3, q4, q5, q6, q7, q8, q9, q10⟩ := HF0.out
                    have x1 : (j : Int) < (k : Int) := by omega
                    have x0 : (0 : Int) ≤ (j : Int) := by omega
                    have y1 : (0 : Int) < (k : Int) := by omega
                    have w3 : IntKind.i64.wrap ((j : Int) + 1) = (j : Int) + 1 := IntWalk.i64_in _ (by have := HZ.out; omega)
                    have HLk := Lib.hid (fun W => r23_alike (fstS l) (getS l j) W)
                    have hS := any_succ (p := fun s => !likB s (fstS l)) (l := l) (k := j) (by rw [HM.out]; exact hlt)
                    have hY := any_yes (p := fun s => !likB s (fstS l)) (l := l) (k := j) (by rw [HM.out]; exact hlt)
                    rw [HA.out, Bool.false_or, likB_symm] at hS
                    rw [likB_symm] at hY
                    cases hb : likB (fstS l) (getS l j)
                    · rw [hb] at HLk hY
                      have HY := Lib.hid (HMY.out (hY rfl))
                      clear hS hY hb
                      generalize getS l j = s at *
                      generalize fstS l = s0 at *
                      rw [sg_val, sg_val] at HLk
                      go_wp2_with fail
                      refine region_bw (by kernel_rfl) (by kernel_rfl) ?_
                      repeat (go_big_quiet_step ((first | (go_at_call 102; exact bq (HLk.out _) (fun d => lay_join _ _ _ d)))))
                      refine wpQuiet_nil ?_
                      rintro w' ⟨d, rfl⟩
                      rw [lay_bw]
                      go_wp2_with fail
                      go_ret
                      rw [HY.out]
                      exact ⟨rfl, lay_ex _ _⟩
                    · rw [hb] at HLk hS
                      have HS := Lib.hid hS
                      clear hS hY hb
                      generalize getS l j = s at *
                      generalize fstS l = s0 at *
                      rw [sg_val, sg_val] at HLk
                      go_wp2_with fail
                      refine region_bw (by kernel_rfl) (by kernel_rfl) ?_
                      repeat (go_big_quiet_step ((first | (go_at_call 102; exact bq (HLk.out _) (fun d => lay_join _ _ _ d)))))
                      refine wpQuiet_nil ?_
                      rintro w' ⟨d9, rfl⟩
                      rw [lay_bw]
                      go_wp2_with fail
                      go_roundw
                      case rel => exact ⟨j + 1, _, by omega, by go_num, (lay_fold w [.inr d9, .inr d1] [.inl (.cells #[.int .i64 n, .int .i64 d] 26 (0, 0))]).choose_spec, HS.out⟩
                      case measure => simp [intOf]; omega
                  · obtain rfl : j = k := by omega
                    have x2 : ¬ (j : Int) < (j : Int) := by omega
                    have hE := HE3.out
                    rw [if_neg (by rw [show (l.any fun s => !likB s (fstS l)) = false by rw [← HA.out, ← HM.out, List.take_length]]; decide)] at hE
                    have HE4 := Lib.hid hE
                    have HFY : Hid ((l.any fun s => farS l s) = true → E = 20) := Lib.hid fun h => by rw [HE4.out, if_pos h]
                    clear hE HE3 HMY HA
                    go_wp2_with fail
                    go_loopw [9] (fun v9 wr => ∃ (i : Nat) (dd : Ext), i ≤ j ∧ v9 = .int .i64 (i : Int) ∧ wr = lay w [.inr dd, .inl (.cells #[.int .i64 n, .int .i64 d] 26 (0, 0))] ∧ ((l.take i).any fun s => farS l s) = false) (fun v9 _ => j - (intOf v9).toNat)
                    case atStart => exact ⟨0, d1, Nat.zero_le _, rfl, rfl, rfl⟩
                    case round =>
                      obtain ⟨i, d2, hi, rfl, rfl, hA⟩ := hrel
                      have HA := Lib.hid hA
                      clear hA
                      by_cases hlt : i < j
                      · obtain ⟨c0, c1, c2, c3, c4, c5, c6, c7, c8, c9, c10⟩ := HC.out i hlt
                        obtain ⟨q0, q1, q2, q3, q4, q5, q6, q7, q8, q9, q10⟩ := HF0.out
                        have x1 : (i : Int) < (j : Int) := by omega
                        have x0 : (0 : Int) ≤ (i : Int) := by omega
                        have y1 : (0 : Int) < (j : Int) := by omega
                        have w3 : IntKind.i64.wrap ((i : Int) + 1) = (i : Int) + 1 := IntWalk.i64_in _ (by have := HZ.out; omega)
                        have hT := sg_tm (HVal.out _ (List.mem_of_getElem? (getS_some (l := l) (i := i) (by rw [HM.out]; exact hlt))))
                        have HM1 := Lib.hid (fun W => r23_Middle (getS l i) W hT)
                        have HM0 := Lib.hid (fun W => r23_Middle (fstS l) W HT0.out)
                        have b1 := hT.mid
                        have b2 := HT0.out.mid
                        have HDi := Lib.hid (fun W => r23_distance (midI (fstS l)) (midI (getS l i)) W (by omega))
                        have hS := any_succ (p := fun s => farS l s) (l := l) (k := i) (by rw [HM.out]; exact hlt)
                        have hY := any_yes (p := fun s => farS l s) (l := l) (k := i) (by rw [HM.out]; exact hlt)
                        rw [HA.out, Bool.false_or] at hS
                        obtain ⟨D, hD⟩ : ∃ D, max (midI (fstS l) - midI (getS l i)) (-(midI (fstS l) - midI (getS l i))) = D := ⟨_, rfl⟩
                        have hfar : farS l (getS l i) = decide (86400000 < D) := by
                          unfold farS
                          rw [decide_eq_decide]; omega
                        rw [hD] at HDi
                        clear b1 b2 hD hT
                        by_cases hfl : 86400000 < D
                        · have hd := decide_eq_true hfl
                          rw [hd] at hfar
                          have HY := Lib.hid (HFY.out (hY hfar))
                          clear hS hY hfar
                          generalize getS l i = s at *
                          generalize fstS l = s0 at *
                          rw [sg_val] at HM1 HM0
                          generalize midI s = M at *
                          generalize midI s0 = M0 at *
                          go_wp2_with fail
                          refine region_bw (by kernel_rfl) (by kernel_rfl) ?_
                          repeat (go_big_quiet_step ((first | (go_at_call 59; first | ((with_reducible refine bq (HM1.out _) ?_); exact (fun d => lay_join _ _ _ d)) | ((with_reducible refine bq (HM0.out _) ?_); exact (fun d => lay_join _ _ _ d))) | (go_at_call 103; exact bq (HDi.out _) (fun d => lay_join _ _ _ d)))))
                          refine wpQuiet_nil ?_
                          rintro w' ⟨d9, rfl⟩
                          rw [lay_bw]
                          go_wp2_with fail
                          go_ret
                          rw [HY.out]
                          exact ⟨rfl, lay_ex _ _⟩
                        · have hd := decide_eq_false hfl
                          rw [hfar, hd] at hS
                          have HS := Lib.hid hS
                          clear hS hY hfar
                          generalize getS l i = s at *
                          generalize fstS l = s0 at *
                          rw [sg_val] at HM1 HM0
                          generalize midI s = M at *
                          generalize midI s0 = M0 at *
                          go_wp2_with fail
                          refine region_bw (by kernel_rfl) (by kernel_rfl) ?_
                          repeat (go_big_quiet_step ((first | (go_at_call 59; first | ((with_reducible refine bq (HM1.out _) ?_); exact (fun d => lay_join _ _ _ d)) | ((with_reducible refine bq (HM0.out _) ?_); exact (fun d => lay_join _ _ _ d))) | (go_at_call 103; exact bq (HDi.out _) (fun d => lay_join _ _ _ d)))))
                          refine wpQuiet_nil ?_
                          rintro w' ⟨d9, rfl⟩
                          rw [lay_bw]
                          go_wp2_with fail
                          go_roundw
                          case rel => exact ⟨i + 1, _, by omega, by go_num, (lay_fold w [.inr d9, .inr d2] [.inl (.cells #[.int .i64 n, .int .i64 d] 26 (0, 0))]).choose_spec, HS.out⟩
                          case measure => simp [intOf]; omega
                      · obtain rfl : i = j := by omega
                        have x2 : ¬ (i : Int) < (i : Int) := by omega
                        have hE := HE4.out
                        rw [if_neg (by rw [show (l.any fun s => farS l s) = false by rw [← HA.out, ← HM.out, List.take_length]]; decide)] at hE
                        subst hE
                        clear HE4
                        go_wp2_with fail
                        go_ret
                        exact ⟨rfl, lay_ex _ _⟩
              · rw [decide_eq_false c4] at HFa
                rw [if_pos (.inr (by omega))] at hE
                subst hE
                clear c4
                go_wp2_with (first | (go_at_call 13; refine (HV.out _).mono ?_; rintro e w' ⟨rfl, dV, rfl⟩; rw [lay_bw]) | (go_at_call 47; refine (HSl.out _).mono ?_; rintro e w' ⟨rfl, dS, rfl⟩; rw [lay_bw]) | (go_at_call 101; refine (HFa.out _).mono ?_; rintro e w' ⟨rfl, dF, rfl⟩; rw [lay_bw]))
                go_ret
                exact ⟨rfl, lay_ex _ _⟩
end Go.Proofs.YtmomoeagnkjbiaaGreat
/- Lists of digits of 28 bits, the least one first: the plain law. No function of the program. -/
namespace Go.Proofs.YtmomoeagnkjbiaaGreat

/-- The base. -/
def dB : Int := 268435456
theorem dB_pos : 0 < dB := by decide
/-- The value of digits. -/
def valD : List Int → Int
  | [] => 0
  | d :: l => d + dB * valD l
def Dg (l : List Int) : Prop := ∀ d ∈ l, 0 ≤ d ∧ d < dB
/-- Digits without zeros at the end. -/
def Can (l : List Int) : Prop := Dg l ∧ l.getLast? ≠ some 0
theorem Dg.nil : Dg [] := fun _ h => absurd h List.not_mem_nil
theorem Can.nil : Can [] := ⟨Dg.nil, by simp⟩
theorem Dg.app {a b : List Int} (ha : Dg a) (hb : Dg b) : Dg (a ++ b) := fun d hd => (List.mem_append.1 hd).elim (ha d) (hb d)
theorem Dg.one {d : Int} (h : 0 ≤ d ∧ d < dB) : Dg [d] := fun x hx => by rw [List.mem_singleton.1 hx]; exact h
theorem Dg.take {l : List Int} (h : Dg l) (k : Nat) : Dg (l.take k) := fun d hd => h d (List.mem_of_mem_take hd)
theorem Dg.drop {l : List Int} (h : Dg l) (k : Nat) : Dg (l.drop k) := fun d hd => h d (List.mem_of_mem_drop hd)
theorem Dg.tail {d : Int} {l : List Int} (h : Dg (d :: l)) : Dg l := fun x hx => h x (List.mem_cons_of_mem _ hx)
theorem Dg.nth {l : List Int} (h : Dg l) (i : Nat) : 0 ≤ nth l i ∧ nth l i < dB := by
  by_cases hi : i < l.length
  · have : Go.Proofs.YtmomoeagnkjbiaaGreat.nth l i = l[i] := by unfold Go.Proofs.YtmomoeagnkjbiaaGreat.nth; rw [List.getD_eq_getElem?_getD, List.getElem?_eq_getElem hi]; rfl
    rw [this]; exact h _ (List.getElem_mem hi)
  · have : Go.Proofs.YtmomoeagnkjbiaaGreat.nth l i = 0 := by unfold Go.Proofs.YtmomoeagnkjbiaaGreat.nth; rw [List.getD_eq_getElem?_getD, List.getElem?_eq_none (by omega)]; rfl
    rw [this]; exact ⟨Int.le_refl _, dB_pos⟩
theorem valD_app : ∀ (a b : List Int), valD (a ++ b) = valD a + dB ^ a.length * valD b
  | [], b => by simp [valD]
  | d :: a, b => by
    rw [List.cons_append, valD, valD, valD_app a b, List.length_cons, Int.pow_succ, Int.mul_add, Int.add_assoc, Int.mul_comm (dB ^ a.length) dB, Int.mul_assoc]
theorem valD_one (d : Int) : valD [d] = d := by simp [valD]
theorem valD_snoc (l : List Int) (d : Int) : valD (l ++ [d]) = valD l + dB ^ l.length * d := by rw [valD_app, valD_one]
theorem dB_pow_pos (k : Nat) : 0 < dB ^ k := Int.pow_pos dB_pos
theorem valD_bd : ∀ {l : List Int}, Dg l → 0 ≤ valD l ∧ valD l < dB ^ l.length
  | [], _ => by simp [valD]
  | d :: l, h => by
    obtain ⟨h1, h2⟩ := valD_bd h.tail
    obtain ⟨h3, h4⟩ := h d (List.mem_cons_self ..)
    rw [valD, List.length_cons, Int.pow_succ, Int.mul_comm]
    have hp := dB_pos
    have k1 : 0 ≤ valD l * dB := Int.mul_nonneg h1 (Int.le_of_lt hp)
    have k2 : (valD l + 1) * dB ≤ dB ^ l.length * dB := Int.mul_le_mul_of_nonneg_right h2 (Int.le_of_lt hp)
    rw [Int.add_mul, Int.one_mul] at k2
    omega
/-- One more digit. -/
theorem take_snoc {l : List Int} {i : Nat} (h : i < l.length) : l.take (i + 1) = l.take i ++ [nth l i] := by
  have : nth l i = l[i] := by unfold nth; rw [List.getD_eq_getElem?_getD, List.getElem?_eq_getElem h]; rfl
  rw [List.take_add_one, List.getElem?_eq_getElem h, this]; rfl
theorem valD_take {l : List Int} (i : Nat) : valD (l.take (i + 1)) = valD (l.take i) + dB ^ i * nth l i := by
  by_cases h : i < l.length
  · rw [take_snoc h, valD_snoc, List.length_take, Nat.min_eq_left (by omega)]
  · have : nth l i = 0 := by unfold nth; rw [List.getD_eq_getElem?_getD, List.getElem?_eq_none (by omega)]; rfl
    rw [this, Int.mul_zero, Int.add_zero, List.take_of_length_le (by omega), List.take_of_length_le (by omega)]
theorem Can.last {l : List Int} (h : Can l) (hl : l ≠ []) : 0 < nth l (l.length - 1) := by
  have hp := List.length_pos_iff.2 hl
  have h1 : nth l (l.length - 1) = l.getLast hl := by
    rw [List.getLast_eq_getElem]; unfold nth
    rw [List.getD_eq_getElem?_getD, List.getElem?_eq_getElem (by omega)]; rfl
  have h2 := h.2
  rw [List.getLast?_eq_some_getLast hl] at h2
  have h3 := (h.1.nth (l.length - 1)).1
  rw [h1] at h3 ⊢
  have : l.getLast hl ≠ 0 := fun e => h2 (by rw [e])
  omega
/-- A number of k digits is at least the base to the k - 1. -/
theorem Can.low {l : List Int} (h : Can l) (hl : l ≠ []) : dB ^ (l.length - 1) ≤ valD l := by
  have hp := List.length_pos_iff.2 hl
  have h1 := h.last hl
  have h2 : valD l = valD (l.take (l.length - 1)) + dB ^ (l.length - 1) * nth l (l.length - 1) := by
    have := valD_take (l := l) (l.length - 1)
    rw [Nat.sub_add_cancel hp, List.take_length] at this
    exact this
  have h3 := (valD_bd (h.1.take (l.length - 1))).1
  have h4 : dB ^ (l.length - 1) * 1 ≤ dB ^ (l.length - 1) * nth l (l.length - 1) := Int.mul_le_mul_of_nonneg_left h1 (Int.le_of_lt (dB_pow_pos _))
  rw [Int.mul_one] at h4
  omega
theorem Can.zero {l : List Int} (h : Can l) (hv : valD l = 0) : l = [] := by
  by_cases hl : l = []
  · exact hl
  · have := h.low hl
    have := dB_pow_pos (l.length - 1)
    omega
theorem dB_pow_le {a b : Nat} (h : a ≤ b) : dB ^ a ≤ dB ^ b := by
  obtain ⟨c, rfl⟩ := Nat.le.dest h
  rw [Int.pow_add]
  have := Int.mul_le_mul_of_nonneg_left (show 1 ≤ dB ^ c from dB_pow_pos c) (Int.le_of_lt (dB_pow_pos a))
  rw [Int.mul_one] at this
  exact this
/-- Fewer digits, a smaller number. -/
theorem Can.short {a b : List Int} (ha : Dg a) (hb : Can b) (h : a.length < b.length) : valD a < valD b := by
  have h1 := (valD_bd ha).2
  have h2 := hb.low (by rintro rfl; simp at h)
  have h3 := dB_pow_le (a := a.length) (b := b.length - 1) (by omega)
  omega
/-- A list that ends in a digit that is not 0. -/
theorem Can.snoc {l : List Int} {d : Int} (h : Dg l) (hd : 0 < d) (hd2 : d < dB) : Can (l ++ [d]) := by
  refine ⟨h.app (Dg.one ⟨by omega, hd2⟩), ?_⟩
  rw [List.getLast?_append]
  simp; omega
/-- Without its zeros at the end. -/
def trimD (l : List Int) : List Int := (l.reverse.dropWhile (· == 0)).reverse
theorem trim_snoc (l : List Int) (d : Int) : trimD (l ++ [d]) = if d = 0 then trimD l else l ++ [d] := by
  unfold trimD
  rw [List.reverse_append, List.reverse_singleton, List.singleton_append, List.dropWhile_cons]
  by_cases h : d = 0
  · subst h; simp
  · simp [h]
theorem trim_nil : trimD [] = [] := rfl
theorem trim_ok : ∀ (n : Nat) (l : List Int), l.length = n → Dg l → Can (trimD l) ∧ valD (trimD l) = valD l
  | 0, l, h, _ => by
    obtain rfl := List.eq_nil_of_length_eq_zero h
    exact ⟨Can.nil, rfl⟩
  | n + 1, l, h, hd => by
    have hl : l ≠ [] := by rintro rfl; simp at h
    obtain ⟨l', d, rfl⟩ : ∃ l' d, l = l' ++ [d] := ⟨l.dropLast, l.getLast hl, (List.dropLast_concat_getLast hl).symm⟩
    have hd' : Dg l' := fun x hx => hd x (List.mem_append_left _ hx)
    have hdd := hd d (List.mem_append_right _ (List.mem_singleton.2 rfl))
    rw [List.length_append, List.length_singleton] at h
    obtain ⟨i1, i2⟩ := trim_ok n l' (by omega) hd'
    rw [trim_snoc]
    by_cases h0 : d = 0
    · rw [if_pos h0, valD_snoc, h0, Int.mul_zero, Int.add_zero]; exact ⟨i1, i2⟩
    · rw [if_neg h0]; exact ⟨Can.snoc hd' (by omega) hdd.2, rfl⟩
theorem trim_len (l : List Int) : (trimD l).length ≤ l.length := by
  unfold trimD
  rw [List.length_reverse]
  have := (List.dropWhile_sublist (p := (· == 0)) (l := l.reverse)).length_le
  rw [List.length_reverse] at this; exact this
end Go.Proofs.YtmomoeagnkjbiaaGreat
/- Digits: order, sum, difference, product, quotient, step by step. The plain law. No function of the program. -/
namespace Go.Proofs.YtmomoeagnkjbiaaGreat

theorem nth_out {l : List Int} {i : Nat} (h : l.length ≤ i) : nth l i = 0 := by unfold nth; rw [List.getD_eq_getElem?_getD, List.getElem?_eq_none h]; rfl
theorem nth_in {l : List Int} {i : Nat} (h : i < l.length) : nth l i = l[i] := by unfold nth; rw [List.getD_eq_getElem?_getD, List.getElem?_eq_getElem h]; rfl
theorem valD_split {l : List Int} {i : Nat} (h : i < l.length) : valD l = valD (l.take i) + dB ^ i * nth l i + dB ^ (i + 1) * valD (l.drop (i + 1)) := by
  have e : valD l = valD (l.take (i + 1)) + dB ^ (i + 1) * valD (l.drop (i + 1)) := by
    have := valD_app (l.take (i + 1)) (l.drop (i + 1))
    rw [List.take_append_drop, List.length_take, Nat.min_eq_left (by omega)] at this
    exact this
  rw [e, valD_take]
/-- The first difference from above decides. -/
theorem ord_diff {a b : List Int} (ha : Dg a) (hb : Dg b) (hl : a.length = b.length) {i : Nat} (hi : i < a.length) (hd : a.drop (i + 1) = b.drop (i + 1)) (h : nth a i < nth b i) : valD a < valD b := by
  rw [valD_split hi, valD_split (l := b) (i := i) (by omega), hd]
  have h1 := (valD_bd (ha.take i)).2
  have h2 := (valD_bd (hb.take i)).1
  rw [List.length_take, Nat.min_eq_left (by omega)] at h1
  have hp := dB_pow_pos i
  have h3 := Int.mul_le_mul_of_nonneg_left (show nth a i + 1 ≤ nth b i from h) (Int.le_of_lt hp)
  rw [Int.mul_add, Int.mul_one] at h3
  omega
theorem drop_step {a b : List Int} (hl : a.length = b.length) {i : Nat} (hi : i < a.length) (hd : a.drop (i + 1) = b.drop (i + 1)) (h : nth a i = nth b i) : a.drop i = b.drop i := by
  have hi2 : i < b.length := by omega
  rw [List.drop_eq_getElem_cons hi, List.drop_eq_getElem_cons hi2, hd, ← nth_in hi, ← nth_in hi2, h]
/-- -1, 0, 1 as the first number is less, equal, greater. -/
def ordI (x y : Int) : Int := if x < y then -1 else if y < x then 1 else 0
/-- The sum, i digits of it. -/
structure SumI (a b : List Int) (i : Nat) (out : List Int) (c : Int) : Prop where
  len : out.length = i
  dg : Dg out
  c0 : 0 ≤ c
  c1 : c ≤ 1
  val : valD out + dB ^ i * c = valD (a.take i) + valD (b.take i)
  can : a.length ≤ i → b.length ≤ i → c = 0 → Can out
theorem SumI.start (a b : List Int) : SumI a b 0 [] 0 := ⟨rfl, Dg.nil, Int.le_refl _, by decide, by simp [valD], fun _ _ _ => Can.nil⟩
theorem SumI.step {a b : List Int} {i : Nat} {out : List Int} {c : Int} (ha : Can a) (hb : Can b) (h : SumI a b i out c) (hgo : i < a.length ∨ i < b.length ∨ 0 < c) : SumI a b (i + 1) (out ++ [(c + nth a i + nth b i) % dB]) ((c + nth a i + nth b i) / dB) := by
  obtain ⟨a0, a1⟩ := ha.1.nth i
  obtain ⟨b0, b1⟩ := hb.1.nth i
  have hc0 := h.c0
  have hc1 := h.c1
  have hB : dB = 268435456 := rfl
  obtain ⟨d, hd⟩ : ∃ d, c + nth a i + nth b i = d := ⟨_, rfl⟩
  rw [hd]
  have m0 : 0 ≤ d % dB := Int.emod_nonneg _ (by omega)
  have m1 : d % dB < dB := Int.emod_lt_of_pos _ (by omega)
  have e1 : d = dB * (d / dB) + d % dB := (Int.mul_ediv_add_emod d dB).symm
  refine ⟨by rw [List.length_append, h.len]; rfl, h.dg.app (Dg.one ⟨m0, m1⟩), ?_, ?_, ?_, fun ka kb k0 => ?_⟩
  · rw [hB]; omega
  · have a2 := a1
    have b2 := b1
    rw [hB] at a2 b2 ⊢
    omega
  · rw [valD_snoc, h.len, valD_take, valD_take, Int.pow_succ, Int.mul_assoc]
    have h1 := h.val
    have h2 : dB ^ i * (d % dB) + dB ^ i * (dB * (d / dB)) = dB ^ i * c + dB ^ i * nth a i + dB ^ i * nth b i := by
      rw [← Int.mul_add, ← Int.mul_add, ← Int.mul_add, hd]
      congr 1; omega
    omega
  · have hlt : d < dB := by
      rw [k0, Int.mul_zero, Int.zero_add] at e1
      exact Int.lt_of_le_of_lt (Int.le_of_eq e1) m1
    have hm : d % dB = d := Int.emod_eq_of_lt (by omega) hlt
    rw [hm]
    refine Can.snoc h.dg ?_ hlt
    rcases hgo with hgo | hgo | hgo
    · have hne : a ≠ [] := by rintro rfl; simp at hgo
      have := ha.last hne
      rw [show a.length - 1 = i by omega] at this
      omega
    · have hne : b ≠ [] := by rintro rfl; simp at hgo
      have := hb.last hne
      rw [show b.length - 1 = i by omega] at this
      omega
    · omega
theorem SumI.done {a b : List Int} {i : Nat} {out : List Int} {c : Int} (h : SumI a b i out c) (h1 : a.length ≤ i) (h2 : b.length ≤ i) (h3 : ¬ 0 < c) : Can out ∧ valD out = valD a + valD b := by
  have hc : c = 0 := by have := h.c0; omega
  have hv := h.val
  rw [hc, Int.mul_zero, List.take_of_length_le h1, List.take_of_length_le h2] at hv
  exact ⟨h.can h1 h2 hc, by omega⟩
/-- The difference, i digits of it. -/
structure LesI (a b : List Int) (i : Nat) (out : List Int) (c : Int) : Prop where
  len : out.length = i
  dg : Dg out
  c01 : c = 0 ∨ c = 1
  val : valD out + valD (b.take i) = valD (a.take i) + dB ^ i * c
theorem LesI.start (a b : List Int) : LesI a b 0 [] 0 := ⟨rfl, Dg.nil, Or.inl rfl, by simp [valD]⟩
theorem LesI.step {a b : List Int} {i : Nat} {out : List Int} {c d e f : Int} (ha : Dg a) (hb : Dg b) (h : LesI a b i out c) (hd : d = nth a i - c - nth b i) (he : e = if d < 0 then d + dB else d) (hf : f = if d < 0 then 1 else 0) : LesI a b (i + 1) (out ++ [e]) f := by
  obtain ⟨a0, a1⟩ := ha.nth i
  obtain ⟨b0, b1⟩ := hb.nth i
  have hc := h.c01
  have hB : dB = 268435456 := rfl
  have hE : 0 ≤ e ∧ e < dB ∧ e = nth a i - c - nth b i + dB * f ∧ (f = 0 ∨ f = 1) := by
    by_cases h0 : d < 0
    · rw [if_pos h0] at he hf; rw [hf, Int.mul_one]; omega
    · rw [if_neg h0] at he hf; rw [hf, Int.mul_zero]; omega
  refine ⟨by rw [List.length_append, h.len]; rfl, h.dg.app (Dg.one ⟨hE.1, hE.2.1⟩), hE.2.2.2, ?_⟩
  rw [valD_snoc, h.len, valD_take, valD_take, Int.pow_succ, Int.mul_assoc]
  have h1 := h.val
  have h2 : dB ^ i * e + dB ^ i * nth b i = dB ^ i * nth a i + dB ^ i * (dB * f) - dB ^ i * c := by
    rw [hE.2.2.1, ← Int.mul_add, ← Int.mul_add, ← Int.mul_sub]
    congr 1; omega
  omega
theorem LesI.done {a b : List Int} {i : Nat} {out : List Int} {c : Int} (h : LesI a b i out c) (h1 : a.length = i) (h2 : b.length ≤ i) (hv : valD b ≤ valD a) : valD out = valD a - valD b := by
  have hw := h.val
  rw [List.take_of_length_le (l := a) (by omega), List.take_of_length_le (l := b) h2] at hw
  have h3 := (valD_bd h.dg).2
  rw [h.len] at h3
  have h4 := dB_pow_pos i
  rcases h.c01 with hc | hc
  · rw [hc, Int.mul_zero] at hw; omega
  · rw [hc, Int.mul_one] at hw; omega
/-- One digit is turned. -/
theorem valD_set : ∀ {l : List Int} {j : Nat}, j < l.length → ∀ v, valD (l.set j v) = valD l + dB ^ j * (v - nth l j)
  | [], j, h, _ => by simp at h
  | d :: l, 0, _, v => by
    rw [List.set_cons_zero, valD, valD]
    show _ = d + dB * valD l + dB ^ 0 * (v - d)
    rw [Int.pow_zero, Int.one_mul]; omega
  | d :: l, j + 1, h, v => by
    rw [List.set_cons_succ, valD, valD, valD_set (by simpa using h) v]
    show _ = d + dB * valD l + dB ^ (j + 1) * (v - nth l j)
    rw [Int.mul_add, ← Int.mul_assoc, Int.pow_succ, Int.mul_comm (dB ^ j) dB]; omega
theorem Dg.set {l : List Int} (h : Dg l) (j : Nat) {v : Int} (hv : 0 ≤ v ∧ v < dB) : Dg (l.set j v) := fun d hd => by
  rcases List.mem_or_eq_of_mem_set hd with hd | rfl
  · exact h d hd
  · exact hv
theorem valD_zero (n : Nat) : valD (List.replicate n 0) = 0 := by
  induction n with
  | zero => rfl
  | succ n ih => rw [List.replicate_succ, valD, ih]; rfl
end Go.Proofs.YtmomoeagnkjbiaaGreat
