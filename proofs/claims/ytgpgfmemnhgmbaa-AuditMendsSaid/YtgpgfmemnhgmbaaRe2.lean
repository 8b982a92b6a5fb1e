/- The reference of audit: Differences. -/
import Derived.Test.YtgpgfmemnhgmbaaProg
import Derived.Test.YtgpgfmemnhgmbaaLay
import Derived.Test.YtgpgfmemnhgmbaaRegion
import Derived.Test.YtgpgfmemnhgmbaaMix
import Derived.WalkKit
import Derived.WalkSpells
import Derived.WalkLawsBesides
import Derived.Lib.Hide
import Derived.BigQuiet
import Derived.Deep.RegionWith
import Derived.Test.YtgpgfmemnhgmbaaPlain
import Derived.Test.YtgpgfmemnhgmbaaAngle
import Derived.Test.YtgpgfmemnhgmbaaRe1
namespace Go.Proofs.Ytgpgfmemnhgmbaa
open Go.RowKit

set_option maxHeartbeats 1000000 in
set_option maxRecDepth 100000 in
theorem re_Differences (v : Value) (l : List Int) (wr : Bool) (order : Nat) (w : World) (hs : Sl w v l) (hg : Giv wr l) (ho : order ≤ 5) :
    Calls Try.prog 15 #[v, .int .i64 (order : Int), .bool wr] w (Rw w (difL wr l order)) := by
  have hn := hg.n1000
  have hn3 := hg.n3
  have HSt := Lib.hid (fun W (k : Nat) (hk : k + 1 < l.length) => re_step (nth l k) (nth l (k + 1)) wr W (by have := perm_bd (hg.perm k (by omega)); have := perm_bd (hg.perm (k + 1) hk); omega) (by have := perm_bd (hg.perm k (by omega)); have := perm_bd (hg.perm (k + 1) hk); omega))
  have HB0 := Lib.hid (fun k hk => pre_bd hg k hk)
  have HBs := Lib.hid (fun (k : Nat) (hk : k + 1 < l.length) => stp_bd hg hk)
  have HBd := Lib.hid (fun k i (hk : k ≤ 6) (hi : i + k < l.length) => dif_bd5 hg hk hi)
  have hp0 := perm_bd (hg.perm 0 (by omega))
  obtain ⟨b, o, cap, rfl, hc, -, hb, hr⟩ := hs.open (by omega)
  have hr0 := hr 0 (by omega)
  rw [Nat.add_zero] at hr0
  obtain ⟨m, hm⟩ : ∃ m, l.length = m := ⟨_, rfl⟩
  have hdl : difL wr l order = rowF (dif wr l order) (m - order) := by rw [← hm]; rfl
  rw [hdl]
  rw [hm] at HSt HB0 HBs HBd hr hn hn3 hc ⊢
  have HR := Lib.hid hr
  have y1 : (0 : Int) < (m : Int) := by omega
  clear hr hs hg hm hdl
  refine lay_start ?_
  go_enter Try.func15, Try.ntmps15
  go_wp2_with fail
  go_loopw [7, 8] (fun v7 v8 wr' => ∃ (j g c : Nat) (dd : Ext), j + 1 ≤ m ∧ v7 = .slice (some ⟨g, 0, none⟩) (j + 1) c ∧ v8 = .int .i64 ((j : Int) + 1) ∧ wr' = lay w [.inr dd] ∧
      Ow (lay w [.inr dd]) (lay w []).heap.size (.slice (some ⟨g, 0, none⟩) (j + 1) c) (rowF (pre wr l) (j + 1))) (fun _ v8 _ => m - (intOf v8).toNat)
  case atStart =>
    have h := ow_lit (w := w) (L := []) (x := nth l 0) (lit_bd (by omega))
    exact ⟨0, posn w [], 1, _, by omega, rfl, rfl, Classical.choose_spec (lay_fold w [_] []), by rw [← Classical.choose_spec (lay_fold w [.inl (.cells #[.int .i64 (nth l 0)] 3 (0, 0))] [])]; exact h⟩
  case round =>
    obtain ⟨j, g, c, dd, hj, rfl, rfl, rfl, hO⟩ := hrel
    by_cases hlt : j + 1 < m
    · have hcl := fun d' => (ow_on (A := [.inr d']) hO).cell (i := j) (by rw [rowF_len]; omega)
      have hc1 : ∀ d', (lay w [.inr d', .inr dd]).cell? ⟨g, j, none⟩ = some (.int .i64 (pre wr l j)) := fun d' => by have := hcl d'; rw [rowF_nth _ _ _ (by omega)] at this; exact this
      have k0 := HR.out j (by omega)
      have k1 := HR.out (j + 1) hlt
      have b1 := HB0.out j (by omega)
      have b2 := HBs.out j hlt
      have b3 := HB0.out (j + 1) hlt
      have hst : rowF (pre wr l) (j + 1 + 1) = rowF (pre wr l) (j + 1) ++ [pre wr l j + stp wr l j] := rowF_succ _ _
      have hwf : (Lit.int .i64 (pre wr l j + stp wr l j)).wf = true := lit_bd (by omega)
      have H1 := Lib.hid (fun W => HSt.out W j hlt)
      have hse : frm wr (nth l (j + 1) - nth l j) = stp wr l j := rfl
      rw [hse] at H1
      have hlen : (rowF (pre wr l) (j + 1)).length ≤ 1000000000 := by rw [rowF_len]; omega
      have hRl : (rowF (pre wr l) (j + 1)).length = j + 1 := rowF_len _ _
      have x0 : (0 : Int) ≤ (j : Int) := by omega
      have x1 : (j : Int) + 1 < (m : Int) := by omega
      have x2 : (j : Int) < ((j + 1 : Nat) : Int) := by omega
      have x3 : (j : Int) < (j : Int) + 1 := by omega
      have x4 : (j : Int) < (m : Int) := by omega
      have x5 : (0 : Int) ≤ (j : Int) + 1 := by omega
      have x6 : ((j : Int) + 1).toNat = j + 1 := by omega
      have w1 : IntKind.i64.wrap (pre wr l j + stp wr l j) = pre wr l j + stp wr l j := IntWalk.i64_in _ (by omega)
      have w3 : IntKind.i64.wrap ((j : Int) + 1 + 1) = (j : Int) + 1 + 1 := IntWalk.i64_in _ (by omega)
      have HST := Lib.hid hst
      have HO := Lib.hid hO
      have HRl := Lib.hid hRl
      clear hst hO hcl hRl hse
      generalize rowF (pre wr l) (j + 1) = R at *
      generalize pre wr l j = P at *
      generalize stp wr l j = S at *
      generalize nth l (j + 1) = A1 at *
      generalize nth l j = A0 at *
      have w0 : IntKind.i64.wrap (j : Int) = (j : Int) := IntWalk.i64_in _ (by omega)
      go_wp2_with fail
      refine region_mixT 19 [0, 0, 0, 0, 0, 0, 0, 0, 0, 0, 0, 0, 0, 0, 0, 0, 0, 0, 1] (by kernel_rfl) (by kernel_rfl) (by kernel_rfl) (by kernel_rfl) (by simp) (by kernel_rfl) ?_
      simp only [List.take_succ_cons, List.take_zero, List.drop_succ_cons, List.drop_zero]
      repeat (first | (refine wpM_quiet (fun K hK => ?_); go_simp; first | (refine hK _ ?_; clear hK K) | (apply Exists.intro; refine ⟨fun _ => ?_, hK _ ?_⟩; (first | (go_at_call 28; exact bqs (H1.out _) ⟨noExt _, (bw_noExt _).symm⟩)); clear hK K)) | (refine wpM_special (fun K hK d => ?_); go_simp; refine hK _ _ (by first | exact lay_in w [_] _ | exact lay_in w [_, _] _ | exact lay_in w [_, _, _] _ | exact lay_in w [_, _, _, _] _ | exact lay_in w [_, _, _, _, _] _ | exact lay_in w [_, _, _, _, _, _] _) ?_; clear hK K))
      refine wpM_nil ?_
      intro d1
      rw [lay_bw]
      clear w0
      refine push_int rfl _ _ rfl (lay w []) _ (P + S) 3 _ _ _ ?_ (ow_on (A := [_, _, _]) HO.out) ?_ rfl rfl hlen hwf ?_
      · exact lay_below (A := [_, _, _, _])
      · exact lay_get w _ 1 _ rfl
      intro v' d' hv'
      have hl2 : (R ++ [P + S]).length = j + 1 + 1 := by rw [List.length_append, HRl.out]; rfl
      obtain ⟨g', c', rfl, -⟩ := hv'.form1 (by rw [hl2]; omega)
      rw [hl2] at hv' ⊢
      have HV := Lib.hid hv'
      clear hv' hl2
      go_wp2_with fail
      go_roundw
      case rel => exact ⟨j + 1, g', c', d', hlt, rfl, by first | rfl | exact congrArg (Value.int .i64) (by omega), rfl, by rw [HST.out]; exact HV.out⟩
      case measure => simp [intOf]; omega
    · obtain rfl : m = j + 1 := by omega
      have HO := Lib.hid hO
      clear hO
      have hpd : rowF (pre wr l) (j + 1) = rowF (dif wr l 0) (j + 1 - 0) := rfl
      rw [hpd] at HO
      clear HSt HBs HB0 hpd hr0 hp0 HR
      go_wp2_with fail
      go_loopw [7, 9] (fun v7 v9 wr' => ∃ (k : Nat) (dq : Ext), k ≤ order ∧ v9 = .int .i64 (k : Int) ∧ wr' = lay w [.inr dq] ∧
        Ow (lay w [.inr dq]) (lay w []).heap.size v7 (rowF (dif wr l k) (j + 1 - k))) (fun _ v9 _ => order - (intOf v9).toNat)
      case atStart => exact ⟨0, dd, Nat.zero_le _, rfl, rfl, HO.out⟩
      case round =>
        obtain ⟨k, dq, hk, rfl, rfl, hO1⟩ := hrel
        by_cases hlt2 : k < order
        · obtain ⟨q, hq⟩ : ∃ q, j + 1 - k = q := ⟨_, rfl⟩
          have hD := fun i (hi : i + k < j + 1) => HBd.out k i (by omega) hi
          have hD1 := fun i (hi : i + (k + 1) < j + 1) => HBd.out (k + 1) i (by omega) hi
          rw [hq] at hO1
          have hqk : q - 1 = j + 1 - (k + 1) := by omega
          have hqn : q ≤ 1000 := by omega
          obtain ⟨a1, c1, hform⟩ := hO1.form
          rw [rowF_len] at hform
          subst hform
          have HO1 := Lib.hid hO1
          have HD := Lib.hid hD
          have HD1 := Lib.hid hD1
          have x5 : (k : Int) < (order : Int) := by omega
          clear hO1 hD hD1 HBd
          go_wp2_with fail
          go_loopw [10, 11] (fun v10 v11 wr' => ∃ (i : Nat) (d2 : Ext), i ≤ q - 1 ∧ v11 = .int .i64 ((i : Int) + 1) ∧ wr' = lay w [.inr d2, .inr dq] ∧
            Ow (lay w [.inr d2, .inr dq]) (lay w [.inr dq]).heap.size v10 (rowF (dif wr l (k + 1)) i)) (fun _ v11 _ => q - (intOf v11).toNat)
          case atStart => exact ⟨0, noExt _, Nat.zero_le _, rfl, (bw_noExt _).symm, Ow.nil _ _⟩
          case round =>
            obtain ⟨i, d2, hi, rfl, rfl, hO2⟩ := hrel
            by_cases hlt3 : i < q - 1
            · obtain ⟨g1, c1', he, -⟩ := HO1.out.form1 (by rw [rowF_len]; omega)
              simp only [Value.slice.injEq] at he
              obtain ⟨rfl, -, -⟩ := he
              have e1 := fun d' => (ow_on (A := [.inr d', .inr d2]) HO1.out).cell (i := i + 1) (by rw [rowF_len]; omega)
              have e0 := fun d' => (ow_on (A := [.inr d', .inr d2]) HO1.out).cell (i := i) (by rw [rowF_len]; omega)
              have c1 : ∀ d', (lay w [.inr d', .inr d2, .inr dq]).cell? ⟨g1, i + 1, none⟩ = some (.int .i64 (dif wr l k (i + 1))) := fun d' => by have := e1 d'; rw [rowF_nth _ _ _ (by omega)] at this; exact this
              have c0 : ∀ d', (lay w [.inr d', .inr d2, .inr dq]).cell? ⟨g1, i, none⟩ = some (.int .i64 (dif wr l k i)) := fun d' => by have := e0 d'; rw [rowF_nth _ _ _ (by omega)] at this; exact this
              have b1 := HD1.out i (by omega)
              have hde : dif wr l (k + 1) i = dif wr l k (i + 1) - dif wr l k i := rfl
              rw [hde] at b1
              have w1 : IntKind.i64.wrap (dif wr l k (i + 1) - dif wr l k i) = dif wr l k (i + 1) - dif wr l k i := IntWalk.i64_in _ (by omega)
              have hwf : (Lit.int .i64 (dif wr l k (i + 1) - dif wr l k i)).wf = true := lit_bd b1
              have hst := rowF_succ (dif wr l (k + 1)) i
              rw [hde] at hst
              have hRl : (rowF (dif wr l (k + 1)) i).length ≤ 1000000000 := by rw [rowF_len]; omega
              have HO2 := Lib.hid hO2
              have HST := Lib.hid hst
              have z0 : (0 : Int) ≤ (i : Int) := by omega
              have z1 : (i : Int) < (q : Int) := by omega
              have z2 : (0 : Int) ≤ (i : Int) + 1 := by omega
              have z3 : (i : Int) + 1 < (q : Int) := by omega
              have z4 : ((i : Int) + 1).toNat = i + 1 := by omega
              have w3 : IntKind.i64.wrap ((i : Int) + 1 + 1) = (i : Int) + 1 + 1 := IntWalk.i64_in _ (by omega)
              clear e0 e1 hO2 hst hde
              generalize rowF (dif wr l (k + 1)) i = R at *
              generalize dif wr l k (i + 1) = A1 at *
              generalize dif wr l k i = A0 at *
              have w0 : IntKind.i64.wrap (i : Int) = (i : Int) := IntWalk.i64_in _ (by omega)
              go_wp2_with fail
              refine region_mixT 12 [0, 0, 0, 0, 0, 0, 0, 0, 0, 0, 0, 1] (by kernel_rfl) (by kernel_rfl) (by kernel_rfl) (by kernel_rfl) (by simp) (by kernel_rfl) ?_
              simp only [List.take_succ_cons, List.take_zero, List.drop_succ_cons, List.drop_zero]
              repeat (first | (refine wpM_quiet (fun K hK => ?_); go_simp; first | (refine hK _ ?_; clear hK K) | (apply Exists.intro; refine ⟨fun _ => ?_, hK _ ?_⟩; (first | fail); clear hK K)) | (refine wpM_special (fun K hK d => ?_); go_simp; refine hK _ _ (by first | exact lay_in w [_] _ | exact lay_in w [_, _] _ | exact lay_in w [_, _, _] _ | exact lay_in w [_, _, _, _] _ | exact lay_in w [_, _, _, _, _] _ | exact lay_in w [_, _, _, _, _, _] _) ?_; clear hK K))
              refine wpM_nil ?_
              intro d1
              rw [lay_bw]
              clear w0
              refine push_int rfl _ _ rfl (lay w [.inr dq]) _ (A1 - A0) 3 _ _ _ ?_ (ow_on (A := [_, _, _]) HO2.out) ?_ rfl rfl hRl hwf ?_
              · exact lay_below (A := [_, _, _, _])
              · exact lay_get w _ 1 _ rfl
              intro v' d' hv'
              have HV := Lib.hid hv'
              clear hv'
              go_wp2_with fail
              go_roundw
              case rel => exact ⟨i + 1, d', by omega, by first | rfl | exact congrArg (Value.int .i64) (by omega), rfl, by rw [HST.out]; exact HV.out⟩
              case measure => simp [intOf]; omega
            · obtain rfl : i = q - 1 := by omega
              rw [hqk] at hO2
              obtain ⟨e, he⟩ := lay_all w [.inr d2, .inr dq]
              have hO3 : Ow (lay w [.inr e]) (lay w []).heap.size u10 (rowF (dif wr l (k + 1)) (j + 1 - (k + 1))) := by rw [← he]; exact hO2.le (lay_extends w [.inr dq]).size
              have HO3 := Lib.hid hO3
              have HE := Lib.hid he
              have x7 : (q : Int) ≤ ((q - 1 : Nat) : Int) + 1 := by omega
              clear hO2 hO3 he
              go_wp2_with fail
              go_roundw
              case rel => exact ⟨k + 1, e, hlt2, by go_num, HE.out, HO3.out⟩
              case measure => simp [intOf]; omega
        · obtain rfl : k = order := by omega
          have HO1 := Lib.hid hO1
          clear hO1
          go_wp2
          go_ret
          obtain ⟨z, hz⟩ := lay_ex w [.inr dq]
          exact ⟨_, z, rfl, hz, by rw [← hz]; exact HO1.out⟩
end Go.Proofs.Ytgpgfmemnhgmbaa
