/- Contracts and plain laws, several texts in one: Va5; Av3; TrC; AvQ -/
import Derived.Test.YtmomoeagnkjbiaaGreatProg
import Derived.WalkKit
import Derived.WalkSpells
import Derived.WalkLawsBesides
import Derived.Lib.Hide
import Derived.BigQuiet
import Derived.Test.YtmomoeagnkjbiaaGreatBAA
import Derived.Test.YtmomoeagnkjbiaaGreatBAB
import Derived.Test.YtmomoeagnkjbiaaGreatBAD
import Derived.Test.YtmomoeagnkjbiaaGreatBAF
import Derived.Test.YtmomoeagnkjbiaaGreatBAG
/- slices.Sorted of slices.Values at ints; average.median. -/
namespace Go.Proofs.YtmomoeagnkjbiaaGreat
open Go.RowKit Go.Shelf

theorem IntsV.of {w : World} {v : Value} {l : List Int} (h : Sl w v l) (h1 : 1 ≤ l.length) : IntsV w.heap.size w v l := by
  obtain ⟨b, o, cap, rfl, _, _, hb, hr⟩ := h.open (by omega)
  exact .inr ⟨b, o, cap, rfl, hb, fun j hj => by rw [hr j hj]; rfl⟩
set_option maxRecDepth 100000 in
theorem vl_Sorted (Bs : Nat) (sv : Value) (l : List Int) (w : World) (hBs : Bs < w.heap.size) (hc : w.cell? ⟨Bs, 0, none⟩ = some sv) (hs : Sl w sv l) (h1 : 1 ≤ l.length) (hn : l.length ≤ 1000000) :
    Calls Tryz.prog 91 #[.func (.func 142) #[] #[.pointer (some ⟨Bs, 0, none⟩)]] w (RwO w (srtI l)) := by
  have HC := Lib.hid (vl_Collect Bs sv l (by omega) w hBs hc (IntsV.of hs h1))
  have hw := fun i (hi : i < l.length) => (hs.open (by omega)).choose_spec.choose_spec.choose_spec.2.2.1 i hi
  have HO : Hid (∀ W v, W.ownsRow w.heap.size 3 1 v l.length (l.map (Value.int .i64)) → Ow W w.heap.size v l) := Lib.hid fun W v h => ⟨h, hw⟩
  have HL : Hid (l.length ≤ 1000000000) := Lib.hid (by omega)
  clear hs hw hc hBs h1 hn
  refine lay_start ?_
  go_enter Tryz.func91, Tryz.ntmps91
  go_wp2_with fail
  refine HC.out.mono ?_
  rintro e w' ⟨v, rfl, hv, hb⟩
  obtain ⟨d, rfl⟩ := bw_of hb
  have hv2 := HO.out _ _ hv
  have HS := Lib.hid (sl_Sort w v l (bw w d) hb hv2 HL.out)
  obtain ⟨a, cap, rfl⟩ := hv2.form
  obtain ⟨q, hq⟩ : ∃ q, l.length = q := ⟨_, rfl⟩
  rw [hq] at HS ⊢
  clear hv hv2 hb
  rw [show bw w d = lay w [.inr d] from rfl] at HS ⊢
  go_wp2_with fail
  refine HS.out.mono ?_
  rintro e w' ⟨rfl, d2, rfl, h2⟩
  have H2 := Lib.hid h2
  clear h2
  rw [show bw w d2 = lay w [.inr d2] from rfl]
  go_wp2_with fail
  go_ret
  exact ⟨_, d2, rfl, rfl, H2.out⟩
set_option maxRecDepth 100000 in
theorem av_median (v : Value) (l : List Int) (w : World) (hs : Sl w v l) (h1 : 1 ≤ l.length) (hn : l.length ≤ 1000000) :
    Calls Tryz.prog 43 #[v] w fun e w' => e = .returned (.int .i64 (medI l)) ∧ ∃ d, w' = bw w d := by
  have HS := Lib.hid (fun W Bs hBs hc (h : Sl W v l) => vl_Sorted Bs v l W hBs hc h h1 hn)
  have HV := Lib.hid hs
  obtain ⟨b, o, cap, rfl, -⟩ := hs.open (by omega)
  have HL := Lib.hid (srtI_len l)
  obtain ⟨m, hm⟩ : ∃ m, l.length = m := ⟨_, rfl⟩
  obtain ⟨q, hq⟩ : ∃ q, (m - 1) / 2 = q := ⟨_, rfl⟩
  have hmed : medI l = nth (srtI l) q := by unfold medI; rw [hm, hq]
  have HLw := Lib.hid (fun W => av_lower m W (by omega) (by omega))
  rw [hq] at HLw
  rw [hmed]
  rw [hm] at HL HS HV h1 hn ⊢
  generalize srtI l = L at *
  obtain ⟨X, hX⟩ : ∃ X, X = nth L q := ⟨_, rfl⟩
  rw [← hX]
  have HX := Lib.hid hX
  have HQ : Hid (q < m) := Lib.hid (by omega)
  have x0 : (0 : Int) ≤ (q : Int) := by omega
  have x1 : (q : Int) < (m : Int) := by omega
  clear hs hq hX hmed hm
  refine lay_start ?_
  go_enter Tryz.func43, Tryz.ntmps43
  go_wp2_with (first | (go_at_call 92; with_reducible refine (vl_Values _ _ _ _).mono ?_; rintro e w' ⟨rfl, rfl⟩; rw [show (lay w []).alloc (.cells #[.slice (some ⟨b, o, none⟩) m cap] 41) = lay w [.inl (.cells #[.slice (some ⟨b, o, none⟩) m cap] 41 (0, 0))] from rfl]) | fail)
  have hsz : (lay w [.inl (.cells #[.slice (some ⟨b, o, none⟩) m cap] 41 (0, 0))]).heap.size = w.heap.size + 1 := World.size_alloc _ _
  refine (HS.out (lay w [.inl (.cells #[.slice (some ⟨b, o, none⟩) m cap] 41 (0, 0))]) w.heap.size (by omega) ?_ (HV.out.lay _)).mono ?_
  · have e2 : (lay w [.inl (.cells #[.slice (some ⟨b, o, none⟩) m cap] 41 (0, 0))]).heap[w.heap.size]? = some (.cells #[.slice (some ⟨b, o, none⟩) m cap] 41 (0, 0)) := by show (w.heap.push _)[w.heap.size]? = _; simp
    simp [World.cell?, e2]
  rintro e w' ⟨v, d, rfl, rfl, hv⟩
  obtain ⟨g, c, hve, -, -, -⟩ := hv.form1 (by rw [HL.out]; omega)
  rw [HL.out] at hve
  subst hve
  rw [lay_bw] at hv
  have e1 := fun (A : List (Obj ⊕ Ext)) => (ow_on (A := A) hv).cell (i := q) (by rw [HL.out]; exact HQ.out)
  rw [← HX.out] at e1
  have c2 : ∀ d', (lay w [.inr d', .inr d, .inl (.cells #[.slice (some ⟨b, o, none⟩) m cap] 41 (0, 0))]).cell? ⟨g, q, none⟩ = some (.int .i64 X) := fun d' => e1 [.inr d']
  rw [show bw (lay w [.inl (.cells #[.slice (some ⟨b, o, none⟩) m cap] 41 (0, 0))]) d = lay w [.inr d, .inl (.cells #[.slice (some ⟨b, o, none⟩) m cap] 41 (0, 0))] from rfl]
  clear hv e1 hsz
  go_wp2_with fail
  refine (HLw.out _).mono ?_
  rintro e w' ⟨rfl, d2, rfl⟩
  rw [lay_bw]
  go_wp2_with fail
  go_ret
  exact ⟨rfl, lay_ex _ _⟩
end Go.Proofs.YtmomoeagnkjbiaaGreat
/- average.Reject. -/
namespace Go.Proofs.YtmomoeagnkjbiaaGreat
open Go.RowKit

set_option maxHeartbeats 2000000 in
set_option maxRecDepth 100000 in
theorem av_Reject (v : Value) (l : List Int) (f : Int) (w : World) (hs : Sl w v l) :
    Calls Tryz.prog 26 #[v, .int .i64 f] w (RwE w (rejL l f) (rejE l f)) := by
  by_cases c1 : l.length < 1 ∨ 1000 < l.length
  · have he : rejE l f = 3 := if_pos c1
    rw [rejL_ne (by rw [he]; decide), he]
    obtain ⟨a, cap, rfl, hcp, -⟩ := hs
    obtain ⟨m, hm⟩ : ∃ m, l.length = m := ⟨_, rfl⟩
    rw [hm] at c1 ⊢
    rcases c1 with c1 | c1
    · obtain rfl : m = 0 := by omega
      clear hm hcp
      refine lay_start ?_
      go_enter Tryz.func26, Tryz.ntmps26
      go_wp2_with fail
      go_ret2
      exact rwe_nil rfl
    · have x0 : ¬ (m : Int) < 1 := by omega
      have x1 : (1000 : Int) < (m : Int) := by omega
      clear hm hcp
      refine lay_start ?_
      go_enter Tryz.func26, Tryz.ntmps26
      go_wp2_with fail
      go_ret2
      exact rwe_nil rfl
  · have HS := Lib.hid hs
    obtain ⟨b, o, cap, rfl, hc, hw, hbs, hr⟩ := hs.open (by omega)
    have hE : rejE l f = if f < 1 ∨ 100 < f ∨ outB l 1099511627776 = true then 2 else 0 := if_neg c1
    have HOut := Lib.hid (fun W (h : Sl W (.slice (some ⟨b, o, none⟩) l.length cap) l) => av_outside _ l 1099511627776 W h (by decide) (by decide))
    obtain ⟨m, hm⟩ : ∃ m, l.length = m := ⟨_, rfl⟩
    have x0 : ¬ (m : Int) < 1 := by omega
    have x1 : ¬ (1000 : Int) < (m : Int) := by omega
    by_cases c2 : f < 1
    · have he : rejE l f = 2 := by rw [hE, if_pos (by omega)]
      rw [rejL_ne (by rw [he]; decide), he, hm]
      clear hm hr hE he c1 hs hw
      refine lay_start ?_
      go_enter Tryz.func26, Tryz.ntmps26
      go_wp2_with fail
      go_ret2
      exact rwe_nil rfl
    · by_cases c3 : 100 < f
      · have he : rejE l f = 2 := by rw [hE, if_pos (by omega)]
        rw [rejL_ne (by rw [he]; decide), he, hm]
        clear hm hr hE he c1 hs hw
        refine lay_start ?_
        go_enter Tryz.func26, Tryz.ntmps26
        go_wp2_with fail
        go_ret2
        exact rwe_nil rfl
      · cases ho : outB l 1099511627776
        · have hb := outB_bd ho
          rw [ho] at HOut
          have he : rejE l f = 0 := by rw [hE, if_neg (by rw [ho]; simp; omega)]
          rw [rejL_eq he, he]
          have h1 : 1 ≤ l.length := by omega
          have hlb := lim_bd hb h1 (f := f) (by omega) (by omega)
          have HMd := Lib.hid (fun W h => av_median (.slice (some ⟨b, o, none⟩) l.length cap) l W h h1 (by omega))
          have HM2 := Lib.hid (fun W v h => av_median v (farI l) W h (by rw [farI_len]; exact h1) (by rw [farI_len]; omega))
          have HD := Lib.hid (fun W i (hi : i < l.length) => av_size (nth l i - medI l) W (by have h2 := hb i hi; have h3 := hb.med h1; omega) (by have h2 := hb i hi; have h3 := hb.med h1; omega))
          have HDb := Lib.hid (fun i (hi : i < l.length) => (show -4000000000000 ≤ nth l i - medI l ∧ nth l i - medI l ≤ 4000000000000 by have h2 := hb i hi; have h3 := hb.med h1; omega))
          have HF := Lib.hid (fun i (hi : i < l.length) => far_nth hi)
          have HFb := Lib.hid (hb.far h1)
          have HE := Lib.hid (outI_K l f)
          have HFL := Lib.hid (farI_len l)
          have HR := Lib.hid hr
          obtain ⟨M, hM⟩ : ∃ M, medI l = M := ⟨_, rfl⟩
          obtain ⟨F, hF⟩ : ∃ F, farI l = F := ⟨_, rfl⟩
          obtain ⟨M2, hM2⟩ : ∃ M2, medI (farI l) = M2 := ⟨_, rfl⟩
          have hlim : limI l f = max (f * M2) 100 := by unfold limI; rw [hM2]
          rw [hlim] at HE
          rw [hM2] at hlb
          rw [hF] at HM2 HE HF HFb HFL hM2
          rw [hM] at HMd HD HF HDb
          rw [hM2] at HM2
          rw [hm] at HS HMd HD HR HF HE HFL HOut HDb h1 hc ⊢
          have HX := Lib.hid (fun i (hi : i < m) => (HF.out i hi).symm)
          generalize outI l f = OUT at *
          obtain ⟨p0, p1⟩ := hlb
          obtain ⟨P, hP⟩ : ∃ P, f * M2 = P := ⟨_, rfl⟩
          rw [hP] at p0 p1 HE
          have hP1 : IntKind.i64.wrap (f * M2) = P := by rw [hP]; exact IntWalk.i64_in _ (by omega)
          have hml : m ≤ 1000 := by omega
          clear hr hb hm hM hF hM2 hlim hs HF hw he hE ho c1
          refine lay_start ?_
          go_enter Tryz.func26, Tryz.ntmps26
          go_wp2_with (first | (go_at_call 66; refine (HOut.out _ (HS.out.lay _)).mono ?_; rintro e w' ⟨rfl, d, rfl⟩) | (go_at_call 43; refine (HMd.out _ (HS.out.lay _)).mono ?_; rintro e w' ⟨rfl, dM, rfl⟩))
          obtain ⟨d0, e0⟩ : ∃ x, lay w [.inr dM, .inr d] = lay w [.inr x] := ⟨_, bw_bw _ _ _⟩
          rw [e0]
          go_loopw [7, 38] (fun v7 v38 wr => ∃ (k : Nat) (dd : Ext), k ≤ m ∧ v38 = .int .i64 (k : Int) ∧ wr = lay w [.inr dd] ∧ Ow (lay w [.inr dd]) (lay w []).heap.size v7 (F.take k)) (fun _ v38 _ => m - (intOf v38).toNat)
          case atStart => exact ⟨0, d0, Nat.zero_le _, rfl, rfl, Ow.nil _ _⟩
          case round =>
            obtain ⟨k, dd, hk, rfl, rfl, hO⟩ := hrel
            have HO := Lib.hid hO
            clear hO
            by_cases hlt : k < m
            · have e1 := HR.out k hlt
              have H1 := Lib.hid (fun W => HD.out W k hlt)
              rw [HX.out k hlt] at H1
              have x1 : (k : Int) < (m : Int) := by omega
              have x0 : (0 : Int) ≤ (k : Int) := by omega
              have lw : (Lit.int .i64 (nth F k)).wf = true := lit_b (by have := HFb.out k (by rw [HFL.out]; exact hlt); omega)
              have hlen : (F.take k).length ≤ 1000000000 := by rw [List.length_take]; omega
              have HT := Lib.hid (take_nth (l := F) (k := k) (by rw [HFL.out]; exact hlt))
              have wk : IntKind.i64.wrap (nth l k - M) = nth l k - M := IntWalk.i64_in _ (by have := HDb.out k hlt; omega)
              generalize nth F k = Q at *
              generalize nth l k = X at *
              generalize F.take k = R at *
              go_wp2_with (first | (go_at_call 67; refine (H1.out _).mono ?_; rintro e w' ⟨rfl, d, rfl⟩) | (at_builtin; refine push_int rfl _ _ rfl (lay w []) _ (Q) 3 _ _ _ ?_ (ow_on (A := [_, _]) HO.out) ?_ rfl rfl (by omega) lw ?_; exact lay_below (A := [_, _, _]); exact lay_get w _ 0 _ rfl; intro v' d' hv'))
              go_roundw
              case rel => exact ⟨k + 1, d', by omega, by go_num, rfl, by rw [HT.out]; exact hv'⟩
              case measure => simp [intOf]; omega
            · obtain rfl : k = m := by omega
              rw [show F.take k = F by rw [← HFL.out, List.take_length]] at HO
              clear HD HX HR HS HMd e0
              go_wp2_with fail
              refine (HM2.out _ _ HO.out.sl).mono ?_
              rintro e w' ⟨rfl, d2, rfl⟩
              rw [lay_bw]
              have HO2 := Lib.hid (ow_on (A := [.inr d2]) HO.out)
              clear HO HM2
              obtain ⟨g, cF, hv6, hg1, hg2, hg3⟩ := HO2.out.form1 (by rw [HFL.out]; exact h1)
              rw [HFL.out] at hv6 hg3
              subst hv6
              obtain ⟨T, hT⟩ : ∃ T, max P 100 = T := ⟨_, rfl⟩
              rw [hT] at HE
              have HOut := HE
              clear HE
              have t0 : 100 ≤ T := by omega
              obtain ⟨d3, e3⟩ : ∃ x, lay w [.inr d2, .inr dd] = lay w [.inr x] := ⟨_, bw_bw _ _ _⟩
              replace HO2 : Hid (Ow (lay w [.inr d2, .inr dd]) (lay w []).heap.size (.slice (some ⟨g, 0, none⟩) k cF) F) := HO2
              rw [show lay w ([Sum.inr d2] ++ [Sum.inr dd]) = lay w [.inr d2, .inr dd] from rfl, e3] at hg2
              rw [e3] at HO2 ⊢
              clear e3
              by_cases hP2 : P < 100
              · have hT2 : T = 100 := by omega
                subst hT2
                go_wp2_with fail
                go_loopw [11, 57] (fun v9 v10 wr => ∃ (i : Nat) (dd : Ext), i ≤ k ∧ v10 = .int .i64 (i : Int) ∧ wr = lay w [.inr dd, .inr d3] ∧ Ow (lay w [.inr dd, .inr d3]) (lay w [.inr d3]).heap.size v9 (outK F 100 i)) (fun _ v10 _ => k - (intOf v10).toNat)
                case atStart => exact ⟨0, noExt _, Nat.zero_le _, rfl, (bw_noExt _).symm, Ow.nil _ _⟩
                case round =>
                  obtain ⟨i, da, hi, rfl, rfl, hO⟩ := hrel
                  have HO := Lib.hid hO
                  clear hO
                  by_cases hlt2 : i < k
                  · have e1 := (ow_on (A := [.inr da]) HO2.out).cell (i := i) (by rw [HFL.out]; exact hlt2)
                    have c1 : (lay w [.inr da, .inr d3]).cell? ⟨g, i, none⟩ = some (.int .i64 (nth F i)) := e1
                    have x1 : (i : Int) < (k : Int) := by omega
                    have x0 : (0 : Int) ≤ (i : Int) := by omega
                    have hst := outK_succ F 100 i
                    have hlen : (outK F 100 i).length ≤ 1000000000 := Nat.le_trans (outK_len _ _ _) (by omega)
                    have lw : (Lit.int .i64 (i : Int)).wf = true := lit_b (by omega)
                    clear e1
                    by_cases hf : 100 < nth F i
                    · rw [if_pos hf] at hst
                      have HST := Lib.hid hst
                      clear hst
                      generalize nth F i = Q at *
                      generalize outK F 100 i = R at *
                      go_wp2_with (at_builtin; refine push_int rfl _ _ rfl (lay w [.inr d3]) _ ((i : Int)) 3 _ _ _ ?_ (ow_on (A := [_]) HO.out) ?_ rfl rfl (by omega) lw ?_; exact lay_below (A := [_, _]); exact lay_get w _ 0 _ rfl; intro v' d' hv')
                      go_roundw
                      case rel => exact ⟨i + 1, d', by omega, by go_num, rfl, by rw [HST.out]; exact hv'⟩
                      case measure => simp [intOf]; omega
                    · rw [if_neg hf, List.append_nil] at hst
                      have HST := Lib.hid hst
                      clear hst
                      generalize nth F i = Q at *
                      generalize outK F 100 i = R at *
                      go_wp2_with fail
                      go_roundw
                      case rel => exact ⟨i + 1, da, by omega, by go_num, rfl, by rw [HST.out]; exact HO.out⟩
                      case measure => simp [intOf]; omega
                  · obtain rfl : i = k := by omega
                    go_wp2_with fail
                    go_ret2
                    obtain ⟨y, hy⟩ := lay_ex w [.inr da, .inr d3]
                    exact ⟨_, y, rfl, hy, by rw [← hy, HOut.out]; exact HO.out.le (lay_below (w := w) (A := [.inr d3]) (B := [])).size⟩
              · obtain rfl : T = P := by omega
                go_wp2_with fail
                go_loopw [11, 57] (fun v9 v10 wr => ∃ (i : Nat) (dd : Ext), i ≤ k ∧ v10 = .int .i64 (i : Int) ∧ wr = lay w [.inr dd, .inr d3] ∧ Ow (lay w [.inr dd, .inr d3]) (lay w [.inr d3]).heap.size v9 (outK F T i)) (fun _ v10 _ => k - (intOf v10).toNat)
                case atStart => exact ⟨0, noExt _, Nat.zero_le _, rfl, (bw_noExt _).symm, Ow.nil _ _⟩
                case round =>
                  obtain ⟨i, da, hi, rfl, rfl, hO⟩ := hrel
                  have HO := Lib.hid hO
                  clear hO
                  by_cases hlt2 : i < k
                  · have e1 := (ow_on (A := [.inr da]) HO2.out).cell (i := i) (by rw [HFL.out]; exact hlt2)
                    have c1 : (lay w [.inr da, .inr d3]).cell? ⟨g, i, none⟩ = some (.int .i64 (nth F i)) := e1
                    have x1 : (i : Int) < (k : Int) := by omega
                    have x0 : (0 : Int) ≤ (i : Int) := by omega
                    have hst := outK_succ F T i
                    have hlen : (outK F T i).length ≤ 1000000000 := Nat.le_trans (outK_len _ _ _) (by omega)
                    have lw : (Lit.int .i64 (i : Int)).wf = true := lit_b (by omega)
                    clear e1
                    by_cases hf : T < nth F i
                    · rw [if_pos hf] at hst
                      have HST := Lib.hid hst
                      clear hst
                      generalize nth F i = Q at *
                      generalize outK F T i = R at *
                      go_wp2_with (at_builtin; refine push_int rfl _ _ rfl (lay w [.inr d3]) _ ((i : Int)) 3 _ _ _ ?_ (ow_on (A := [_]) HO.out) ?_ rfl rfl (by omega) lw ?_; exact lay_below (A := [_, _]); exact lay_get w _ 0 _ rfl; intro v' d' hv')
                      go_roundw
                      case rel => exact ⟨i + 1, d', by omega, by go_num, rfl, by rw [HST.out]; exact hv'⟩
                      case measure => simp [intOf]; omega
                    · rw [if_neg hf, List.append_nil] at hst
                      have HST := Lib.hid hst
                      clear hst
                      generalize nth F i = Q at *
                      generalize outK F T i = R at *
                      go_wp2_with fail
                      go_roundw
                      case rel => exact ⟨i + 1, da, by omega, by go_num, rfl, by rw [HST.out]; exact HO.out⟩
                      case measure => simp [intOf]; omega
                  · obtain rfl : i = k := by omega
                    go_wp2_with fail
                    go_ret2
                    obtain ⟨y, hy⟩ := lay_ex w [.inr da, .inr d3]
                    exact ⟨_, y, rfl, hy, by rw [← hy, HOut.out]; exact HO.out.le (lay_below (w := w) (A := [.inr d3]) (B := [])).size⟩
        · rw [ho] at HOut
          have he : rejE l f = 2 := by rw [hE, if_pos (by rw [ho]; simp)]
          rw [rejL_ne (by rw [he]; decide), he]
          rw [hm] at HS HOut ⊢
          clear hm hr hE he c1 hs hw
          refine lay_start ?_
          go_enter Tryz.func26, Tryz.ntmps26
          go_wp2_with (go_at_call 66; refine (HOut.out _ (HS.out.lay _)).mono ?_; rintro e w' ⟨rfl, d, rfl⟩)
          go_ret2
          exact rwe_nil rfl
end Go.Proofs.YtmomoeagnkjbiaaGreat
/- trig at a quarter of a turn, where the sine is exact. -/
namespace Go.Proofs.YtmomoeagnkjbiaaGreat
open Go.RowKit

set_option maxRecDepth 100000 in
theorem tr_turned (n : Int) (h : n = 5400000 ∨ n = 0 ∨ n = 10800000) (w : World) :
    Calls Tryz.prog 156 #[.int .i64 n] w fun e w' => e = .returned (.int .i64 n) ∧ w' = w := by
  rcases h with rfl | rfl | rfl
  all_goals
    go_enter Tryz.func156, Tryz.ntmps156
    go_wp2_with fail
    go_ret
    exact ⟨rfl, rfl⟩
set_option maxRecDepth 100000 in
theorem tr_sine (w : World) :
    Calls Tryz.prog 157 #[.int .i64 5400000] w fun e w' => e = .returned (.tuple #[.int .i64 1073741824, .bool true]) ∧ w' = w := by
  go_enter Tryz.func157, Tryz.ntmps157
  go_wp2_with fail
  go_ret2
  exact ⟨rfl, rfl⟩
set_option maxRecDepth 100000 in
theorem tr_bounds (w : World) :
    Calls Tryz.prog 122 #[.int .i64 5400000] w fun e w' => e = .returned (.tuple #[.int .i64 1073741824, .int .i64 1073741824]) ∧ w' = w := by
  go_enter Tryz.func122, Tryz.ntmps122
  go_wp2_with (first | (go_at_call 156; refine (tr_turned _ (.inl rfl) _).mono ?_; rintro e w' ⟨rfl, rfl⟩) | (go_at_call 157; refine (tr_sine _).mono ?_; rintro e w' ⟨rfl, rfl⟩))
  go_ret2
  exact ⟨rfl, rfl⟩
set_option maxRecDepth 100000 in
theorem tr_valid (n : Int) (h : n = 5400000 ∨ n = 0) (w : World) :
    Calls Tryz.prog 69 #[(.agg #[.int .i64 (n), .int .i64 (n)])] w fun e w' => e = .returned (.bool true) ∧ ∃ d, w' = bw w d := by
  rcases h with rfl | rfl
  all_goals
    refine lay_start ?_
    go_enter Tryz.func69, Tryz.ntmps69
    go_wp2_with fail
    go_ret
    exact ⟨rfl, lay_ex _ _⟩
set_option maxRecDepth 100000 in
theorem tr_further (w : World) :
    Calls Tryz.prog 71 #[(.agg #[.int .i64 (0), .int .i64 (0)])] w fun e w' => e = .returned (.agg #[.int .i64 (5400000), .int .i64 (5400000)]) ∧ ∃ d, w' = bw w d := by
  refine lay_start ?_
  go_enter Tryz.func71, Tryz.ntmps71
  go_wp2_with fail
  all_goals exact bodyPost_ret (v := (.agg #[.int .i64 (5400000), .int .i64 (5400000)])) (by simp [results, Tryz.results71, go_sem]) rfl ⟨rfl, lay_ex _ _⟩
set_option maxRecDepth 100000 in
theorem tr_meets1 (w : World) :
    Calls Tryz.prog 123 #[(.agg #[.int .i64 (5400000), .int .i64 (5400000)]), .int .i64 5400000] w fun e w' => e = .returned (.bool true) ∧ ∃ d, w' = bw w d := by
  have HT := Lib.hid (fun W => tr_turned 0 (.inr (.inl rfl)) W)
  refine lay_start ?_
  go_enter Tryz.func123, Tryz.ntmps123
  go_wp2_with fail
  refine region_bw (by kernel_rfl) (by kernel_rfl) ?_
  repeat (go_big_quiet_step ((first | (go_at_call 156; exact bqs (HT.out _) ⟨_, rfl⟩))))
  refine wpQuiet_nil ?_
  rintro w' ⟨d, rfl⟩
  rw [lay_bw]
  go_wp2_with fail
  go_ret
  exact ⟨rfl, lay_ex _ _⟩
set_option maxRecDepth 100000 in
theorem tr_meets2 (w : World) :
    Calls Tryz.prog 123 #[(.agg #[.int .i64 (5400000), .int .i64 (5400000)]), .int .i64 16200000] w fun e w' => e = .returned (.bool false) ∧ ∃ d, w' = bw w d := by
  have HT := Lib.hid (fun W => tr_turned 10800000 (.inr (.inr rfl)) W)
  refine lay_start ?_
  go_enter Tryz.func123, Tryz.ntmps123
  go_wp2_with fail
  refine region_bw (by kernel_rfl) (by kernel_rfl) ?_
  repeat (go_big_quiet_step ((first | (go_at_call 156; exact bqs (HT.out _) ⟨_, rfl⟩))))
  refine wpQuiet_nil ?_
  rintro w' ⟨d, rfl⟩
  rw [lay_bw]
  go_wp2_with fail
  go_ret
  exact ⟨rfl, lay_ex _ _⟩
set_option maxRecDepth 100000 in
theorem tr_enclosure (w : World) :
    Calls Tryz.prog 70 #[(.agg #[.int .i64 (5400000), .int .i64 (5400000)])] w fun e w' => e = .returned (.agg #[.int .i64 (1073741824), .int .i64 (1073741824)]) ∧ ∃ d, w' = bw w d := by
  refine lay_start ?_
  go_enter Tryz.func70, Tryz.ntmps70
  go_wp2_with (first | (go_at_call 122; refine (tr_bounds _).mono ?_; rintro e w' ⟨rfl, rfl⟩) | (go_at_call 123; first | (with_reducible refine (tr_meets1 _).mono ?_; rintro e w' ⟨rfl, d, rfl⟩) | (with_reducible refine (tr_meets2 _).mono ?_; rintro e w' ⟨rfl, d, rfl⟩)))
  all_goals exact bodyPost_ret (v := (.agg #[.int .i64 (1073741824), .int .i64 (1073741824)])) (by simp [results, Tryz.results70, go_sem] <;> rfl) rfl ⟨rfl, lay_ex _ _⟩
set_option maxRecDepth 100000 in
theorem tr_Cos (w : World) :
    Calls Tryz.prog 28 #[(.agg #[.int .i64 (0), .int .i64 (0)])] w fun e w' => e = .returned (.tuple #[(.agg #[.int .i64 (1073741824), .int .i64 (1073741824)]), .int .i64 0]) ∧ ∃ d, w' = bw w d := by
  refine lay_start ?_
  go_enter Tryz.func28, Tryz.ntmps28
  go_wp2_with (first | (go_at_call 69; refine (tr_valid _ (.inr rfl) _).mono ?_; rintro e w' ⟨rfl, d, rfl⟩) | (go_at_call 71; refine (tr_further _).mono ?_; rintro e w' ⟨rfl, d, rfl⟩) | (go_at_call 70; refine (tr_enclosure _).mono ?_; rintro e w' ⟨rfl, d, rfl⟩))
  all_goals exact bodyPost_ret (v := .tuple #[(.agg #[.int .i64 (1073741824), .int .i64 (1073741824)]), .int .i64 0]) (by simp [results, Tryz.results28, go_sem]) rfl ⟨rfl, lay_ex _ _⟩
set_option maxRecDepth 100000 in
theorem tr_Sin (w : World) :
    Calls Tryz.prog 29 #[(.agg #[.int .i64 (5400000), .int .i64 (5400000)])] w fun e w' => e = .returned (.tuple #[(.agg #[.int .i64 (1073741824), .int .i64 (1073741824)]), .int .i64 0]) ∧ ∃ d, w' = bw w d := by
  refine lay_start ?_
  go_enter Tryz.func29, Tryz.ntmps29
  go_wp2_with (first | (go_at_call 69; refine (tr_valid _ (.inl rfl) _).mono ?_; rintro e w' ⟨rfl, d, rfl⟩) | (go_at_call 70; refine (tr_enclosure _).mono ?_; rintro e w' ⟨rfl, d, rfl⟩))
  all_goals exact bodyPost_ret (v := .tuple #[(.agg #[.int .i64 (1073741824), .int .i64 (1073741824)]), .int .i64 0]) (by simp [results, Tryz.results29, go_sem]) rfl ⟨rfl, lay_ex _ _⟩
end Go.Proofs.YtmomoeagnkjbiaaGreat
/- Sorted lists by a preorder: the k-th elements are alike; quotients; residuals. The plain law. No function of the program. -/
namespace Go.Proofs.YtmomoeagnkjbiaaGreat

/-- Two ascending lists with the same elements: the k-th ones are alike. -/
theorem kth_le {α : Type} (le : α → α → Bool) (tot : ∀ x y, le x y = true ∨ le y x = true) (tr : ∀ x y z, le x y = true → le y z = true → le x z = true) {a b : List α}
    (ha : a.Pairwise fun x y => le x y = true) (hb : b.Pairwise fun x y => le x y = true) (h : a.Perm b) {k : Nat} (hk : k < a.length) (hk2 : k < b.length) : le a[k] b[k] = true := by
  by_cases hn : le a[k] b[k] = true
  · exact hn
  exfalso
  have rf : ∀ x, le x x = true := fun x => (tot x x).elim id id
  have e1 : b.countP (fun z => le z b[k]) = a.countP (fun z => le z b[k]) := (h.countP_eq _).symm
  have h1 : k + 1 ≤ b.countP (fun z => le z b[k]) := by
    have e2 : (b.take (k + 1)).countP (fun z => le z b[k]) = (b.take (k + 1)).length := by
      refine List.countP_eq_length.2 fun z hz => ?_
      obtain ⟨i, hi, rfl⟩ := List.getElem_of_mem hz
      rw [List.length_take] at hi
      rw [List.getElem_take]
      by_cases he : i = k
      · subst he; exact rf _
      · exact List.pairwise_iff_getElem.1 hb i k (by omega) hk2 (by omega)
    have e3 : b.countP (fun z => le z b[k]) = (b.take (k + 1)).countP (fun z => le z b[k]) + (b.drop (k + 1)).countP (fun z => le z b[k]) := by
      rw [← List.countP_append, List.take_append_drop]
    rw [List.length_take] at e2
    omega
  have h2 : a.countP (fun z => le z b[k]) ≤ k := by
    have e2 : (a.drop k).countP (fun z => le z b[k]) = 0 := by
      refine List.countP_eq_zero.2 fun z hz hp => ?_
      obtain ⟨i, hi, rfl⟩ := List.getElem_of_mem hz
      rw [List.length_drop] at hi
      rw [List.getElem_drop] at hp
      refine hn (tr _ a[k + i] _ ?_ hp)
      by_cases he : i = 0
      · subst he; exact rf _
      · exact List.pairwise_iff_getElem.1 ha k (k + i) hk (by omega) (by omega)
    have e3 : a.countP (fun z => le z b[k]) = (a.take k).countP (fun z => le z b[k]) + (a.drop k).countP (fun z => le z b[k]) := by
      rw [← List.countP_append, List.take_append_drop]
    have e4 := List.countP_le_length (p := fun z => le z b[k]) (l := a.take k)
    rw [List.length_take] at e4
    omega
  omega
/-- A difference of readings, and the positive difference of their times. -/
structure RisV where
  h : Int
  t : Int
def risLe (a b : RisV) : Bool := decide (a.h * b.t ≤ b.h * a.t)
theorem risLe_tot (a b : RisV) : risLe a b = true ∨ risLe b a = true := by
  unfold risLe; simp only [decide_eq_true_eq]; omega
theorem risLe_tr {a b c : RisV} (ha : 0 < a.t) (hb : 0 < b.t) (hc : 0 < c.t) (h1 : risLe a b = true) (h2 : risLe b c = true) : risLe a c = true := by
  unfold risLe at *
  simp only [decide_eq_true_eq] at *
  have k1 := Int.mul_le_mul_of_nonneg_right h1 (Int.le_of_lt hc)
  have k2 := Int.mul_le_mul_of_nonneg_right h2 (Int.le_of_lt ha)
  have e1 : b.h * a.t * c.t = b.h * c.t * a.t := by rw [Int.mul_right_comm]
  have k3 : a.h * c.t * b.t ≤ c.h * a.t * b.t := by
    have e2 : a.h * b.t * c.t = a.h * c.t * b.t := by rw [Int.mul_right_comm]
    have e3 : c.h * b.t * a.t = c.h * a.t * b.t := by rw [Int.mul_right_comm]
    rw [← e2, ← e3]
    exact Int.le_trans (Int.le_trans k1 (Int.le_of_eq e1)) k2
  exact Int.le_of_mul_le_mul_right k3 hb
/-- The quotients at one place of two sorted lists are one. -/
theorem kth_quot {a b : List RisV} (hp : ∀ x ∈ a, 0 < x.t) (ha : a.Pairwise fun x y => risLe x y = true) (hb : b.Pairwise fun x y => risLe x y = true) (h : a.Perm b) {k : Nat} (hk : k < a.length) (hk2 : k < b.length) : a[k].h * b[k].t = b[k].h * a[k].t := by
  have hq : ∀ x ∈ b, 0 < x.t := fun x hx => hp x (h.symm.mem_iff.1 hx)
  have go : ∀ {a b : List RisV}, (∀ x ∈ a, 0 < x.t) → a.Pairwise (fun x y => risLe x y = true) → b.Pairwise (fun x y => risLe x y = true) → a.Perm b → ∀ (hk : k < a.length) (hk2 : k < b.length), risLe a[k] b[k] = true := by
    intro a b hp ha hb h hk hk2
    have hq : ∀ x ∈ b, 0 < x.t := fun x hx => hp x (h.symm.mem_iff.1 hx)
    have := kth_le (α := { x : RisV // 0 < x.t }) (fun x y => risLe x.1 y.1) (fun x y => risLe_tot _ _) (fun x y z h1 h2 => risLe_tr x.2 y.2 z.2 h1 h2)
      (a := a.pmap (fun x hx => ⟨x, hx⟩) hp) (b := b.pmap (fun x hx => ⟨x, hx⟩) hq) ?_ ?_ ?_ (k := k) (by simpa using hk) (by simpa using hk2)
    · simpa using this
    · exact (List.pairwise_pmap hp).2 (ha.imp fun h _ _ => h)
    · exact (List.pairwise_pmap hq).2 (hb.imp fun h _ _ => h)
    · exact h.pmap _
  have h1 := go hp ha hb h hk hk2
  have h2 := go hq hb ha h.symm hk2 hk
  unfold risLe at h1 h2
  simp only [decide_eq_true_eq] at h1 h2
  omega
/-- The residual of a reading. -/
def resI (t h n d : Int) : Int := h + (1000 * d - 2 * n * t) / (2000 * d)
theorem res_line (v s x : Int) : resI (1000 * x) (v + s * x) s 1 = v := by
  unfold resI
  have e : 2 * s * (1000 * x) = 2000 * (s * x) := by rw [Int.mul_assoc, Int.mul_left_comm s, ← Int.mul_assoc]; omega
  rw [e]; omega
end Go.Proofs.YtmomoeagnkjbiaaGreat
