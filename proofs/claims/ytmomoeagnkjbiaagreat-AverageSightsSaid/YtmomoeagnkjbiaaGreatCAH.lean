/- Contracts and plain laws, several texts in one: Va5; Av3; TrC; Row; OpG -/
import Derived.Test.YtmomoeagnkjbiaaGreatProg
import Derived.WalkKit
import Derived.WalkSpells
import Derived.WalkLawsBesides
import Derived.Lib.Hide
import Derived.BigQuiet
import Derived.Deep.Slices
import Derived.Deep.AppendLies
import Derived.Maps.AppendAt
import Derived.Laws.AppendOwnNone
import Derived.Laws.OwnMore
import Derived.WideShapes
import Derived.Lib.SmallJoins
import Derived.Deep.Fields
import Derived.ChangeSame
import Derived.ChangeShapes
import Derived.Test.YtmomoeagnkjbiaaGreatCAA
import Derived.Test.YtmomoeagnkjbiaaGreatCAB
import Derived.Test.YtmomoeagnkjbiaaGreatCAD
import Derived.Test.YtmomoeagnkjbiaaGreatCAF
import Derived.Test.YtmomoeagnkjbiaaGreatCAG
/- slices.Sorted of slices.Values at ints; average.median. -/
namespace Go.Proofs.YtmomoeagnkjbiaaGreat
open Go.RowKit Go.Shelf

theorem IntsV.of {w : World} {v : Value} {l : List Int} (h : Sl w v l) (h1 : 1 ≤ l.length) : IntsV w.heap.size w v l := by
  obtain ⟨b, o, cap, rfl, _, _, hb, hr⟩ := h.open (by omega)
  exact .inr ⟨b, o, cap, rfl, hb, fun j hj => by rw [hr j hj]; rfl⟩
set_option maxRecDepth 100000 in
theorem vl_Sorted (Bs : Nat) (sv : Value) (l : List Int) (w : World) (hBs : Bs < w.heap.size) (hc : w.cell? ⟨Bs, 0, none⟩ = some sv) (hs : Sl w sv l) (h1 : 1 ≤ l.length) (hn : l.length ≤ 1000000) :
    Calls Tryz.prog 91 #[.func (.func 142) #[] #[.pointer (some ⟨Bs, 0, none⟩)]] w (RwO w (srtI l)) := by
  have HC := Lib.hid (vl_Collect Bs sv l (by omega) w hBs hc (IntsV.of hs h1))
  have hw := fun i (hi : i < l.length) => (hs.open (by omega)).choose_spec.choose_spec.choose_spec.2.2.1 i hi
  have HO : Hid (∀ W v, W.ownsRow w.heap.size 3 1 v l.length (l.map (Value.int .i64)) → Ow W w.heap.size v l) := Lib.hid fun W v h => ⟨h, hw⟩
  have HL : Hid (l.length ≤ 1000000000) := Lib.hid (by omega)
  clear hs hw hc hBs h1 hn
  refine lay_start ?_
  go_enter Tryz.func91, Tryz.ntmps91
  go_wp2_with fail
  refine HC.out.mono ?_
  rintro e w' ⟨v, rfl, hv, hb⟩
  obtain ⟨d, rfl⟩ := bw_of hb
  have hv2 := HO.out _ _ hv
  have HS := Lib.hid (sl_Sort w v l (bw w d) hb hv2 HL.out)
  obtain ⟨a, cap, rfl⟩ := hv2.form
  obtain ⟨q, hq⟩ : ∃ q, l.length = q := ⟨_, rfl⟩
  rw [hq] at HS ⊢
  clear hv hv2 hb
  rw [show bw w d = lay w [.inr d] from rfl] at HS ⊢
  go_wp2_with fail
  refine HS.out.mono ?_
  rintro e w' ⟨rfl, d2, rfl, h2⟩
  have H2 := Lib.hid h2
  clear h2
  rw [show bw w d2 = lay w [.inr d2] from rfl]
  go_wp2_with fail
  go_ret
  exact ⟨_, d2, rfl, rfl, H2.out⟩
set_option maxRecDepth 100000 in
theorem av_median (v : Value) (l : List Int) (w : World) (hs : Sl w v l) (h1 : 1 ≤ l.length) (hn : l.length ≤ 1000000) :
    Calls Tryz.prog 43 #[v] w fun e w' => e = .returned (.int .i64 (medI l)) ∧ ∃ d, w' = bw w d := by
  have HS := Lib.hid (fun W Bs hBs hc (h : Sl W v l) => vl_Sorted Bs v l W hBs hc h h1 hn)
  have HV := Lib.hid hs
  obtain ⟨b, o, cap, rfl, -⟩ := hs.open (by omega)
  have HL := Lib.hid (srtI_len l)
  obtain ⟨m, hm⟩ : ∃ m, l.length = m := ⟨_, rfl⟩
  obtain ⟨q, hq⟩ : ∃ q, (m - 1) / 2 = q := ⟨_, rfl⟩
  have hmed : medI l = nth (srtI l) q := by unfold medI; rw [hm, hq]
  have HLw := Lib.hid (fun W => av_lower m W (by omega) (by omega))
  rw [hq] at HLw
  rw [hmed]
  rw [hm] at HL HS HV h1 hn ⊢
  generalize srtI l = L at *
  obtain ⟨X, hX⟩ : ∃ X, X = nth L q := ⟨_, rfl⟩
  rw [← hX]
  have HX := Lib.hid hX
  have HQ : Hid (q < m) := Lib.hid (by omega)
  have x0 : (0 : Int) ≤ (q : Int) := by omega
  have x1 : (q : Int) < (m : Int) := by omega
  clear hs hq hX hmed hm
  refine lay_start ?_
  go_enter Tryz.func43, Tryz.ntmps43
  go_wp2_with (first | (go_at_call 92; with_reducible refine (vl_Values _ _ _ _).mono ?_; rintro e w' ⟨rfl, rfl⟩; rw [show (lay w []).alloc (.cells #[.slice (some ⟨b, o, none⟩) m cap] 41) = lay w [.inl (.cells #[.slice (some ⟨b, o, none⟩) m cap] 41 (0, 0))] from rfl]) | fail)
  have hsz : (lay w [.inl (.cells #[.slice (some ⟨b, o, none⟩) m cap] 41 (0, 0))]).heap.size = w.heap.size + 1 := World.size_alloc _ _
  refine (HS.out (lay w [.inl (.cells #[.slice (some ⟨b, o, none⟩) m cap] 41 (0, 0))]) w.heap.size (by omega) ?_ (HV.out.lay _)).mono ?_
  · have e2 : (lay w [.inl (.cells #[.slice (some ⟨b, o, none⟩) m cap] 41 (0, 0))]).heap[w.heap.size]? = some (.cells #[.slice (some ⟨b, o, none⟩) m cap] 41 (0, 0)) := by show (w.heap.push _)[w.heap.size]? = _; simp
    simp [World.cell?, e2]
  rintro e w' ⟨v, d, rfl, rfl, hv⟩
  obtain ⟨g, c, hve, -, -, -⟩ := hv.form1 (by rw [HL.out]; omega)
  rw [HL.out] at hve
  subst hve
  rw [lay_bw] at hv
  have e1 := fun (A : List (Obj ⊕ Ext)) => (ow_on (A := A) hv).cell (i := q) (by rw [HL.out]; exact HQ.out)
  rw [← HX.out] at e1
  have c2 : ∀ d', (lay w [.inr d', .inr d, .inl (.cells #[.slice (some ⟨b, o, none⟩) m cap] 41 (0, 0))]).cell? ⟨g, q, none⟩ = some (.int .i64 X) := fun d' => e1 [.inr d']
  rw [show bw (lay w [.inl (.cells #[.slice (some ⟨b, o, none⟩) m cap] 41 (0, 0))]) d = lay w [.inr d, .inl (.cells #[.slice (some ⟨b, o, none⟩) m cap] 41 (0, 0))] from rfl]
  clear hv e1 hsz
  go_wp2_with fail
  refine (HLw.out _).mono ?_
  rintro e w' ⟨rfl, d2, rfl⟩
  rw [lay_bw]
  go_wp2_with fail
  go_ret
  exact ⟨rfl, lay_ex _ _⟩
end Go.Proofs.YtmomoeagnkjbiaaGreat
/- average.Reject. -/
namespace Go.Proofs.YtmomoeagnkjbiaaGreat
open Go.RowKit

set_option maxHeartbeats 2000000 in
set_option maxRecDepth 100000 in
theorem av_Reject (v : Value) (l : List Int) (f : Int) (w : World) (hs : Sl w v l) :
    Calls Tryz.prog 26 #[v, .int .i64 f] w (RwE w (rejL l f) (rejE l f)) := by
  by_cases c1 : l.length < 1 ∨ 1000 < l.length
  · have he : rejE l f = 3 := if_pos c1
    rw [rejL_ne (by rw [he]; decide), he]
    obtain ⟨a, cap, rfl, hcp, -⟩ := hs
    obtain ⟨m, hm⟩ : ∃ m, l.length = m := ⟨_, rfl⟩
    rw [hm] at c1 ⊢
    rcases c1 with c1 | c1
    · obtain rfl : m = 0 := by omega
      clear hm hcp
      refine lay_start ?_
      go_enter Tryz.func26, Tryz.ntmps26
      go_wp2_with fail
      go_ret2
      exact rwe_nil rfl
    · have x0 : ¬ (m : Int) < 1 := by omega
      have x1 : (1000 : Int) < (m : Int) := by omega
      clear hm hcp
      refine lay_start ?_
      go_enter Tryz.func26, Tryz.ntmps26
      go_wp2_with fail
      go_ret2
      exact rwe_nil rfl
  · have HS := Lib.hid hs
    obtain ⟨b, o, cap, rfl, hc, hw, hbs, hr⟩ := hs.open (by omega)
    have hE : rejE l f = if f < 1 ∨ 100 < f ∨ outB l 1099511627776 = true then 2 else 0 := if_neg c1
    have HOut := Lib.hid (fun W (h : Sl W (.slice (some ⟨b, o, none⟩) l.length cap) l) => av_outside _ l 1099511627776 W h (by decide) (by decide))
    obtain ⟨m, hm⟩ : ∃ m, l.length = m := ⟨_, rfl⟩
    have x0 : ¬ (m : Int) < 1 := by omega
    have x1 : ¬ (1000 : Int) < (m : Int) := by omega
    by_cases c2 : f < 1
    · have he : rejE l f = 2 := by rw [hE, if_pos (by omega)]
      rw [rejL_ne (by rw [he]; decide), he, hm]
      clear hm hr hE he c1 hs hw
      refine lay_start ?_
      go_enter Tryz.func26, Tryz.ntmps26
      go_wp2_with fail
      go_ret2
      exact rwe_nil rfl
    · by_cases c3 : 100 < f
      · have he : rejE l f = 2 := by rw [hE, if_pos (by omega)]
        rw [rejL_ne (by rw [he]; decide), he, hm]
        clear hm hr hE he c1 hs hw
        refine lay_start ?_
        go_enter Tryz.func26, Tryz.ntmps26
        go_wp2_with fail
        go_ret2
        exact rwe_nil rfl
      · cases ho : outB l 1099511627776
        · have hb := outB_bd ho
          rw [ho] at HOut
          have he : rejE l f = 0 := by rw [hE, if_neg (by rw [ho]; simp; omega)]
          rw [rejL_eq he, he]
          have h1 : 1 ≤ l.length := by omega
          have hlb := lim_bd hb h1 (f := f) (by omega) (by omega)
          have HMd := Lib.hid (fun W h => av_median (.slice (some ⟨b, o, none⟩) l.length cap) l W h h1 (by omega))
          have HM2 := Lib.hid (fun W v h => av_median v (farI l) W h (by rw [farI_len]; exact h1) (by rw [farI_len]; omega))
          have HD := Lib.hid (fun W i (hi : i < l.length) => av_size (nth l i - medI l) W (by have h2 := hb i hi; have h3 := hb.med h1; omega) (by have h2 := hb i hi; have h3 := hb.med h1; omega))
          have HDb := Lib.hid (fun i (hi : i < l.length) => (show -4000000000000 ≤ nth l i - medI l ∧ nth l i - medI l ≤ 4000000000000 by have h2 := hb i hi; have h3 := hb.med h1; omega))
          have HF := Lib.hid (fun i (hi : i < l.length) => far_nth hi)
          have HFb := Lib.hid (hb.far h1)
          have HE := Lib.hid (outI_K l f)
          have HFL := Lib.hid (farI_len l)
          have HR := Lib.hid hr
          obtain ⟨M, hM⟩ : ∃ M, medI l = M := ⟨_, rfl⟩
          obtain ⟨F, hF⟩ : ∃ F, farI l = F := ⟨_, rfl⟩
          obtain ⟨M2, hM2⟩ : ∃ M2, medI (farI l) = M2 := ⟨_, rfl⟩
          have hlim : limI l f = max (f * M2) 100 := by unfold limI; rw [hM2]
          rw [hlim] at HE
          rw [hM2] at hlb
          rw [hF] at HM2 HE HF HFb HFL hM2
          rw [hM] at HMd HD HF HDb
          rw [hM2] at HM2
          rw [hm] at HS HMd HD HR HF HE HFL HOut HDb h1 hc ⊢
          have HX := Lib.hid (fun i (hi : i < m) => (HF.out i hi).symm)
          generalize outI l f = OUT at *
          obtain ⟨p0, p1⟩ := hlb
          obtain ⟨P, hP⟩ : ∃ P, f * M2 = P := ⟨_, rfl⟩
          rw [hP] at p0 p1 HE
          have hP1 : IntKind.i64.wrap (f * M2) = P := by rw [hP]; exact IntWalk.i64_in _ (by omega)
          have hml : m ≤ 1000 := by omega
          clear hr hb hm hM hF hM2 hlim hs HF hw he hE ho c1
          refine lay_start ?_
          go_enter Tryz.func26, Tryz.ntmps26
          go_wp2_with (first | (go_at_call 66; refine (HOut.out _ (HS.out.lay _)).mono ?_; rintro e w' ⟨rfl, d, rfl⟩) | (go_at_call 43; refine (HMd.out _ (HS.out.lay _)).mono ?_; rintro e w' ⟨rfl, dM, rfl⟩))
          obtain ⟨d0, e0⟩ : ∃ x, lay w [.inr dM, .inr d] = lay w [.inr x] := ⟨_, bw_bw _ _ _⟩
          rw [e0]
          go_loopw [7, 38] (fun v7 v38 wr => ∃ (k : Nat) (dd : Ext), k ≤ m ∧ v38 = .int .i64 (k : Int) ∧ wr = lay w [.inr dd] ∧ Ow (lay w [.inr dd]) (lay w []).heap.size v7 (F.take k)) (fun _ v38 _ => m - (intOf v38).toNat)
          case atStart => exact ⟨0, d0, Nat.zero_le _, rfl, rfl, Ow.nil _ _⟩
          case round =>
            obtain ⟨k, dd, hk, rfl, rfl, hO⟩ := hrel
            have HO := Lib.hid hO
            clear hO
            by_cases hlt : k < m
            · have e1 := HR.out k hlt
              have H1 := Lib.hid (fun W => HD.out W k hlt)
              rw [HX.out k hlt] at H1
              have x1 : (k : Int) < (m : Int) := by omega
              have x0 : (0 : Int) ≤ (k : Int) := by omega
              have lw : (Lit.int .i64 (nth F k)).wf = true := lit_b (by have := HFb.out k (by rw [HFL.out]; exact hlt); omega)
              have hlen : (F.take k).length ≤ 1000000000 := by rw [List.length_take]; omega
              have HT := Lib.hid (take_nth (l := F) (k := k) (by rw [HFL.out]; exact hlt))
              have wk : IntKind.i64.wrap (nth l k - M) = nth l k - M := IntWalk.i64_in _ (by have := HDb.out k hlt; omega)
              generalize nth F k = Q at *
              generalize nth l k = X at *
              generalize F.take k = R at *
              go_wp2_with (first | (go_at_call 67; refine (H1.out _).mono ?_; rintro e w' ⟨rfl, d, rfl⟩) | (at_builtin; refine push_int rfl _ _ rfl (lay w []) _ (Q) 3 _ _ _ ?_ (ow_on (A := [_, _]) HO.out) ?_ rfl rfl (by omega) lw ?_; exact lay_below (A := [_, _, _]); exact lay_get w _ 0 _ rfl; intro v' d' hv'))
              go_roundw
              case rel => exact ⟨k + 1, d', by omega, by go_num, rfl, by rw [HT.out]; exact hv'⟩
              case measure => simp [intOf]; omega
            · obtain rfl : k = m := by omega
              rw [show F.take k = F by rw [← HFL.out, List.take_length]] at HO
              clear HD HX HR HS HMd e0
              go_wp2_with fail
              refine (HM2.out _ _ HO.out.sl).mono ?_
              rintro e w' ⟨rfl, d2, rfl⟩
              rw [lay_bw]
              have HO2 := Lib.hid (ow_on (A := [.inr d2]) HO.out)
              clear HO HM2
              obtain ⟨g, cF, hv6, hg1, hg2, hg3⟩ := HO2.out.form1 (by rw [HFL.out]; exact h1)
              rw [HFL.out] at hv6 hg3
              subst hv6
              obtain ⟨T, hT⟩ : ∃ T, max P 100 = T := ⟨_, rfl⟩
              rw [hT] at HE
              have HOut := HE
              clear HE
              have t0 : 100 ≤ T := by omega
              obtain ⟨d3, e3⟩ : ∃ x, lay w [.inr d2, .inr dd] = lay w [.inr x] := ⟨_, bw_bw _ _ _⟩
              replace HO2 : Hid (Ow (lay w [.inr d2, .inr dd]) (lay w []).heap.size (.slice (some ⟨g, 0, none⟩) k cF) F) := HO2
              rw [show lay w ([Sum.inr d2] ++ [Sum.inr dd]) = lay w [.inr d2, .inr dd] from rfl, e3] at hg2
              rw [e3] at HO2 ⊢
              clear e3
              by_cases hP2 : P < 100
              · have hT2 : T = 100 := by omega
                subst hT2
                go_wp2_with fail
                go_loopw [11, 57] (fun v9 v10 wr => ∃ (i : Nat) (dd : Ext), i ≤ k ∧ v10 = .int .i64 (i : Int) ∧ wr = lay w [.inr dd, .inr d3] ∧ Ow (lay w [.inr dd, .inr d3]) (lay w [.inr d3]).heap.size v9 (outK F 100 i)) (fun _ v10 _ => k - (intOf v10).toNat)
                case atStart => exact ⟨0, noExt _, Nat.zero_le _, rfl, (bw_noExt _).symm, Ow.nil _ _⟩
                case round =>
                  obtain ⟨i, da, hi, rfl, rfl, hO⟩ := hrel
                  have HO := Lib.hid hO
                  clear hO
                  by_cases hlt2 : i < k
                  · have e1 := (ow_on (A := [.inr da]) HO2.out).cell (i := i) (by rw [HFL.out]; exact hlt2)
                    have c1 : (lay w [.inr da, .inr d3]).cell? ⟨g, i, none⟩ = some (.int .i64 (nth F i)) := e1
                    have x1 : (i : Int) < (k : Int) := by omega
                    have x0 : (0 : Int) ≤ (i : Int) := by omega
                    have hst := outK_succ F 100 i
                    have hlen : (outK F 100 i).length ≤ 1000000000 := Nat.le_trans (outK_len _ _ _) (by omega)
                    have lw : (Lit.int .i64 (i : Int)).wf = true := lit_b (by omega)
                    clear e1
                    by_cases hf : 100 < nth F i
                    · rw [if_pos hf] at hst
                      have HST := Lib.hid hst
                      clear hst
                      generalize nth F i = Q at *
                      generalize outK F 100 i = R at *
                      go_wp2_with (at_builtin; refine push_int rfl _ _ rfl (lay w [.inr d3]) _ ((i : Int)) 3 _ _ _ ?_ (ow_on (A := [_]) HO.out) ?_ rfl rfl (by omega) lw ?_; exact lay_below (A := [_, _]); exact lay_get w _ 0 _ rfl; intro v' d' hv')
                      go_roundw
                      case rel => exact ⟨i + 1, d', by omega, by go_num, rfl, by rw [HST.out]; exact hv'⟩
                      case measure => simp [intOf]; omega
                    · rw [if_neg hf, List.append_nil] at hst
                      have HST := Lib.hid hst
                      clear hst
                      generalize nth F i = Q at *
                      generalize outK F 100 i = R at *
                      go_wp2_with fail
                      go_roundw
                      case rel => exact ⟨i + 1, da, by omega, by go_num, rfl, by rw [HST.out]; exact HO.out⟩
                      case measure => simp [intOf]; omega
                  · obtain rfl : i = k := by omega
                    go_wp2_with fail
                    go_ret2
                    obtain ⟨y, hy⟩ := lay_ex w [.inr da, .inr d3]
                    exact ⟨_, y, rfl, hy, by rw [← hy, HOut.out]; exact HO.out.le (lay_below (w := w) (A := [.inr d3]) (B := [])).size⟩
              · obtain rfl : T = P := by omega
                go_wp2_with fail
                go_loopw [11, 57] (fun v9 v10 wr => ∃ (i : Nat) (dd : Ext), i ≤ k ∧ v10 = .int .i64 (i : Int) ∧ wr = lay w [.inr dd, .inr d3] ∧ Ow (lay w [.inr dd, .inr d3]) (lay w [.inr d3]).heap.size v9 (outK F T i)) (fun _ v10 _ => k - (intOf v10).toNat)
                case atStart => exact ⟨0, noExt _, Nat.zero_le _, rfl, (bw_noExt _).symm, Ow.nil _ _⟩
                case round =>
                  obtain ⟨i, da, hi, rfl, rfl, hO⟩ := hrel
                  have HO := Lib.hid hO
                  clear hO
                  by_cases hlt2 : i < k
                  · have e1 := (ow_on (A := [.inr da]) HO2.out).cell (i := i) (by rw [HFL.out]; exact hlt2)
                    have c1 : (lay w [.inr da, .inr d3]).cell? ⟨g, i, none⟩ = some (.int .i64 (nth F i)) := e1
                    have x1 : (i : Int) < (k : Int) := by omega
                    have x0 : (0 : Int) ≤ (i : Int) := by omega
                    have hst := outK_succ F T i
                    have hlen : (outK F T i).length ≤ 1000000000 := Nat.le_trans (outK_len _ _ _) (by omega)
                    have lw : (Lit.int .i64 (i : Int)).wf = true := lit_b (by omega)
                    clear e1
                    by_cases hf : T < nth F i
                    · rw [if_pos hf] at hst
                      have HST := Lib.hid hst
                      clear hst
                      generalize nth F i = Q at *
                      generalize outK F T i = R at *
                      go_wp2_with (at_builtin; refine push_int rfl _ _ rfl (lay w [.inr d3]) _ ((i : Int)) 3 _ _ _ ?_ (ow_on (A := [_]) HO.out) ?_ rfl rfl (by omega) lw ?_; exact lay_below (A := [_, _]); exact lay_get w _ 0 _ rfl; intro v' d' hv')
                      go_roundw
                      case rel => exact ⟨i + 1, d', by omega, by go_num, rfl, by rw [HST.out]; exact hv'⟩
                      case measure => simp [intOf]; omega
                    · rw [if_neg hf, List.append_nil] at hst
                      have HST := Lib.hid hst
                      clear hst
                      generalize nth F i = Q at *
                      generalize outK F T i = R at *
                      go_wp2_with fail
                      go_roundw
                      case rel => exact ⟨i + 1, da, by omega, by go_num, rfl, by rw [HST.out]; exact HO.out⟩
                      case measure => simp [intOf]; omega
                  · obtain rfl : i = k := by omega
                    go_wp2_with fail
                    go_ret2
                    obtain ⟨y, hy⟩ := lay_ex w [.inr da, .inr d3]
                    exact ⟨_, y, rfl, hy, by rw [← hy, HOut.out]; exact HO.out.le (lay_below (w := w) (A := [.inr d3]) (B := [])).size⟩
        · rw [ho] at HOut
          have he : rejE l f = 2 := by rw [hE, if_pos (by rw [ho]; simp)]
          rw [rejL_ne (by rw [he]; decide), he]
          rw [hm] at HS HOut ⊢
          clear hm hr hE he c1 hs hw
          refine lay_start ?_
          go_enter Tryz.func26, Tryz.ntmps26
          go_wp2_with (go_at_call 66; refine (HOut.out _ (HS.out.lay _)).mono ?_; rintro e w' ⟨rfl, d, rfl⟩)
          go_ret2
          exact rwe_nil rfl
end Go.Proofs.YtmomoeagnkjbiaaGreat
/- trig at a quarter of a turn, where the sine is exact. -/
namespace Go.Proofs.YtmomoeagnkjbiaaGreat
open Go.RowKit

set_option maxRecDepth 100000 in
theorem tr_turned (n : Int) (h : n = 5400000 ∨ n = 0 ∨ n = 10800000) (w : World) :
    Calls Tryz.prog 156 #[.int .i64 n] w fun e w' => e = .returned (.int .i64 n) ∧ w' = w := by
  rcases h with rfl | rfl | rfl
  all_goals
    go_enter Tryz.func156, Tryz.ntmps156
    go_wp2_with fail
    go_ret
    exact ⟨rfl, rfl⟩
set_option maxRecDepth 100000 in
theorem tr_sine (w : World) :
    Calls Tryz.prog 157 #[.int .i64 5400000] w fun e w' => e = .returned (.tuple #[.int .i64 1073741824, .bool true]) ∧ w' = w := by
  go_enter Tryz.func157, Tryz.ntmps157
  go_wp2_with fail
  go_ret2
  exact ⟨rfl, rfl⟩
set_option maxRecDepth 100000 in
theorem tr_bounds (w : World) :
    Calls Tryz.prog 122 #[.int .i64 5400000] w fun e w' => e = .returned (.tuple #[.int .i64 1073741824, .int .i64 1073741824]) ∧ w' = w := by
  go_enter Tryz.func122, Tryz.ntmps122
  go_wp2_with (first | (go_at_call 156; refine (tr_turned _ (.inl rfl) _).mono ?_; rintro e w' ⟨rfl, rfl⟩) | (go_at_call 157; refine (tr_sine _).mono ?_; rintro e w' ⟨rfl, rfl⟩))
  go_ret2
  exact ⟨rfl, rfl⟩
set_option maxRecDepth 100000 in
theorem tr_valid (n : Int) (h : n = 5400000 ∨ n = 0) (w : World) :
    Calls Tryz.prog 69 #[(.agg #[.int .i64 (n), .int .i64 (n)])] w fun e w' => e = .returned (.bool true) ∧ ∃ d, w' = bw w d := by
  rcases h with rfl | rfl
  all_goals
    refine lay_start ?_
    go_enter Tryz.func69, Tryz.ntmps69
    go_wp2_with fail
    go_ret
    exact ⟨rfl, lay_ex _ _⟩
set_option maxRecDepth 100000 in
theorem tr_further (w : World) :
    Calls Tryz.prog 71 #[(.agg #[.int .i64 (0), .int .i64 (0)])] w fun e w' => e = .returned (.agg #[.int .i64 (5400000), .int .i64 (5400000)]) ∧ ∃ d, w' = bw w d := by
  refine lay_start ?_
  go_enter Tryz.func71, Tryz.ntmps71
  go_wp2_with fail
  all_goals exact bodyPost_ret (v := (.agg #[.int .i64 (5400000), .int .i64 (5400000)])) (by simp [results, Tryz.results71, go_sem]) rfl ⟨rfl, lay_ex _ _⟩
set_option maxRecDepth 100000 in
theorem tr_meets1 (w : World) :
    Calls Tryz.prog 123 #[(.agg #[.int .i64 (5400000), .int .i64 (5400000)]), .int .i64 5400000] w fun e w' => e = .returned (.bool true) ∧ ∃ d, w' = bw w d := by
  have HT := Lib.hid (fun W => tr_turned 0 (.inr (.inl rfl)) W)
  refine lay_start ?_
  go_enter Tryz.func123, Tryz.ntmps123
  go_wp2_with fail
  refine region_bw (by kernel_rfl) (by kernel_rfl) ?_
  repeat (go_big_quiet_step ((first | (go_at_call 156; exact bqs (HT.out _) ⟨_, rfl⟩))))
  refine wpQuiet_nil ?_
  rintro w' ⟨d, rfl⟩
  rw [lay_bw]
  go_wp2_with fail
  go_ret
  exact ⟨rfl, lay_ex _ _⟩
set_option maxRecDepth 100000 in
theorem tr_meets2 (w : World) :
    Calls Tryz.prog 123 #[(.agg #[.int .i64 (5400000), .int .i64 (5400000)]), .int .i64 16200000] w fun e w' => e = .returned (.bool false) ∧ ∃ d, w' = bw w d := by
  have HT := Lib.hid (fun W => tr_turned 10800000 (.inr (.inr rfl)) W)
  refine lay_start ?_
  go_enter Tryz.func123, Tryz.ntmps123
  go_wp2_with fail
  refine region_bw (by kernel_rfl) (by kernel_rfl) ?_
  repeat (go_big_quiet_step ((first | (go_at_call 156; exact bqs (HT.out _) ⟨_, rfl⟩))))
  refine wpQuiet_nil ?_
  rintro w' ⟨d, rfl⟩
  rw [lay_bw]
  go_wp2_with fail
  go_ret
  exact ⟨rfl, lay_ex _ _⟩
set_option maxRecDepth 100000 in
theorem tr_enclosure (w : World) :
    Calls Tryz.prog 70 #[(.agg #[.int .i64 (5400000), .int .i64 (5400000)])] w fun e w' => e = .returned (.agg #[.int .i64 (1073741824), .int .i64 (1073741824)]) ∧ ∃ d, w' = bw w d := by
  refine lay_start ?_
  go_enter Tryz.func70, Tryz.ntmps70
  go_wp2_with (first | (go_at_call 122; refine (tr_bounds _).mono ?_; rintro e w' ⟨rfl, rfl⟩) | (go_at_call 123; first | (with_reducible refine (tr_meets1 _).mono ?_; rintro e w' ⟨rfl, d, rfl⟩) | (with_reducible refine (tr_meets2 _).mono ?_; rintro e w' ⟨rfl, d, rfl⟩)))
  all_goals exact bodyPost_ret (v := (.agg #[.int .i64 (1073741824), .int .i64 (1073741824)])) (by simp [results, Tryz.results70, go_sem] <;> rfl) rfl ⟨rfl, lay_ex _ _⟩
set_option maxRecDepth 100000 in
theorem tr_Cos (w : World) :
    Calls Tryz.prog 28 #[(.agg #[.int .i64 (0), .int .i64 (0)])] w fun e w' => e = .returned (.tuple #[(.agg #[.int .i64 (1073741824), .int .i64 (1073741824)]), .int .i64 0]) ∧ ∃ d, w' = bw w d := by
  refine lay_start ?_
  go_enter Tryz.func28, Tryz.ntmps28
  go_wp2_with (first | (go_at_call 69; refine (tr_valid _ (.inr rfl) _).mono ?_; rintro e w' ⟨rfl, d, rfl⟩) | (go_at_call 71; refine (tr_further _).mono ?_; rintro e w' ⟨rfl, d, rfl⟩) | (go_at_call 70; refine (tr_enclosure _).mono ?_; rintro e w' ⟨rfl, d, rfl⟩))
  all_goals exact bodyPost_ret (v := .tuple #[(.agg #[.int .i64 (1073741824), .int .i64 (1073741824)]), .int .i64 0]) (by simp [results, Tryz.results28, go_sem]) rfl ⟨rfl, lay_ex _ _⟩
set_option maxRecDepth 100000 in
theorem tr_Sin (w : World) :
    Calls Tryz.prog 29 #[(.agg #[.int .i64 (5400000), .int .i64 (5400000)])] w fun e w' => e = .returned (.tuple #[(.agg #[.int .i64 (1073741824), .int .i64 (1073741824)]), .int .i64 0]) ∧ ∃ d, w' = bw w d := by
  refine lay_start ?_
  go_enter Tryz.func29, Tryz.ntmps29
  go_wp2_with (first | (go_at_call 69; refine (tr_valid _ (.inl rfl) _).mono ?_; rintro e w' ⟨rfl, d, rfl⟩) | (go_at_call 70; refine (tr_enclosure _).mono ?_; rintro e w' ⟨rfl, d, rfl⟩))
  all_goals exact bodyPost_ret (v := .tuple #[(.agg #[.int .i64 (1073741824), .int .i64 (1073741824)]), .int .i64 0]) (by simp [results, Tryz.results29, go_sem]) rfl ⟨rfl, lay_ex _ _⟩
end Go.Proofs.YtmomoeagnkjbiaaGreat
/- Rows of records of k cells: slices that read as a list, rows of the call's own, an append of one record or of a whole slice, a store into a record. No function of the program. -/
namespace Go.Proofs.YtmomoeagnkjbiaaGreat
open Go.RowKit

/-- A kind of record: the element type, the slice type, the cells, the bytes; a record's cells; what holds of each record. -/
structure RecT (α : Type) where
  E : TypeId
  S : TypeId
  k : Nat
  bytes : Nat
  enc : α → List Value
  wf : α → Prop
structure RecOk {α : Type} (R : RecT α) : Prop where
  len : ∀ x, (R.enc x).length = R.k
  one : ∀ x, ∀ u ∈ R.enc x, u.oneCell' = true
  pos : 0 < R.k
  und : Tryz.prog.underlying R.S = some (.slice R.E)
  info : ∃ i z, Tryz.prog.info? R.E = some i ∧ i.zero = some z ∧ i.size = R.k ∧ i.bytes = R.bytes ∧ z.cells.size = R.k
  small : R.bytes ≤ 1000
variable {α : Type} {R : RecT α}

theorem flat_len (hR : RecOk R) (l : List α) : (l.flatMap R.enc).length = l.length * R.k := by
  induction l with
  | nil => simp
  | cons x l ih => rw [List.flatMap_cons, List.length_append, hR.len, ih, List.length_cons, Nat.succ_mul, Nat.add_comm]
theorem flat_get (hR : RecOk R) : ∀ {l : List α} {i j : Nat} {x : α}, l[i]? = some x → j < R.k → (l.flatMap R.enc)[i * R.k + j]? = (R.enc x)[j]?
  | [], i, j, x, h, _ => by simp at h
  | y :: l, 0, j, x, h, hj => by
    simp only [List.getElem?_cons_zero, Option.some.injEq] at h
    subst h
    rw [List.flatMap_cons, List.getElem?_append_left (by rw [hR.len]; omega)]
    congr 1; omega
  | y :: l, i + 1, j, x, h, hj => by
    rw [List.getElem?_cons_succ] at h
    rw [List.flatMap_cons, List.getElem?_append_right (by rw [hR.len, Nat.succ_mul]; omega), hR.len]
    rw [show (i + 1) * R.k + j - R.k = i * R.k + j by rw [Nat.succ_mul]; omega]
    exact flat_get hR h hj
theorem flat_set (hR : RecOk R) : ∀ {l : List α} {i j : Nat} {x y : α} {u : Value}, l[i]? = some x → j < R.k → R.enc y = (R.enc x).set j u → (l.flatMap R.enc).set (i * R.k + j) u = (l.set i y).flatMap R.enc
  | [], i, j, x, y, u, h, _, _ => by simp at h
  | z :: l, 0, j, x, y, u, h, hj, he => by
    simp only [List.getElem?_cons_zero, Option.some.injEq] at h
    subst h
    rw [List.set_cons_zero, List.flatMap_cons, List.flatMap_cons, List.set_append, if_pos (by rw [hR.len]; omega), he]
    congr 2; omega
  | z :: l, i + 1, j, x, y, u, h, hj, he => by
    rw [List.getElem?_cons_succ] at h
    rw [List.set_cons_succ, List.flatMap_cons, List.flatMap_cons, List.set_append, if_neg (by rw [hR.len, Nat.succ_mul]; omega), hR.len]
    rw [show (i + 1) * R.k + j - R.k = i * R.k + j by rw [Nat.succ_mul]; omega, flat_set hR h hj he]

/-- The value is a slice that reads, in this world, as these records. -/
def SlG (R : RecT α) (w : World) (v : Value) (l : List α) : Prop :=
  ∃ a cap, v = .slice a l.length cap ∧ (l.length ≤ cap ∧ cap ≤ 9223372036854775807) ∧ (∀ x ∈ l, R.wf x) ∧
    (l ≠ [] → ∃ b o, a = some ⟨b, o, none⟩ ∧ b < w.heap.size ∧ ∀ (i : Nat) x, l[i]? = some x → ∀ (j : Nat) u, (R.enc x)[j]? = some u → w.cell? ⟨b, o + (i * R.k + j), none⟩ = some u)
theorem SlG.ext {w w' : World} {v : Value} {l : List α} (h : SlG R w v l) (hb : Below w.heap.size w w') : SlG R w' v l := by
  obtain ⟨a, cap, h1, h2, h0, h3⟩ := h
  refine ⟨a, cap, h1, h2, h0, fun hl => ?_⟩
  obtain ⟨b, o, h4, h5, h6⟩ := h3 hl
  exact ⟨b, o, h4, Nat.lt_of_lt_of_le h5 hb.size, fun i x hx j u hu => (hb.cell (p := ⟨b, o + (i * R.k + j), none⟩) h5).trans (h6 i x hx j u hu)⟩
theorem SlG.bw {w : World} {v : Value} {l : List α} (h : SlG R w v l) (d : Ext) : SlG R (bw w d) v l := h.ext (bw_below w d)
theorem SlG.lay {w : World} {v : Value} {l : List α} (h : SlG R w v l) (L : List (Obj ⊕ Ext)) : SlG R (lay w L) v l := h.ext (lay_extends w L)
theorem lay_appG (w : World) (A B : List (Obj ⊕ Ext)) : lay w (A ++ B) = lay (lay w B) A := by
  induction A with
  | nil => rfl
  | cons x A ih =>
    cases x with
    | inl o => exact congrArg (fun W => World.alloc W o) ih
    | inr d => exact congrArg (fun W => Go.Proofs.YtmomoeagnkjbiaaGreat.bw W d) ih
theorem lay_belowG {w : World} {A B : List (Obj ⊕ Ext)} : Below (lay w B).heap.size (lay w B) (lay w (A ++ B)) := by rw [lay_appG]; exact lay_extends _ _
theorem slG_on {w : World} {v : Value} {l : List α} {A B : List (Obj ⊕ Ext)} (h : SlG R (lay w B) v l) : SlG R (lay w (A ++ B)) v l := h.ext lay_belowG
theorem SlG.nil (R : RecT α) (w : World) : SlG R w (.slice none 0 0) [] := ⟨none, 0, rfl, by simp, fun _ h => absurd h (List.not_mem_nil), fun h => absurd rfl h⟩
theorem slG_none {w : World} {a : Option Addr} {c : Nat} (hc : c ≤ 9223372036854775807) : SlG R w (.slice a 0 c) [] := ⟨a, c, rfl, ⟨Nat.zero_le _, hc⟩, fun _ h => absurd h (List.not_mem_nil), fun h => absurd rfl h⟩
theorem SlG.open {w : World} {v : Value} {l : List α} (h : SlG R w v l) (hl : 0 < l.length) :
    ∃ b o cap, v = .slice (some ⟨b, o, none⟩) l.length cap ∧ (l.length ≤ cap ∧ cap ≤ 9223372036854775807) ∧ b < w.heap.size ∧ ∀ (i : Nat) x, l[i]? = some x → ∀ (j : Nat) u, (R.enc x)[j]? = some u → w.cell? ⟨b, o + (i * R.k + j), none⟩ = some u := by
  obtain ⟨a, cap, rfl, h2, _, h3⟩ := h
  obtain ⟨b, o, rfl, h5, h6⟩ := h3 (by intro e; rw [e] at hl; exact Nat.lt_irrefl 0 hl)
  exact ⟨b, o, cap, rfl, h2, h5, h6⟩
theorem SlG.wf {w : World} {v : Value} {l : List α} (h : SlG R w v l) : ∀ x ∈ l, R.wf x := by
  obtain ⟨_, _, _, _, h, _⟩ := h; exact h
theorem SlG.form {w : World} {v : Value} {l : List α} (h : SlG R w v l) : ∃ a cap, v = .slice a l.length cap := by
  obtain ⟨a, c, e, _⟩ := h; exact ⟨a, c, e⟩
theorem slG_cut {w : World} {b o n cap f k c : Nat} {l : List α} (h : SlG R w (.slice (some ⟨b, o, none⟩) n cap) l) (hf : f + k ≤ l.length) (hc : k ≤ c ∧ c ≤ 9223372036854775807) : SlG R w (.slice (some ⟨b, o + f * R.k, none⟩) k c) ((l.drop f).take k) := by
  have hl : ((l.drop f).take k).length = k := by rw [List.length_take, List.length_drop]; omega
  obtain ⟨a', cap', he, hcc, hwf, hcell⟩ := h
  simp only [Value.slice.injEq] at he
  obtain ⟨he, rfl, rfl⟩ := he
  refine ⟨_, c, by rw [hl], by rw [hl]; exact hc, fun x hx => hwf x (List.mem_of_mem_drop (List.mem_of_mem_take hx)), fun hne => ⟨b, o + f * R.k, rfl, ?_⟩⟩
  have hk : 0 < k := by rw [← hl]; exact List.length_pos_iff.2 hne
  obtain ⟨b', o', e, hb, hr⟩ := hcell (by intro e; rw [e] at hf; simp at hf; omega)
  rw [← he] at e
  cases e
  refine ⟨hb, fun i x hx j u hu => ?_⟩
  have hi : i < k := by
    have := (List.getElem?_eq_some_iff.1 hx).1
    rw [hl] at this; exact this
  rw [List.getElem?_take, if_pos hi, List.getElem?_drop] at hx
  have := hr _ x hx j u hu
  rw [Nat.add_mul] at this
  rw [Nat.add_assoc, ← Nat.add_assoc (f * R.k)]
  exact this

/-- The value is a row of the call's own (its blocks behind base) that holds these records. -/
def OwG (R : RecT α) (w : World) (base : Nat) (v : Value) (l : List α) : Prop :=
  w.ownsRow base R.E R.k v l.length (l.flatMap R.enc) ∧ ∀ x ∈ l, R.wf x
theorem OwG.nil (R : RecT α) (w : World) (base : Nat) : OwG R w base (.slice none 0 0) [] := ⟨World.ownsRow_nil w base _ _, fun _ h => absurd h (List.not_mem_nil)⟩
theorem OwG.form {w : World} {base : Nat} {v : Value} {l : List α} (h : OwG R w base v l) : ∃ a cap, v = .slice a l.length cap := by
  rcases h.1.2 with ⟨rfl, hz⟩ | ⟨g, cap, cur, rfl, _⟩
  · exact ⟨none, 0, by rw [hz]⟩
  · exact ⟨_, cap, rfl⟩
theorem OwG.form1 {w : World} {base : Nat} {v : Value} {l : List α} (h : OwG R w base v l) (hl : 0 < l.length) : ∃ g cap, v = .slice (some ⟨g, 0, none⟩) l.length cap ∧ base ≤ g ∧ g < w.heap.size ∧ l.length ≤ cap ∧ cap ≤ 9223372036854775807 := by
  rcases h.1.2 with ⟨rfl, hz⟩ | ⟨g, cap, cur, rfl, h1, h2, h3, h4, _⟩
  · omega
  · have hM : maxLen = 9223372036854775807 := by decide
    exact ⟨g, cap, rfl, h1, (Array.getElem?_eq_some_iff.1 h2).1, h3, by omega⟩
theorem OwG.cell (hR : RecOk R) {w : World} {base g cap n : Nat} {l : List α} (h : OwG R w base (.slice (some ⟨g, 0, none⟩) n cap) l) {i j : Nat} {x : α} {u : Value} (hx : l[i]? = some x) (hu : (R.enc x)[j]? = some u) : w.cell? ⟨g, i * R.k + j, none⟩ = some u := by
  have hn : n = l.length := by
    obtain ⟨a, c, e⟩ := h.form
    cases e; rfl
  subst hn
  have hi := (List.getElem?_eq_some_iff.1 hx).1
  have hj : j < R.k := by have := (List.getElem?_eq_some_iff.1 hu).1; rw [hR.len] at this; exact this
  rw [h.1.cellAt _ (by have : (i + 1) * R.k ≤ l.length * R.k := Nat.mul_le_mul_right _ hi
                       rw [Nat.succ_mul] at this; omega), flat_get hR hx hj, hu]
theorem OwG.froz {w : World} {base g cap n : Nat} {l : List α} (h : OwG R w base (.slice (some ⟨g, 0, none⟩) n cap) l) (j : Nat) : w.frozen? ⟨g, j, none⟩ = false := by
  have hn : n = l.length := by
    obtain ⟨a, c, e⟩ := h.form
    cases e; rfl
  subst hn
  exact h.1.frozenAt j
theorem OwG.sl (hR : RecOk R) {w : World} {base : Nat} {v : Value} {l : List α} (h : OwG R w base v l) : SlG R w v l := by
  by_cases hl : l = []
  · subst hl
    rcases h.1.2 with ⟨rfl, hz⟩ | ⟨g, cap, cur, rfl, _, _, h3, h4, _⟩
    · exact SlG.nil R w
    · have hM : maxLen = 9223372036854775807 := by decide
      exact ⟨_, cap, rfl, ⟨h3, by omega⟩, h.2, fun hne => absurd rfl hne⟩
  · have hl' : 0 < l.length := List.length_pos_iff.2 hl
    obtain ⟨g, cap, rfl, h1, h2, h3⟩ := h.form1 hl'
    exact ⟨_, cap, rfl, h3, h.2, fun _ => ⟨g, 0, rfl, h2, fun i x hx j u hu => by rw [Nat.zero_add]; exact h.cell hR hx hu⟩⟩
theorem OwG.ext {w w' : World} {base : Nat} {v : Value} {l : List α} (h : OwG R w base v l) (hb : Below w.heap.size w w') : OwG R w' base v l := by
  refine ⟨⟨h.1.1, h.1.2.imp id ?_⟩, h.2⟩
  rintro ⟨g, cap, cur, e, h1, h2, h3⟩
  exact ⟨g, cap, cur, e, h1, (hb.block g (Array.getElem?_eq_some_iff.1 h2).1).trans h2, h3⟩
theorem OwG.lay {w : World} {base : Nat} {v : Value} {l : List α} (h : OwG R w base v l) (L : List (Obj ⊕ Ext)) : OwG R (lay w L) base v l := h.ext (lay_extends w L)
theorem OwG.bw {w : World} {base : Nat} {v : Value} {l : List α} (h : OwG R w base v l) (d : Ext) : OwG R (bw w d) base v l := h.ext (bw_below w d)
theorem OwG.le {w : World} {base base' : Nat} {v : Value} {l : List α} (h : OwG R w base v l) (hb : base' ≤ base) : OwG R w base' v l := ⟨⟨h.1.1, h.1.2.imp id fun ⟨g, cap, cur, e, h1, h2⟩ => ⟨g, cap, cur, e, Nat.le_trans hb h1, h2⟩⟩, h.2⟩
theorem owG_on {w : World} {base : Nat} {v : Value} {l : List α} {A B : List (Obj ⊕ Ext)} (h : OwG R (lay w B) base v l) : OwG R (lay w (A ++ B)) base v l := h.ext lay_belowG

/-- An append of one record that was just laid down. -/
theorem push_rec (hR : RecOk R) {ops : Array Oper} {rest : List Oper} {o : Oper} {a : Act} {Q : Exit → Act → World → Prop} (hgd : o.guard = none) (s x : Operand)
    (ho : o.op = .call { callee := .builtin .append, args := #[s, x], argTypes := #[R.S, R.S] })
    (W0 : World) (wb : World) (c : α) (cs : Array Value) (te : TypeId) (xb : Nat) (v : Value) (l : List α) (hw : Below W0.heap.size W0 wb) (hown : OwG R wb W0.heap.size v l)
    (hcell : wb.heap[xb]? = some (.cells cs te (0, 0))) (hcs : cs.toList = R.enc c) (hs : a.eval s = v) (hx : a.eval x = .slice (some ⟨xb, 0, none⟩) 1 1)
    (hn : l.length ≤ 1000000000) (hc : R.wf c)
    (h : ∀ v' d, OwG R (Go.Proofs.YtmomoeagnkjbiaaGreat.bw W0 d) W0.heap.size v' (l ++ [c]) → wpList Tryz.prog ops Q rest (a.put o.dst v') (Go.Proofs.YtmomoeagnkjbiaaGreat.bw W0 d)) :
    wpList Tryz.prog ops Q (o :: rest) a wb := by
  obtain ⟨i, z, hi, hz0, hz1, hz2, hz3⟩ := hR.info
  have hM : maxLen = 9223372036854775807 := by decide
  have hb := hR.small
  have hb2 : (l.length + 1) * R.bytes ≤ 1000000001 * 1000 := Nat.mul_le_mul (by omega) hb
  refine wpList_append_lies wb hgd s x R.S ho W0.heap.size R.E i z R.k R.bytes hR.und hi hz0 hz1 hz2 hz3 hR.pos v l.length (l.flatMap R.enc) hs hown.1 ⟨xb, 0, none⟩ 1 1 (R.enc c) hx (by rw [hR.len, Nat.one_mul]) (by rw [← hcs]; exact World.news_of_block hcell) (hR.one c) (by decide) (by omega) (by omega) hw.size wb.heap.size rfl ?_
  intro g cap w' hown' hg hat _
  obtain ⟨d, hd⟩ := bw_of (w := W0) (w' := w') (hw.grown hg hw.size (fun k hk => (hown.1.lt k hk).1))
  subst hd
  refine h _ d ⟨?_, fun y hy => ?_⟩
  · rw [List.flatMap_append, List.length_append]
    simpa using hown'
  · rcases List.mem_append.1 hy with hy | hy
    · exact hown.2 y hy
    · rw [List.mem_singleton.1 hy]; exact hc
/-- An append of a whole slice that reads. -/
theorem push_slG (hR : RecOk R) {ops : Array Oper} {rest : List Oper} {o : Oper} {a : Act} {Q : Exit → Act → World → Prop} (hgd : o.guard = none) (s x : Operand)
    (ho : o.op = .call { callee := .builtin .append, args := #[s, x], argTypes := #[R.S, R.S] })
    (W0 : World) (wb : World) (v1 : Value) (l1 : List α) (A : Option Addr) (n c : Nat) (l2 : List α) (hw : Below W0.heap.size W0 wb) (hown : OwG R wb W0.heap.size v1 l1)
    (hsrc : SlG R wb (.slice A n c) l2) (hA : A = none → c = 0) (hs : a.eval s = v1) (hx : a.eval x = .slice A n c) (hn : l1.length + l2.length ≤ 1000000000)
    (h : ∀ v' d, OwG R (Go.Proofs.YtmomoeagnkjbiaaGreat.bw W0 d) W0.heap.size v' (l1 ++ l2) → wpList Tryz.prog ops Q rest (a.put o.dst v') (Go.Proofs.YtmomoeagnkjbiaaGreat.bw W0 d)) :
    wpList Tryz.prog ops Q (o :: rest) a wb := by
  obtain ⟨i, z, hi, hz0, hz1, hz2, hz3⟩ := hR.info
  have hM : maxLen = 9223372036854775807 := by decide
  obtain ⟨a', cap', he, hcc, hwf, hcell⟩ := hsrc
  simp only [Value.slice.injEq] at he
  obtain ⟨rfl, rfl, rfl⟩ := he
  cases A with
  | none =>
    obtain rfl := hA rfl
    have hl2 : l2 = [] := by
      rcases List.eq_nil_or_concat l2 with h | ⟨_, _, h⟩
      · exact h
      · have : l2 ≠ [] := by rw [h]; simp
        obtain ⟨_, _, h, _⟩ := hcell this
        cases h
    subst hl2
    obtain ⟨d, rfl⟩ := bw_of hw
    refine wpList_append_own_none hgd s x R.S ho W0.heap.size R.E i R.k hR.und hi v1 l1.length (l1.flatMap R.enc) hs hown.1 hx ?_
    exact h v1 d (by rw [List.append_nil]; exact hown)
  | some ad =>
    have hb2 : (l1.length + l2.length) * R.bytes ≤ 1000000000 * 1000 := Nat.mul_le_mul hn hR.small
    refine wpList_append_own wb hgd s x R.S ho W0.heap.size R.E i z R.k R.bytes hR.und hi hz0 hz1 hz2 hz3 hR.pos v1 l1.length (l1.flatMap R.enc) hs hown.1 ad l2.length c (l2.flatMap R.enc) hx (flat_len hR l2) ?_ ?_ (by omega) (by omega) hw.size ?_
    · intro j u hu
      have hj : j < l2.length * R.k := by have := (List.getElem?_eq_some_iff.1 hu).1; rw [flat_len hR] at this; exact this
      have hne : l2 ≠ [] := by intro e; rw [e] at hj; simp at hj
      obtain ⟨b, o', e, _, hr⟩ := hcell hne
      cases e
      have hq : j / R.k < l2.length := Nat.div_lt_of_lt_mul (by rw [Nat.mul_comm]; exact hj)
      have hm : j % R.k < R.k := Nat.mod_lt _ hR.pos
      have e1 : j = j / R.k * R.k + j % R.k := by rw [Nat.mul_comm]; exact (Nat.div_add_mod j R.k).symm
      have hx' : l2[j / R.k]? = some l2[j / R.k] := List.getElem?_eq_getElem hq
      rw [e1, flat_get hR hx' hm] at hu
      have h3 := hr _ _ hx' _ _ hu
      rw [← e1] at h3
      have hadd : (⟨b, o', none⟩ : Addr).add j = ⟨b, o' + j, none⟩ := by
        unfold Addr.add
        split
        · rename_i h0
          have : j = 0 := by simpa using h0
          subst this; rfl
        · rfl
      rw [hadd]
      exact h3
    · intro u hu
      obtain ⟨y, _, hy⟩ := List.mem_flatMap.1 hu
      exact hR.one y u hy
    · intro v' w' hown' hg _
      obtain ⟨d, hd⟩ := bw_of (w := W0) (w' := w') (hw.grown hg hw.size (fun k hk => (hown.1.lt k hk).1))
      subst hd
      refine h v' d ⟨by rw [List.length_append, List.flatMap_append]; exact hown', fun y hy => ?_⟩
      rcases List.mem_append.1 hy with hy | hy
      · exact hown.2 y hy
      · exact hwf y hy
/-- An empty literal. -/
theorem owG_empty (R : RecT α) {w : World} {L : List (Obj ⊕ Ext)} : OwG R (Go.Proofs.YtmomoeagnkjbiaaGreat.lay w (.inl (.cells #[] R.E (0, 0)) :: L)) (Go.Proofs.YtmomoeagnkjbiaaGreat.lay w L).heap.size (.slice (some ⟨posn w (shp L), 0, none⟩) 0 0) [] := by
  rw [← lay_size w L]
  exact ⟨World.ownsRow_lit (Go.Proofs.YtmomoeagnkjbiaaGreat.lay w L) #[] 0 (Nat.le_refl _) (by decide) (by simp), fun _ h => absurd h (List.not_mem_nil)⟩
/-- A literal. -/
theorem owG_lit (hR : RecOk R) {w : World} {L : List (Obj ⊕ Ext)} {cs : Array Value} (l : List α) (hc : cs.toList = l.flatMap R.enc) (hl : l.length ≤ 1000) (hw : ∀ x ∈ l, R.wf x) :
    OwG R (Go.Proofs.YtmomoeagnkjbiaaGreat.lay w (.inl (.cells cs R.E (0, 0)) :: L)) (Go.Proofs.YtmomoeagnkjbiaaGreat.lay w L).heap.size (.slice (some ⟨posn w (shp L), 0, none⟩) l.length l.length) l := by
  rw [← lay_size w L]
  refine ⟨?_, hw⟩
  have := World.ownsRow_lit (base := (Go.Proofs.YtmomoeagnkjbiaaGreat.lay w L).heap.size) (e := R.E) (size := R.k) (Go.Proofs.YtmomoeagnkjbiaaGreat.lay w L) cs l.length (Nat.le_refl _) (by unfold maxLen; omega) (by rw [← Array.length_toList, hc, flat_len hR])
  rw [hc] at this
  exact this
/-- A store into a field of a record of such a row. -/
theorem owG_store (hR : RecOk R) {w : World} {base g cap n : Nat} {l : List α} (h : OwG R w base (.slice (some ⟨g, 0, none⟩) n cap) l) {i j : Nat} {x y : α} {u : Value} (hx : l[i]? = some x) (hj : j < R.k) (he : R.enc y = (R.enc x).set j u) (hy : R.wf y) :
    OwG R (w.setCell ⟨g, i * R.k + j, none⟩ u) base (.slice (some ⟨g, 0, none⟩) n cap) (l.set i y) := by
  have hn : n = l.length := by
    obtain ⟨a, c, e⟩ := h.form
    cases e; rfl
  subst hn
  refine ⟨by have := (h.1.stored (i * R.k + j) u).1; rw [flat_set hR hx hj he] at this; rw [List.length_set]; exact this, fun z hz => ?_⟩
  rcases List.mem_or_eq_of_mem_set hz with hz | hz
  · exact h.2 z hz
  · rw [hz]; exact hy
theorem bw_storeG {w : World} {d : Ext} {g i : Nat} {v : Value} (hg : w.heap.size ≤ g) : ∃ d', (Go.Proofs.YtmomoeagnkjbiaaGreat.bw w d).setCell ⟨g, i, none⟩ v = Go.Proofs.YtmomoeagnkjbiaaGreat.bw w d' := by
  refine bw_of ?_
  have h1 := bw_below w d
  refine ⟨h1.1, h1.2, h1.3, ?_, fun k hk => ?_⟩
  · rw [World.size_setCell]; exact h1.size
  · rw [heap_setCell_other _ ⟨g, i, none⟩ k v (by intro e; have : k = g := by simpa using e
                                                  omega)]
    exact h1.block k hk
end Go.Proofs.YtmomoeagnkjbiaaGreat
/- A slice of records off an argument: whatever the record is. -/
namespace Go.Proofs.YtmomoeagnkjbiaaGreat
open Go.RowKit

theorem addO_block (a : Addr) (n : Nat) : (a.add n).block = a.block := by
  unfold Addr.add; split <;> rfl
theorem addO_none {a : Addr} (h : a.spot = none) (n : Nat) : a.add n = ⟨a.block, a.off + n, none⟩ := by
  unfold Addr.add
  split
  · rename_i h0
    have : n = 0 := by simpa using h0
    subst this
    cases a; simp_all
  · rfl
section
variable {H : Type} {enc : TypeId × Value → H} {α : Type} {R : RecT α} {P : Program}
/-- A slice of records off its reading: what 'hel' says of an element's cells holds of each record. -/
theorem slG_of (hR : RecOk R) (ht : P.underlying R.S = some (.slice R.E)) (hC : P.cellsOf R.E = R.k) {w : World} {Q : α → Prop} {fuel : Nat} {v : Value} {x : DataW H × List MemPlace}
    (hel : ∀ n cs y, DataW.trod enc P w 0 (fun _ => true) true n R.E cs = some y → cs.length = R.k → ∃ z, cs = R.enc z ∧ R.wf z ∧ Q z)
    (hf : DataW.trod enc P w 0 (fun _ => true) true fuel R.S [v] = some x) : ∃ l, SlG R w v l ∧ ∀ z ∈ l, Q z := by
  have hM : maxLen = 9223372036854775807 := by decide
  rcases Go.Deep.open_slice ht hf with ⟨hcs, _⟩ | ⟨a', len', cap', m, n, D, Pl, hcs, hb, hl, hm, hmm, hx, hel'⟩
  · obtain rfl : v = .slice none 0 0 := by simpa using hcs
    exact ⟨[], SlG.nil R w, fun z hz => absurd hz List.not_mem_nil⟩
  · obtain rfl : v = .slice (some a') len' cap' := by simpa using hcs
    simp only [if_true] at hmm
    subst hmm
    have hex : ∀ i : Nat, i < m → ∃ z : α, R.wf z ∧ Q z ∧ (∀ (j : Nat) u, (R.enc z)[j]? = some u → w.cell? ((a'.add (i * R.k)).add j) = some u) ∧ ((a'.add (i * R.k)).block < w.heap.size) := fun i him => by
      obtain ⟨cs', hc', ht'⟩ := hel' i him
      rw [hC] at hc'
      have hblk := World.cells?_block hc' hR.pos
      obtain ⟨_, hcl, hat⟩ := World.cells?_some hc'
      obtain ⟨z, rfl, hz, hq⟩ := hel _ _ _ ht' hcl
      refine ⟨z, hz, hq, fun j u hu => ?_, hblk⟩
      have hj : j < R.k := by rw [← hcl]; exact (List.getElem?_eq_some_iff.1 hu).1
      rw [hat j hj, hu]
    by_cases hz : len' = 0
    · subst hz
      exact ⟨[], slG_none (by omega), fun z hz => absurd hz List.not_mem_nil⟩
    · obtain ⟨z0, _, _, h0, hb0⟩ := hex 0 (by omega)
      have hspot : a'.spot = none := by
        have hlen := hR.len z0
        have hp := hR.pos
        obtain ⟨u, hu⟩ : ∃ u, (R.enc z0)[0]? = some u := ⟨_, List.getElem?_eq_getElem (by omega)⟩
        have := h0 0 u hu
        unfold World.cell? at this
        cases hs : a'.spot
        · rfl
        · simp [Addr.add, hs] at this
          try (split at this <;> simp at this)
      have hbl : a'.block < w.heap.size := by simpa [addO_block] using hb0
      have : Nonempty α := ⟨z0⟩
      have hch : ∃ f : Nat → α, ∀ i, i < len' → R.wf (f i) ∧ Q (f i) ∧ ∀ (j : Nat) u, (R.enc (f i))[j]? = some u → w.cell? ⟨a'.block, a'.off + (i * R.k + j), none⟩ = some u := by
        have : ∀ i, ∃ z : α, i < len' → R.wf z ∧ Q z ∧ ∀ (j : Nat) u, (R.enc z)[j]? = some u → w.cell? ⟨a'.block, a'.off + (i * R.k + j), none⟩ = some u := fun i => by
          by_cases hi : i < len'
          · obtain ⟨z, k1, k2, k3, _⟩ := hex i (by omega)
            refine ⟨z, fun _ => ⟨k1, k2, fun j u hu => ?_⟩⟩
            have := k3 j u hu
            rw [addO_none hspot, addO_none (by rfl)] at this
            simpa [Nat.add_assoc] using this
          · exact ⟨z0, fun h => absurd h hi⟩
        exact ⟨fun i => Classical.choose (this i), fun i hi => Classical.choose_spec (this i) hi⟩
      obtain ⟨f, hF⟩ := hch
      have hlen : ((List.range len').map f).length = len' := by simp
      refine ⟨(List.range len').map f, ⟨some a', m, by rw [hlen], by rw [hlen]; omega, fun z hz => ?_, fun _ => ⟨a'.block, a'.off, by cases a'; simp_all, hbl, fun i z hz j u hu => ?_⟩⟩, fun z hz => ?_⟩
      · obtain ⟨i, hi, rfl⟩ := List.mem_map.1 hz
        exact (hF i (List.mem_range.1 hi)).1
      · have hi : i < len' := by have := (List.getElem?_eq_some_iff.1 hz).1; simpa using this
        have : z = f i := by
          rw [List.getElem?_map, List.getElem?_range hi] at hz
          simpa using hz.symm
        subst this
        exact (hF i hi).2.2 j u hu
      · obtain ⟨i, hi, rfl⟩ := List.mem_map.1 hz
        exact (hF i (List.mem_range.1 hi)).2.1
/-- A slice of records off an argument. -/
theorem slG_arg (hR : RecOk R) (ht : P.underlying R.S = some (.slice R.E)) (hC : P.cellsOf R.E = R.k) {w : World} {r : Reach} {b0 : Nat} {Q : α → Prop} {v : Value} {d : DataW H} {ps : List MemPlace}
    (hel : ∀ n cs y, DataW.trod enc P w 0 (fun _ => true) true n R.E cs = some y → cs.length = R.k → ∃ z, cs = R.enc z ∧ R.wf z ∧ Q z)
    (hv : Value.okWide P w r b0 R.S v) (h : DataW.Trod enc P w 0 (fun _ => true) true R.S v d ps) : ∃ l, SlG R w v l ∧ ∀ z ∈ l, Q z := by
  obtain ⟨a, len, cap, rfl⟩ := Go.WideShapes.okWide_slice ht hv
  obtain ⟨fuel, hf⟩ := h
  exact slG_of hR ht hC hel (by simpa [Value.cells] using hf)

end
end Go.Proofs.YtmomoeagnkjbiaaGreat
