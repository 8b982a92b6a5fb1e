/- Contracts and plain laws, several texts in one: Av3; Div -/
import Derived.Test.YtejmgdpgngjiiaaGreatProg
import Derived.WalkKit
import Derived.WalkSpells
import Derived.WalkLawsBesides
import Derived.Lib.Hide
import Derived.BigQuiet
import Derived.Test.YtejmgdpgngjiiaaGreatBAA
import Derived.Test.YtejmgdpgngjiiaaGreatBAB
import Derived.Test.YtejmgdpgngjiiaaGreatBAC
import Derived.Test.YtejmgdpgngjiiaaGreatBAF
import Derived.Test.YtejmgdpgngjiiaaGreatBAH
/- average.Reject. -/
namespace Go.Proofs.YtejmgdpgngjiiaaGreat
open Go.RowKit

set_option maxHeartbeats 2000000 in
set_option maxRecDepth 100000 in
theorem av_Reject (v : Value) (l : List Int) (f : Int) (w : World) (hs : Sl w v l) :
    Calls Tryz.prog 14 #[v, .int .i64 f] w (RwE w (rejL l f) (rejE l f)) := by
  by_cases c1 : l.length < 1 ∨ 1000 < l.length
  · have he : rejE l f = 3 := if_pos c1
    rw [rejL_ne (by rw [he]; decide), he]
    obtain ⟨a, cap, rfl, hcp, -⟩ := hs
    obtain ⟨m, hm⟩ : ∃ m, l.length = m := ⟨_, rfl⟩
    rw [hm] at c1 ⊢
    rcases c1 with c1 | c1
    · obtain rfl : m = 0 := by omega
      clear hm hcp
      refine lay_start ?_
      go_enter Tryz.func14, Tryz.ntmps14
      go_wp2_with fail
      go_ret2
      exact rwe_nil rfl
    · have x0 : ¬ (m : Int) < 1 := by omega
      have x1 : (1000 : Int) < (m : Int) := by omega
      clear hm hcp
      refine lay_start ?_
      go_enter Tryz.func14, Tryz.ntmps14
      go_wp2_with fail
      go_ret2
      exact rwe_nil rfl
  · have HS := Lib.hid hs
    obtain ⟨b, o, cap, rfl, hc, hw, hbs, hr⟩ := hs.open (by omega)
    have hE : rejE l f = if f < 1 ∨ 100 < f ∨ outB l 1099511627776 = true then 2 else 0 := if_neg c1
    have HOut := Lib.hid (fun W (h : Sl W (.slice (some ⟨b, o, none⟩) l.length cap) l) => av_outside _ l 1099511627776 W h (by decide) (by decide))
    obtain ⟨m, hm⟩ : ∃ m, l.length = m := ⟨_, rfl⟩
    have x0 : ¬ (m : Int) < 1 := by omega
    have x1 : ¬ (1000 : Int) < (m : Int) := by omega
    by_cases c2 : f < 1
    · have he : rejE l f = 2 := by rw [hE, if_pos (by omega)]
      rw [rejL_ne (by rw [he]; decide), he, hm]
      clear hm hr hE he c1 hs hw
      refine lay_start ?_
      go_enter Tryz.func14, Tryz.ntmps14
      go_wp2_with fail
      go_ret2
      exact rwe_nil rfl
    · by_cases c3 : 100 < f
      · have he : rejE l f = 2 := by rw [hE, if_pos (by omega)]
        rw [rejL_ne (by rw [he]; decide), he, hm]
        clear hm hr hE he c1 hs hw
        refine lay_start ?_
        go_enter Tryz.func14, Tryz.ntmps14
        go_wp2_with fail
        go_ret2
        exact rwe_nil rfl
      · cases ho : outB l 1099511627776
        · have hb := outB_bd ho
          rw [ho] at HOut
          have he : rejE l f = 0 := by rw [hE, if_neg (by rw [ho]; simp; omega)]
          rw [rejL_eq he, he]
          have h1 : 1 ≤ l.length := by omega
          have hlb := lim_bd hb h1 (f := f) (by omega) (by omega)
          have HMd := Lib.hid (fun W h => av_median (.slice (some ⟨b, o, none⟩) l.length cap) l W h h1 (by omega))
          have HM2 := Lib.hid (fun W v h => av_median v (farI l) W h (by rw [farI_len]; exact h1) (by rw [farI_len]; omega))
          have HD := Lib.hid (fun W i (hi : i < l.length) => av_size (nth l i - medI l) W (by have h2 := hb i hi; have h3 := hb.med h1; omega) (by have h2 := hb i hi; have h3 := hb.med h1; omega))
          have HDb := Lib.hid (fun i (hi : i < l.length) => (show -4000000000000 ≤ nth l i - medI l ∧ nth l i - medI l ≤ 4000000000000 by have h2 := hb i hi; have h3 := hb.med h1; omega))
          have HF := Lib.hid (fun i (hi : i < l.length) => far_nth hi)
          have HFb := Lib.hid (hb.far h1)
          have HE := Lib.hid (outI_K l f)
          have HFL := Lib.hid (farI_len l)
          have HR := Lib.hid hr
          obtain ⟨M, hM⟩ : ∃ M, medI l = M := ⟨_, rfl⟩
          obtain ⟨F, hF⟩ : ∃ F, farI l = F := ⟨_, rfl⟩
          obtain ⟨M2, hM2⟩ : ∃ M2, medI (farI l) = M2 := ⟨_, rfl⟩
          have hlim : limI l f = max (f * M2) 100 := by unfold limI; rw [hM2]
          rw [hlim] at HE
          rw [hM2] at hlb
          rw [hF] at HM2 HE HF HFb HFL hM2
          rw [hM] at HMd HD HF HDb
          rw [hM2] at HM2
          rw [hm] at HS HMd HD HR HF HE HFL HOut HDb h1 hc ⊢
          have HX := Lib.hid (fun i (hi : i < m) => (HF.out i hi).symm)
          generalize outI l f = OUT at *
          obtain ⟨p0, p1⟩ := hlb
          obtain ⟨P, hP⟩ : ∃ P, f * M2 = P := ⟨_, rfl⟩
          rw [hP] at p0 p1 HE
          have hP1 : IntKind.i64.wrap (f * M2) = P := by rw [hP]; exact IntWalk.i64_in _ (by omega)
          have hml : m ≤ 1000 := by omega
          clear hr hb hm hM hF hM2 hlim hs HF hw he hE ho c1
          refine lay_start ?_
          go_enter Tryz.func14, Tryz.ntmps14
          go_wp2_with (first | (go_at_call 39; refine (HOut.out _ (HS.out.lay _)).mono ?_; rintro e w' ⟨rfl, d, rfl⟩) | (go_at_call 40; refine (HMd.out _ (HS.out.lay _)).mono ?_; rintro e w' ⟨rfl, dM, rfl⟩))
          obtain ⟨d0, e0⟩ : ∃ x, lay w [.inr dM, .inr d] = lay w [.inr x] := ⟨_, bw_bw _ _ _⟩
          rw [e0]
          go_loopw [7, 38] (fun v7 v38 wr => ∃ (k : Nat) (dd : Ext), k ≤ m ∧ v38 = .int .i64 (k : Int) ∧ wr = lay w [.inr dd] ∧ Ow (lay w [.inr dd]) (lay w []).heap.size v7 (F.take k)) (fun _ v38 _ => m - (intOf v38).toNat)
          case atStart => exact ⟨0, d0, Nat.zero_le _, rfl, rfl, Ow.nil _ _⟩
          case round =>
            obtain ⟨k, dd, hk, rfl, rfl, hO⟩ := hrel
            have HO := Lib.hid hO
            clear hO
            by_cases hlt : k < m
            · have e1 := HR.out k hlt
              have H1 := Lib.hid (fun W => HD.out W k hlt)
              rw [HX.out k hlt] at H1
              have x1 : (k : Int) < (m : Int) := by omega
              have x0 : (0 : Int) ≤ (k : Int) := by omega
              have lw : (Lit.int .i64 (nth F k)).wf = true := lit_b (by have := HFb.out k (by rw [HFL.out]; exact hlt); omega)
              have hlen : (F.take k).length ≤ 1000000000 := by rw [List.length_take]; omega
              have HT := Lib.hid (take_nth (l := F) (k := k) (by rw [HFL.out]; exact hlt))
              have wk : IntKind.i64.wrap (nth l k - M) = nth l k - M := IntWalk.i64_in _ (by have := HDb.out k hlt; omega)
              generalize nth F k = Q at *
              generalize nth l k = X at *
              generalize F.take k = R at *
              go_wp2_with (first | (go_at_call 41; refine (H1.out _).mono ?_; rintro e w' ⟨rfl, d, rfl⟩) | (at_builtin; refine push_int rfl _ _ rfl (lay w []) _ (Q) 3 _ _ _ ?_ (ow_on (A := [_, _]) HO.out) ?_ rfl rfl (by omega) lw ?_; exact lay_below (A := [_, _, _]); exact lay_get w _ 0 _ rfl; intro v' d' hv'))
              go_roundw
              case rel => exact ⟨k + 1, d', by omega, by go_num, rfl, by rw [HT.out]; exact hv'⟩
              case measure => simp [intOf]; omega
            · obtain rfl : k = m := by omega
              rw [show F.take k = F by rw [← HFL.out, List.take_length]] at HO
              clear HD HX HR HS HMd e0
              go_wp2_with fail
              refine (HM2.out _ _ HO.out.sl).mono ?_
              rintro e w' ⟨rfl, d2, rfl⟩
              rw [lay_bw]
              have HO2 := Lib.hid (ow_on (A := [.inr d2]) HO.out)
              clear HO HM2
              obtain ⟨g, cF, hv6, hg1, hg2, hg3⟩ := HO2.out.form1 (by rw [HFL.out]; exact h1)
              rw [HFL.out] at hv6 hg3
              subst hv6
              obtain ⟨T, hT⟩ : ∃ T, max P 100 = T := ⟨_, rfl⟩
              rw [hT] at HE
              have HOut := HE
              clear HE
              have t0 : 100 ≤ T := by omega
              obtain ⟨d3, e3⟩ : ∃ x, lay w [.inr d2, .inr dd] = lay w [.inr x] := ⟨_, bw_bw _ _ _⟩
              replace HO2 : Hid (Ow (lay w [.inr d2, .inr dd]) (lay w []).heap.size (.slice (some ⟨g, 0, none⟩) k cF) F) := HO2
              rw [show lay w ([Sum.inr d2] ++ [Sum.inr dd]) = lay w [.inr d2, .inr dd] from rfl, e3] at hg2
              rw [e3] at HO2 ⊢
              clear e3
              by_cases hP2 : P < 100
              · have hT2 : T = 100 := by omega
                subst hT2
                go_wp2_with fail
                go_loopw [11, 57] (fun v9 v10 wr => ∃ (i : Nat) (dd : Ext), i ≤ k ∧ v10 = .int .i64 (i : Int) ∧ wr = lay w [.inr dd, .inr d3] ∧ Ow (lay w [.inr dd, .inr d3]) (lay w [.inr d3]).heap.size v9 (outK F 100 i)) (fun _ v10 _ => k - (intOf v10).toNat)
                case atStart => exact ⟨0, noExt _, Nat.zero_le _, rfl, (bw_noExt _).symm, Ow.nil _ _⟩
                case round =>
                  obtain ⟨i, da, hi, rfl, rfl, hO⟩ := hrel
                  have HO := Lib.hid hO
                  clear hO
                  by_cases hlt2 : i < k
                  · have e1 := (ow_on (A := [.inr da]) HO2.out).cell (i := i) (by rw [HFL.out]; exact hlt2)
                    have c1 : (lay w [.inr da, .inr d3]).cell? ⟨g, i, none⟩ = some (.int .i64 (nth F i)) := e1
                    have x1 : (i : Int) < (k : Int) := by omega
                    have x0 : (0 : Int) ≤ (i : Int) := by omega
                    have hst := outK_succ F 100 i
                    have hlen : (outK F 100 i).length ≤ 1000000000 := Nat.le_trans (outK_len _ _ _) (by omega)
                    have lw : (Lit.int .i64 (i : Int)).wf = true := lit_b (by omega)
                    clear e1
                    by_cases hf : 100 < nth F i
                    · rw [if_pos hf] at hst
                      have HST := Lib.hid hst
                      clear hst
                      generalize nth F i = Q at *
                      generalize outK F 100 i = R at *
                      go_wp2_with (at_builtin; refine push_int rfl _ _ rfl (lay w [.inr d3]) _ ((i : Int)) 3 _ _ _ ?_ (ow_on (A := [_]) HO.out) ?_ rfl rfl (by omega) lw ?_; exact lay_below (A := [_, _]); exact lay_get w _ 0 _ rfl; intro v' d' hv')
                      go_roundw
                      case rel => exact ⟨i + 1, d', by omega, by go_num, rfl, by rw [HST.out]; exact hv'⟩
                      case measure => simp [intOf]; omega
                    · rw [if_neg hf, List.append_nil] at hst
                      have HST := Lib.hid hst
                      clear hst
                      generalize nth F i = Q at *
                      generalize outK F 100 i = R at *
                      go_wp2_with fail
                      go_roundw
                      case rel => exact ⟨i + 1, da, by omega, by go_num, rfl, by rw [HST.out]; exact HO.out⟩
                      case measure => simp [intOf]; omega
                  · obtain rfl : i = k := by omega
                    go_wp2_with fail
                    go_ret2
                    obtain ⟨y, hy⟩ := lay_ex w [.inr da, .inr d3]
                    exact ⟨_, y, rfl, hy, by rw [← hy, HOut.out]; exact HO.out.le (lay_below (w := w) (A := [.inr d3]) (B := [])).size⟩
              · obtain rfl : T = P := by omega
                go_wp2_with fail
                go_loopw [11, 57] (fun v9 v10 wr => ∃ (i : Nat) (dd : Ext), i ≤ k ∧ v10 = .int .i64 (i : Int) ∧ wr = lay w [.inr dd, .inr d3] ∧ Ow (lay w [.inr dd, .inr d3]) (lay w [.inr d3]).heap.size v9 (outK F T i)) (fun _ v10 _ => k - (intOf v10).toNat)
                case atStart => exact ⟨0, noExt _, Nat.zero_le _, rfl, (bw_noExt _).symm, Ow.nil _ _⟩
                case round =>
                  obtain ⟨i, da, hi, rfl, rfl, hO⟩ := hrel
                  have HO := Lib.hid hO
                  clear hO
                  by_cases hlt2 : i < k
                  · have e1 := (ow_on (A := [.inr da]) HO2.out).cell (i := i) (by rw [HFL.out]; exact hlt2)
                    have c1 : (lay w [.inr da, .inr d3]).cell? ⟨g, i, none⟩ = some (.int .i64 (nth F i)) := e1
                    have x1 : (i : Int) < (k : Int) := by omega
                    have x0 : (0 : Int) ≤ (i : Int) := by omega
                    have hst := outK_succ F T i
                    have hlen : (outK F T i).length ≤ 1000000000 := Nat.le_trans (outK_len _ _ _) (by omega)
                    have lw : (Lit.int .i64 (i : Int)).wf = true := lit_b (by omega)
                    clear e1
                    by_cases hf : T < nth F i
                    · rw [if_pos hf] at hst
                      have HST := Lib.hid hst
                      clear hst
                      generalize nth F i = Q at *
                      generalize outK F T i = R at *
                      go_wp2_with (at_builtin; refine push_int rfl _ _ rfl (lay w [.inr d3]) _ ((i : Int)) 3 _ _ _ ?_ (ow_on (A := [_]) HO.out) ?_ rfl rfl (by omega) lw ?_; exact lay_below (A := [_, _]); exact lay_get w _ 0 _ rfl; intro v' d' hv')
                      go_roundw
                      case rel => exact ⟨i + 1, d', by omega, by go_num, rfl, by rw [HST.out]; exact hv'⟩
                      case measure => simp [intOf]; omega
                    · rw [if_neg hf, List.append_nil] at hst
                      have HST := Lib.hid hst
                      clear hst
                      generalize nth F i = Q at *
                      generalize outK F T i = R at *
                      go_wp2_with fail
                      go_roundw
                      case rel => exact ⟨i + 1, da, by omega, by go_num, rfl, by rw [HST.out]; exact HO.out⟩
                      case measure => simp [intOf]; omega
                  · obtain rfl : i = k := by omega
                    go_wp2_with fail
                    go_ret2
                    obtain ⟨y, hy⟩ := lay_ex w [.inr da, .inr d3]
                    exact ⟨_, y, rfl, hy, by rw [← hy, HOut.out]; exact HO.out.le (lay_below (w := w) (A := [.inr d3]) (B := [])).size⟩
        · rw [ho] at HOut
          have he : rejE l f = 2 := by rw [hE, if_pos (by rw [ho]; simp)]
          rw [rejL_ne (by rw [he]; decide), he]
          rw [hm] at HS HOut ⊢
          clear hm hr hE he c1 hs hw
          refine lay_start ?_
          go_enter Tryz.func14, Tryz.ntmps14
          go_wp2_with (go_at_call 39; refine (HOut.out _ (HS.out.lay _)).mono ?_; rintro e w' ⟨rfl, d, rfl⟩)
          go_ret2
          exact rwe_nil rfl
end Go.Proofs.YtejmgdpgngjiiaaGreat
/- The quotient of two words by one, as math/bits reckons it: the plain law (Knuth's digits, of any base B). No program in sight. -/
namespace Go.Proofs.YtejmgdpgngjiiaaGreat

/-- A digit's guess and its rest. -/
structure DI (B U y1 y0 c q r : Nat) : Prop where
  eq : q * y1 + r = U
  up : U * B + c < (q + 1) * (y1 * B + y0)
  qb : q ≤ B + 1
theorem di_init {B U y1 y0 c : Nat} (h1 : B ≤ 2 * y1) (h0 : y0 < B) (hU : U < y1 * B + y0) (hc : c < B) : DI B U y1 y0 c (U / y1) (U % y1) ∧ U % y1 < y1 := by
  have hlt : U % y1 < y1 := Nat.mod_lt _ (by omega)
  have he : U / y1 * y1 + U % y1 = U := by rw [Nat.mul_comm]; exact Nat.div_add_mod U y1
  refine ⟨⟨he, ?_, ?_⟩, hlt⟩
  · have h2 : U + 1 ≤ (U / y1 + 1) * y1 := by rw [Nat.succ_mul]; omega
    have h3 : (U + 1) * B ≤ (U / y1 + 1) * y1 * B := Nat.mul_le_mul_right _ h2
    have h4 : (U / y1 + 1) * (y1 * B + y0) = (U / y1 + 1) * y1 * B + (U / y1 + 1) * y0 := by rw [Nat.mul_add, Nat.mul_assoc]
    rw [h4]
    rw [Nat.succ_mul] at h3
    generalize (U / y1 + 1) * y1 * B = A at *
    generalize (U / y1 + 1) * y0 = C at *
    generalize U * B = D at *
    omega
  · have e : y1 * (B + 2) = y1 * B + y1 * 2 := Nat.mul_add _ _ _
    have h2 : U < y1 * (B + 2) := by
      rw [e]
      generalize y1 * B = A at *
      omega
    have := Nat.div_lt_of_lt_mul h2
    omega
theorem di_step {B U y1 y0 c q r : Nat} (h : DI B U y1 y0 c q r) (hU : U < y1 * B + y0) (hc : c < B) (hcond : B ≤ q ∨ r * B + c < q * y0) : 0 < q ∧ DI B U y1 y0 c (q - 1) (r + y1) ∧ q - 1 ≤ B := by
  have hq : 0 < q := by
    rcases hcond with h1 | h1
    · omega
    · rcases Nat.eq_zero_or_pos q with e | e
      · rw [e, Nat.zero_mul] at h1; omega
      · exact e
  obtain ⟨p, rfl⟩ : ∃ p, q = p + 1 := ⟨q - 1, by omega⟩
  have he := h.eq
  rw [Nat.succ_mul] at he
  refine ⟨hq, ⟨by rw [Nat.add_sub_cancel]; omega, ?_, by have := h.qb; omega⟩, by have := h.qb; omega⟩
  rw [Nat.add_sub_cancel]
  rcases hcond with h1 | h1
  · have h2 : (U + 1) * B ≤ (y1 * B + y0) * B := Nat.mul_le_mul_right _ hU
    have h3 : B * (y1 * B + y0) ≤ (p + 1) * (y1 * B + y0) := Nat.mul_le_mul_right _ h1
    rw [Nat.succ_mul] at h2
    rw [Nat.mul_comm B] at h3
    generalize (p + 1) * (y1 * B + y0) = A at *
    generalize (y1 * B + y0) * B = C at *
    generalize U * B = D at *
    omega
  · have h4 : (p + 1) * (y1 * B + y0) = (p + 1) * y1 * B + (p + 1) * y0 := by rw [Nat.mul_add, Nat.mul_assoc]
    have h5 : U * B = (p + 1) * y1 * B + r * B := by rw [← Nat.add_mul, h.eq]
    rw [h4, h5]
    generalize (p + 1) * y1 * B = A at *
    generalize (p + 1) * y0 = C at *
    generalize r * B = D at *
    omega
theorem di_done {B U y1 y0 c q r : Nat} (h : DI B U y1 y0 c q r) (hle : q * y0 ≤ r * B + c) : (U * B + c) / (y1 * B + y0) = q ∧ q * (y1 * B + y0) ≤ U * B + c := by
  have h4 : q * (y1 * B + y0) = q * y1 * B + q * y0 := by rw [Nat.mul_add, Nat.mul_assoc]
  have h5 : U * B = q * y1 * B + r * B := by rw [← Nat.add_mul, h.eq]
  have hup := h.up
  have hle2 : q * (y1 * B + y0) ≤ U * B + c := by
    rw [h4, h5]
    generalize q * y1 * B = A at *
    generalize q * y0 = C at *
    generalize r * B = D at *
    omega
  exact ⟨Nat.div_eq_of_lt_le hle2 hup, hle2⟩
theorem di_break {B y0 c q r : Nat} (h0 : y0 < B) (hq : q ≤ B) (hr : B ≤ r) : q * y0 ≤ r * B + c :=
  Nat.le_trans (Nat.mul_le_mul hq (Nat.le_of_lt h0)) (Nat.le_trans (Nat.mul_le_mul_right B hr) (Nat.le_add_right _ _))
/-- Two digits make the quotient. -/
theorem two_digits {B U c1 c0 y : Nat} (hy : 0 < y) : ((U * B + c1) * B + c0) / y = (U * B + c1) / y * B + ((U * B + c1) % y * B + c0) / y ∧
    ((U * B + c1) * B + c0) % y = ((U * B + c1) % y * B + c0) % y := by
  have h := Nat.div_add_mod (U * B + c1) y
  generalize U * B + c1 = T at *
  have e : T * B + c0 = y * (T / y * B) + (T % y * B + c0) := by
    have h2 : T * B = y * (T / y) * B + T % y * B := by rw [← Nat.add_mul, h]
    rw [h2, ← Nat.mul_assoc, Nat.add_assoc]
  constructor
  · rw [e, Nat.mul_add_div hy]
  · rw [e, Nat.mul_add_mod]
/-- The shift of both by the same count. -/
theorem shifted (M y s : Nat) : (M * 2 ^ s) / (y * 2 ^ s) = M / y ∧ (M * 2 ^ s) % (y * 2 ^ s) / 2 ^ s = M % y := by
  have hp : 0 < 2 ^ s := Nat.pow_pos (by decide)
  constructor
  · exact Nat.mul_div_mul_right M y hp
  · rw [Nat.mul_mod_mul_right, Nat.mul_div_cancel _ hp]
end Go.Proofs.YtejmgdpgngjiiaaGreat
