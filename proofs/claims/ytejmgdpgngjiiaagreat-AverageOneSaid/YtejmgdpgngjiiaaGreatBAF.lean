/- Contracts and plain laws, several texts in one: So3; So4; Av4; Av5; LnP -/
import Derived.Test.YtejmgdpgngjiiaaGreatProg
import Derived.WalkKit
import Derived.WalkSpells
import Derived.WalkLawsBesides
import Derived.Lib.Hide
import Derived.BigQuiet
import Derived.Test.YtejmgdpgngjiiaaGreatBAA
import Derived.Test.YtejmgdpgngjiiaaGreatBAB
import Derived.Test.YtejmgdpgngjiiaaGreatBAC
import Derived.Test.YtejmgdpgngjiiaaGreatBAD
import Derived.Test.YtejmgdpgngjiiaaGreatBAE
/- The reference of average: Outliers. -/
namespace Go.Proofs.YtejmgdpgngjiiaaGreat
open Go.RowKit

theorem lit_b {n : Int} (h : -4611686018427387904 ≤ n ∧ n ≤ 4611686018427387904) : (Lit.int .i64 n).wf = true := by
  simp [Lit.wf, IntKind.min, IntKind.max, IntKind.signed, IntKind.bits]
  omega
theorem take_nth {l : List Int} {k : Nat} (h : k < l.length) : l.take (k + 1) = l.take k ++ [nth l k] := by
  rw [List.take_succ_eq_append_getElem h, nth_lt h]
/-- The outliers up to an index. -/
def outK (F : List Int) (lim : Int) (k : Nat) : List Int := ((List.range k).filter fun i => decide (lim < nth F i)).map Int.ofNat
theorem outK_succ (F : List Int) (lim : Int) (k : Nat) : outK F lim (k + 1) = outK F lim k ++ if lim < nth F k then [(k : Int)] else [] := by
  unfold outK
  rw [List.range_succ, List.filter_append, List.map_append]
  congr 1
  by_cases h : lim < nth F k
  · rw [if_pos h]; simp [h]
  · rw [if_neg h]; simp [h]
theorem outK_len (F : List Int) (lim : Int) (k : Nat) : (outK F lim k).length ≤ k := by
  unfold outK
  rw [List.length_map]
  exact Nat.le_trans (List.length_filter_le _ _) (by simp)
theorem outI_K (l : List Int) (f : Int) : outI l f = outK (farI l) (limI l f) l.length := rfl
theorem far_nth {l : List Int} {k : Nat} (h : k < l.length) : nth (farI l) k = max (nth l k - medI l) (-(nth l k - medI l)) := by
  rw [nth_lt (by rw [farI_len]; exact h), nth_lt h]
  simp [farI]
/-- Bounds of what a list's medians and distances may be. -/
def Bd (l : List Int) (B : Int) : Prop := ∀ i, i < l.length → -B ≤ nth l i ∧ nth l i ≤ B
theorem Bd.mem {l : List Int} {B : Int} (h : Bd l B) : ∀ x ∈ l, -B ≤ x ∧ x ≤ B := by
  intro x hx
  obtain ⟨i, hi, rfl⟩ := List.getElem_of_mem hx
  have := h i hi
  rw [nth_lt hi] at this; exact this
theorem Bd.med {l : List Int} {B : Int} (h : Bd l B) (hl : 1 ≤ l.length) : -B ≤ medI l ∧ medI l ≤ B := h.mem _ (medI_mem (by intro e; rw [e] at hl; simp at hl))
theorem Bd.far {l : List Int} {B : Int} (h : Bd l B) (hl : 1 ≤ l.length) : Bd (farI l) (2 * B) := by
  intro i hi
  rw [farI_len] at hi
  rw [far_nth hi]
  have h1 := h.med hl
  have h2 := h i hi
  omega
theorem far_ne {l : List Int} (hl : 1 ≤ l.length) : farI l ≠ [] := by
  intro e
  have := farI_len l
  rw [e] at this; simp at this; omega
theorem lim_bd {l : List Int} {f : Int} (h : Bd l 1099511627776) (hl : 1 ≤ l.length) (f1 : 1 ≤ f) (f2 : f ≤ 100) : 0 ≤ f * medI (farI l) ∧ f * medI (farI l) ≤ 219902325555200 := by
  have h1 := (h.far hl).med (by rw [farI_len]; exact hl)
  have h2 : 0 ≤ medI (farI l) := farI_med (by intro e; rw [e] at hl; simp at hl)
  generalize medI (farI l) = M at *
  have h3 : 0 ≤ f * M := Int.mul_nonneg (by omega) h2
  have h4 : f * M ≤ 100 * M := Int.mul_le_mul_of_nonneg_right f2 h2
  omega
set_option maxHeartbeats 2000000 in
set_option maxRecDepth 100000 in
theorem r23_Outliers (v : Value) (l : List Int) (f : Int) (w : World) (hs : Sl w v l) (h1 : 1 ≤ l.length) (hn : l.length ≤ 1000000) (hb : Bd l 1099511627776) (f1 : 1 ≤ f) (f2 : f ≤ 100) :
    Calls Tryz.prog 43 #[v, .int .i64 f] w (RwO w (outI l f)) := by
  have HS := Lib.hid hs
  have HM := Lib.hid (fun W h => r23_Lower v l W h h1 hn)
  have HM2 := Lib.hid (fun W v h => r23_Lower v (farI l) W h (by rw [farI_len]; exact h1) (by rw [farI_len]; exact hn))
  have hlb := lim_bd hb h1 f1 f2
  have HD := Lib.hid (fun W i (hi : i < l.length) => r23_distance (nth l i) (medI l) W (by have h2 := hb i hi; have h3 := hb.med h1; omega))
  have HF := Lib.hid (fun i (hi : i < l.length) => far_nth hi)
  have HFb := Lib.hid (hb.far h1)
  have HE := Lib.hid (outI_K l f)
  have HFL := Lib.hid (farI_len l)
  obtain ⟨b, o, cap, rfl, hc, -, hbs, hr⟩ := hs.open (by omega)
  have HR := Lib.hid hr
  obtain ⟨m, hm⟩ : ∃ m, l.length = m := ⟨_, rfl⟩
  obtain ⟨M, hM⟩ : ∃ M, medI l = M := ⟨_, rfl⟩
  obtain ⟨F, hF⟩ : ∃ F, farI l = F := ⟨_, rfl⟩
  obtain ⟨M2, hM2⟩ : ∃ M2, medI (farI l) = M2 := ⟨_, rfl⟩
  have hlim : limI l f = max (f * M2) 100 := by unfold limI; rw [hM2]
  rw [hlim] at HE
  rw [hM2] at hlb
  rw [hF] at HM2 HE HF HFb HFL hM2
  rw [hM] at HM HD HF
  rw [hM2] at HM2
  rw [hm] at HS HM HD HR HF HE HFL h1 hn hc ⊢
  have HX := Lib.hid (fun i (hi : i < m) => (HF.out i hi).symm)
  generalize outI l f = OUT at *
  obtain ⟨p0, p1⟩ := hlb
  obtain ⟨P, hP⟩ : ∃ P, f * M2 = P := ⟨_, rfl⟩
  rw [hP] at p0 p1 HE
  have hP1 : IntKind.i64.wrap (f * M2) = P := by rw [hP]; exact IntWalk.i64_in _ (by omega)
  clear hr hb hm hM hF hM2 hlim hs HF
  refine lay_start ?_
  go_enter Tryz.func43, Tryz.ntmps43
  go_wp2_with fail
  refine (HM.out _ (HS.out.lay _)).mono ?_
  rintro e w' ⟨rfl, dM, rfl⟩
  rw [show bw (lay w []) dM = lay w [.inr dM] from rfl]
  go_wp2_with fail
  go_loopw [6, 7] (fun v6 v7 wr => ∃ (k : Nat) (dd : Ext), k ≤ m ∧ v7 = .int .i64 (k : Int) ∧ wr = lay w [.inr dd] ∧ Ow (lay w [.inr dd]) (lay w []).heap.size v6 (F.take k)) (fun _ v7 _ => m - (intOf v7).toNat)
  case atStart => exact ⟨0, dM, Nat.zero_le _, rfl, rfl, Ow.nil _ _⟩
  case round =>
    obtain ⟨k, dd, hk, rfl, rfl, hO⟩ := hrel
    have HO := Lib.hid hO
    clear hO
    by_cases hlt : k < m
    · have e1 := HR.out k hlt
      have H1 := Lib.hid (fun W => HD.out W k hlt)
      rw [HX.out k hlt] at H1
      have x1 : (k : Int) < (m : Int) := by omega
      have x0 : (0 : Int) ≤ (k : Int) := by omega
      have lw : (Lit.int .i64 (nth F k)).wf = true := lit_b (by have := HFb.out k (by rw [HFL.out]; exact hlt); omega)
      have hlen : (F.take k).length ≤ 1000000000 := by rw [List.length_take]; omega
      have HT := Lib.hid (take_nth (l := F) (k := k) (by rw [HFL.out]; exact hlt))
      generalize nth F k = Q at *
      generalize nth l k = X at *
      generalize F.take k = R at *
      go_wp2_with (first | (go_at_call 88; refine (H1.out _).mono ?_; rintro e w' ⟨rfl, d, rfl⟩) | (at_builtin; refine push_int rfl _ _ rfl (lay w []) _ (Q) 3 _ _ _ ?_ (ow_on (A := [_, _]) HO.out) ?_ rfl rfl (by omega) lw ?_; exact lay_below (A := [_, _, _]); exact lay_get w _ 0 _ rfl; intro v' d' hv'))
      go_roundw
      case rel => exact ⟨k + 1, d', by omega, by go_num, rfl, by rw [HT.out]; exact hv'⟩
      case measure => simp [intOf]; omega
    · obtain rfl : k = m := by omega
      rw [show F.take k = F by rw [← HFL.out, List.take_length]] at HO
      clear HD HX HR HS HM
      go_wp2_with fail
      refine (HM2.out _ _ HO.out.sl).mono ?_
      rintro e w' ⟨rfl, d2, rfl⟩
      rw [lay_bw]
      have HO2 := Lib.hid (ow_on (A := [.inr d2]) HO.out)
      clear HO HM2
      obtain ⟨g, cF, hv6, hg1, hg2, hg3⟩ := HO2.out.form1 (by rw [HFL.out]; exact h1)
      rw [HFL.out] at hv6 hg3
      subst hv6
      obtain ⟨T, hT⟩ : ∃ T, max P 100 = T := ⟨_, rfl⟩
      rw [hT] at HE
      have HOut := HE
      clear HE
      have t0 : 100 ≤ T := by omega
      have fin : ∀ (T : Int), 100 ≤ T → OUT = outK F T k → True := fun _ _ _ => trivial
      obtain ⟨d3, e3⟩ : ∃ x, lay w [.inr d2, .inr dd] = lay w [.inr x] := ⟨_, bw_bw _ _ _⟩
      replace HO2 : Hid (Ow (lay w [.inr d2, .inr dd]) (lay w []).heap.size (.slice (some ⟨g, 0, none⟩) k cF) F) := HO2
      rw [show lay w ([Sum.inr d2] ++ [Sum.inr dd]) = lay w [.inr d2, .inr dd] from rfl, e3] at hg2
      rw [e3] at HO2 ⊢
      clear e3 fin
      by_cases hP2 : P < 100
      · have hT2 : T = 100 := by omega
        subst hT2
        go_wp2_with fail
        go_loopw [9, 10] (fun v9 v10 wr => ∃ (i : Nat) (dd : Ext), i ≤ k ∧ v10 = .int .i64 (i : Int) ∧ wr = lay w [.inr dd, .inr d3] ∧ Ow (lay w [.inr dd, .inr d3]) (lay w [.inr d3]).heap.size v9 (outK F 100 i)) (fun _ v10 _ => k - (intOf v10).toNat)
        case atStart => exact ⟨0, noExt _, Nat.zero_le _, rfl, (bw_noExt _).symm, Ow.nil _ _⟩
        case round =>
          obtain ⟨i, da, hi, rfl, rfl, hO⟩ := hrel
          have HO := Lib.hid hO
          clear hO
          by_cases hlt2 : i < k
          · have e1 := (ow_on (A := [.inr da]) HO2.out).cell (i := i) (by rw [HFL.out]; exact hlt2)
            have c1 : (lay w [.inr da, .inr d3]).cell? ⟨g, i, none⟩ = some (.int .i64 (nth F i)) := e1
            have x1 : (i : Int) < (k : Int) := by omega
            have x0 : (0 : Int) ≤ (i : Int) := by omega
            have hst := outK_succ F 100 i
            have hlen : (outK F 100 i).length ≤ 1000000000 := Nat.le_trans (outK_len _ _ _) (by omega)
            have lw : (Lit.int .i64 (i : Int)).wf = true := lit_b (by omega)
            clear e1
            by_cases hf : 100 < nth F i
            · rw [if_pos hf] at hst
              have HST := Lib.hid hst
              clear hst
              generalize nth F i = Q at *
              generalize outK F 100 i = R at *
              go_wp2_with (at_builtin; refine push_int rfl _ _ rfl (lay w [.inr d3]) _ ((i : Int)) 3 _ _ _ ?_ (ow_on (A := [_]) HO.out) ?_ rfl rfl (by omega) lw ?_; exact lay_below (A := [_, _]); exact lay_get w _ 0 _ rfl; intro v' d' hv')
              go_roundw
              case rel => exact ⟨i + 1, d', by omega, by go_num, rfl, by rw [HST.out]; exact hv'⟩
              case measure => simp [intOf]; omega
            · rw [if_neg hf, List.append_nil] at hst
              have HST := Lib.hid hst
              clear hst
              generalize nth F i = Q at *
              generalize outK F 100 i = R at *
              go_wp2_with fail
              go_roundw
              case rel => exact ⟨i + 1, da, by omega, by go_num, rfl, by rw [HST.out]; exact HO.out⟩
              case measure => simp [intOf]; omega
          · obtain rfl : i = k := by omega
            go_wp2_with fail
            go_ret
            obtain ⟨y, hy⟩ := lay_ex w [.inr da, .inr d3]
            exact ⟨_, y, rfl, hy, by rw [← hy, HOut.out]; exact HO.out.le (lay_below (w := w) (A := [.inr d3]) (B := [])).size⟩
      · obtain rfl : T = P := by omega
        go_wp2_with fail
        go_loopw [9, 10] (fun v9 v10 wr => ∃ (i : Nat) (dd : Ext), i ≤ k ∧ v10 = .int .i64 (i : Int) ∧ wr = lay w [.inr dd, .inr d3] ∧ Ow (lay w [.inr dd, .inr d3]) (lay w [.inr d3]).heap.size v9 (outK F T i)) (fun _ v10 _ => k - (intOf v10).toNat)
        case atStart => exact ⟨0, noExt _, Nat.zero_le _, rfl, (bw_noExt _).symm, Ow.nil _ _⟩
        case round =>
          obtain ⟨i, da, hi, rfl, rfl, hO⟩ := hrel
          have HO := Lib.hid hO
          clear hO
          by_cases hlt2 : i < k
          · have e1 := (ow_on (A := [.inr da]) HO2.out).cell (i := i) (by rw [HFL.out]; exact hlt2)
            have c1 : (lay w [.inr da, .inr d3]).cell? ⟨g, i, none⟩ = some (.int .i64 (nth F i)) := e1
            have x1 : (i : Int) < (k : Int) := by omega
            have x0 : (0 : Int) ≤ (i : Int) := by omega
            have hst := outK_succ F T i
            have hlen : (outK F T i).length ≤ 1000000000 := Nat.le_trans (outK_len _ _ _) (by omega)
            have lw : (Lit.int .i64 (i : Int)).wf = true := lit_b (by omega)
            clear e1
            by_cases hf : T < nth F i
            · rw [if_pos hf] at hst
              have HST := Lib.hid hst
              clear hst
              generalize nth F i = Q at *
              generalize outK F T i = R at *
              go_wp2_with (at_builtin; refine push_int rfl _ _ rfl (lay w [.inr d3]) _ ((i : Int)) 3 _ _ _ ?_ (ow_on (A := [_]) HO.out) ?_ rfl rfl (by omega) lw ?_; exact lay_below (A := [_, _]); exact lay_get w _ 0 _ rfl; intro v' d' hv')
              go_roundw
              case rel => exact ⟨i + 1, d', by omega, by go_num, rfl, by rw [HST.out]; exact hv'⟩
              case measure => simp [intOf]; omega
            · rw [if_neg hf, List.append_nil] at hst
              have HST := Lib.hid hst
              clear hst
              generalize nth F i = Q at *
              generalize outK F T i = R at *
              go_wp2_with fail
              go_roundw
              case rel => exact ⟨i + 1, da, by omega, by go_num, rfl, by rw [HST.out]; exact HO.out⟩
              case measure => simp [intOf]; omega
          · obtain rfl : i = k := by omega
            go_wp2_with fail
            go_ret
            obtain ⟨y, hy⟩ := lay_ex w [.inr da, .inr d3]
            exact ⟨_, y, rfl, hy, by rw [← hy, HOut.out]; exact HO.out.le (lay_below (w := w) (A := [.inr d3]) (B := [])).size⟩
end Go.Proofs.YtejmgdpgngjiiaaGreat
/- The reference of average: factored, Reject. -/
namespace Go.Proofs.YtejmgdpgngjiiaaGreat
open Go.RowKit

/-- The error of a list and a factor, and the outliers. -/
def rejE (l : List Int) (f : Int) : Int := if l.length < 1 ∨ 1000 < l.length then 3 else if f < 1 ∨ 100 < f ∨ outB l 1099511627776 = true then 2 else 0
def rejL (l : List Int) (f : Int) : List Int := if rejE l f = 0 then outI l f else []
def RwE (w : World) (l : List Int) (x : Int) (e : Ending) (w' : World) : Prop := ∃ v d, e = .returned (.tuple #[v, .int .i64 x]) ∧ w' = bw w d ∧ Ow (bw w d) w.heap.size v l
theorem rejL_ne {l : List Int} {f : Int} (h : rejE l f ≠ 0) : rejL l f = [] := if_neg h
theorem rejL_eq {l : List Int} {f : Int} (h : rejE l f = 0) : rejL l f = outI l f := if_pos h
theorem outB_bd {l : List Int} {B : Int} (h : outB l B = false) : Bd l B := by
  intro i hi
  unfold outB at h
  have := List.any_eq_false.1 h (nth l i) (by rw [nth_lt hi]; exact List.getElem_mem hi)
  simp at this; omega
theorem outB_out {l : List Int} {B : Int} {i : Nat} (hi : i < l.length) (h : nth l i < -B ∨ B < nth l i) : outB l B = true := by
  unfold outB
  refine List.any_eq_true.2 ⟨nth l i, by rw [nth_lt hi]; exact List.getElem_mem hi, ?_⟩
  simp; omega
theorem outB_in {l : List Int} {B : Int} (h : Bd l B) : outB l B = false := by
  unfold outB
  refine List.any_eq_false.2 fun x hx => ?_
  have := h.mem x hx
  simp; omega
set_option maxRecDepth 100000 in
theorem r23_factored (f : Int) (w : World) :
    Calls Tryz.prog 42 #[.int .i64 f] w fun e w' => e = .returned (.bool (decide (1 ≤ f ∧ f ≤ 100))) ∧ ∃ d, w' = bw w d := by
  by_cases h1 : f < 1
  · rw [decide_eq_false (by omega)]
    have y1 : ¬ 1 ≤ f := by omega
    refine lay_start ?_
    go_enter Tryz.func42, Tryz.ntmps42
    go_wp2_with fail
    go_ret
    exact ⟨rfl, lay_ex _ _⟩
  · have y1 : 1 ≤ f := by omega
    by_cases h2 : f ≤ 100
    · rw [decide_eq_true (by omega)]
      refine lay_start ?_
      go_enter Tryz.func42, Tryz.ntmps42
      go_wp2_with fail
      go_ret
      exact ⟨rfl, lay_ex _ _⟩
    · rw [decide_eq_false (by omega)]
      refine lay_start ?_
      go_enter Tryz.func42, Tryz.ntmps42
      go_wp2_with fail
      go_ret
      exact ⟨rfl, lay_ex _ _⟩
theorem rwe_nil {w : World} {L : List (Obj ⊕ Ext)} {x : Int} {e : Ending} (he : e = .returned (.tuple #[.slice none 0 0, .int .i64 x])) : RwE w [] x e (lay w L) := by
  obtain ⟨d, hd⟩ := lay_ex w L
  exact ⟨_, d, he, hd, Ow.nil _ _⟩
set_option maxHeartbeats 2000000 in
set_option maxRecDepth 100000 in
theorem r23_Reject (v : Value) (l : List Int) (f : Int) (w : World) (hs : Sl w v l) :
    Calls Tryz.prog 15 #[v, .int .i64 f] w (RwE w (rejL l f) (rejE l f)) := by
  by_cases c1 : l.length < 1 ∨ 1000 < l.length
  · have he : rejE l f = 3 := if_pos c1
    rw [rejL_ne (by rw [he]; decide), he]
    obtain ⟨a, cap, rfl, hcp, -⟩ := hs
    obtain ⟨m, hm⟩ : ∃ m, l.length = m := ⟨_, rfl⟩
    rw [hm] at c1 ⊢
    rcases c1 with c1 | c1
    · obtain rfl : m = 0 := by omega
      clear hm hcp
      refine lay_start ?_
      go_enter Tryz.func15, Tryz.ntmps15
      go_wp2_with fail
      go_ret2
      exact rwe_nil rfl
    · have x0 : ¬ (m : Int) < 1 := by omega
      have x1 : (1000 : Int) < (m : Int) := by omega
      clear hm hcp
      refine lay_start ?_
      go_enter Tryz.func15, Tryz.ntmps15
      go_wp2_with fail
      go_ret2
      exact rwe_nil rfl
  · have HS := Lib.hid hs
    obtain ⟨b, o, cap, rfl, hc, hw, hbs, hr⟩ := hs.open (by omega)
    have hE : rejE l f = if f < 1 ∨ 100 < f ∨ outB l 1099511627776 = true then 2 else 0 := if_neg c1
    obtain ⟨m, hm⟩ : ∃ m, l.length = m := ⟨_, rfl⟩
    by_cases c2 : f < 1 ∨ 100 < f
    · have he : rejE l f = 2 := by rw [hE, if_pos (by omega)]
      rw [rejL_ne (by rw [he]; decide), he, hm]
      have y2 : decide (1 ≤ f ∧ f ≤ 100) = false := decide_eq_false (by omega)
      have HFa := Lib.hid (fun W => r23_factored f W)
      rw [y2] at HFa
      have x0 : ¬ (m : Int) < 1 := by omega
      have x1 : ¬ (1000 : Int) < (m : Int) := by omega
      clear hm hr hE he c1 c2 y2 hs hw
      refine lay_start ?_
      go_enter Tryz.func15, Tryz.ntmps15
      go_wp2_with fail
      refine (HFa.out _).mono ?_
      rintro e w' ⟨rfl, d2, rfl⟩
      rw [lay_bw]
      go_wp2_with fail
      go_ret2
      exact rwe_nil rfl
    · have y2 : decide (1 ≤ f ∧ f ≤ 100) = true := decide_eq_true (by omega)
      have HFa := Lib.hid (fun W => r23_factored f W)
      rw [y2] at HFa
      have HE : Hid (∀ i, i < l.length → (nth l i < -1099511627776 ∨ 1099511627776 < nth l i) → rejE l f = 2) := Lib.hid fun i hi hx => by rw [hE, if_pos (.inr (.inr (outB_out hi hx)))]
      have HG : Hid (Bd l 1099511627776 → rejE l f = 0) := Lib.hid fun h => by rw [hE, if_neg (by rw [outB_in h]; simp; omega)]
      have HO := Lib.hid (fun W (h : Sl W (.slice (some ⟨b, o, none⟩) l.length cap) l) hb => r23_Outliers _ l f W h (by omega) (by omega) hb (by omega) (by omega))
      have HR := Lib.hid hr
      rw [hm] at HS HR HE HO hc ⊢
      have HM := Lib.hid hm
      have x0 : ¬ (m : Int) < 1 := by omega
      have x1 : ¬ (1000 : Int) < (m : Int) := by omega
      have hml : m ≤ 1000 := by omega
      clear hm hr hE c1 c2 y2 hs hw
      refine lay_start ?_
      go_enter Tryz.func15, Tryz.ntmps15
      go_wp2_with fail
      refine (HFa.out _).mono ?_
      rintro e w' ⟨rfl, d2, rfl⟩
      rw [lay_bw]
      go_wp2_with fail
      go_loopw [6] (fun v6 wr => ∃ (k : Nat) (dd : Ext), k ≤ m ∧ v6 = .int .i64 (k : Int) ∧ wr = lay w [.inr dd] ∧ ∀ i, i < k → -1099511627776 ≤ nth l i ∧ nth l i ≤ 1099511627776) (fun v6 _ => m - (intOf v6).toNat)
      case atStart => exact ⟨0, d2, Nat.zero_le _, rfl, rfl, fun i hi => absurd hi (Nat.not_lt_zero i)⟩
      case round =>
        obtain ⟨k, dd, hk, rfl, rfl, hB⟩ := hrel
        have HB := Lib.hid hB
        clear hB
        by_cases hlt : k < m
        · have e1 := HR.out k hlt
          have z1 : (k : Int) < (m : Int) := by omega
          have z0 : (0 : Int) ≤ (k : Int) := by omega
          obtain ⟨X, hX⟩ : ∃ X, X = nth l k := ⟨_, rfl⟩
          rw [← hX] at e1
          have HX := Lib.hid hX
          clear hX
          by_cases q1 : X < -1099511627776
          · have he := HE.out k hlt (by rw [← HX.out]; omega)
            rw [he, rejL_ne (by rw [he]; decide)]
            have s1 : decide (X < -1099511627776) = true := decide_eq_true q1
            clear he
            go_wp2_with fail
            go_ret2
            exact rwe_nil rfl
          · have s1 : decide (X < -1099511627776) = false := decide_eq_false q1
            by_cases q2 : 1099511627776 < X
            · have he := HE.out k hlt (by rw [← HX.out]; omega)
              rw [he, rejL_ne (by rw [he]; decide)]
              have s2 : decide (1099511627776 < X) = true := decide_eq_true q2
              clear he
              go_wp2_with fail
              go_ret2
              exact rwe_nil rfl
            · have s2 : decide (1099511627776 < X) = false := decide_eq_false q2
              go_wp2_with fail
              go_roundw
              case rel => exact ⟨k + 1, dd, by omega, by go_num, rfl, fun i hi => by
                by_cases e : i = k
                · rw [e, ← HX.out]; omega
                · exact HB.out i (by omega)⟩
              case measure => simp [intOf]; omega
        · obtain rfl : k = m := by omega
          have hbd : Bd l 1099511627776 := fun i hi => HB.out i (by rw [← HM.out]; exact hi)
          have he := HG.out hbd
          have HL2 := Lib.hid (rejL_eq he)
          have HE2 := Lib.hid he
          have HO2 := Lib.hid (fun W h => HO.out W h hbd)
          generalize outI l f = OUT at *
          clear he hbd
          go_wp2_with fail
          refine (HO2.out _ (HS.out.lay _)).mono ?_
          rintro e w' ⟨v, d3, rfl, rfl, hv⟩
          rw [lay_bw] at hv ⊢
          have HV := Lib.hid hv
          clear hv
          go_wp2_with fail
          go_ret2
          obtain ⟨y, hy⟩ := lay_ex w [.inr d3, .inr dd]
          exact ⟨_, y, by rw [HE2.out]; rfl, hy, by rw [← hy]; exact HL2.out ▸ HV.out.le (lay_below (w := w) (A := [.inr dd]) (B := [])).size⟩
end Go.Proofs.YtejmgdpgngjiiaaGreat
/- average: floor, residual, slopes, check. -/
namespace Go.Proofs.YtejmgdpgngjiiaaGreat
open Go.RowKit

set_option maxHeartbeats 400000 in
theorem av_floor (a b : Int) (w : World) (hb : 1 ≤ b) (h1 : -9223372036854775807 ≤ a) (h2 : a ≤ 9223372036854775807) :
    Calls Tryz.prog 72 #[.int .i64 a, .int .i64 b] w fun e w' => e = .returned (.int .i64 (a / b)) ∧ w' = w := by
  go_enter Tryz.func72, Tryz.ntmps72
  go_wp2
  · go_ret
    refine ⟨congrArg (fun x => Ending.returned (.int .i64 x)) ?_, rfl⟩
    rw [IntWalk.wrap64_in]
    · exact floor_neg hb ‹_›
    · rw [floor_neg hb ‹_›]; have := ediv_bd hb 9223372036854775807 (by decide) h1 h2; omega
  · go_ret
    exact ⟨congrArg (fun x => Ending.returned (.int .i64 x)) (floor_pos hb ‹_›), rfl⟩
/-- Bounds of a product. -/
theorem mul_in {x k : Int} (X K : Int) (hX : -X ≤ x ∧ x ≤ X) (hK : -K ≤ k ∧ k ≤ K) (h0 : 0 ≤ X) : -(X * K) ≤ x * k ∧ x * k ≤ X * K := by
  have h1 : (x * k).natAbs ≤ X.natAbs * K.natAbs := by rw [Int.natAbs_mul]; exact Nat.mul_le_mul (by omega) (by omega)
  have h2 : ((X.natAbs * K.natAbs : Nat) : Int) = X * K := by
    rw [Int.natCast_mul, Int.natAbs_of_nonneg h0, Int.natAbs_of_nonneg (by omega)]
  rw [← h2]
  omega
structure SlOk (n d : Int) : Prop where
  n1 : -1073741824 ≤ n
  n2 : n ≤ 1073741824
  d1 : 1 ≤ d
  d2 : d ≤ 1073741824
theorem res_bd {t n d : Int} (hs : SlOk n d) (t1 : -172800000 ≤ t ∧ t ≤ 172800000) : -371085174374400000 ≤ 2 * n * t ∧ 2 * n * t ≤ 371085174374400000 ∧ -371085174374400000 ≤ 1000 * d - 2 * n * t - 1000 * d ∧ -372158916198400000 ≤ (1000 * d - 2 * n * t) / (2000 * d) ∧ (1000 * d - 2 * n * t) / (2000 * d) ≤ 372158916198400000 := by
  obtain ⟨n1, n2, d1, d2⟩ := hs
  have h2 := mul_in (x := 2 * n) (k := t) 2147483648 172800000 (by omega) t1 (by decide)
  generalize 2 * n * t = P at *
  have h3 := ediv_bd (a := 1000 * d - P) (b := 2000 * d) (by omega) 372158916198400000 (by decide) (by omega) (by omega)
  omega
set_option maxRecDepth 100000 in
theorem av_residual (t h n d : Int) (w : World) (hs : SlOk n d) (t1 : -172800000 ≤ t ∧ t ≤ 172800000) (h1 : -1099511627776 ≤ h ∧ h ≤ 1099511627776) :
    Calls Tryz.prog 112 #[.int .i64 t, .int .i64 h, (.agg #[.int .i64 (n), .int .i64 (d)])] w fun e w' => e = .returned (.int .i64 (resI t h n d)) ∧ ∃ d, w' = bw w d := by
  obtain ⟨b1, b2, -, b3, b4⟩ := res_bd hs t1
  obtain ⟨n1, n2, d1, d2⟩ := hs
  unfold resI
  have HF := Lib.hid (fun W => av_floor (1000 * d - 2 * n * t) (2000 * d) W (by omega) (by omega) (by omega))
  have k1 : IntKind.i64.wrap (1000 * d) = 1000 * d := IntWalk.i64_in _ (by omega)
  have k2 : IntKind.i64.wrap (2 * n) = 2 * n := IntWalk.i64_in _ (by omega)
  have k3 : IntKind.i64.wrap (2 * n * t) = 2 * n * t := IntWalk.i64_in _ (by omega)
  have k4 : IntKind.i64.wrap (1000 * d - 2 * n * t) = 1000 * d - 2 * n * t := IntWalk.i64_in _ (by omega)
  have k5 : IntKind.i64.wrap (2000 * d) = 2000 * d := IntWalk.i64_in _ (by omega)
  have k6 : IntKind.i64.wrap (h + (1000 * d - 2 * n * t) / (2000 * d)) = h + (1000 * d - 2 * n * t) / (2000 * d) := IntWalk.i64_in _ (by omega)
  obtain ⟨Q, hQ⟩ : ∃ Q, (1000 * d - 2 * n * t) / (2000 * d) = Q := ⟨_, rfl⟩
  rw [hQ] at HF k6 ⊢
  obtain ⟨P, hP⟩ : ∃ P, 2 * n * t = P := ⟨_, rfl⟩
  have k3' : IntKind.i64.wrap (2 * n * t) = P := k3.trans hP
  clear k3
  rw [hP] at HF k4
  clear hQ b1 b2 b3 b4 hP
  refine lay_start ?_
  go_enter Tryz.func112, Tryz.ntmps112
  go_wp2_with (go_at_call 72; refine (HF.out _).mono ?_; rintro e w' ⟨rfl, rfl⟩)
  go_ret
  exact ⟨rfl, lay_ex _ _⟩
def slpB (n d : Int) : Bool := decide (-1000 * d ≤ n ∧ n ≤ 1000 * d)
set_option maxRecDepth 100000 in
theorem av_slopes (n d : Int) (w : World) (hs : SlOk n d) :
    Calls Tryz.prog 61 #[(.agg #[.int .i64 (n), .int .i64 (d)])] w fun e w' => e = .returned (.bool (slpB n d)) ∧ ∃ d, w' = bw w d := by
  obtain ⟨n1, n2, d1, d2⟩ := hs
  have HS := Lib.hid (fun W => av_size n W (by omega) (by omega))
  have k1 : IntKind.i64.wrap (1000 * d) = 1000 * d := IntWalk.i64_in _ (by omega)
  have e : slpB n d = decide (max n (-n) ≤ 1000 * d) := by unfold slpB; rw [decide_eq_decide]; omega
  rw [e]
  generalize max n (-n) = M at *
  clear e n1 n2 d1 d2
  refine lay_start ?_
  go_enter Tryz.func61, Tryz.ntmps61
  go_wp2_with fail
  refine region_bw (by kernel_rfl) (by kernel_rfl) ?_
  repeat (go_big_quiet_step ((first | (go_at_call 41; exact bq (HS.out _) (fun d => lay_join _ _ _ d)))))
  refine wpQuiet_nil ?_
  rintro w' ⟨d, rfl⟩
  rw [lay_bw]
  go_wp2_with fail
  go_ret
  exact ⟨rfl, lay_ex _ _⟩
/-- The error of times and readings. -/
def chkE (t h : List Int) : Int := if t.length ≠ h.length ∨ t.length < 1 ∨ 1000 < t.length then 3 else if outB t 86400000 = true ∨ outB h 10800000 = true then 2 else 0
set_option maxHeartbeats 1000000 in
set_option maxRecDepth 100000 in
theorem av_check (vt vh : Value) (t h : List Int) (w : World) (ht : Sl w vt t) (hh : Sl w vh h) :
    Calls Tryz.prog 57 #[vt, vh] w fun e w' => e = .returned (.int .i64 (chkE t h)) ∧ ∃ d, w' = bw w d := by
  have H1 := Lib.hid (fun W (q : Sl W vt t) => av_outside vt t 86400000 W q (by decide) (by decide))
  have H2 := Lib.hid (fun W (q : Sl W vh h) => av_outside vh h 10800000 W q (by decide) (by decide))
  have HT := Lib.hid ht
  have HH := Lib.hid hh
  obtain ⟨a1, c1, rfl, -⟩ := ht
  obtain ⟨a2, c2, rfl, -⟩ := hh
  unfold chkE
  obtain ⟨m, hm⟩ : ∃ m, t.length = m := ⟨_, rfl⟩
  obtain ⟨q, hq⟩ : ∃ q, h.length = q := ⟨_, rfl⟩
  rw [hm] at H1 HT ⊢
  rw [hq] at H2 HH ⊢
  clear hm hq
  by_cases e1 : m = q
  · subst e1
    have t1 : ((m : Int) == (m : Int)) = true := beq_iff_eq.2 rfl
    have t3 : ((m : Int) != (m : Int)) = false := by rw [bne, t1]; rfl
    by_cases e2 : m < 1
    · rw [if_pos (by omega)]
      have x1 : (m : Int) < 1 := by omega
      refine lay_start ?_
      go_enter Tryz.func57, Tryz.ntmps57
      go_wp2_with fail
      go_ret
      exact ⟨rfl, lay_ex _ _⟩
    · have x1 : ¬ (m : Int) < 1 := by omega
      by_cases e3 : 1000 < m
      · rw [if_pos (by omega)]
        have x2 : (1000 : Int) < (m : Int) := by omega
        refine lay_start ?_
        go_enter Tryz.func57, Tryz.ntmps57
        go_wp2_with fail
        go_ret
        exact ⟨rfl, lay_ex _ _⟩
      · rw [if_neg (by omega)]
        have x2 : ¬ (1000 : Int) < (m : Int) := by omega
        cases ho : outB t 86400000
        · cases ho2 : outB h 10800000
          · rw [ho] at H1
            rw [ho2] at H2
            rw [if_neg (by simp)]
            clear ho ho2
            refine lay_start ?_
            go_enter Tryz.func57, Tryz.ntmps57
            go_wp2_with (go_at_call 39; first | (with_reducible refine (H1.out _ (HT.out.lay _)).mono ?_; rintro e w' ⟨rfl, dA, rfl⟩) | (with_reducible refine (H2.out _ (HH.out.lay _)).mono ?_; rintro e w' ⟨rfl, dB, rfl⟩))
            go_ret
            exact ⟨rfl, lay_ex _ _⟩
          · rw [ho] at H1
            rw [ho2] at H2
            rw [if_pos (by simp)]
            clear ho ho2
            refine lay_start ?_
            go_enter Tryz.func57, Tryz.ntmps57
            go_wp2_with (go_at_call 39; first | (with_reducible refine (H1.out _ (HT.out.lay _)).mono ?_; rintro e w' ⟨rfl, dA, rfl⟩) | (with_reducible refine (H2.out _ (HH.out.lay _)).mono ?_; rintro e w' ⟨rfl, dB, rfl⟩))
            go_ret
            exact ⟨rfl, lay_ex _ _⟩
        · rw [ho] at H1
          rw [if_pos (by simp)]
          clear ho
          refine lay_start ?_
          go_enter Tryz.func57, Tryz.ntmps57
          go_wp2_with (go_at_call 39; with_reducible refine (H1.out _ (HT.out.lay _)).mono ?_; rintro e w' ⟨rfl, dA, rfl⟩)
          go_ret
          exact ⟨rfl, lay_ex _ _⟩
  · rw [if_pos (by omega)]
    have t1 : ((m : Int) == (q : Int)) = false := beq_eq_false_iff_ne.2 (by omega)
    have t3 : ((m : Int) != (q : Int)) = true := by rw [bne, t1]; rfl
    refine lay_start ?_
    go_enter Tryz.func57, Tryz.ntmps57
    go_wp2_with fail
    go_ret
    exact ⟨rfl, lay_ex _ _⟩
end Go.Proofs.YtejmgdpgngjiiaaGreat
/- average.residuals. -/
namespace Go.Proofs.YtejmgdpgngjiiaaGreat
open Go.RowKit

/-- The residuals of the readings up to an index. -/
def resK (t h : List Int) (n d : Int) (k : Nat) : List Int := (List.range k).map fun i => resI (nth t i) (nth h i) n d
theorem resK_len (t h : List Int) (n d : Int) (k : Nat) : (resK t h n d k).length = k := by unfold resK; simp
theorem resK_succ (t h : List Int) (n d : Int) (k : Nat) : resK t h n d (k + 1) = resK t h n d k ++ [resI (nth t k) (nth h k) n d] := by
  unfold resK
  rw [List.range_succ, List.map_append]; rfl
theorem resI_bd {t h n d : Int} (hs : SlOk n d) (t1 : -172800000 ≤ t ∧ t ≤ 172800000) (h1 : -1099511627776 ≤ h ∧ h ≤ 1099511627776) : (Lit.int .i64 (resI t h n d)).wf = true := by
  have := res_bd hs t1
  refine lit_b ?_
  unfold resI
  omega
set_option maxHeartbeats 1000000 in
set_option maxRecDepth 100000 in
theorem av_residuals (vt vh : Value) (t h : List Int) (n dn : Int) (w : World) (ht : Sl w vt t) (hh : Sl w vh h) (hl : t.length = h.length) (h1 : 1 ≤ t.length) (hn : t.length ≤ 1000000) (bt : Bd t 172800000) (bh : Bd h 1099511627776) (hs : SlOk n dn) :
    Calls Tryz.prog 62 #[vt, vh, (.agg #[.int .i64 (n), .int .i64 (dn)])] w (RwO w (resK t h n dn t.length)) := by
  have HR := Lib.hid (fun W i (hi : i < t.length) => av_residual (nth t i) (nth h i) n dn W hs (bt i hi) (bh i (by omega)))
  have HW := Lib.hid (fun i (hi : i < t.length) => resI_bd hs (bt i hi) (bh i (by omega)))
  have HK := Lib.hid (resK_succ t h n dn)
  have HL := Lib.hid (resK_len t h n dn)
  obtain ⟨b, o, cap, rfl, hc, -, hbs, hr⟩ := ht.open (by omega)
  obtain ⟨b2, o2, cap2, rfl, hc2, -, hbs2, hr2⟩ := hh.open (by omega)
  rw [← hl] at hr2 hc2 ⊢
  obtain ⟨m, hm⟩ : ∃ m, t.length = m := ⟨_, rfl⟩
  rw [hm] at HR HW hr hr2 hc hc2 h1 hn ⊢
  have HT := Lib.hid hr
  have HH := Lib.hid hr2
  have HRes : Hid (∀ k, resK t h n dn k = resK t h n dn k) := Lib.hid fun _ => rfl
  generalize resK t h n dn = RES at *
  clear hr hr2 hm hl ht hh bt bh hs HRes
  refine lay_start ?_
  go_enter Tryz.func62, Tryz.ntmps62
  go_wp2_with fail
  go_loopw [7, 11] (fun v7 v11 wr => ∃ (k : Nat) (dd : Ext), k ≤ m ∧ v11 = .int .i64 (k : Int) ∧ wr = lay w [.inr dd, .inl (.cells #[.int .i64 n, .int .i64 dn] 35 (0, 0))] ∧ Ow (lay w [.inr dd, .inl (.cells #[.int .i64 n, .int .i64 dn] 35 (0, 0))]) (lay w [.inl (.cells #[.int .i64 n, .int .i64 dn] 35 (0, 0))]).heap.size v7 (RES k)) (fun _ v11 _ => m - (intOf v11).toNat)
  case atStart => exact ⟨0, noExt _, Nat.zero_le _, rfl, (bw_noExt _).symm, by rw [show RES 0 = [] from List.eq_nil_of_length_eq_zero (HL.out 0)]; exact Ow.nil _ _⟩
  case round =>
    obtain ⟨k, dd, hk, rfl, rfl, hO⟩ := hrel
    have HO := Lib.hid hO
    clear hO
    by_cases hlt : k < m
    · have e1 := HT.out k hlt
      have e2 := HH.out k hlt
      have H1 := Lib.hid (fun W => HR.out W k hlt)
      have hwf := HW.out k hlt
      have hst := HK.out k
      have HST := Lib.hid hst
      have hlen : (RES k).length ≤ 1000000000 := by rw [HL.out]; omega
      have x1 : (k : Int) < (m : Int) := by omega
      have x0 : (0 : Int) ≤ (k : Int) := by omega
      have w3 : IntKind.i64.wrap ((k : Int) + 1) = (k : Int) + 1 := IntWalk.i64_in _ (by omega)
      obtain ⟨P, hP⟩ : ∃ P, resI (nth t k) (nth h k) n dn = P := ⟨_, rfl⟩
      rw [hP] at H1 hwf HST
      generalize nth t k = A at *
      generalize nth h k = B at *
      clear hst hP
      go_wp2_with fail
      refine region_mixT 12 [0, 0, 0, 0, 0, 0, 0, 0, 0, 0, 0, 1] (by kernel_rfl) (by kernel_rfl) (by kernel_rfl) (by kernel_rfl) (by simp) (by kernel_rfl) ?_
      simp only [List.take_succ_cons, List.take_zero, List.drop_succ_cons, List.drop_zero]
      repeat (first | (refine wpM_quiet (fun K hK => ?_); go_simp; first | (refine hK _ ?_; clear hK K) | (apply Exists.intro; refine ⟨fun _ => ?_, hK _ ?_⟩; (first | (go_at_call 112; exact bq (H1.out _) (fun d => ⟨d, rfl⟩))); clear hK K)) | (refine wpM_special (fun K hK d => ?_); go_simp; refine hK _ _ (by first | exact lay_in w [_] _ | exact lay_in w [_, _] _ | exact lay_in w [_, _, _] _ | exact lay_in w [_, _, _, _] _ | exact lay_in w [_, _, _, _, _] _ | exact lay_in w [_, _, _, _, _, _] _) ?_; clear hK K))
      refine wpM_nil ?_
      intro d1
      rw [lay_bw]
      refine push_int rfl _ _ rfl (lay w [.inl (.cells #[.int .i64 n, .int .i64 dn] 35 (0, 0))]) _ P 3 _ _ _ ?_ (ow_on (A := [_, _, _]) HO.out) ?_ rfl rfl hlen hwf ?_
      · exact lay_below (A := [_, _, _, _])
      · exact lay_get w _ 1 _ rfl
      intro v' d' hv'
      have HV := Lib.hid hv'
      clear hv'
      go_wp2_with fail
      go_roundw
      case rel => exact ⟨k + 1, d', hlt, by go_num, rfl, by rw [HST.out]; exact HV.out⟩
      case measure => simp [intOf]; omega
    · obtain rfl : k = m := by omega
      go_wp2_with fail
      go_ret
      obtain ⟨y, hy⟩ := lay_ex w [.inr dd, .inl (.cells #[.int .i64 n, .int .i64 dn] 35 (0, 0))]
      exact ⟨_, y, rfl, hy, by rw [← hy]; exact HO.out.le (lay_below (w := w) (A := [.inl (.cells #[.int .i64 n, .int .i64 dn] 35 (0, 0))]) (B := [])).size⟩
end Go.Proofs.YtejmgdpgngjiiaaGreat
/- average.Line: the quotients of all pairs, the lower median of them: the plain law. -/
namespace Go.Proofs.YtejmgdpgngjiiaaGreat
open Go.RowKit

def mkR (h t : Int) : RisB := if c : (-21600000 ≤ h ∧ h ≤ 21600000) ∧ 1 ≤ t ∧ t ≤ 172800000 then (show RisB from ⟨⟨h, t⟩, c⟩) else default
theorem mkR_h {h t : Int} (c : (-21600000 ≤ h ∧ h ≤ 21600000) ∧ 1 ≤ t ∧ t ≤ 172800000) : (mkR h t).1 = ⟨h, t⟩ := by
  unfold mkR
  split
  · rfl
  · contradiction
/-- The quotient of a pair, if there is one. -/
def rp (t h : List Int) (i k : Nat) : List RisB :=
  if 0 < nth t i - nth t k then [mkR (nth h i - nth h k) (nth t i - nth t k)]
  else if nth t i - nth t k < 0 then [mkR (nth h k - nth h i) (-(nth t i - nth t k))] else []
def risRow (t h : List Int) (i : Nat) : Nat → List RisB
  | 0 => []
  | k + 1 => risRow t h i k ++ rp t h i k
def risAll (t h : List Int) : Nat → List RisB
  | 0 => []
  | i + 1 => risAll t h i ++ risRow t h i i
theorem rp_len (t h : List Int) (i k : Nat) : (rp t h i k).length ≤ 1 := by
  unfold rp
  split
  · simp
  · split <;> simp
theorem risRow_len (t h : List Int) (i : Nat) : ∀ k, (risRow t h i k).length ≤ k
  | 0 => Nat.le_refl _
  | k + 1 => by
    have h1 := risRow_len t h i k
    have h2 := rp_len t h i k
    show (risRow t h i k ++ rp t h i k).length ≤ _
    rw [List.length_append]; omega
theorem risAll_len (t h : List Int) : ∀ i, (risAll t h i).length ≤ i * i
  | 0 => Nat.le_refl _
  | i + 1 => by
    have h1 := risAll_len t h i
    have h2 := risRow_len t h i i
    show (risAll t h i ++ risRow t h i i).length ≤ _
    rw [List.length_append, Nat.succ_mul, Nat.mul_succ]; omega
def srtR (l : List RisB) : List RisB := l.mergeSort fun x y => risLe x.1 y.1
theorem srtR_perm (l : List RisB) : (srtR l).Perm l := List.mergeSort_perm l _
theorem srtR_len (l : List RisB) : (srtR l).length = l.length := List.length_mergeSort l
theorem srtR_pair (l : List RisB) : (srtR l).Pairwise fun x y => risLe x.1 y.1 = true := by
  refine List.pairwise_mergeSort (le := fun x y : RisB => risLe x.1 y.1) (fun a b c h1 h2 => ?_) (fun a b => ?_) l
  · have ha := a.2; have hb := b.2; have hc := c.2
    exact risLe_tr (by omega) (by omega) (by omega) h1 h2
  · rcases risLe_tot a.1 b.1 with h | h <;> simp [h]
/-- The lower median of the quotients. -/
def lnP (l : List RisB) : RisV := ((srtR l)[(l.length - 1) / 2]?.getD default).1
/-- Whichever way the list was sorted: the same fraction. -/
theorem lnP_any {l l' : List RisB} {x : RisB} (hp : l'.Perm l) (hs : l'.Pairwise fun x y => risLe x.1 y.1 = true) (hx : l'[(l.length - 1) / 2]? = some x) :
    mkN (1000 * x.1.h) x.1.t = mkN (1000 * (lnP l).h) (lnP l).t ∧ mkD (1000 * x.1.h) x.1.t = mkD (1000 * (lnP l).h) (lnP l).t ∧ mkBig (1000 * x.1.h) x.1.t = mkBig (1000 * (lnP l).h) (lnP l).t := by
  obtain ⟨hk, e⟩ := List.getElem?_eq_some_iff.1 hx
  have hk2 : (l.length - 1) / 2 < (srtR l).length := by rw [srtR_len]; have := hp.length_eq; omega
  have hq := kth_quot (a := l'.map (·.1)) (b := (srtR l).map (·.1)) (k := (l.length - 1) / 2) (fun y hy => by
      obtain ⟨z, _, rfl⟩ := List.mem_map.1 hy
      have := z.2; omega) (List.pairwise_map.2 hs) (List.pairwise_map.2 (srtR_pair l)) ((hp.trans (srtR_perm l).symm).map _) (by simpa using hk) (by simpa using hk2)
  simp only [List.getElem_map] at hq
  have e2 : lnP l = ((srtR l)[(l.length - 1) / 2]).1 := by unfold lnP; rw [List.getElem?_eq_getElem hk2]; rfl
  rw [e2, ← e]
  have h1 := (l'[(l.length - 1) / 2]).2
  have h2 := ((srtR l)[(l.length - 1) / 2]).2
  refine mk_same (by omega) (by omega) ?_
  rw [Int.mul_assoc, Int.mul_assoc, hq]
/-- Line's error, slope, level. -/
def lnE (t h : List Int) : Int := if chkE t h ≠ 0 then chkE t h else if risAll t h t.length = [] then 12
  else if mkBig (1000 * (lnP (risAll t h t.length)).h) (lnP (risAll t h t.length)).t = true ∨ slpB (mkN (1000 * (lnP (risAll t h t.length)).h) (lnP (risAll t h t.length)).t) (mkD (1000 * (lnP (risAll t h t.length)).h) (lnP (risAll t h t.length)).t) = false then 5 else 0
def lnN (t h : List Int) : Int := if lnE t h = 0 then mkN (1000 * (lnP (risAll t h t.length)).h) (lnP (risAll t h t.length)).t else 0
def lnD (t h : List Int) : Int := if lnE t h = 0 then mkD (1000 * (lnP (risAll t h t.length)).h) (lnP (risAll t h t.length)).t else 0
def lnK (t h : List Int) : Int := if lnE t h = 0 then medI (resK t h (lnN t h) (lnD t h) t.length) else 0
theorem ite_bd (c : Bool) {x : Nat} (h : x ≤ 1073741824) : -1073741824 ≤ (if c = true then -(x : Int) else (x : Int)) ∧ (if c = true then -(x : Int) else (x : Int)) ≤ 1073741824 := by
  cases c <;> simp <;> omega
theorem mk_ok {a b : Int} (hb : 1 ≤ b) (h : mkBig a b = false) : SlOk (mkN a b) (mkD a b) := by
  unfold mkBig at h
  simp only [Bool.or_eq_false_iff, decide_eq_false_iff_not] at h
  have hd : 1 ≤ b.natAbs / Nat.gcd a.natAbs b.natAbs := by
    have hg : 0 < Nat.gcd a.natAbs b.natAbs := Nat.gcd_pos_of_pos_right _ (by omega)
    exact (Nat.one_le_div_iff hg).2 (Nat.gcd_le_right _ (by omega))
  have hn : -1073741824 ≤ mkN a b ∧ mkN a b ≤ 1073741824 := by
    unfold mkN
    exact ite_bd _ (by omega)
  exact ⟨hn.1, hn.2, by unfold mkD; omega, by unfold mkD; omega⟩
theorem chk_bd {t h : List Int} (hc : chkE t h = 0) : t.length = h.length ∧ 1 ≤ t.length ∧ t.length ≤ 1000 ∧ Bd t 86400000 ∧ Bd h 10800000 := by
  unfold chkE at hc
  by_cases c1 : t.length ≠ h.length ∨ t.length < 1 ∨ 1000 < t.length
  · rw [if_pos c1] at hc; cases hc
  · rw [if_neg c1] at hc
    by_cases c2 : outB t 86400000 = true ∨ outB h 10800000 = true
    · rw [if_pos c2] at hc; cases hc
    · have e1 : outB t 86400000 = false := by cases e : outB t 86400000; rfl; exact absurd (.inl e) c2
      have e2 : outB h 10800000 = false := by cases e : outB h 10800000; rfl; exact absurd (.inr e) c2
      exact ⟨by omega, by omega, by omega, outB_bd e1, outB_bd e2⟩
end Go.Proofs.YtejmgdpgngjiiaaGreat
