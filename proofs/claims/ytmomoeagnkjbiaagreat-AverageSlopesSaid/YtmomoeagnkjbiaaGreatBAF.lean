/- Contracts and plain laws, several texts in one: So2; So3; So4; Av4 -/
import Derived.Test.YtmomoeagnkjbiaaGreatProg
import Derived.WalkKit
import Derived.WalkSpells
import Derived.WalkLawsBesides
import Derived.Lib.Hide
import Derived.BigQuiet
import Derived.Test.YtmomoeagnkjbiaaGreatBAA
import Derived.Test.YtmomoeagnkjbiaaGreatBAB
import Derived.Test.YtmomoeagnkjbiaaGreatBAC
import Derived.Test.YtmomoeagnkjbiaaGreatBAD
import Derived.Test.YtmomoeagnkjbiaaGreatBAE
/- The reference of average: Lower, distance. -/
namespace Go.Proofs.YtmomoeagnkjbiaaGreat
open Go.RowKit

set_option maxHeartbeats 2000000 in
set_option maxRecDepth 100000 in
theorem r23_Lower (v : Value) (l : List Int) (w : World) (hs : Sl w v l) (h1 : 1 ≤ l.length) (hn : l.length ≤ 1000000) :
    Calls Tryz.prog 48 #[v] w fun e w' => e = .returned (.int .i64 (medI l)) ∧ ∃ d, w' = bw w d := by
  have HS := Lib.hid (r23_Sorted v l w hs h1 hn)
  obtain ⟨b, o, cap, rfl, -⟩ := hs.open (by omega)
  have HL := Lib.hid (srtI_len l)
  obtain ⟨m, hm⟩ : ∃ m, l.length = m := ⟨_, rfl⟩
  obtain ⟨q, hq⟩ : ∃ q, (m - 1) / 2 = q := ⟨_, rfl⟩
  have hmed : medI l = nth (srtI l) q := by unfold medI; rw [hm, hq]
  rw [hmed]
  rw [hm] at HL HS h1 hn ⊢
  generalize srtI l = L at *
  obtain ⟨X, hX⟩ : ∃ X, X = nth L q := ⟨_, rfl⟩
  rw [← hX]
  have HX := Lib.hid hX
  have HQ : Hid (q < m) := Lib.hid (by omega)
  have k1 : IntKind.i64.wrap ((m : Int) - 1) = (m : Int) - 1 := IntWalk.i64_in _ (by omega)
  have k3 : ((m : Int) - 1).tdiv 2 = (q : Int) := by
    rw [Int.tdiv_eq_ediv_of_nonneg (by omega)]; omega
  have k2 : IntKind.i64.wrap (((m : Int) - 1).tdiv 2) = (q : Int) := by
    rw [k3, IntWalk.i64_in _ (by omega)]
  have x0 : (0 : Int) ≤ (q : Int) := by omega
  have x1 : (q : Int) < (m : Int) := by omega
  clear hs hq hX hmed hm
  refine lay_start ?_
  go_enter Tryz.func48, Tryz.ntmps48
  go_wp2_with fail
  refine HS.out.mono ?_
  rintro e w' ⟨v, d, rfl, rfl, hv⟩
  obtain ⟨g, c, hve, -, -, -⟩ := hv.form1 (by rw [HL.out]; omega)
  rw [HL.out] at hve
  subst hve
  have c1 := hv.cell (i := q) (by rw [HL.out]; exact HQ.out)
  rw [← HX.out] at c1
  have c2 : (lay w [.inr d]).cell? ⟨g, q, none⟩ = some (.int .i64 X) := c1
  rw [show bw w d = lay w [.inr d] from rfl]
  clear hv c1
  go_wp2_with fail
  go_ret
  exact ⟨rfl, lay_ex _ _⟩
set_option maxRecDepth 100000 in
theorem r23_distance (a b : Int) (w : World) (h : -4611686018427387904 ≤ a - b ∧ a - b ≤ 4611686018427387904) :
    Calls Tryz.prog 103 #[.int .i64 a, .int .i64 b] w fun e w' => e = .returned (.int .i64 (max (a - b) (-(a - b)))) ∧ ∃ d, w' = bw w d := by
  have k1 : IntKind.i64.wrap (a - b) = a - b := IntWalk.i64_in _ (by omega)
  have k2 : IntKind.i64.wrap (b - a) = b - a := IntWalk.i64_in _ (by omega)
  by_cases hab : a < b
  · rw [show max (a - b) (-(a - b)) = b - a by omega]
    refine lay_start ?_
    go_enter Tryz.func103, Tryz.ntmps103
    go_wp2_with fail
    go_ret
    exact ⟨rfl, lay_ex _ _⟩
  · rw [show max (a - b) (-(a - b)) = a - b by omega]
    refine lay_start ?_
    go_enter Tryz.func103, Tryz.ntmps103
    go_wp2_with fail
    go_ret
    exact ⟨rfl, lay_ex _ _⟩
end Go.Proofs.YtmomoeagnkjbiaaGreat
/- The reference of average: Outliers. -/
namespace Go.Proofs.YtmomoeagnkjbiaaGreat
open Go.RowKit

theorem lit_b {n : Int} (h : -4611686018427387904 ≤ n ∧ n ≤ 4611686018427387904) : (Lit.int .i64 n).wf = true := by
  simp [Lit.wf, IntKind.min, IntKind.max, IntKind.signed, IntKind.bits]
  omega
theorem take_nth {l : List Int} {k : Nat} (h : k < l.length) : l.take (k + 1) = l.take k ++ [nth l k] := by
  rw [List.take_succ_eq_append_getElem h, nth_lt h]
/-- The outliers up to an index. -/
def outK (F : List Int) (lim : Int) (k : Nat) : List Int := ((List.range k).filter fun i => decide (lim < nth F i)).map Int.ofNat
theorem outK_succ (F : List Int) (lim : Int) (k : Nat) : outK F lim (k + 1) = outK F lim k ++ if lim < nth F k then [(k : Int)] else [] := by
  unfold outK
  rw [List.range_succ, List.filter_append, List.map_append]
  congr 1
  by_cases h : lim < nth F k
  · rw [if_pos h]; simp [h]
  · rw [if_neg h]; simp [h]
theorem outK_len (F : List Int) (lim : Int) (k : Nat) : (outK F lim k).length ≤ k := by
  unfold outK
  rw [List.length_map]
  exact Nat.le_trans (List.length_filter_le _ _) (by simp)
theorem outI_K (l : List Int) (f : Int) : outI l f = outK (farI l) (limI l f) l.length := rfl
theorem far_nth {l : List Int} {k : Nat} (h : k < l.length) : nth (farI l) k = max (nth l k - medI l) (-(nth l k - medI l)) := by
  rw [nth_lt (by rw [farI_len]; exact h), nth_lt h]
  simp [farI]
/-- Bounds of what a list's medians and distances may be. -/
def Bd (l : List Int) (B : Int) : Prop := ∀ i, i < l.length → -B ≤ nth l i ∧ nth l i ≤ B
theorem Bd.mem {l : List Int} {B : Int} (h : Bd l B) : ∀ x ∈ l, -B ≤ x ∧ x ≤ B := by
  intro x hx
  obtain ⟨i, hi, rfl⟩ := List.getElem_of_mem hx
  have := h i hi
  rw [nth_lt hi] at this; exact this
theorem Bd.med {l : List Int} {B : Int} (h : Bd l B) (hl : 1 ≤ l.length) : -B ≤ medI l ∧ medI l ≤ B := h.mem _ (medI_mem (by intro e; rw [e] at hl; simp at hl))
theorem Bd.far {l : List Int} {B : Int} (h : Bd l B) (hl : 1 ≤ l.length) : Bd (farI l) (2 * B) := by
  intro i hi
  rw [farI_len] at hi
  rw [far_nth hi]
  have h1 := h.med hl
  have h2 := h i hi
  omega
theorem far_ne {l : List Int} (hl : 1 ≤ l.length) : farI l ≠ [] := by
  intro e
  have := farI_len l
  rw [e] at this; simp at this; omega
theorem lim_bd {l : List Int} {f : Int} (h : Bd l 1099511627776) (hl : 1 ≤ l.length) (f1 : 1 ≤ f) (f2 : f ≤ 100) : 0 ≤ f * medI (farI l) ∧ f * medI (farI l) ≤ 219902325555200 := by
  have h1 := (h.far hl).med (by rw [farI_len]; exact hl)
  have h2 : 0 ≤ medI (farI l) := farI_med (by intro e; rw [e] at hl; simp at hl)
  generalize medI (farI l) = M at *
  have h3 : 0 ≤ f * M := Int.mul_nonneg (by omega) h2
  have h4 : f * M ≤ 100 * M := Int.mul_le_mul_of_nonneg_right f2 h2
  omega
set_option maxHeartbeats 2000000 in
set_option maxRecDepth 100000 in
theorem r23_Outliers (v : Value) (l : List Int) (f : Int) (w : World) (hs : Sl w v l) (h1 : 1 ≤ l.length) (hn : l.length ≤ 1000000) (hb : Bd l 1099511627776) (f1 : 1 ≤ f) (f2 : f ≤ 100) :
    Calls Tryz.prog 60 #[v, .int .i64 f] w (RwO w (outI l f)) := by
  have HS := Lib.hid hs
  have HM := Lib.hid (fun W h => r23_Lower v l W h h1 hn)
  have HM2 := Lib.hid (fun W v h => r23_Lower v (farI l) W h (by rw [farI_len]; exact h1) (by rw [farI_len]; exact hn))
  have hlb := lim_bd hb h1 f1 f2
  have HD := Lib.hid (fun W i (hi : i < l.length) => r23_distance (nth l i) (medI l) W (by have h2 := hb i hi; have h3 := hb.med h1; omega))
  have HF := Lib.hid (fun i (hi : i < l.length) => far_nth hi)
  have HFb := Lib.hid (hb.far h1)
  have HE := Lib.hid (outI_K l f)
  have HFL := Lib.hid (farI_len l)
  obtain ⟨b, o, cap, rfl, hc, -, hbs, hr⟩ := hs.open (by omega)
  have HR := Lib.hid hr
  obtain ⟨m, hm⟩ : ∃ m, l.length = m := ⟨_, rfl⟩
  obtain ⟨M, hM⟩ : ∃ M, medI l = M := ⟨_, rfl⟩
  obtain ⟨F, hF⟩ : ∃ F, farI l = F := ⟨_, rfl⟩
  obtain ⟨M2, hM2⟩ : ∃ M2, medI (farI l) = M2 := ⟨_, rfl⟩
  have hlim : limI l f = max (f * M2) 100 := by unfold limI; rw [hM2]
  rw [hlim] at HE
  rw [hM2] at hlb
  rw [hF] at HM2 HE HF HFb HFL hM2
  rw [hM] at HM HD HF
  rw [hM2] at HM2
  rw [hm] at HS HM HD HR HF HE HFL h1 hn hc ⊢
  have HX := Lib.hid (fun i (hi : i < m) => (HF.out i hi).symm)
  generalize outI l f = OUT at *
  obtain ⟨p0, p1⟩ := hlb
  obtain ⟨P, hP⟩ : ∃ P, f * M2 = P := ⟨_, rfl⟩
  rw [hP] at p0 p1 HE
  have hP1 : IntKind.i64.wrap (f * M2) = P := by rw [hP]; exact IntWalk.i64_in _ (by omega)
  clear hr hb hm hM hF hM2 hlim hs HF
  refine lay_start ?_
  go_enter Tryz.func60, Tryz.ntmps60
  go_wp2_with fail
  refine (HM.out _ (HS.out.lay _)).mono ?_
  rintro e w' ⟨rfl, dM, rfl⟩
  rw [show bw (lay w []) dM = lay w [.inr dM] from rfl]
  go_wp2_with fail
  go_loopw [6, 7] (fun v6 v7 wr => ∃ (k : Nat) (dd : Ext), k ≤ m ∧ v7 = .int .i64 (k : Int) ∧ wr = lay w [.inr dd] ∧ Ow (lay w [.inr dd]) (lay w []).heap.size v6 (F.take k)) (fun _ v7 _ => m - (intOf v7).toNat)
  case atStart => exact ⟨0, dM, Nat.zero_le _, rfl, rfl, Ow.nil _ _⟩
  case round =>
    obtain ⟨k, dd, hk, rfl, rfl, hO⟩ := hrel
    have HO := Lib.hid hO
    clear hO
    by_cases hlt : k < m
    · have e1 := HR.out k hlt
      have H1 := Lib.hid (fun W => HD.out W k hlt)
      rw [HX.out k hlt] at H1
      have x1 : (k : Int) < (m : Int) := by omega
      have x0 : (0 : Int) ≤ (k : Int) := by omega
      have lw : (Lit.int .i64 (nth F k)).wf = true := lit_b (by have := HFb.out k (by rw [HFL.out]; exact hlt); omega)
      have hlen : (F.take k).length ≤ 1000000000 := by rw [List.length_take]; omega
      have HT := Lib.hid (take_nth (l := F) (k := k) (by rw [HFL.out]; exact hlt))
      generalize nth F k = Q at *
      generalize nth l k = X at *
      generalize F.take k = R at *
      go_wp2_with (first | (go_at_call 103; refine (H1.out _).mono ?_; rintro e w' ⟨rfl, d, rfl⟩) | (at_builtin; refine push_int rfl _ _ rfl (lay w []) _ (Q) 3 _ _ _ ?_ (ow_on (A := [_, _]) HO.out) ?_ rfl rfl (by omega) lw ?_; exact lay_below (A := [_, _, _]); exact lay_get w _ 0 _ rfl; intro v' d' hv'))
      go_roundw
      case rel => exact ⟨k + 1, d', by omega, by go_num, rfl, by rw [HT.out]; exact hv'⟩
      case measure => simp [intOf]; omega
    · obtain rfl : k = m := by omega
      rw [show F.take k = F by rw [← HFL.out, List.take_length]] at HO
      clear HD HX HR HS HM
      go_wp2_with fail
      refine (HM2.out _ _ HO.out.sl).mono ?_
      rintro e w' ⟨rfl, d2, rfl⟩
      rw [lay_bw]
      have HO2 := Lib.hid (ow_on (A := [.inr d2]) HO.out)
      clear HO HM2
      obtain ⟨g, cF, hv6, hg1, hg2, hg3⟩ := HO2.out.form1 (by rw [HFL.out]; exact h1)
      rw [HFL.out] at hv6 hg3
      subst hv6
      obtain ⟨T, hT⟩ : ∃ T, max P 100 = T := ⟨_, rfl⟩
      rw [hT] at HE
      have HOut := HE
      clear HE
      have t0 : 100 ≤ T := by omega
      have fin : ∀ (T : Int), 100 ≤ T → OUT = outK F T k → True := fun _ _ _ => trivial
      obtain ⟨d3, e3⟩ : ∃ x, lay w [.inr d2, .inr dd] = lay w [.inr x] := ⟨_, bw_bw _ _ _⟩
      replace HO2 : Hid (Ow (lay w [.inr d2, .inr dd]) (lay w []).heap.size (.slice (some ⟨g, 0, none⟩) k cF) F) := HO2
      rw [show lay w ([Sum.inr d2] ++ [Sum.inr dd]) = lay w [.inr d2, .inr dd] from rfl, e3] at hg2
      rw [e3] at HO2 ⊢
      clear e3 fin
      by_cases hP2 : P < 100
      · have hT2 : T = 100 := by omega
        subst hT2
        go_wp2_with fail
        go_loopw [9, 10] (fun v9 v10 wr => ∃ (i : Nat) (dd : Ext), i ≤ k ∧ v10 = .int .i64 (i : Int) ∧ wr = lay w [.inr dd, .inr d3] ∧ Ow (lay w [.inr dd, .inr d3]) (lay w [.inr d3]).heap.size v9 (outK F 100 i)) (fun _ v10 _ => k - (intOf v10).toNat)
        case atStart => exact ⟨0, noExt _, Nat.zero_le _, rfl, (bw_noExt _).symm, Ow.nil _ _⟩
        case round =>
          obtain ⟨i, da, hi, rfl, rfl, hO⟩ := hrel
          have HO := Lib.hid hO
          clear hO
          by_cases hlt2 : i < k
          · have e1 := (ow_on (A := [.inr da]) HO2.out).cell (i := i) (by rw [HFL.out]; exact hlt2)
            have c1 : (lay w [.inr da, .inr d3]).cell? ⟨g, i, none⟩ = some (.int .i64 (nth F i)) := e1
            have x1 : (i : Int) < (k : Int) := by omega
            have x0 : (0 : Int) ≤ (i : Int) := by omega
            have hst := outK_succ F 100 i
            have hlen : (outK F 100 i).length ≤ 1000000000 := Nat.le_trans (outK_len _ _ _) (by omega)
            have lw : (Lit.int .i64 (i : Int)).wf = true := lit_b (by omega)
            clear e1
            by_cases hf : 100 < nth F i
            · rw [if_pos hf] at hst
              have HST := Lib.hid hst
              clear hst
              generalize nth F i = Q at *
              generalize outK F 100 i = R at *
              go_wp2_with (at_builtin; refine push_int rfl _ _ rfl (lay w [.inr d3]) _ ((i : Int)) 3 _ _ _ ?_ (ow_on (A := [_]) HO.out) ?_ rfl rfl (by omega) lw ?_; exact lay_below (A := [_, _]); exact lay_get w _ 0 _ rfl; intro v' d' hv')
              go_roundw
              case rel => exact ⟨i + 1, d', by omega, by go_num, rfl, by rw [HST.out]; exact hv'⟩
              case measure => simp [intOf]; omega
            · rw [if_neg hf, List.append_nil] at hst
              have HST := Lib.hid hst
              clear hst
              generalize nth F i = Q at *
              generalize outK F 100 i = R at *
              go_wp2_with fail
              go_roundw
              case rel => exact ⟨i + 1, da, by omega, by go_num, rfl, by rw [HST.out]; exact HO.out⟩
              case measure => simp [intOf]; omega
          · obtain rfl : i = k := by omega
            go_wp2_with fail
            go_ret
            obtain ⟨y, hy⟩ := lay_ex w [.inr da, .inr d3]
            exact ⟨_, y, rfl, hy, by rw [← hy, HOut.out]; exact HO.out.le (lay_below (w := w) (A := [.inr d3]) (B := [])).size⟩
      · obtain rfl : T = P := by omega
        go_wp2_with fail
        go_loopw [9, 10] (fun v9 v10 wr => ∃ (i : Nat) (dd : Ext), i ≤ k ∧ v10 = .int .i64 (i : Int) ∧ wr = lay w [.inr dd, .inr d3] ∧ Ow (lay w [.inr dd, .inr d3]) (lay w [.inr d3]).heap.size v9 (outK F T i)) (fun _ v10 _ => k - (intOf v10).toNat)
        case atStart => exact ⟨0, noExt _, Nat.zero_le _, rfl, (bw_noExt _).symm, Ow.nil _ _⟩
        case round =>
          obtain ⟨i, da, hi, rfl, rfl, hO⟩ := hrel
          have HO := Lib.hid hO
          clear hO
          by_cases hlt2 : i < k
          · have e1 := (ow_on (A := [.inr da]) HO2.out).cell (i := i) (by rw [HFL.out]; exact hlt2)
            have c1 : (lay w [.inr da, .inr d3]).cell? ⟨g, i, none⟩ = some (.int .i64 (nth F i)) := e1
            have x1 : (i : Int) < (k : Int) := by omega
            have x0 : (0 : Int) ≤ (i : Int) := by omega
            have hst := outK_succ F T i
            have hlen : (outK F T i).length ≤ 1000000000 := Nat.le_trans (outK_len _ _ _) (by omega)
            have lw : (Lit.int .i64 (i : Int)).wf = true := lit_b (by omega)
            clear e1
            by_cases hf : T < nth F i
            · rw [if_pos hf] at hst
              have HST := Lib.hid hst
              clear hst
              generalize nth F i = Q at *
              generalize outK F T i = R at *
              go_wp2_with (at_builtin; refine push_int rfl _ _ rfl (lay w [.inr d3]) _ ((i : Int)) 3 _ _ _ ?_ (ow_on (A := [_]) HO.out) ?_ rfl rfl (by omega) lw ?_; exact lay_below (A := [_, _]); exact lay_get w _ 0 _ rfl; intro v' d' hv')
              go_roundw
              case rel => exact ⟨i + 1, d', by omega, by go_num, rfl, by rw [HST.out]; exact hv'⟩
              case measure => simp [intOf]; omega
            · rw [if_neg hf, List.append_nil] at hst
              have HST := Lib.hid hst
              clear hst
              generalize nth F i = Q at *
              generalize outK F T i = R at *
              go_wp2_with fail
              go_roundw
              case rel => exact ⟨i + 1, da, by omega, by go_num, rfl, by rw [HST.out]; exact HO.out⟩
              case measure => simp [intOf]; omega
          · obtain rfl : i = k := by omega
            go_wp2_with fail
            go_ret
            obtain ⟨y, hy⟩ := lay_ex w [.inr da, .inr d3]
            exact ⟨_, y, rfl, hy, by rw [← hy, HOut.out]; exact HO.out.le (lay_below (w := w) (A := [.inr d3]) (B := [])).size⟩
end Go.Proofs.YtmomoeagnkjbiaaGreat
/- The reference of average: factored, Reject. -/
namespace Go.Proofs.YtmomoeagnkjbiaaGreat
open Go.RowKit

/-- The error of a list and a factor, and the outliers. -/
def rejE (l : List Int) (f : Int) : Int := if l.length < 1 ∨ 1000 < l.length then 3 else if f < 1 ∨ 100 < f ∨ outB l 1099511627776 = true then 2 else 0
def rejL (l : List Int) (f : Int) : List Int := if rejE l f = 0 then outI l f else []
def RwE (w : World) (l : List Int) (x : Int) (e : Ending) (w' : World) : Prop := ∃ v d, e = .returned (.tuple #[v, .int .i64 x]) ∧ w' = bw w d ∧ Ow (bw w d) w.heap.size v l
theorem rejL_ne {l : List Int} {f : Int} (h : rejE l f ≠ 0) : rejL l f = [] := if_neg h
theorem rejL_eq {l : List Int} {f : Int} (h : rejE l f = 0) : rejL l f = outI l f := if_pos h
theorem outB_bd {l : List Int} {B : Int} (h : outB l B = false) : Bd l B := by
  intro i hi
  unfold outB at h
  have := List.any_eq_false.1 h (nth l i) (by rw [nth_lt hi]; exact List.getElem_mem hi)
  simp at this; omega
theorem outB_out {l : List Int} {B : Int} {i : Nat} (hi : i < l.length) (h : nth l i < -B ∨ B < nth l i) : outB l B = true := by
  unfold outB
  refine List.any_eq_true.2 ⟨nth l i, by rw [nth_lt hi]; exact List.getElem_mem hi, ?_⟩
  simp; omega
theorem outB_in {l : List Int} {B : Int} (h : Bd l B) : outB l B = false := by
  unfold outB
  refine List.any_eq_false.2 fun x hx => ?_
  have := h.mem x hx
  simp; omega
set_option maxRecDepth 100000 in
theorem r23_factored (f : Int) (w : World) :
    Calls Tryz.prog 101 #[.int .i64 f] w fun e w' => e = .returned (.bool (decide (1 ≤ f ∧ f ≤ 100))) ∧ ∃ d, w' = bw w d := by
  by_cases h1 : f < 1
  · rw [decide_eq_false (by omega)]
    have y1 : ¬ 1 ≤ f := by omega
    refine lay_start ?_
    go_enter Tryz.func101, Tryz.ntmps101
    go_wp2_with fail
    go_ret
    exact ⟨rfl, lay_ex _ _⟩
  · have y1 : 1 ≤ f := by omega
    by_cases h2 : f ≤ 100
    · rw [decide_eq_true (by omega)]
      refine lay_start ?_
      go_enter Tryz.func101, Tryz.ntmps101
      go_wp2_with fail
      go_ret
      exact ⟨rfl, lay_ex _ _⟩
    · rw [decide_eq_false (by omega)]
      refine lay_start ?_
      go_enter Tryz.func101, Tryz.ntmps101
      go_wp2_with fail
      go_ret
      exact ⟨rfl, lay_ex _ _⟩
theorem rwe_nil {w : World} {L : List (Obj ⊕ Ext)} {x : Int} {e : Ending} (he : e = .returned (.tuple #[.slice none 0 0, .int .i64 x])) : RwE w [] x e (lay w L) := by
  obtain ⟨d, hd⟩ := lay_ex w L
  exact ⟨_, d, he, hd, Ow.nil _ _⟩
end Go.Proofs.YtmomoeagnkjbiaaGreat
/- average: floor, residual, slopes, check. -/
namespace Go.Proofs.YtmomoeagnkjbiaaGreat
open Go.RowKit

set_option maxHeartbeats 400000 in
theorem av_floor (a b : Int) (w : World) (hb : 1 ≤ b) (h1 : -9223372036854775807 ≤ a) (h2 : a ≤ 9223372036854775807) :
    Calls Tryz.prog 56 #[.int .i64 a, .int .i64 b] w fun e w' => e = .returned (.int .i64 (a / b)) ∧ w' = w := by
  go_enter Tryz.func56, Tryz.ntmps56
  go_wp2
  · go_ret
    refine ⟨congrArg (fun x => Ending.returned (.int .i64 x)) ?_, rfl⟩
    rw [IntWalk.wrap64_in]
    · exact floor_neg hb ‹_›
    · rw [floor_neg hb ‹_›]; have := ediv_bd hb 9223372036854775807 (by decide) h1 h2; omega
  · go_ret
    exact ⟨congrArg (fun x => Ending.returned (.int .i64 x)) (floor_pos hb ‹_›), rfl⟩
/-- Bounds of a product. -/
theorem mul_in {x k : Int} (X K : Int) (hX : -X ≤ x ∧ x ≤ X) (hK : -K ≤ k ∧ k ≤ K) (h0 : 0 ≤ X) : -(X * K) ≤ x * k ∧ x * k ≤ X * K := by
  have h1 : (x * k).natAbs ≤ X.natAbs * K.natAbs := by rw [Int.natAbs_mul]; exact Nat.mul_le_mul (by omega) (by omega)
  have h2 : ((X.natAbs * K.natAbs : Nat) : Int) = X * K := by
    rw [Int.natCast_mul, Int.natAbs_of_nonneg h0, Int.natAbs_of_nonneg (by omega)]
  rw [← h2]
  omega
structure SlOk (n d : Int) : Prop where
  n1 : -1073741824 ≤ n
  n2 : n ≤ 1073741824
  d1 : 1 ≤ d
  d2 : d ≤ 1073741824
theorem res_bd {t n d : Int} (hs : SlOk n d) (t1 : -172800000 ≤ t ∧ t ≤ 172800000) : -371085174374400000 ≤ 2 * n * t ∧ 2 * n * t ≤ 371085174374400000 ∧ -371085174374400000 ≤ 1000 * d - 2 * n * t - 1000 * d ∧ -372158916198400000 ≤ (1000 * d - 2 * n * t) / (2000 * d) ∧ (1000 * d - 2 * n * t) / (2000 * d) ≤ 372158916198400000 := by
  obtain ⟨n1, n2, d1, d2⟩ := hs
  have h2 := mul_in (x := 2 * n) (k := t) 2147483648 172800000 (by omega) t1 (by decide)
  generalize 2 * n * t = P at *
  have h3 := ediv_bd (a := 1000 * d - P) (b := 2000 * d) (by omega) 372158916198400000 (by decide) (by omega) (by omega)
  omega
set_option maxRecDepth 100000 in
theorem av_residual (t h n d : Int) (w : World) (hs : SlOk n d) (t1 : -172800000 ≤ t ∧ t ≤ 172800000) (h1 : -1099511627776 ≤ h ∧ h ≤ 1099511627776) :
    Calls Tryz.prog 93 #[.int .i64 t, .int .i64 h, (.agg #[.int .i64 (n), .int .i64 (d)])] w fun e w' => e = .returned (.int .i64 (resI t h n d)) ∧ ∃ d, w' = bw w d := by
  obtain ⟨b1, b2, -, b3, b4⟩ := res_bd hs t1
  obtain ⟨n1, n2, d1, d2⟩ := hs
  unfold resI
  have HF := Lib.hid (fun W => av_floor (1000 * d - 2 * n * t) (2000 * d) W (by omega) (by omega) (by omega))
  have k1 : IntKind.i64.wrap (1000 * d) = 1000 * d := IntWalk.i64_in _ (by omega)
  have k2 : IntKind.i64.wrap (2 * n) = 2 * n := IntWalk.i64_in _ (by omega)
  have k3 : IntKind.i64.wrap (2 * n * t) = 2 * n * t := IntWalk.i64_in _ (by omega)
  have k4 : IntKind.i64.wrap (1000 * d - 2 * n * t) = 1000 * d - 2 * n * t := IntWalk.i64_in _ (by omega)
  have k5 : IntKind.i64.wrap (2000 * d) = 2000 * d := IntWalk.i64_in _ (by omega)
  have k6 : IntKind.i64.wrap (h + (1000 * d - 2 * n * t) / (2000 * d)) = h + (1000 * d - 2 * n * t) / (2000 * d) := IntWalk.i64_in _ (by omega)
  obtain ⟨Q, hQ⟩ : ∃ Q, (1000 * d - 2 * n * t) / (2000 * d) = Q := ⟨_, rfl⟩
  rw [hQ] at HF k6 ⊢
  obtain ⟨P, hP⟩ : ∃ P, 2 * n * t = P := ⟨_, rfl⟩
  have k3' : IntKind.i64.wrap (2 * n * t) = P := k3.trans hP
  clear k3
  rw [hP] at HF k4
  clear hQ b1 b2 b3 b4 hP
  refine lay_start ?_
  go_enter Tryz.func93, Tryz.ntmps93
  go_wp2_with (go_at_call 56; refine (HF.out _).mono ?_; rintro e w' ⟨rfl, rfl⟩)
  go_ret
  exact ⟨rfl, lay_ex _ _⟩
def slpB (n d : Int) : Bool := decide (-1000 * d ≤ n ∧ n ≤ 1000 * d)
set_option maxRecDepth 100000 in
theorem av_slopes (n d : Int) (w : World) (hs : SlOk n d) :
    Calls Tryz.prog 42 #[(.agg #[.int .i64 (n), .int .i64 (d)])] w fun e w' => e = .returned (.bool (slpB n d)) ∧ ∃ d, w' = bw w d := by
  obtain ⟨n1, n2, d1, d2⟩ := hs
  have HS := Lib.hid (fun W => av_size n W (by omega) (by omega))
  have k1 : IntKind.i64.wrap (1000 * d) = 1000 * d := IntWalk.i64_in _ (by omega)
  have e : slpB n d = decide (max n (-n) ≤ 1000 * d) := by unfold slpB; rw [decide_eq_decide]; omega
  rw [e]
  generalize max n (-n) = M at *
  clear e n1 n2 d1 d2
  refine lay_start ?_
  go_enter Tryz.func42, Tryz.ntmps42
  go_wp2_with fail
  refine region_bw (by kernel_rfl) (by kernel_rfl) ?_
  repeat (go_big_quiet_step ((first | (go_at_call 67; exact bq (HS.out _) (fun d => lay_join _ _ _ d)))))
  refine wpQuiet_nil ?_
  rintro w' ⟨d, rfl⟩
  rw [lay_bw]
  go_wp2_with fail
  go_ret
  exact ⟨rfl, lay_ex _ _⟩
/-- The error of times and readings. -/
def chkE (t h : List Int) : Int := if t.length ≠ h.length ∨ t.length < 1 ∨ 1000 < t.length then 3 else if outB t 86400000 = true ∨ outB h 10800000 = true then 2 else 0
set_option maxHeartbeats 1000000 in
set_option maxRecDepth 100000 in
theorem av_check (vt vh : Value) (t h : List Int) (w : World) (ht : Sl w vt t) (hh : Sl w vh h) :
    Calls Tryz.prog 38 #[vt, vh] w fun e w' => e = .returned (.int .i64 (chkE t h)) ∧ ∃ d, w' = bw w d := by
  have H1 := Lib.hid (fun W (q : Sl W vt t) => av_outside vt t 86400000 W q (by decide) (by decide))
  have H2 := Lib.hid (fun W (q : Sl W vh h) => av_outside vh h 10800000 W q (by decide) (by decide))
  have HT := Lib.hid ht
  have HH := Lib.hid hh
  obtain ⟨a1, c1, rfl, -⟩ := ht
  obtain ⟨a2, c2, rfl, -⟩ := hh
  unfold chkE
  obtain ⟨m, hm⟩ : ∃ m, t.length = m := ⟨_, rfl⟩
  obtain ⟨q, hq⟩ : ∃ q, h.length = q := ⟨_, rfl⟩
  rw [hm] at H1 HT ⊢
  rw [hq] at H2 HH ⊢
  clear hm hq
  by_cases e1 : m = q
  · subst e1
    have t1 : ((m : Int) == (m : Int)) = true := beq_iff_eq.2 rfl
    have t3 : ((m : Int) != (m : Int)) = false := by rw [bne, t1]; rfl
    by_cases e2 : m < 1
    · rw [if_pos (by omega)]
      have x1 : (m : Int) < 1 := by omega
      refine lay_start ?_
      go_enter Tryz.func38, Tryz.ntmps38
      go_wp2_with fail
      go_ret
      exact ⟨rfl, lay_ex _ _⟩
    · have x1 : ¬ (m : Int) < 1 := by omega
      by_cases e3 : 1000 < m
      · rw [if_pos (by omega)]
        have x2 : (1000 : Int) < (m : Int) := by omega
        refine lay_start ?_
        go_enter Tryz.func38, Tryz.ntmps38
        go_wp2_with fail
        go_ret
        exact ⟨rfl, lay_ex _ _⟩
      · rw [if_neg (by omega)]
        have x2 : ¬ (1000 : Int) < (m : Int) := by omega
        cases ho : outB t 86400000
        · cases ho2 : outB h 10800000
          · rw [ho] at H1
            rw [ho2] at H2
            rw [if_neg (by simp)]
            clear ho ho2
            refine lay_start ?_
            go_enter Tryz.func38, Tryz.ntmps38
            go_wp2_with (go_at_call 66; first | (with_reducible refine (H1.out _ (HT.out.lay _)).mono ?_; rintro e w' ⟨rfl, dA, rfl⟩) | (with_reducible refine (H2.out _ (HH.out.lay _)).mono ?_; rintro e w' ⟨rfl, dB, rfl⟩))
            go_ret
            exact ⟨rfl, lay_ex _ _⟩
          · rw [ho] at H1
            rw [ho2] at H2
            rw [if_pos (by simp)]
            clear ho ho2
            refine lay_start ?_
            go_enter Tryz.func38, Tryz.ntmps38
            go_wp2_with (go_at_call 66; first | (with_reducible refine (H1.out _ (HT.out.lay _)).mono ?_; rintro e w' ⟨rfl, dA, rfl⟩) | (with_reducible refine (H2.out _ (HH.out.lay _)).mono ?_; rintro e w' ⟨rfl, dB, rfl⟩))
            go_ret
            exact ⟨rfl, lay_ex _ _⟩
        · rw [ho] at H1
          rw [if_pos (by simp)]
          clear ho
          refine lay_start ?_
          go_enter Tryz.func38, Tryz.ntmps38
          go_wp2_with (go_at_call 66; with_reducible refine (H1.out _ (HT.out.lay _)).mono ?_; rintro e w' ⟨rfl, dA, rfl⟩)
          go_ret
          exact ⟨rfl, lay_ex _ _⟩
  · rw [if_pos (by omega)]
    have t1 : ((m : Int) == (q : Int)) = false := beq_eq_false_iff_ne.2 (by omega)
    have t3 : ((m : Int) != (q : Int)) = true := by rw [bne, t1]; rfl
    refine lay_start ?_
    go_enter Tryz.func38, Tryz.ntmps38
    go_wp2_with fail
    go_ret
    exact ⟨rfl, lay_ex _ _⟩
end Go.Proofs.YtmomoeagnkjbiaaGreat
