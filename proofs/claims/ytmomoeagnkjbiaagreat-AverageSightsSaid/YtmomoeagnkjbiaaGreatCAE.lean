/- Contracts and plain laws, several texts in one: So3; Plain; Idx; Av2 -/
import Derived.Test.YtmomoeagnkjbiaaGreatProg
import Derived.WalkKit
import Derived.WalkSpells
import Derived.WalkLawsBesides
import Derived.Lib.Hide
import Derived.BigQuiet
import Derived.Shelf.Abstract
import Derived.Test.YtmomoeagnkjbiaaGreatCAA
import Derived.Test.YtmomoeagnkjbiaaGreatCAB
import Derived.Test.YtmomoeagnkjbiaaGreatCAD
/- The reference of average: Outliers. -/
namespace Go.Proofs.YtmomoeagnkjbiaaGreat
open Go.RowKit

theorem lit_b {n : Int} (h : -4611686018427387904 ≤ n ∧ n ≤ 4611686018427387904) : (Lit.int .i64 n).wf = true := by
  simp [Lit.wf, IntKind.min, IntKind.max, IntKind.signed, IntKind.bits]
  omega
theorem take_nth {l : List Int} {k : Nat} (h : k < l.length) : l.take (k + 1) = l.take k ++ [nth l k] := by
  rw [List.take_succ_eq_append_getElem h, nth_lt h]
/-- The outliers up to an index. -/
def outK (F : List Int) (lim : Int) (k : Nat) : List Int := ((List.range k).filter fun i => decide (lim < nth F i)).map Int.ofNat
theorem outK_succ (F : List Int) (lim : Int) (k : Nat) : outK F lim (k + 1) = outK F lim k ++ if lim < nth F k then [(k : Int)] else [] := by
  unfold outK
  rw [List.range_succ, List.filter_append, List.map_append]
  congr 1
  by_cases h : lim < nth F k
  · rw [if_pos h]; simp [h]
  · rw [if_neg h]; simp [h]
theorem outK_len (F : List Int) (lim : Int) (k : Nat) : (outK F lim k).length ≤ k := by
  unfold outK
  rw [List.length_map]
  exact Nat.le_trans (List.length_filter_le _ _) (by simp)
theorem outI_K (l : List Int) (f : Int) : outI l f = outK (farI l) (limI l f) l.length := rfl
theorem far_nth {l : List Int} {k : Nat} (h : k < l.length) : nth (farI l) k = max (nth l k - medI l) (-(nth l k - medI l)) := by
  rw [nth_lt (by rw [farI_len]; exact h), nth_lt h]
  simp [farI]
/-- Bounds of what a list's medians and distances may be. -/
def Bd (l : List Int) (B : Int) : Prop := ∀ i, i < l.length → -B ≤ nth l i ∧ nth l i ≤ B
theorem Bd.mem {l : List Int} {B : Int} (h : Bd l B) : ∀ x ∈ l, -B ≤ x ∧ x ≤ B := by
  intro x hx
  obtain ⟨i, hi, rfl⟩ := List.getElem_of_mem hx
  have := h i hi
  rw [nth_lt hi] at this; exact this
theorem Bd.med {l : List Int} {B : Int} (h : Bd l B) (hl : 1 ≤ l.length) : -B ≤ medI l ∧ medI l ≤ B := h.mem _ (medI_mem (by intro e; rw [e] at hl; simp at hl))
theorem Bd.far {l : List Int} {B : Int} (h : Bd l B) (hl : 1 ≤ l.length) : Bd (farI l) (2 * B) := by
  intro i hi
  rw [farI_len] at hi
  rw [far_nth hi]
  have h1 := h.med hl
  have h2 := h i hi
  omega
theorem far_ne {l : List Int} (hl : 1 ≤ l.length) : farI l ≠ [] := by
  intro e
  have := farI_len l
  rw [e] at this; simp at this; omega
theorem lim_bd {l : List Int} {f : Int} (h : Bd l 1099511627776) (hl : 1 ≤ l.length) (f1 : 1 ≤ f) (f2 : f ≤ 100) : 0 ≤ f * medI (farI l) ∧ f * medI (farI l) ≤ 219902325555200 := by
  have h1 := (h.far hl).med (by rw [farI_len]; exact hl)
  have h2 : 0 ≤ medI (farI l) := farI_med (by intro e; rw [e] at hl; simp at hl)
  generalize medI (farI l) = M at *
  have h3 : 0 ≤ f * M := Int.mul_nonneg (by omega) h2
  have h4 : f * M ≤ 100 * M := Int.mul_le_mul_of_nonneg_right f2 h2
  omega
set_option maxHeartbeats 2000000 in
set_option maxRecDepth 100000 in
theorem r23_Outliers (v : Value) (l : List Int) (f : Int) (w : World) (hs : Sl w v l) (h1 : 1 ≤ l.length) (hn : l.length ≤ 1000000) (hb : Bd l 1099511627776) (f1 : 1 ≤ f) (f2 : f ≤ 100) :
    Calls Tryz.prog 60 #[v, .int .i64 f] w (RwO w (outI l f)) := by
  have HS := Lib.hid hs
  have HM := Lib.hid (fun W h => r23_Lower v l W h h1 hn)
  have HM2 := Lib.hid (fun W v h => r23_Lower v (farI l) W h (by rw [farI_len]; exact h1) (by rw [farI_len]; exact hn))
  have hlb := lim_bd hb h1 f1 f2
  have HD := Lib.hid (fun W i (hi : i < l.length) => r23_distance (nth l i) (medI l) W (by have h2 := hb i hi; have h3 := hb.med h1; omega))
  have HF := Lib.hid (fun i (hi : i < l.length) => far_nth hi)
  have HFb := Lib.hid (hb.far h1)
  have HE := Lib.hid (outI_K l f)
  have HFL := Lib.hid (farI_len l)
  obtain ⟨b, o, cap, rfl, hc, -, hbs, hr⟩ := hs.open (by omega)
  have HR := Lib.hid hr
  obtain ⟨m, hm⟩ : ∃ m, l.length = m := ⟨_, rfl⟩
  obtain ⟨M, hM⟩ : ∃ M, medI l = M := ⟨_, rfl⟩
  obtain ⟨F, hF⟩ : ∃ F, farI l = F := ⟨_, rfl⟩
  obtain ⟨M2, hM2⟩ : ∃ M2, medI (farI l) = M2 := ⟨_, rfl⟩
  have hlim : limI l f = max (f * M2) 100 := by unfold limI; rw [hM2]
  rw [hlim] at HE
  rw [hM2] at hlb
  rw [hF] at HM2 HE HF HFb HFL hM2
  rw [hM] at HM HD HF
  rw [hM2] at HM2
  rw [hm] at HS HM HD HR HF HE HFL h1 hn hc ⊢
  have HX := Lib.hid (fun i (hi : i < m) => (HF.out i hi).symm)
  generalize outI l f = OUT at *
  obtain ⟨p0, p1⟩ := hlb
  obtain ⟨P, hP⟩ : ∃ P, f * M2 = P := ⟨_, rfl⟩
  rw [hP] at p0 p1 HE
  have hP1 : IntKind.i64.wrap (f * M2) = P := by rw [hP]; exact IntWalk.i64_in _ (by omega)
  clear hr hb hm hM hF hM2 hlim hs HF
  refine lay_start ?_
  go_enter Tryz.func60, Tryz.ntmps60
  go_wp2_with fail
  refine (HM.out _ (HS.out.lay _)).mono ?_
  rintro e w' ⟨rfl, dM, rfl⟩
  rw [show bw (lay w []) dM = lay w [.inr dM] from rfl]
  go_wp2_with fail
  go_loopw [6, 7] (fun v6 v7 wr => ∃ (k : Nat) (dd : Ext), k ≤ m ∧ v7 = .int .i64 (k : Int) ∧ wr = lay w [.inr dd] ∧ Ow (lay w [.inr dd]) (lay w []).heap.size v6 (F.take k)) (fun _ v7 _ => m - (intOf v7).toNat)
  case atStart => exact ⟨0, dM, Nat.zero_le _, rfl, rfl, Ow.nil _ _⟩
  case round =>
    obtain ⟨k, dd, hk, rfl, rfl, hO⟩ := hrel
    have HO := Lib.hid hO
    clear hO
    by_cases hlt : k < m
    · have e1 := HR.out k hlt
      have H1 := Lib.hid (fun W => HD.out W k hlt)
      rw [HX.out k hlt] at H1
      have x1 : (k : Int) < (m : Int) := by omega
      have x0 : (0 : Int) ≤ (k : Int) := by omega
      have lw : (Lit.int .i64 (nth F k)).wf = true := lit_b (by have := HFb.out k (by rw [HFL.out]; exact hlt); omega)
      have hlen : (F.take k).length ≤ 1000000000 := by rw [List.length_take]; omega
      have HT := Lib.hid (take_nth (l := F) (k := k) (by rw [HFL.out]; exact hlt))
      generalize nth F k = Q at *
      generalize nth l k = X at *
      generalize F.take k = R at *
      go_wp2_with (first | (go_at_call 103; refine (H1.out _).mono ?_; rintro e w' ⟨rfl, d, rfl⟩) | (at_builtin; refine push_int rfl _ _ rfl (lay w []) _ (Q) 3 _ _ _ ?_ (ow_on (A := [_, _]) HO.out) ?_ rfl rfl (by omega) lw ?_; exact lay_below (A := [_, _, _]); exact lay_get w _ 0 _ rfl; intro v' d' hv'))
      go_roundw
      case rel => exact ⟨k + 1, d', by omega, by go_num, rfl, by rw [HT.out]; exact hv'⟩
      case measure => simp [intOf]; omega
    · obtain rfl : k = m := by omega
      rw [show F.take k = F by rw [← HFL.out, List.take_length]] at HO
      clear HD HX HR HS HM
      go_wp2_with fail
      refine (HM2.out _ _ HO.out.sl).mono ?_
      rintro e w' ⟨rfl, d2, rfl⟩
      rw [lay_bw]
      have HO2 := Lib.hid (ow_on (A := [.inr d2]) HO.out)
      clear HO HM2
      obtain ⟨g, cF, hv6, hg1, hg2, hg3⟩ := HO2.out.form1 (by rw [HFL.out]; exact h1)
      rw [HFL.out] at hv6 hg3
      subst hv6
      obtain ⟨T, hT⟩ : ∃ T, max P 100 = T := ⟨_, rfl⟩
      rw [hT] at HE
      have HOut := HE
      clear HE
      have t0 : 100 ≤ T := by omega
      have fin : ∀ (T : Int), 100 ≤ T → OUT = outK F T k → True := fun _ _ _ => trivial
      obtain ⟨d3, e3⟩ : ∃ x, lay w [.inr d2, .inr dd] = lay w [.inr x] := ⟨_, bw_bw _ _ _⟩
      replace HO2 : Hid (Ow (lay w [.inr d2, .inr dd]) (lay w []).heap.size (.slice (some ⟨g, 0, none⟩) k cF) F) := HO2
      rw [show lay w ([Sum.inr d2] ++ [Sum.inr dd]) = lay w [.inr d2, .inr dd] from rfl, e3] at hg2
      rw [e3] at HO2 ⊢
      clear e3 fin
      by_cases hP2 : P < 100
      · have hT2 : T = 100 := by omega
        subst hT2
        go_wp2_with fail
        go_loopw [9, 10] (fun v9 v10 wr => ∃ (i : Nat) (dd : Ext), i ≤ k ∧ v10 = .int .i64 (i : Int) ∧ wr = lay w [.inr dd, .inr d3] ∧ Ow (lay w [.inr dd, .inr d3]) (lay w [.inr d3]).heap.size v9 (outK F 100 i)) (fun _ v10 _ => k - (intOf v10).toNat)
        case atStart => exact ⟨0, noExt _, Nat.zero_le _, rfl, (bw_noExt _).symm, Ow.nil _ _⟩
        case round =>
          obtain ⟨i, da, hi, rfl, rfl, hO⟩ := hrel
          have HO := Lib.hid hO
          clear hO
          by_cases hlt2 : i < k
          · have e1 := (ow_on (A := [.inr da]) HO2.out).cell (i := i) (by rw [HFL.out]; exact hlt2)
            have c1 : (lay w [.inr da, .inr d3]).cell? ⟨g, i, none⟩ = some (.int .i64 (nth F i)) := e1
            have x1 : (i : Int) < (k : Int) := by omega
            have x0 : (0 : Int) ≤ (i : Int) := by omega
            have hst := outK_succ F 100 i
            have hlen : (outK F 100 i).length ≤ 1000000000 := Nat.le_trans (outK_len _ _ _) (by omega)
            have lw : (Lit.int .i64 (i : Int)).wf = true := lit_b (by omega)
            clear e1
            by_cases hf : 100 < nth F i
            · rw [if_pos hf] at hst
              have HST := Lib.hid hst
              clear hst
              generalize nth F i = Q at *
              generalize outK F 100 i = R at *
              go_wp2_with (at_builtin; refine push_int rfl _ _ rfl (lay w [.inr d3]) _ ((i : Int)) 3 _ _ _ ?_ (ow_on (A := [_]) HO.out) ?_ rfl rfl (by omega) lw ?_; exact lay_below (A := [_, _]); exact lay_get w _ 0 _ rfl; intro v' d' hv')
              go_roundw
              case rel => exact ⟨i + 1, d', by omega, by go_num, rfl, by rw [HST.out]; exact hv'⟩
              case measure => simp [intOf]; omega
            · rw [if_neg hf, List.append_nil] at hst
              have HST := Lib.hid hst
              clear hst
              generalize nth F i = Q at *
              generalize outK F 100 i = R at *
              go_wp2_with fail
              go_roundw
              case rel => exact ⟨i + 1, da, by omega, by go_num, rfl, by rw [HST.out]; exact HO.out⟩
              case measure => simp [intOf]; omega
          · obtain rfl : i = k := by omega
            go_wp2_with fail
            go_ret
            obtain ⟨y, hy⟩ := lay_ex w [.inr da, .inr d3]
            exact ⟨_, y, rfl, hy, by rw [← hy, HOut.out]; exact HO.out.le (lay_below (w := w) (A := [.inr d3]) (B := [])).size⟩
      · obtain rfl : T = P := by omega
        go_wp2_with fail
        go_loopw [9, 10] (fun v9 v10 wr => ∃ (i : Nat) (dd : Ext), i ≤ k ∧ v10 = .int .i64 (i : Int) ∧ wr = lay w [.inr dd, .inr d3] ∧ Ow (lay w [.inr dd, .inr d3]) (lay w [.inr d3]).heap.size v9 (outK F T i)) (fun _ v10 _ => k - (intOf v10).toNat)
        case atStart => exact ⟨0, noExt _, Nat.zero_le _, rfl, (bw_noExt _).symm, Ow.nil _ _⟩
        case round =>
          obtain ⟨i, da, hi, rfl, rfl, hO⟩ := hrel
          have HO := Lib.hid hO
          clear hO
          by_cases hlt2 : i < k
          · have e1 := (ow_on (A := [.inr da]) HO2.out).cell (i := i) (by rw [HFL.out]; exact hlt2)
            have c1 : (lay w [.inr da, .inr d3]).cell? ⟨g, i, none⟩ = some (.int .i64 (nth F i)) := e1
            have x1 : (i : Int) < (k : Int) := by omega
            have x0 : (0 : Int) ≤ (i : Int) := by omega
            have hst := outK_succ F T i
            have hlen : (outK F T i).length ≤ 1000000000 := Nat.le_trans (outK_len _ _ _) (by omega)
            have lw : (Lit.int .i64 (i : Int)).wf = true := lit_b (by omega)
            clear e1
            by_cases hf : T < nth F i
            · rw [if_pos hf] at hst
              have HST := Lib.hid hst
              clear hst
              generalize nth F i = Q at *
              generalize outK F T i = R at *
              go_wp2_with (at_builtin; refine push_int rfl _ _ rfl (lay w [.inr d3]) _ ((i : Int)) 3 _ _ _ ?_ (ow_on (A := [_]) HO.out) ?_ rfl rfl (by omega) lw ?_; exact lay_below (A := [_, _]); exact lay_get w _ 0 _ rfl; intro v' d' hv')
              go_roundw
              case rel => exact ⟨i + 1, d', by omega, by go_num, rfl, by rw [HST.out]; exact hv'⟩
              case measure => simp [intOf]; omega
            · rw [if_neg hf, List.append_nil] at hst
              have HST := Lib.hid hst
              clear hst
              generalize nth F i = Q at *
              generalize outK F T i = R at *
              go_wp2_with fail
              go_roundw
              case rel => exact ⟨i + 1, da, by omega, by go_num, rfl, by rw [HST.out]; exact HO.out⟩
              case measure => simp [intOf]; omega
          · obtain rfl : i = k := by omega
            go_wp2_with fail
            go_ret
            obtain ⟨y, hy⟩ := lay_ex w [.inr da, .inr d3]
            exact ⟨_, y, rfl, hy, by rw [← hy, HOut.out]; exact HO.out.le (lay_below (w := w) (A := [.inr d3]) (B := [])).size⟩
end Go.Proofs.YtmomoeagnkjbiaaGreat
/- Plain facts on integers: quotients rounded down and up, as Go reckons them. No program in sight. -/
namespace Go.Proofs.YtmomoeagnkjbiaaGreat
theorem floor_neg {a b : Int} (hb : 1 ≤ b) (h : a.tmod b < 0) : a.tdiv b - 1 = a / b := by
  have h1 := Int.tmod_add_mul_tdiv a b
  have h2 : -b < a.tmod b := by have := Int.lt_tmod_of_pos a (by omega : 0 < b); omega
  symm
  rw [Int.ediv_eq_iff_of_pos (by omega), Int.sub_mul, Int.mul_comm (a.tdiv b) b]
  omega
theorem floor_pos {a b : Int} (hb : 1 ≤ b) (h : 0 ≤ a.tmod b) : a.tdiv b = a / b := by
  have h1 := Int.tmod_add_mul_tdiv a b
  have h2 : a.tmod b < b := Int.tmod_lt_of_pos a (by omega)
  symm
  rw [Int.ediv_eq_iff_of_pos (by omega), Int.mul_comm (a.tdiv b) b]
  omega
theorem tdiv_bd {a b : Int} (hb : 1 ≤ b) (L : Int) (h0 : 0 ≤ L) (h1 : -L ≤ a) (h2 : a ≤ L) : -L ≤ a.tdiv b ∧ a.tdiv b ≤ L := by
  have h3 := Int.tmod_add_mul_tdiv a b
  rcases Int.lt_or_le a 0 with h | h
  · have e : a.tdiv b = -((-a) / b) := by rw [← Int.tdiv_eq_ediv_of_nonneg (by omega), Int.neg_tdiv, Int.neg_neg]
    have := Int.ediv_nonneg (show 0 ≤ -a by omega) (show 0 ≤ b by omega)
    have := Int.ediv_le_self b (show 0 ≤ -a by omega)
    omega
  · rw [Int.tdiv_eq_ediv_of_nonneg h]
    have := Int.ediv_nonneg h (show 0 ≤ b by omega)
    have := Int.ediv_le_self b h
    omega
/-- The quotient rounded up. -/
def cdiv (a b : Int) : Int := -((-a) / b)
theorem cdiv_pos {a b : Int} (hb : 1 ≤ b) (h : 0 < a.tmod b) : a.tdiv b + 1 = cdiv a b := by
  unfold cdiv
  have := floor_neg (a := -a) hb (by rw [Int.neg_tmod]; omega)
  rw [Int.neg_tdiv] at this; omega
theorem cdiv_neg {a b : Int} (hb : 1 ≤ b) (h : a.tmod b ≤ 0) : a.tdiv b = cdiv a b := by
  unfold cdiv
  have := floor_pos (a := -a) hb (by rw [Int.neg_tmod]; omega)
  rw [Int.neg_tdiv] at this; omega
theorem ediv_bd {a b : Int} (hb : 1 ≤ b) (L : Int) (h0 : 0 ≤ L) (h1 : -L ≤ a) (h2 : a ≤ L) : -L ≤ a / b ∧ a / b ≤ L := by
  constructor
  · rw [Int.le_ediv_iff_mul_le (by omega)]
    have : L * 1 ≤ L * b := Int.mul_le_mul_of_nonneg_left hb h0
    rw [Int.neg_mul]; omega
  · rcases Int.lt_or_le a 0 with h | h
    · have := Int.ediv_neg_of_neg_of_pos h (show 0 < b by omega); omega
    · have := Int.ediv_le_self b h; omega
theorem cdiv_bd {a b : Int} (hb : 1 ≤ b) (L : Int) (h0 : 0 ≤ L) (h1 : -L ≤ a) (h2 : a ≤ L) : -L ≤ cdiv a b ∧ cdiv a b ≤ L := by
  unfold cdiv
  have := ediv_bd (a := -a) hb L h0 (by omega) (by omega)
  omega
theorem tmod_wrap (n : Int) (c : Int) (hc : 1 ≤ c) : (n.tmod c < 0 → n.tmod c + c = n % c) ∧ (0 ≤ n.tmod c → n.tmod c = n % c) := by
  have h1 := Int.tmod_add_mul_tdiv n c
  have h2 := Int.emod_add_mul_ediv n c
  constructor
  · intro h
    have := floor_neg hc h
    rw [← this, Int.mul_sub] at h2; omega
  · intro h
    have := floor_pos hc h
    rw [← this] at h2; omega
theorem tmod_bd (n c : Int) (hc : 1 ≤ c) : -c < n.tmod c ∧ n.tmod c < c := by
  have := Int.lt_tmod_of_pos n (show 0 < c by omega)
  have := Int.tmod_lt_of_pos n (show 0 < c by omega)
  omega
end Go.Proofs.YtmomoeagnkjbiaaGreat
/- slices.IndexFunc and ContainsFunc at ints, for a closure with whatever captured variables. -/
namespace Go.Proofs.YtmomoeagnkjbiaaGreat
open Go.RowKit

/-- The first place from k on where p holds, or -1. -/
def idxP (l : List Int) (p : Int → Bool) : Nat → Nat → Int
  | _, 0 => -1
  | k, f + 1 => if p (nth l k) then (k : Int) else idxP l p (k + 1) f
theorem idxP_miss {l : List Int} {p : Int → Bool} {k m : Nat} (h : p (nth l k) = false) (hk : k < m) (e : idxP l p 0 m = idxP l p k (m - k)) : idxP l p 0 m = idxP l p (k + 1) (m - (k + 1)) := by
  rw [e, show m - k = (m - (k + 1)) + 1 by omega]
  show (if p (nth l k) then (k : Int) else _) = _
  rw [h]; rfl
theorem idxP_got {l : List Int} {p : Int → Bool} {k m : Nat} (h : p (nth l k) = true) (hk : k < m) (e : idxP l p 0 m = idxP l p k (m - k)) : idxP l p 0 m = (k : Int) := by
  rw [e, show m - k = (m - (k + 1)) + 1 by omega]
  show (if p (nth l k) then (k : Int) else _) = _
  rw [h]; rfl
theorem idxP_spec (l : List Int) (p : Int → Bool) : ∀ f k, k + f = l.length → decide (0 ≤ idxP l p k f) = (l.drop k).any p
  | 0, k, h => by rw [List.drop_of_length_le (by omega)]; rfl
  | f + 1, k, h => by
    have hk : k < l.length := by omega
    rw [List.drop_eq_getElem_cons hk, List.any_cons, ← idxP_spec l p f (k + 1) (by omega)]
    have e : nth l k = l[k] := by unfold nth; simp [List.getD, hk]
    show decide (0 ≤ (if p (nth l k) then (k : Int) else _)) = _
    rw [e]
    cases p l[k]
    · simp
    · simp
theorem idxP_any (l : List Int) (p : Int → Bool) : decide (0 ≤ idxP l p 0 l.length) = l.any p := by rw [idxP_spec l p l.length 0 (by omega)]; rfl

def IdxPost (w : World) (x : Int) (e : Ending) (w' : World) : Prop := e = .returned (.int .i64 x) ∧ ∃ d, w' = bw w d
set_option maxHeartbeats 1000000 in
theorem sl_IndexFuncL (g : FuncId) (lb : List Value) (p : Int → Bool) (v : Value) (l : List Int) (w : World) (hv : Sl w v l)
    (eI : ∀ args w, (callFunc g args).run Tryz.prog w = .ok (.enter g args) w)
    (hf : ∀ i, i < l.length → ∀ d, Calls Tryz.prog g (.int .i64 (nth l i) :: lb).toArray (bw w d) fun e w' => e = .returned (.bool (p (nth l i))) ∧ ∃ d, w' = bw w d) :
    Calls Tryz.prog 155 #[v, .func (.func g) #[] lb.toArray] w (IdxPost w (idxP l p 0 l.length)) := by
  by_cases hz : l = []
  · subst hz
    obtain ⟨a, cap, rfl, -⟩ := hv
    clear hf
    refine lay_start ?_
    go_enter Tryz.func155, Tryz.ntmps155
    go_wp2_with fail
    refine wp_loop_rounds 1 ?_
    rw [rounds_succ]
    go_wp2
    go_ret
    exact ⟨rfl, lay_ex _ _⟩
  · obtain ⟨b, o, cap, rfl, hc, -, hb, hr⟩ := hv.open (List.length_pos_iff.2 hz)
    obtain ⟨m, hm⟩ : ∃ m, l.length = m := ⟨_, rfl⟩
    have HF := Lib.hid (fun i (hi : i < m) d => hf i (by omega) d)
    rw [hm] at hr hc ⊢
    have HR := Lib.hid hr
    clear hf hz hm hr
    refine lay_start ?_
    go_enter Tryz.func155, Tryz.ntmps155
    go_wp2_with fail
    go_loopw [8] (fun i wr => ∃ (k : Nat) (d : Ext), k ≤ m ∧ i = .int .i64 k ∧ wr = lay w [.inr d] ∧ idxP l p 0 m = idxP l p k (m - k)) (fun i _ => m - (intOf i).toNat)
    case atStart => exact ⟨0, noExt _, Nat.zero_le _, rfl, (bw_noExt _).symm, rfl⟩
    case round =>
      obtain ⟨k, d, hk, rfl, rfl, hA⟩ := hrel
      have HA := Lib.hid hA
      clear hA
      by_cases hlt : k < m
      · have e1 := HR.out k hlt
        have H1 := Lib.hid (HF.out k hlt d)
        cases ho : p (nth l k)
        · have HN := Lib.hid (idxP_miss ho hlt HA.out)
          rw [ho] at H1
          clear ho
          generalize nth l k = x at *
          go_wp2_with (refine H1.out.mono ?_; rintro e w' ⟨rfl, d1, rfl⟩)
          go_roundw
          case rel => exact ⟨k + 1, d1, by omega, by go_num, rfl, HN.out⟩
          case measure => simp [intOf]; omega
        · have HN := Lib.hid (idxP_got ho hlt HA.out)
          rw [ho] at H1
          clear ho
          generalize nth l k = x at *
          go_wp2_with (refine H1.out.mono ?_; rintro e w' ⟨rfl, d1, rfl⟩)
          go_ret
          exact ⟨ret_int HN.out.symm, d1, rfl⟩
      · obtain rfl : k = m := by omega
        have HN : Hid ((-1 : Int) = idxP l p 0 k) := Lib.hid (by rw [HA.out, Nat.sub_self]; rfl)
        go_wp2
        go_ret
        exact ⟨ret_int HN.out, lay_ex _ _⟩
set_option maxHeartbeats 1000000 in
theorem sl_ContainsFuncL (g : FuncId) (lb : List Value) (p : Int → Bool) (v : Value) (l : List Int) (w : World) (hv : Sl w v l)
    (eI : ∀ args w, (callFunc g args).run Tryz.prog w = .ok (.enter g args) w)
    (hf : ∀ i, i < l.length → ∀ d, Calls Tryz.prog g (.int .i64 (nth l i) :: lb).toArray (bw w d) fun e w' => e = .returned (.bool (p (nth l i))) ∧ ∃ d, w' = bw w d) :
    Calls Tryz.prog 120 #[v, .func (.func g) #[] lb.toArray] w fun e w' => e = .returned (.bool (l.any p)) ∧ ∃ d, w' = bw w d := by
  have H := Lib.hid (sl_IndexFuncL g lb p v l w hv eI hf)
  rw [← idxP_any l p]
  obtain ⟨a, cap, rfl, -⟩ := hv
  generalize l.length = m at *
  clear hf eI
  generalize idxP l p 0 m = I at *
  go_enter Tryz.func120, Tryz.ntmps120
  go_wp2_with (go_at_call 155; refine H.out.mono ?_; rintro e w' ⟨rfl, d1, rfl⟩)
  go_ret
  exact ⟨rfl, d1, rfl⟩

end Go.Proofs.YtmomoeagnkjbiaaGreat
/- average.outside. -/
namespace Go.Proofs.YtmomoeagnkjbiaaGreat
open Go.RowKit Go.Shelf

set_option maxRecDepth 100000 in
theorem av_outside1 (n lim : Int) (b : Nat) (w : World) (hb : b < w.heap.size) (hc : w.cell? ⟨b, 0, none⟩ = some (.int .i64 lim)) (h1 : 0 ≤ lim) (h2 : lim ≤ 4611686018427387904) :
    Calls Tryz.prog 121 #[.int .i64 n, .pointer (some ⟨b, 0, none⟩)] w fun e w' => e = .returned (.bool (decide (lim < n) || decide (n < -lim))) ∧ ∃ d, w' = bw w d := by
  have k : IntKind.i64.wrap (-lim) = -lim := IntWalk.i64_in _ (by omega)
  have k2 : wrap64 (-lim) = -lim := by unfold wrap64; omega
  have hc' : ∀ L, (lay w L).cell? ⟨b, 0, none⟩ = some (.int .i64 lim) := fun L => (lay_old w L 0 b hb).trans hc
  clear h1 h2
  cases e1 : decide (lim < n)
  · cases e2 : decide (n < -lim)
    · have q1 : ¬ lim < n := of_decide_eq_false e1
      have q2 : ¬ n < -lim := of_decide_eq_false e2
      refine lay_start ?_
      go_enter Tryz.func121, Tryz.ntmps121
      go_wp2_with fail
      go_ret
      exact ⟨rfl, lay_ex _ _⟩
    · have q1 : ¬ lim < n := of_decide_eq_false e1
      have q2 : n < -lim := of_decide_eq_true e2
      refine lay_start ?_
      go_enter Tryz.func121, Tryz.ntmps121
      go_wp2_with fail
      go_ret
      exact ⟨rfl, lay_ex _ _⟩
  · have q1 : lim < n := of_decide_eq_true e1
    refine lay_start ?_
    go_enter Tryz.func121, Tryz.ntmps121
    go_wp2_with fail
    go_ret
    exact ⟨rfl, lay_ex _ _⟩
def outB (l : List Int) (lim : Int) : Bool := l.any fun n => decide (lim < n) || decide (n < -lim)
set_option maxRecDepth 100000 in
theorem av_outside (v : Value) (l : List Int) (lim : Int) (w : World) (hv : Sl w v l) (h1 : 0 ≤ lim) (h2 : lim ≤ 4611686018427387904) :
    Calls Tryz.prog 66 #[v, .int .i64 lim] w fun e w' => e = .returned (.bool (outB l lim)) ∧ ∃ d, w' = bw w d := by
  have eI : ∀ args w, (callFunc 121 args).run Tryz.prog w = .ok (.enter 121 args) w := enters_of Tryz.func121 (by kernel_rfl) rfl
  have HC := Lib.hid (sl_ContainsFuncL 121 [.pointer (some ⟨w.heap.size, 0, none⟩)] (fun n => decide (lim < n) || decide (n < -lim)) v l (lay w [.inl (.cells #[.int .i64 lim] 3 (0, 0))]) (hv.lay _) eI
    (fun i _ d => (av_outside1 (nth l i) lim w.heap.size (bw (lay w [.inl (.cells #[.int .i64 lim] 3 (0, 0))]) d) (by have := bw_le (lay w [.inl (.cells #[.int .i64 lim] 3 (0, 0))]) d; have e : (lay w [.inl (.cells #[.int .i64 lim] 3 (0, 0))]).heap.size = w.heap.size + 1 := World.size_alloc _ _; omega)
      (by
        have e : (lay w [.inl (.cells #[.int .i64 lim] 3 (0, 0))]).heap.size = w.heap.size + 1 := World.size_alloc _ _
        rw [bw_cell _ _ _ _ (by omega)]
        have e2 : (lay w [.inl (.cells #[.int .i64 lim] 3 (0, 0))]).heap[w.heap.size]? = some (.cells #[.int .i64 lim] 3 (0, 0)) := by show (w.heap.push _)[w.heap.size]? = _; simp
        simp [World.cell?, e2]) h1 h2).mono fun e w' ⟨k1, x, k2⟩ => ⟨k1, _, k2.trans (bw_bw _ _ _)⟩))
  unfold outB
  generalize l.any (fun n => decide (lim < n) || decide (n < -lim)) = r at *
  clear hv h1 h2
  refine lay_start ?_
  go_enter Tryz.func66, Tryz.ntmps66
  go_wp2_with fail
  refine HC.out.mono ?_
  rintro e w' ⟨rfl, d, rfl⟩
  go_wp2_with fail
  go_ret
  exact ⟨rfl, lay_ex _ _⟩
end Go.Proofs.YtmomoeagnkjbiaaGreat
