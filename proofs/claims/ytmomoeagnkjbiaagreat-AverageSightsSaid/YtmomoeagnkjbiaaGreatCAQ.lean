/- Contracts and plain laws, several texts in one: R3 -/
import Derived.Test.YtmomoeagnkjbiaaGreatProg
import Derived.WalkKit
import Derived.WalkSpells
import Derived.WalkLawsBesides
import Derived.Lib.Hide
import Derived.BigQuiet
import Derived.Test.YtmomoeagnkjbiaaGreatCAA
import Derived.Test.YtmomoeagnkjbiaaGreatCAB
import Derived.Test.YtmomoeagnkjbiaaGreatCAN
/- The reference's fractions: Make, Valid, Slope1. -/
set_option linter.unusedSimpArgs false
namespace Go.Proofs.YtmomoeagnkjbiaaGreat
open Go.RowKit

theorem tmod_nn (x y : Nat) : (-(x : Int)).tmod (-(y : Int)) = -((x % y : Nat) : Int) := by
  rw [Int.tmod_neg, Int.neg_tmod, Int.tmod_eq_emod_of_nonneg (by omega)]; omega
theorem tdiv_pn (x y : Nat) : (x : Int).tdiv (-(y : Int)) = -((x / y : Nat) : Int) := by
  rw [Int.tdiv_neg, Int.tdiv_eq_ediv_of_nonneg (by omega)]; omega
theorem tdiv_nn (x y : Nat) : (-(x : Int)).tdiv (-(y : Int)) = ((x / y : Nat) : Int) := by
  rw [Int.tdiv_neg, Int.neg_tdiv, Int.tdiv_eq_ediv_of_nonneg (by omega)]; omega
set_option maxHeartbeats 2000000 in
set_option maxRecDepth 100000 in
theorem r3_Make (a b : Int) (w : World) (ha : -4611686018427387904 ≤ a ∧ a ≤ 4611686018427387904) (hb : -4611686018427387904 ≤ b ∧ b ≤ 4611686018427387904) :
    Calls Tryz.prog 37 #[.int .i64 a, .int .i64 b] w fun e w' => e = .returned (.tuple #[(.agg #[.int .i64 (mkNN a b), .int .i64 (mkDD a b)]), .int .i64 (mkE a b)]) ∧ ∃ d, w' = bw w d := by
  by_cases hb0 : b = 0
  · subst hb0
    have e1 : mkE a 0 = 16 := if_pos rfl
    unfold mkNN mkDD
    rw [e1, if_neg (by decide), if_neg (by decide)]
    refine lay_start ?_
    go_enter Tryz.func37, Tryz.ntmps37
    go_wp2_with fail
    exact bodyPost_ret (v := .tuple #[(.agg #[.int .i64 (0), .int .i64 (0)]), .int .i64 16]) (by simp [results, Tryz.results37, go_sem]) rfl ⟨rfl, lay_ex _ _⟩
  · have t1 : (b == 0) = false := beq_eq_false_iff_ne.2 hb0
    obtain ⟨p, hp⟩ : ∃ p, a.natAbs = p := ⟨_, rfl⟩
    obtain ⟨q, hq⟩ : ∃ q, b.natAbs = q := ⟨_, rfl⟩
    have hpb : p ≤ 4611686018427387904 := by omega
    have hqb : 1 ≤ q ∧ q ≤ 4611686018427387904 := by omega
    obtain ⟨g, hg⟩ : ∃ g, Nat.gcd p q = g := ⟨_, rfl⟩
    have hg0 : 1 ≤ g := by rw [← hg]; exact Nat.gcd_pos_of_pos_right _ (by omega)
    have hgq : g ≤ q := by rw [← hg]; exact Nat.gcd_le_right _ (by omega)
    obtain ⟨x, hx⟩ : ∃ x, p / g = x := ⟨_, rfl⟩
    obtain ⟨y, hy⟩ : ∃ y, q / g = y := ⟨_, rfl⟩
    have hxb : x ≤ 4611686018427387904 := by rw [← hx]; exact Nat.le_trans (Nat.div_le_self _ _) hpb
    have hyb : y ≤ 4611686018427387904 := by rw [← hy]; exact Nat.le_trans (Nat.div_le_self _ _) hqb.2
    have hy1 : 1 ≤ y := by rw [← hy]; exact Nat.div_pos hgq (by omega)
    have eN : mkN a b = if decide (a < 0) != decide (b < 0) then -(x : Int) else (x : Int) := by unfold mkN; rw [hp, hq, hg, hx]
    have eD : mkD a b = (y : Int) := by unfold mkD; rw [hp, hq, hg, hy]
    have eB : mkBig a b = (decide (1073741824 < x) || decide (1073741824 < y)) := by unfold mkBig; rw [hp, hq, hg, hx, hy]
    have eE : mkE a b = if mkBig a b = true then 5 else 0 := if_neg hb0
    obtain ⟨P, hP⟩ : ∃ P : Int, (p : Int) = P := ⟨_, rfl⟩
    obtain ⟨Q, hQ⟩ : ∃ Q : Int, (q : Int) = Q := ⟨_, rfl⟩
    obtain ⟨MP, hMP⟩ : ∃ MP : Int, -P = MP := ⟨_, rfl⟩
    obtain ⟨MQ, hMQ⟩ : ∃ MQ : Int, -Q = MQ := ⟨_, rfl⟩
    have HPP := Lib.hid (show MP = -(p : Int) by omega)
    have HQQ := Lib.hid (show MQ = -(q : Int) by omega)
    have HP := Lib.hid hpb
    have HQ := Lib.hid hqb
    have HG := Lib.hid hg
    obtain ⟨GG, hGG⟩ : ∃ GG : Int, -(g : Int) = GG := ⟨_, rfl⟩
    have HGG := Lib.hid hGG
    obtain ⟨X, hX⟩ : ∃ X : Int, (x : Int) = X := ⟨_, rfl⟩
    obtain ⟨Y, hY⟩ : ∃ Y : Int, (y : Int) = Y := ⟨_, rfl⟩
    obtain ⟨MX, hMX⟩ : ∃ MX : Int, -X = MX := ⟨_, rfl⟩
    obtain ⟨MY, hMY⟩ : ∃ MY : Int, -Y = MY := ⟨_, rfl⟩
    have k0 : GG ≠ 0 := by omega
    have k00 : (GG == 0) = false := beq_eq_false_iff_ne.2 k0
    have w1 : IntKind.i64.wrap X = X := IntWalk.i64_in _ (by omega)
    have w2 : IntKind.i64.wrap (-X) = MX := hMX ▸ IntWalk.i64_in _ (by omega)
    have w3 : IntKind.i64.wrap Y = Y := IntWalk.i64_in _ (by omega)
    have w4 : IntKind.i64.wrap (-MY) = Y := by rw [show -MY = Y by omega]; exact IntWalk.i64_in _ (by omega)
    have w5 : IntKind.i64.wrap (-P) = MP := hMP ▸ IntWalk.i64_in _ (by omega)
    have w6 : IntKind.i64.wrap (-Q) = MQ := hMQ ▸ IntWalk.i64_in _ (by omega)
    have y1 : decide (Y < 0) = false := decide_eq_false (by omega)
    have y2 : decide (MY < 0) = true := decide_eq_true (by omega)
    have y3 : decide (Y < 1) = false := decide_eq_false (by omega)
    have f1 : P.tdiv GG = MX := by rw [← hGG, ← hP, tdiv_pn, hx, hX, hMX]
    have f2 : MP.tdiv GG = X := by rw [← hMP, ← hGG, ← hP, tdiv_nn, hx, hX]
    have f3 : Q.tdiv GG = MY := by rw [← hGG, ← hQ, tdiv_pn, hy, hY, hMY]
    have f4 : MQ.tdiv GG = Y := by rw [← hMQ, ← hGG, ← hQ, tdiv_nn, hy, hY]
    have w7 : IntKind.i64.wrap (-MX) = X := by rw [show -MX = X by omega]; exact IntWalk.i64_in _ (by omega)
    have w8 : IntKind.i64.wrap MX = MX := IntWalk.i64_in _ (by omega)
    have w9 : IntKind.i64.wrap MY = MY := IntWalk.i64_in _ (by omega)
    have t1' : (Q == 0) = false := beq_eq_false_iff_ne.2 (by omega)
    have t2' : (MQ == 0) = false := beq_eq_false_iff_ne.2 (by omega)
    have sa : (decide (0 < a) = true ∧ a = P ∧ decide (a < 0) = false) ∨ (decide (0 < a) = false ∧ a = MP ∧ (x ≠ 0 → decide (a < 0) = true)) := by
      by_cases c : 0 < a
      · exact .inl ⟨decide_eq_true c, by omega, decide_eq_false (by omega)⟩
      · refine .inr ⟨decide_eq_false c, by omega, fun h => decide_eq_true ?_⟩
        refine Decidable.byContradiction fun e => h ?_
        rw [← hx, show p = 0 by omega, Nat.zero_div]
    have sb : (decide (0 < b) = true ∧ b = Q ∧ decide (b < 0) = false) ∨ (decide (0 < b) = false ∧ b = MQ ∧ decide (b < 0) = true) := by
      by_cases c : 0 < b
      · exact .inl ⟨decide_eq_true c, by omega, decide_eq_false (by omega)⟩
      · exact .inr ⟨decide_eq_false c, by omega, decide_eq_true (by omega)⟩
    have eN2 : mkN a b = (if decide (0 < a) = decide (0 < b) then X else MX) := by
      rw [eN, ← hMX, ← hX]
      rcases sb with ⟨b1, -, b3⟩ | ⟨b1, -, b3⟩ <;> rcases sa with ⟨a1, -, a3⟩ | ⟨a1, -, a3⟩ <;> rw [a1, b1, b3]
      · rw [a3]; rfl
      · by_cases hx0 : x = 0
        · subst hx0; simp
        · rw [a3 hx0]; rfl
      · rw [a3]; rfl
      · by_cases hx0 : x = 0
        · subst hx0; simp
        · rw [a3 hx0]; rfl
    have cX : (decide (1073741824 < x) = true ∧ decide (1073741824 < X) = true ∧ decide (MX < -1073741824) = true ∧ decide (X < -1073741824) = false ∧ decide (1073741824 < MX) = false) ∨ (decide (1073741824 < x) = false ∧ decide (1073741824 < X) = false ∧ decide (MX < -1073741824) = false ∧ decide (X < -1073741824) = false ∧ decide (1073741824 < MX) = false) := by
      by_cases c : 1073741824 < x
      · exact .inl ⟨decide_eq_true c, decide_eq_true (by omega), decide_eq_true (by omega), decide_eq_false (by omega), decide_eq_false (by omega)⟩
      · exact .inr ⟨decide_eq_false c, decide_eq_false (by omega), decide_eq_false (by omega), decide_eq_false (by omega), decide_eq_false (by omega)⟩
    have cY : (decide (1073741824 < y) = true ∧ decide (1073741824 < Y) = true) ∨ (decide (1073741824 < y) = false ∧ decide (1073741824 < Y) = false) := by
      by_cases c : 1073741824 < y
      · exact .inl ⟨decide_eq_true c, decide_eq_true (by omega)⟩
      · exact .inr ⟨decide_eq_false c, decide_eq_false (by omega)⟩
    unfold mkNN mkDD
    rw [eE, eN2, eD, eB, hY]
    clear eE eN eN2 eD eB hx hy hg hp hq hxb hyb hgq hg0 hpb hqb hy1 ha hb hGG hX hY t1 hP hQ hMX hMY hb0 k00
    have j0 := HPP.out
    have j1 := hMP
    have j2 := hMQ
    clear hMP hMQ j0 j1 j2
    have k00 : (GG == 0) = false := beq_eq_false_iff_ne.2 k0
    rcases sa with ⟨a1, a2, -⟩ | ⟨a1, a2, -⟩ <;> rcases sb with ⟨b1, b2, -⟩ | ⟨b1, b2, -⟩ <;> rcases cX with ⟨x0, x1, x2, x3, x4⟩ | ⟨x0, x1, x2, x3, x4⟩ <;> rcases cY with ⟨z0, z1⟩ | ⟨z0, z1⟩ <;> rw [a1, b1, x0, z0] <;> simp only [Bool.true_or, Bool.or_true, Bool.false_or, Bool.or_false, Bool.false_eq_true, Bool.true_eq_false, (by decide : ((5 : Int) = 0) = False), (by decide : ((0 : Int) = 0) = True), ↓reduceIte] <;> rw [a2, b2] <;> rw [a2] at a1 <;> rw [b2] at b1 <;> clear a2 b2
    all_goals clear x0 z0
    · refine lay_start ?_
      go_enter Tryz.func37, Tryz.ntmps37
      go_wp2_with fail
      go_loopw [6, 7] (fun v6 v7 wr => ∃ (s t : Nat) (S T : Int) (dd : Ext), s ≤ 4611686018427387904 ∧ t ≤ 4611686018427387904 ∧ S = -(s : Int) ∧ T = -(t : Int) ∧ v6 = .int .i64 S ∧ v7 = .int .i64 T ∧ wr = lay w [.inr dd, .inl (.cells #[.int .i64 0, .int .i64 0] 26 (0, 0))] ∧ Nat.gcd s t = g) (fun _ v7 _ => (-(intOf v7)).toNat)
      case atStart => exact ⟨p, q, _, _, noExt _, HP.out, HQ.out.2, HPP.out, HQQ.out, rfl, rfl, (bw_noExt _).symm, HG.out⟩
      case round =>
        obtain ⟨s, t, S, T, dd, hs, ht, hS, hT, rfl, rfl, rfl, hg⟩ := hrel
        by_cases ht0 : T = 0
        · obtain rfl : S = GG := by
            have := HGG.out
            rw [show t = 0 by omega, Nat.gcd_zero_right] at hg
            omega
          subst ht0
          clear hg hS hT hs ht
          go_wp2_with fail
          exact bodyPost_ret (v := .tuple #[(.agg #[.int .i64 (0), .int .i64 (0)]), .int .i64 5]) (by simp [results, Tryz.results37, go_sem]) rfl ⟨rfl, lay_ex _ _⟩
        · have t1 : (T == 0) = false := beq_eq_false_iff_ne.2 ht0
          have t2 : (T != 0) = true := by rw [bne, t1]; rfl
          obtain ⟨r, hr⟩ : ∃ r, s % t = r := ⟨_, rfl⟩
          have hrb : r < t := by rw [← hr]; exact Nat.mod_lt _ (by omega)
          obtain ⟨R, hR⟩ : ∃ R : Int, -(r : Int) = R := ⟨_, rfl⟩
          have j1 : S.tmod T = R := by rw [hS, hT, tmod_nn, hr, hR]
          have j2 : IntKind.i64.wrap R = R := IntWalk.i64_in _ (by omega)
          have HR := Lib.hid (show Nat.gcd t r = g ∧ r < t ∧ R = -(r : Int) ∧ T = -(t : Int) ∧ t ≤ 4611686018427387904 from ⟨by rw [← hg, ← hr, Nat.gcd_comm t, ← Nat.gcd_rec, Nat.gcd_comm], hrb, hR.symm, hT, ht⟩)
          clear hr hg hrb hR hS hT hs ht
          go_wp2_with fail
          refine region_bw (by kernel_rfl) (by kernel_rfl) ?_
          repeat (go_big_quiet_step ((first | fail)))
          refine wpQuiet_nil ?_
          rintro w' ⟨d, rfl⟩
          rw [lay_bw]
          obtain ⟨d3, e3⟩ : ∃ x, lay w [.inr d, .inr dd, .inl (.cells #[.int .i64 0, .int .i64 0] 26 (0, 0))] = lay w [.inr x, .inl (.cells #[.int .i64 0, .int .i64 0] 26 (0, 0))] := ⟨_, bw_bw _ _ _⟩
          rw [e3]
          clear e3
          go_wp2_with fail
          go_roundw
          case rel => exact ⟨t, r, T, R, d3, HR.out.2.2.2.2, by have := HR.out; omega, HR.out.2.2.2.1, HR.out.2.2.1, rfl, rfl, rfl, HR.out.1⟩
          case measure => have := HR.out; simp [intOf]; omega
    · refine lay_start ?_
      go_enter Tryz.func37, Tryz.ntmps37
      go_wp2_with fail
      go_loopw [6, 7] (fun v6 v7 wr => ∃ (s t : Nat) (S T : Int) (dd : Ext), s ≤ 4611686018427387904 ∧ t ≤ 4611686018427387904 ∧ S = -(s : Int) ∧ T = -(t : Int) ∧ v6 = .int .i64 S ∧ v7 = .int .i64 T ∧ wr = lay w [.inr dd, .inl (.cells #[.int .i64 0, .int .i64 0] 26 (0, 0))] ∧ Nat.gcd s t = g) (fun _ v7 _ => (-(intOf v7)).toNat)
      case atStart => exact ⟨p, q, _, _, noExt _, HP.out, HQ.out.2, HPP.out, HQQ.out, rfl, rfl, (bw_noExt _).symm, HG.out⟩
      case round =>
        obtain ⟨s, t, S, T, dd, hs, ht, hS, hT, rfl, rfl, rfl, hg⟩ := hrel
        by_cases ht0 : T = 0
        · obtain rfl : S = GG := by
            have := HGG.out
            rw [show t = 0 by omega, Nat.gcd_zero_right] at hg
            omega
          subst ht0
          clear hg hS hT hs ht
          go_wp2_with fail
          exact bodyPost_ret (v := .tuple #[(.agg #[.int .i64 (0), .int .i64 (0)]), .int .i64 5]) (by simp [results, Tryz.results37, go_sem]) rfl ⟨rfl, lay_ex _ _⟩
        · have t1 : (T == 0) = false := beq_eq_false_iff_ne.2 ht0
          have t2 : (T != 0) = true := by rw [bne, t1]; rfl
          obtain ⟨r, hr⟩ : ∃ r, s % t = r := ⟨_, rfl⟩
          have hrb : r < t := by rw [← hr]; exact Nat.mod_lt _ (by omega)
          obtain ⟨R, hR⟩ : ∃ R : Int, -(r : Int) = R := ⟨_, rfl⟩
          have j1 : S.tmod T = R := by rw [hS, hT, tmod_nn, hr, hR]
          have j2 : IntKind.i64.wrap R = R := IntWalk.i64_in _ (by omega)
          have HR := Lib.hid (show Nat.gcd t r = g ∧ r < t ∧ R = -(r : Int) ∧ T = -(t : Int) ∧ t ≤ 4611686018427387904 from ⟨by rw [← hg, ← hr, Nat.gcd_comm t, ← Nat.gcd_rec, Nat.gcd_comm], hrb, hR.symm, hT, ht⟩)
          clear hr hg hrb hR hS hT hs ht
          go_wp2_with fail
          refine region_bw (by kernel_rfl) (by kernel_rfl) ?_
          repeat (go_big_quiet_step ((first | fail)))
          refine wpQuiet_nil ?_
          rintro w' ⟨d, rfl⟩
          rw [lay_bw]
          obtain ⟨d3, e3⟩ : ∃ x, lay w [.inr d, .inr dd, .inl (.cells #[.int .i64 0, .int .i64 0] 26 (0, 0))] = lay w [.inr x, .inl (.cells #[.int .i64 0, .int .i64 0] 26 (0, 0))] := ⟨_, bw_bw _ _ _⟩
          rw [e3]
          clear e3
          go_wp2_with fail
          go_roundw
          case rel => exact ⟨t, r, T, R, d3, HR.out.2.2.2.2, by have := HR.out; omega, HR.out.2.2.2.1, HR.out.2.2.1, rfl, rfl, rfl, HR.out.1⟩
          case measure => have := HR.out; simp [intOf]; omega
    · refine lay_start ?_
      go_enter Tryz.func37, Tryz.ntmps37
      go_wp2_with fail
      go_loopw [6, 7] (fun v6 v7 wr => ∃ (s t : Nat) (S T : Int) (dd : Ext), s ≤ 4611686018427387904 ∧ t ≤ 4611686018427387904 ∧ S = -(s : Int) ∧ T = -(t : Int) ∧ v6 = .int .i64 S ∧ v7 = .int .i64 T ∧ wr = lay w [.inr dd, .inl (.cells #[.int .i64 0, .int .i64 0] 26 (0, 0))] ∧ Nat.gcd s t = g) (fun _ v7 _ => (-(intOf v7)).toNat)
      case atStart => exact ⟨p, q, _, _, noExt _, HP.out, HQ.out.2, HPP.out, HQQ.out, rfl, rfl, (bw_noExt _).symm, HG.out⟩
      case round =>
        obtain ⟨s, t, S, T, dd, hs, ht, hS, hT, rfl, rfl, rfl, hg⟩ := hrel
        by_cases ht0 : T = 0
        · obtain rfl : S = GG := by
            have := HGG.out
            rw [show t = 0 by omega, Nat.gcd_zero_right] at hg
            omega
          subst ht0
          clear hg hS hT hs ht
          go_wp2_with fail
          exact bodyPost_ret (v := .tuple #[(.agg #[.int .i64 (0), .int .i64 (0)]), .int .i64 5]) (by simp [results, Tryz.results37, go_sem]) rfl ⟨rfl, lay_ex _ _⟩
        · have t1 : (T == 0) = false := beq_eq_false_iff_ne.2 ht0
          have t2 : (T != 0) = true := by rw [bne, t1]; rfl
          obtain ⟨r, hr⟩ : ∃ r, s % t = r := ⟨_, rfl⟩
          have hrb : r < t := by rw [← hr]; exact Nat.mod_lt _ (by omega)
          obtain ⟨R, hR⟩ : ∃ R : Int, -(r : Int) = R := ⟨_, rfl⟩
          have j1 : S.tmod T = R := by rw [hS, hT, tmod_nn, hr, hR]
          have j2 : IntKind.i64.wrap R = R := IntWalk.i64_in _ (by omega)
          have HR := Lib.hid (show Nat.gcd t r = g ∧ r < t ∧ R = -(r : Int) ∧ T = -(t : Int) ∧ t ≤ 4611686018427387904 from ⟨by rw [← hg, ← hr, Nat.gcd_comm t, ← Nat.gcd_rec, Nat.gcd_comm], hrb, hR.symm, hT, ht⟩)
          clear hr hg hrb hR hS hT hs ht
          go_wp2_with fail
          refine region_bw (by kernel_rfl) (by kernel_rfl) ?_
          repeat (go_big_quiet_step ((first | fail)))
          refine wpQuiet_nil ?_
          rintro w' ⟨d, rfl⟩
          rw [lay_bw]
          obtain ⟨d3, e3⟩ : ∃ x, lay w [.inr d, .inr dd, .inl (.cells #[.int .i64 0, .int .i64 0] 26 (0, 0))] = lay w [.inr x, .inl (.cells #[.int .i64 0, .int .i64 0] 26 (0, 0))] := ⟨_, bw_bw _ _ _⟩
          rw [e3]
          clear e3
          go_wp2_with fail
          go_roundw
          case rel => exact ⟨t, r, T, R, d3, HR.out.2.2.2.2, by have := HR.out; omega, HR.out.2.2.2.1, HR.out.2.2.1, rfl, rfl, rfl, HR.out.1⟩
          case measure => have := HR.out; simp [intOf]; omega
    · refine lay_start ?_
      go_enter Tryz.func37, Tryz.ntmps37
      go_wp2_with fail
      go_loopw [6, 7] (fun v6 v7 wr => ∃ (s t : Nat) (S T : Int) (dd : Ext), s ≤ 4611686018427387904 ∧ t ≤ 4611686018427387904 ∧ S = -(s : Int) ∧ T = -(t : Int) ∧ v6 = .int .i64 S ∧ v7 = .int .i64 T ∧ wr = lay w [.inr dd, .inl (.cells #[.int .i64 0, .int .i64 0] 26 (0, 0))] ∧ Nat.gcd s t = g) (fun _ v7 _ => (-(intOf v7)).toNat)
      case atStart => exact ⟨p, q, _, _, noExt _, HP.out, HQ.out.2, HPP.out, HQQ.out, rfl, rfl, (bw_noExt _).symm, HG.out⟩
      case round =>
        obtain ⟨s, t, S, T, dd, hs, ht, hS, hT, rfl, rfl, rfl, hg⟩ := hrel
        by_cases ht0 : T = 0
        · obtain rfl : S = GG := by
            have := HGG.out
            rw [show t = 0 by omega, Nat.gcd_zero_right] at hg
            omega
          subst ht0
          clear hg hS hT hs ht
          go_wp2_with fail
          exact bodyPost_ret (v := .tuple #[(.agg #[.int .i64 (X), .int .i64 (Y)]), .int .i64 0]) (by simp [results, Tryz.results37, go_sem]) rfl ⟨rfl, lay_ex _ _⟩
        · have t1 : (T == 0) = false := beq_eq_false_iff_ne.2 ht0
          have t2 : (T != 0) = true := by rw [bne, t1]; rfl
          obtain ⟨r, hr⟩ : ∃ r, s % t = r := ⟨_, rfl⟩
          have hrb : r < t := by rw [← hr]; exact Nat.mod_lt _ (by omega)
          obtain ⟨R, hR⟩ : ∃ R : Int, -(r : Int) = R := ⟨_, rfl⟩
          have j1 : S.tmod T = R := by rw [hS, hT, tmod_nn, hr, hR]
          have j2 : IntKind.i64.wrap R = R := IntWalk.i64_in _ (by omega)
          have HR := Lib.hid (show Nat.gcd t r = g ∧ r < t ∧ R = -(r : Int) ∧ T = -(t : Int) ∧ t ≤ 4611686018427387904 from ⟨by rw [← hg, ← hr, Nat.gcd_comm t, ← Nat.gcd_rec, Nat.gcd_comm], hrb, hR.symm, hT, ht⟩)
          clear hr hg hrb hR hS hT hs ht
          go_wp2_with fail
          refine region_bw (by kernel_rfl) (by kernel_rfl) ?_
          repeat (go_big_quiet_step ((first | fail)))
          refine wpQuiet_nil ?_
          rintro w' ⟨d, rfl⟩
          rw [lay_bw]
          obtain ⟨d3, e3⟩ : ∃ x, lay w [.inr d, .inr dd, .inl (.cells #[.int .i64 0, .int .i64 0] 26 (0, 0))] = lay w [.inr x, .inl (.cells #[.int .i64 0, .int .i64 0] 26 (0, 0))] := ⟨_, bw_bw _ _ _⟩
          rw [e3]
          clear e3
          go_wp2_with fail
          go_roundw
          case rel => exact ⟨t, r, T, R, d3, HR.out.2.2.2.2, by have := HR.out; omega, HR.out.2.2.2.1, HR.out.2.2.1, rfl, rfl, rfl, HR.out.1⟩
          case measure => have := HR.out; simp [intOf]; omega
    · refine lay_start ?_
      go_enter Tryz.func37, Tryz.ntmps37
      go_wp2_with fail
      go_loopw [6, 7] (fun v6 v7 wr => ∃ (s t : Nat) (S T : Int) (dd : Ext), s ≤ 4611686018427387904 ∧ t ≤ 4611686018427387904 ∧ S = -(s : Int) ∧ T = -(t : Int) ∧ v6 = .int .i64 S ∧ v7 = .int .i64 T ∧ wr = lay w [.inr dd, .inl (.cells #[.int .i64 0, .int .i64 0] 26 (0, 0))] ∧ Nat.gcd s t = g) (fun _ v7 _ => (-(intOf v7)).toNat)
      case atStart => exact ⟨p, q, _, _, noExt _, HP.out, HQ.out.2, HPP.out, HQQ.out, rfl, rfl, (bw_noExt _).symm, HG.out⟩
      case round =>
        obtain ⟨s, t, S, T, dd, hs, ht, hS, hT, rfl, rfl, rfl, hg⟩ := hrel
        by_cases ht0 : T = 0
        · obtain rfl : S = GG := by
            have := HGG.out
            rw [show t = 0 by omega, Nat.gcd_zero_right] at hg
            omega
          subst ht0
          clear hg hS hT hs ht
          go_wp2_with fail
          exact bodyPost_ret (v := .tuple #[(.agg #[.int .i64 (0), .int .i64 (0)]), .int .i64 5]) (by simp [results, Tryz.results37, go_sem]) rfl ⟨rfl, lay_ex _ _⟩
        · have t1 : (T == 0) = false := beq_eq_false_iff_ne.2 ht0
          have t2 : (T != 0) = true := by rw [bne, t1]; rfl
          obtain ⟨r, hr⟩ : ∃ r, s % t = r := ⟨_, rfl⟩
          have hrb : r < t := by rw [← hr]; exact Nat.mod_lt _ (by omega)
          obtain ⟨R, hR⟩ : ∃ R : Int, -(r : Int) = R := ⟨_, rfl⟩
          have j1 : S.tmod T = R := by rw [hS, hT, tmod_nn, hr, hR]
          have j2 : IntKind.i64.wrap R = R := IntWalk.i64_in _ (by omega)
          have HR := Lib.hid (show Nat.gcd t r = g ∧ r < t ∧ R = -(r : Int) ∧ T = -(t : Int) ∧ t ≤ 4611686018427387904 from ⟨by rw [← hg, ← hr, Nat.gcd_comm t, ← Nat.gcd_rec, Nat.gcd_comm], hrb, hR.symm, hT, ht⟩)
          clear hr hg hrb hR hS hT hs ht
          go_wp2_with fail
          refine region_bw (by kernel_rfl) (by kernel_rfl) ?_
          repeat (go_big_quiet_step ((first | fail)))
          refine wpQuiet_nil ?_
          rintro w' ⟨d, rfl⟩
          rw [lay_bw]
          obtain ⟨d3, e3⟩ : ∃ x, lay w [.inr d, .inr dd, .inl (.cells #[.int .i64 0, .int .i64 0] 26 (0, 0))] = lay w [.inr x, .inl (.cells #[.int .i64 0, .int .i64 0] 26 (0, 0))] := ⟨_, bw_bw _ _ _⟩
          rw [e3]
          clear e3
          go_wp2_with fail
          go_roundw
          case rel => exact ⟨t, r, T, R, d3, HR.out.2.2.2.2, by have := HR.out; omega, HR.out.2.2.2.1, HR.out.2.2.1, rfl, rfl, rfl, HR.out.1⟩
          case measure => have := HR.out; simp [intOf]; omega
    · refine lay_start ?_
      go_enter Tryz.func37, Tryz.ntmps37
      go_wp2_with fail
      go_loopw [6, 7] (fun v6 v7 wr => ∃ (s t : Nat) (S T : Int) (dd : Ext), s ≤ 4611686018427387904 ∧ t ≤ 4611686018427387904 ∧ S = -(s : Int) ∧ T = -(t : Int) ∧ v6 = .int .i64 S ∧ v7 = .int .i64 T ∧ wr = lay w [.inr dd, .inl (.cells #[.int .i64 0, .int .i64 0] 26 (0, 0))] ∧ Nat.gcd s t = g) (fun _ v7 _ => (-(intOf v7)).toNat)
      case atStart => exact ⟨p, q, _, _, noExt _, HP.out, HQ.out.2, HPP.out, HQQ.out, rfl, rfl, (bw_noExt _).symm, HG.out⟩
      case round =>
        obtain ⟨s, t, S, T, dd, hs, ht, hS, hT, rfl, rfl, rfl, hg⟩ := hrel
        by_cases ht0 : T = 0
        · obtain rfl : S = GG := by
            have := HGG.out
            rw [show t = 0 by omega, Nat.gcd_zero_right] at hg
            omega
          subst ht0
          clear hg hS hT hs ht
          go_wp2_with fail
          exact bodyPost_ret (v := .tuple #[(.agg #[.int .i64 (0), .int .i64 (0)]), .int .i64 5]) (by simp [results, Tryz.results37, go_sem]) rfl ⟨rfl, lay_ex _ _⟩
        · have t1 : (T == 0) = false := beq_eq_false_iff_ne.2 ht0
          have t2 : (T != 0) = true := by rw [bne, t1]; rfl
          obtain ⟨r, hr⟩ : ∃ r, s % t = r := ⟨_, rfl⟩
          have hrb : r < t := by rw [← hr]; exact Nat.mod_lt _ (by omega)
          obtain ⟨R, hR⟩ : ∃ R : Int, -(r : Int) = R := ⟨_, rfl⟩
          have j1 : S.tmod T = R := by rw [hS, hT, tmod_nn, hr, hR]
          have j2 : IntKind.i64.wrap R = R := IntWalk.i64_in _ (by omega)
          have HR := Lib.hid (show Nat.gcd t r = g ∧ r < t ∧ R = -(r : Int) ∧ T = -(t : Int) ∧ t ≤ 4611686018427387904 from ⟨by rw [← hg, ← hr, Nat.gcd_comm t, ← Nat.gcd_rec, Nat.gcd_comm], hrb, hR.symm, hT, ht⟩)
          clear hr hg hrb hR hS hT hs ht
          go_wp2_with fail
          refine region_bw (by kernel_rfl) (by kernel_rfl) ?_
          repeat (go_big_quiet_step ((first | fail)))
          refine wpQuiet_nil ?_
          rintro w' ⟨d, rfl⟩
          rw [lay_bw]
          obtain ⟨d3, e3⟩ : ∃ x, lay w [.inr d, .inr dd, .inl (.cells #[.int .i64 0, .int .i64 0] 26 (0, 0))] = lay w [.inr x, .inl (.cells #[.int .i64 0, .int .i64 0] 26 (0, 0))] := ⟨_, bw_bw _ _ _⟩
          rw [e3]
          clear e3
          go_wp2_with fail
          go_roundw
          case rel => exact ⟨t, r, T, R, d3, HR.out.2.2.2.2, by have := HR.out; omega, HR.out.2.2.2.1, HR.out.2.2.1, rfl, rfl, rfl, HR.out.1⟩
          case measure => have := HR.out; simp [intOf]; omega
    · refine lay_start ?_
      go_enter Tryz.func37, Tryz.ntmps37
      go_wp2_with fail
      go_loopw [6, 7] (fun v6 v7 wr => ∃ (s t : Nat) (S T : Int) (dd : Ext), s ≤ 4611686018427387904 ∧ t ≤ 4611686018427387904 ∧ S = -(s : Int) ∧ T = -(t : Int) ∧ v6 = .int .i64 S ∧ v7 = .int .i64 T ∧ wr = lay w [.inr dd, .inl (.cells #[.int .i64 0, .int .i64 0] 26 (0, 0))] ∧ Nat.gcd s t = g) (fun _ v7 _ => (-(intOf v7)).toNat)
      case atStart => exact ⟨p, q, _, _, noExt _, HP.out, HQ.out.2, HPP.out, HQQ.out, rfl, rfl, (bw_noExt _).symm, HG.out⟩
      case round =>
        obtain ⟨s, t, S, T, dd, hs, ht, hS, hT, rfl, rfl, rfl, hg⟩ := hrel
        by_cases ht0 : T = 0
        · obtain rfl : S = GG := by
            have := HGG.out
            rw [show t = 0 by omega, Nat.gcd_zero_right] at hg
            omega
          subst ht0
          clear hg hS hT hs ht
          go_wp2_with fail
          exact bodyPost_ret (v := .tuple #[(.agg #[.int .i64 (0), .int .i64 (0)]), .int .i64 5]) (by simp [results, Tryz.results37, go_sem]) rfl ⟨rfl, lay_ex _ _⟩
        · have t1 : (T == 0) = false := beq_eq_false_iff_ne.2 ht0
          have t2 : (T != 0) = true := by rw [bne, t1]; rfl
          obtain ⟨r, hr⟩ : ∃ r, s % t = r := ⟨_, rfl⟩
          have hrb : r < t := by rw [← hr]; exact Nat.mod_lt _ (by omega)
          obtain ⟨R, hR⟩ : ∃ R : Int, -(r : Int) = R := ⟨_, rfl⟩
          have j1 : S.tmod T = R := by rw [hS, hT, tmod_nn, hr, hR]
          have j2 : IntKind.i64.wrap R = R := IntWalk.i64_in _ (by omega)
          have HR := Lib.hid (show Nat.gcd t r = g ∧ r < t ∧ R = -(r : Int) ∧ T = -(t : Int) ∧ t ≤ 4611686018427387904 from ⟨by rw [← hg, ← hr, Nat.gcd_comm t, ← Nat.gcd_rec, Nat.gcd_comm], hrb, hR.symm, hT, ht⟩)
          clear hr hg hrb hR hS hT hs ht
          go_wp2_with fail
          refine region_bw (by kernel_rfl) (by kernel_rfl) ?_
          repeat (go_big_quiet_step ((first | fail)))
          refine wpQuiet_nil ?_
          rintro w' ⟨d, rfl⟩
          rw [lay_bw]
          obtain ⟨d3, e3⟩ : ∃ x, lay w [.inr d, .inr dd, .inl (.cells #[.int .i64 0, .int .i64 0] 26 (0, 0))] = lay w [.inr x, .inl (.cells #[.int .i64 0, .int .i64 0] 26 (0, 0))] := ⟨_, bw_bw _ _ _⟩
          rw [e3]
          clear e3
          go_wp2_with fail
          go_roundw
          case rel => exact ⟨t, r, T, R, d3, HR.out.2.2.2.2, by have := HR.out; omega, HR.out.2.2.2.1, HR.out.2.2.1, rfl, rfl, rfl, HR.out.1⟩
          case measure => have := HR.out; simp [intOf]; omega
    · refine lay_start ?_
      go_enter Tryz.func37, Tryz.ntmps37
      go_wp2_with fail
      go_loopw [6, 7] (fun v6 v7 wr => ∃ (s t : Nat) (S T : Int) (dd : Ext), s ≤ 4611686018427387904 ∧ t ≤ 4611686018427387904 ∧ S = -(s : Int) ∧ T = -(t : Int) ∧ v6 = .int .i64 S ∧ v7 = .int .i64 T ∧ wr = lay w [.inr dd, .inl (.cells #[.int .i64 0, .int .i64 0] 26 (0, 0))] ∧ Nat.gcd s t = g) (fun _ v7 _ => (-(intOf v7)).toNat)
      case atStart => exact ⟨p, q, _, _, noExt _, HP.out, HQ.out.2, HPP.out, HQQ.out, rfl, rfl, (bw_noExt _).symm, HG.out⟩
      case round =>
        obtain ⟨s, t, S, T, dd, hs, ht, hS, hT, rfl, rfl, rfl, hg⟩ := hrel
        by_cases ht0 : T = 0
        · obtain rfl : S = GG := by
            have := HGG.out
            rw [show t = 0 by omega, Nat.gcd_zero_right] at hg
            omega
          subst ht0
          clear hg hS hT hs ht
          go_wp2_with fail
          exact bodyPost_ret (v := .tuple #[(.agg #[.int .i64 (MX), .int .i64 (Y)]), .int .i64 0]) (by simp [results, Tryz.results37, go_sem]) rfl ⟨rfl, lay_ex _ _⟩
        · have t1 : (T == 0) = false := beq_eq_false_iff_ne.2 ht0
          have t2 : (T != 0) = true := by rw [bne, t1]; rfl
          obtain ⟨r, hr⟩ : ∃ r, s % t = r := ⟨_, rfl⟩
          have hrb : r < t := by rw [← hr]; exact Nat.mod_lt _ (by omega)
          obtain ⟨R, hR⟩ : ∃ R : Int, -(r : Int) = R := ⟨_, rfl⟩
          have j1 : S.tmod T = R := by rw [hS, hT, tmod_nn, hr, hR]
          have j2 : IntKind.i64.wrap R = R := IntWalk.i64_in _ (by omega)
          have HR := Lib.hid (show Nat.gcd t r = g ∧ r < t ∧ R = -(r : Int) ∧ T = -(t : Int) ∧ t ≤ 4611686018427387904 from ⟨by rw [← hg, ← hr, Nat.gcd_comm t, ← Nat.gcd_rec, Nat.gcd_comm], hrb, hR.symm, hT, ht⟩)
          clear hr hg hrb hR hS hT hs ht
          go_wp2_with fail
          refine region_bw (by kernel_rfl) (by kernel_rfl) ?_
          repeat (go_big_quiet_step ((first | fail)))
          refine wpQuiet_nil ?_
          rintro w' ⟨d, rfl⟩
          rw [lay_bw]
          obtain ⟨d3, e3⟩ : ∃ x, lay w [.inr d, .inr dd, .inl (.cells #[.int .i64 0, .int .i64 0] 26 (0, 0))] = lay w [.inr x, .inl (.cells #[.int .i64 0, .int .i64 0] 26 (0, 0))] := ⟨_, bw_bw _ _ _⟩
          rw [e3]
          clear e3
          go_wp2_with fail
          go_roundw
          case rel => exact ⟨t, r, T, R, d3, HR.out.2.2.2.2, by have := HR.out; omega, HR.out.2.2.2.1, HR.out.2.2.1, rfl, rfl, rfl, HR.out.1⟩
          case measure => have := HR.out; simp [intOf]; omega
    · refine lay_start ?_
      go_enter Tryz.func37, Tryz.ntmps37
      go_wp2_with fail
      go_loopw [6, 7] (fun v6 v7 wr => ∃ (s t : Nat) (S T : Int) (dd : Ext), s ≤ 4611686018427387904 ∧ t ≤ 4611686018427387904 ∧ S = -(s : Int) ∧ T = -(t : Int) ∧ v6 = .int .i64 S ∧ v7 = .int .i64 T ∧ wr = lay w [.inr dd, .inl (.cells #[.int .i64 0, .int .i64 0] 26 (0, 0))] ∧ Nat.gcd s t = g) (fun _ v7 _ => (-(intOf v7)).toNat)
      case atStart => exact ⟨p, q, _, _, noExt _, HP.out, HQ.out.2, HPP.out, HQQ.out, rfl, rfl, (bw_noExt _).symm, HG.out⟩
      case round =>
        obtain ⟨s, t, S, T, dd, hs, ht, hS, hT, rfl, rfl, rfl, hg⟩ := hrel
        by_cases ht0 : T = 0
        · obtain rfl : S = GG := by
            have := HGG.out
            rw [show t = 0 by omega, Nat.gcd_zero_right] at hg
            omega
          subst ht0
          clear hg hS hT hs ht
          go_wp2_with fail
          exact bodyPost_ret (v := .tuple #[(.agg #[.int .i64 (0), .int .i64 (0)]), .int .i64 5]) (by simp [results, Tryz.results37, go_sem]) rfl ⟨rfl, lay_ex _ _⟩
        · have t1 : (T == 0) = false := beq_eq_false_iff_ne.2 ht0
          have t2 : (T != 0) = true := by rw [bne, t1]; rfl
          obtain ⟨r, hr⟩ : ∃ r, s % t = r := ⟨_, rfl⟩
          have hrb : r < t := by rw [← hr]; exact Nat.mod_lt _ (by omega)
          obtain ⟨R, hR⟩ : ∃ R : Int, -(r : Int) = R := ⟨_, rfl⟩
          have j1 : S.tmod T = R := by rw [hS, hT, tmod_nn, hr, hR]
          have j2 : IntKind.i64.wrap R = R := IntWalk.i64_in _ (by omega)
          have HR := Lib.hid (show Nat.gcd t r = g ∧ r < t ∧ R = -(r : Int) ∧ T = -(t : Int) ∧ t ≤ 4611686018427387904 from ⟨by rw [← hg, ← hr, Nat.gcd_comm t, ← Nat.gcd_rec, Nat.gcd_comm], hrb, hR.symm, hT, ht⟩)
          clear hr hg hrb hR hS hT hs ht
          go_wp2_with fail
          refine region_bw (by kernel_rfl) (by kernel_rfl) ?_
          repeat (go_big_quiet_step ((first | fail)))
          refine wpQuiet_nil ?_
          rintro w' ⟨d, rfl⟩
          rw [lay_bw]
          obtain ⟨d3, e3⟩ : ∃ x, lay w [.inr d, .inr dd, .inl (.cells #[.int .i64 0, .int .i64 0] 26 (0, 0))] = lay w [.inr x, .inl (.cells #[.int .i64 0, .int .i64 0] 26 (0, 0))] := ⟨_, bw_bw _ _ _⟩
          rw [e3]
          clear e3
          go_wp2_with fail
          go_roundw
          case rel => exact ⟨t, r, T, R, d3, HR.out.2.2.2.2, by have := HR.out; omega, HR.out.2.2.2.1, HR.out.2.2.1, rfl, rfl, rfl, HR.out.1⟩
          case measure => have := HR.out; simp [intOf]; omega
    · refine lay_start ?_
      go_enter Tryz.func37, Tryz.ntmps37
      go_wp2_with fail
      go_loopw [6, 7] (fun v6 v7 wr => ∃ (s t : Nat) (S T : Int) (dd : Ext), s ≤ 4611686018427387904 ∧ t ≤ 4611686018427387904 ∧ S = -(s : Int) ∧ T = -(t : Int) ∧ v6 = .int .i64 S ∧ v7 = .int .i64 T ∧ wr = lay w [.inr dd, .inl (.cells #[.int .i64 0, .int .i64 0] 26 (0, 0))] ∧ Nat.gcd s t = g) (fun _ v7 _ => (-(intOf v7)).toNat)
      case atStart => exact ⟨p, q, _, _, noExt _, HP.out, HQ.out.2, HPP.out, HQQ.out, rfl, rfl, (bw_noExt _).symm, HG.out⟩
      case round =>
        obtain ⟨s, t, S, T, dd, hs, ht, hS, hT, rfl, rfl, rfl, hg⟩ := hrel
        by_cases ht0 : T = 0
        · obtain rfl : S = GG := by
            have := HGG.out
            rw [show t = 0 by omega, Nat.gcd_zero_right] at hg
            omega
          subst ht0
          clear hg hS hT hs ht
          go_wp2_with fail
          exact bodyPost_ret (v := .tuple #[(.agg #[.int .i64 (0), .int .i64 (0)]), .int .i64 5]) (by simp [results, Tryz.results37, go_sem]) rfl ⟨rfl, lay_ex _ _⟩
        · have t1 : (T == 0) = false := beq_eq_false_iff_ne.2 ht0
          have t2 : (T != 0) = true := by rw [bne, t1]; rfl
          obtain ⟨r, hr⟩ : ∃ r, s % t = r := ⟨_, rfl⟩
          have hrb : r < t := by rw [← hr]; exact Nat.mod_lt _ (by omega)
          obtain ⟨R, hR⟩ : ∃ R : Int, -(r : Int) = R := ⟨_, rfl⟩
          have j1 : S.tmod T = R := by rw [hS, hT, tmod_nn, hr, hR]
          have j2 : IntKind.i64.wrap R = R := IntWalk.i64_in _ (by omega)
          have HR := Lib.hid (show Nat.gcd t r = g ∧ r < t ∧ R = -(r : Int) ∧ T = -(t : Int) ∧ t ≤ 4611686018427387904 from ⟨by rw [← hg, ← hr, Nat.gcd_comm t, ← Nat.gcd_rec, Nat.gcd_comm], hrb, hR.symm, hT, ht⟩)
          clear hr hg hrb hR hS hT hs ht
          go_wp2_with fail
          refine region_bw (by kernel_rfl) (by kernel_rfl) ?_
          repeat (go_big_quiet_step ((first | fail)))
          refine wpQuiet_nil ?_
          rintro w' ⟨d, rfl⟩
          rw [lay_bw]
          obtain ⟨d3, e3⟩ : ∃ x, lay w [.inr d, .inr dd, .inl (.cells #[.int .i64 0, .int .i64 0] 26 (0, 0))] = lay w [.inr x, .inl (.cells #[.int .i64 0, .int .i64 0] 26 (0, 0))] := ⟨_, bw_bw _ _ _⟩
          rw [e3]
          clear e3
          go_wp2_with fail
          go_roundw
          case rel => exact ⟨t, r, T, R, d3, HR.out.2.2.2.2, by have := HR.out; omega, HR.out.2.2.2.1, HR.out.2.2.1, rfl, rfl, rfl, HR.out.1⟩
          case measure => have := HR.out; simp [intOf]; omega
    · refine lay_start ?_
      go_enter Tryz.func37, Tryz.ntmps37
      go_wp2_with fail
      go_loopw [6, 7] (fun v6 v7 wr => ∃ (s t : Nat) (S T : Int) (dd : Ext), s ≤ 4611686018427387904 ∧ t ≤ 4611686018427387904 ∧ S = -(s : Int) ∧ T = -(t : Int) ∧ v6 = .int .i64 S ∧ v7 = .int .i64 T ∧ wr = lay w [.inr dd, .inl (.cells #[.int .i64 0, .int .i64 0] 26 (0, 0))] ∧ Nat.gcd s t = g) (fun _ v7 _ => (-(intOf v7)).toNat)
      case atStart => exact ⟨p, q, _, _, noExt _, HP.out, HQ.out.2, HPP.out, HQQ.out, rfl, rfl, (bw_noExt _).symm, HG.out⟩
      case round =>
        obtain ⟨s, t, S, T, dd, hs, ht, hS, hT, rfl, rfl, rfl, hg⟩ := hrel
        by_cases ht0 : T = 0
        · obtain rfl : S = GG := by
            have := HGG.out
            rw [show t = 0 by omega, Nat.gcd_zero_right] at hg
            omega
          subst ht0
          clear hg hS hT hs ht
          go_wp2_with fail
          exact bodyPost_ret (v := .tuple #[(.agg #[.int .i64 (0), .int .i64 (0)]), .int .i64 5]) (by simp [results, Tryz.results37, go_sem]) rfl ⟨rfl, lay_ex _ _⟩
        · have t1 : (T == 0) = false := beq_eq_false_iff_ne.2 ht0
          have t2 : (T != 0) = true := by rw [bne, t1]; rfl
          obtain ⟨r, hr⟩ : ∃ r, s % t = r := ⟨_, rfl⟩
          have hrb : r < t := by rw [← hr]; exact Nat.mod_lt _ (by omega)
          obtain ⟨R, hR⟩ : ∃ R : Int, -(r : Int) = R := ⟨_, rfl⟩
          have j1 : S.tmod T = R := by rw [hS, hT, tmod_nn, hr, hR]
          have j2 : IntKind.i64.wrap R = R := IntWalk.i64_in _ (by omega)
          have HR := Lib.hid (show Nat.gcd t r = g ∧ r < t ∧ R = -(r : Int) ∧ T = -(t : Int) ∧ t ≤ 4611686018427387904 from ⟨by rw [← hg, ← hr, Nat.gcd_comm t, ← Nat.gcd_rec, Nat.gcd_comm], hrb, hR.symm, hT, ht⟩)
          clear hr hg hrb hR hS hT hs ht
          go_wp2_with fail
          refine region_bw (by kernel_rfl) (by kernel_rfl) ?_
          repeat (go_big_quiet_step ((first | fail)))
          refine wpQuiet_nil ?_
          rintro w' ⟨d, rfl⟩
          rw [lay_bw]
          obtain ⟨d3, e3⟩ : ∃ x, lay w [.inr d, .inr dd, .inl (.cells #[.int .i64 0, .int .i64 0] 26 (0, 0))] = lay w [.inr x, .inl (.cells #[.int .i64 0, .int .i64 0] 26 (0, 0))] := ⟨_, bw_bw _ _ _⟩
          rw [e3]
          clear e3
          go_wp2_with fail
          go_roundw
          case rel => exact ⟨t, r, T, R, d3, HR.out.2.2.2.2, by have := HR.out; omega, HR.out.2.2.2.1, HR.out.2.2.1, rfl, rfl, rfl, HR.out.1⟩
          case measure => have := HR.out; simp [intOf]; omega
    · refine lay_start ?_
      go_enter Tryz.func37, Tryz.ntmps37
      go_wp2_with fail
      go_loopw [6, 7] (fun v6 v7 wr => ∃ (s t : Nat) (S T : Int) (dd : Ext), s ≤ 4611686018427387904 ∧ t ≤ 4611686018427387904 ∧ S = -(s : Int) ∧ T = -(t : Int) ∧ v6 = .int .i64 S ∧ v7 = .int .i64 T ∧ wr = lay w [.inr dd, .inl (.cells #[.int .i64 0, .int .i64 0] 26 (0, 0))] ∧ Nat.gcd s t = g) (fun _ v7 _ => (-(intOf v7)).toNat)
      case atStart => exact ⟨p, q, _, _, noExt _, HP.out, HQ.out.2, HPP.out, HQQ.out, rfl, rfl, (bw_noExt _).symm, HG.out⟩
      case round =>
        obtain ⟨s, t, S, T, dd, hs, ht, hS, hT, rfl, rfl, rfl, hg⟩ := hrel
        by_cases ht0 : T = 0
        · obtain rfl : S = GG := by
            have := HGG.out
            rw [show t = 0 by omega, Nat.gcd_zero_right] at hg
            omega
          subst ht0
          clear hg hS hT hs ht
          go_wp2_with fail
          exact bodyPost_ret (v := .tuple #[(.agg #[.int .i64 (MX), .int .i64 (Y)]), .int .i64 0]) (by simp [results, Tryz.results37, go_sem]) rfl ⟨rfl, lay_ex _ _⟩
        · have t1 : (T == 0) = false := beq_eq_false_iff_ne.2 ht0
          have t2 : (T != 0) = true := by rw [bne, t1]; rfl
          obtain ⟨r, hr⟩ : ∃ r, s % t = r := ⟨_, rfl⟩
          have hrb : r < t := by rw [← hr]; exact Nat.mod_lt _ (by omega)
          obtain ⟨R, hR⟩ : ∃ R : Int, -(r : Int) = R := ⟨_, rfl⟩
          have j1 : S.tmod T = R := by rw [hS, hT, tmod_nn, hr, hR]
          have j2 : IntKind.i64.wrap R = R := IntWalk.i64_in _ (by omega)
          have HR := Lib.hid (show Nat.gcd t r = g ∧ r < t ∧ R = -(r : Int) ∧ T = -(t : Int) ∧ t ≤ 4611686018427387904 from ⟨by rw [← hg, ← hr, Nat.gcd_comm t, ← Nat.gcd_rec, Nat.gcd_comm], hrb, hR.symm, hT, ht⟩)
          clear hr hg hrb hR hS hT hs ht
          go_wp2_with fail
          refine region_bw (by kernel_rfl) (by kernel_rfl) ?_
          repeat (go_big_quiet_step ((first | fail)))
          refine wpQuiet_nil ?_
          rintro w' ⟨d, rfl⟩
          rw [lay_bw]
          obtain ⟨d3, e3⟩ : ∃ x, lay w [.inr d, .inr dd, .inl (.cells #[.int .i64 0, .int .i64 0] 26 (0, 0))] = lay w [.inr x, .inl (.cells #[.int .i64 0, .int .i64 0] 26 (0, 0))] := ⟨_, bw_bw _ _ _⟩
          rw [e3]
          clear e3
          go_wp2_with fail
          go_roundw
          case rel => exact ⟨t, r, T, R, d3, HR.out.2.2.2.2, by have := HR.out; omega, HR.out.2.2.2.1, HR.out.2.2.1, rfl, rfl, rfl, HR.out.1⟩
          case measure => have := HR.out; simp [intOf]; omega
    · refine lay_start ?_
      go_enter Tryz.func37, Tryz.ntmps37
      go_wp2_with fail
      go_loopw [6, 7] (fun v6 v7 wr => ∃ (s t : Nat) (S T : Int) (dd : Ext), s ≤ 4611686018427387904 ∧ t ≤ 4611686018427387904 ∧ S = -(s : Int) ∧ T = -(t : Int) ∧ v6 = .int .i64 S ∧ v7 = .int .i64 T ∧ wr = lay w [.inr dd, .inl (.cells #[.int .i64 0, .int .i64 0] 26 (0, 0))] ∧ Nat.gcd s t = g) (fun _ v7 _ => (-(intOf v7)).toNat)
      case atStart => exact ⟨p, q, _, _, noExt _, HP.out, HQ.out.2, HPP.out, HQQ.out, rfl, rfl, (bw_noExt _).symm, HG.out⟩
      case round =>
        obtain ⟨s, t, S, T, dd, hs, ht, hS, hT, rfl, rfl, rfl, hg⟩ := hrel
        by_cases ht0 : T = 0
        · obtain rfl : S = GG := by
            have := HGG.out
            rw [show t = 0 by omega, Nat.gcd_zero_right] at hg
            omega
          subst ht0
          clear hg hS hT hs ht
          go_wp2_with fail
          exact bodyPost_ret (v := .tuple #[(.agg #[.int .i64 (0), .int .i64 (0)]), .int .i64 5]) (by simp [results, Tryz.results37, go_sem]) rfl ⟨rfl, lay_ex _ _⟩
        · have t1 : (T == 0) = false := beq_eq_false_iff_ne.2 ht0
          have t2 : (T != 0) = true := by rw [bne, t1]; rfl
          obtain ⟨r, hr⟩ : ∃ r, s % t = r := ⟨_, rfl⟩
          have hrb : r < t := by rw [← hr]; exact Nat.mod_lt _ (by omega)
          obtain ⟨R, hR⟩ : ∃ R : Int, -(r : Int) = R := ⟨_, rfl⟩
          have j1 : S.tmod T = R := by rw [hS, hT, tmod_nn, hr, hR]
          have j2 : IntKind.i64.wrap R = R := IntWalk.i64_in _ (by omega)
          have HR := Lib.hid (show Nat.gcd t r = g ∧ r < t ∧ R = -(r : Int) ∧ T = -(t : Int) ∧ t ≤ 4611686018427387904 from ⟨by rw [← hg, ← hr, Nat.gcd_comm t, ← Nat.gcd_rec, Nat.gcd_comm], hrb, hR.symm, hT, ht⟩)
          clear hr hg hrb hR hS hT hs ht
          go_wp2_with fail
          refine region_bw (by kernel_rfl) (by kernel_rfl) ?_
          repeat (go_big_quiet_step ((first | fail)))
          refine wpQuiet_nil ?_
          rintro w' ⟨d, rfl⟩
          rw [lay_bw]
          obtain ⟨d3, e3⟩ : ∃ x, lay w [.inr d, .inr dd, .inl (.cells #[.int .i64 0, .int .i64 0] 26 (0, 0))] = lay w [.inr x, .inl (.cells #[.int .i64 0, .int .i64 0] 26 (0, 0))] := ⟨_, bw_bw _ _ _⟩
          rw [e3]
          clear e3
          go_wp2_with fail
          go_roundw
          case rel => exact ⟨t, r, T, R, d3, HR.out.2.2.2.2, by have := HR.out; omega, HR.out.2.2.2.1, HR.out.2.2.1, rfl, rfl, rfl, HR.out.1⟩
          case measure => have := HR.out; simp [intOf]; omega
    · refine lay_start ?_
      go_enter Tryz.func37, Tryz.ntmps37
      go_wp2_with fail
      go_loopw [6, 7] (fun v6 v7 wr => ∃ (s t : Nat) (S T : Int) (dd : Ext), s ≤ 4611686018427387904 ∧ t ≤ 4611686018427387904 ∧ S = -(s : Int) ∧ T = -(t : Int) ∧ v6 = .int .i64 S ∧ v7 = .int .i64 T ∧ wr = lay w [.inr dd, .inl (.cells #[.int .i64 0, .int .i64 0] 26 (0, 0))] ∧ Nat.gcd s t = g) (fun _ v7 _ => (-(intOf v7)).toNat)
      case atStart => exact ⟨p, q, _, _, noExt _, HP.out, HQ.out.2, HPP.out, HQQ.out, rfl, rfl, (bw_noExt _).symm, HG.out⟩
      case round =>
        obtain ⟨s, t, S, T, dd, hs, ht, hS, hT, rfl, rfl, rfl, hg⟩ := hrel
        by_cases ht0 : T = 0
        · obtain rfl : S = GG := by
            have := HGG.out
            rw [show t = 0 by omega, Nat.gcd_zero_right] at hg
            omega
          subst ht0
          clear hg hS hT hs ht
          go_wp2_with fail
          exact bodyPost_ret (v := .tuple #[(.agg #[.int .i64 (0), .int .i64 (0)]), .int .i64 5]) (by simp [results, Tryz.results37, go_sem]) rfl ⟨rfl, lay_ex _ _⟩
        · have t1 : (T == 0) = false := beq_eq_false_iff_ne.2 ht0
          have t2 : (T != 0) = true := by rw [bne, t1]; rfl
          obtain ⟨r, hr⟩ : ∃ r, s % t = r := ⟨_, rfl⟩
          have hrb : r < t := by rw [← hr]; exact Nat.mod_lt _ (by omega)
          obtain ⟨R, hR⟩ : ∃ R : Int, -(r : Int) = R := ⟨_, rfl⟩
          have j1 : S.tmod T = R := by rw [hS, hT, tmod_nn, hr, hR]
          have j2 : IntKind.i64.wrap R = R := IntWalk.i64_in _ (by omega)
          have HR := Lib.hid (show Nat.gcd t r = g ∧ r < t ∧ R = -(r : Int) ∧ T = -(t : Int) ∧ t ≤ 4611686018427387904 from ⟨by rw [← hg, ← hr, Nat.gcd_comm t, ← Nat.gcd_rec, Nat.gcd_comm], hrb, hR.symm, hT, ht⟩)
          clear hr hg hrb hR hS hT hs ht
          go_wp2_with fail
          refine region_bw (by kernel_rfl) (by kernel_rfl) ?_
          repeat (go_big_quiet_step ((first | fail)))
          refine wpQuiet_nil ?_
          rintro w' ⟨d, rfl⟩
          rw [lay_bw]
          obtain ⟨d3, e3⟩ : ∃ x, lay w [.inr d, .inr dd, .inl (.cells #[.int .i64 0, .int .i64 0] 26 (0, 0))] = lay w [.inr x, .inl (.cells #[.int .i64 0, .int .i64 0] 26 (0, 0))] := ⟨_, bw_bw _ _ _⟩
          rw [e3]
          clear e3
          go_wp2_with fail
          go_roundw
          case rel => exact ⟨t, r, T, R, d3, HR.out.2.2.2.2, by have := HR.out; omega, HR.out.2.2.2.1, HR.out.2.2.1, rfl, rfl, rfl, HR.out.1⟩
          case measure => have := HR.out; simp [intOf]; omega
    · refine lay_start ?_
      go_enter Tryz.func37, Tryz.ntmps37
      go_wp2_with fail
      go_loopw [6, 7] (fun v6 v7 wr => ∃ (s t : Nat) (S T : Int) (dd : Ext), s ≤ 4611686018427387904 ∧ t ≤ 4611686018427387904 ∧ S = -(s : Int) ∧ T = -(t : Int) ∧ v6 = .int .i64 S ∧ v7 = .int .i64 T ∧ wr = lay w [.inr dd, .inl (.cells #[.int .i64 0, .int .i64 0] 26 (0, 0))] ∧ Nat.gcd s t = g) (fun _ v7 _ => (-(intOf v7)).toNat)
      case atStart => exact ⟨p, q, _, _, noExt _, HP.out, HQ.out.2, HPP.out, HQQ.out, rfl, rfl, (bw_noExt _).symm, HG.out⟩
      case round =>
        obtain ⟨s, t, S, T, dd, hs, ht, hS, hT, rfl, rfl, rfl, hg⟩ := hrel
        by_cases ht0 : T = 0
        · obtain rfl : S = GG := by
            have := HGG.out
            rw [show t = 0 by omega, Nat.gcd_zero_right] at hg
            omega
          subst ht0
          clear hg hS hT hs ht
          go_wp2_with fail
          exact bodyPost_ret (v := .tuple #[(.agg #[.int .i64 (0), .int .i64 (0)]), .int .i64 5]) (by simp [results, Tryz.results37, go_sem]) rfl ⟨rfl, lay_ex _ _⟩
        · have t1 : (T == 0) = false := beq_eq_false_iff_ne.2 ht0
          have t2 : (T != 0) = true := by rw [bne, t1]; rfl
          obtain ⟨r, hr⟩ : ∃ r, s % t = r := ⟨_, rfl⟩
          have hrb : r < t := by rw [← hr]; exact Nat.mod_lt _ (by omega)
          obtain ⟨R, hR⟩ : ∃ R : Int, -(r : Int) = R := ⟨_, rfl⟩
          have j1 : S.tmod T = R := by rw [hS, hT, tmod_nn, hr, hR]
          have j2 : IntKind.i64.wrap R = R := IntWalk.i64_in _ (by omega)
          have HR := Lib.hid (show Nat.gcd t r = g ∧ r < t ∧ R = -(r : Int) ∧ T = -(t : Int) ∧ t ≤ 4611686018427387904 from ⟨by rw [← hg, ← hr, Nat.gcd_comm t, ← Nat.gcd_rec, Nat.gcd_comm], hrb, hR.symm, hT, ht⟩)
          clear hr hg hrb hR hS hT hs ht
          go_wp2_with fail
          refine region_bw (by kernel_rfl) (by kernel_rfl) ?_
          repeat (go_big_quiet_step ((first | fail)))
          refine wpQuiet_nil ?_
          rintro w' ⟨d, rfl⟩
          rw [lay_bw]
          obtain ⟨d3, e3⟩ : ∃ x, lay w [.inr d, .inr dd, .inl (.cells #[.int .i64 0, .int .i64 0] 26 (0, 0))] = lay w [.inr x, .inl (.cells #[.int .i64 0, .int .i64 0] 26 (0, 0))] := ⟨_, bw_bw _ _ _⟩
          rw [e3]
          clear e3
          go_wp2_with fail
          go_roundw
          case rel => exact ⟨t, r, T, R, d3, HR.out.2.2.2.2, by have := HR.out; omega, HR.out.2.2.2.1, HR.out.2.2.1, rfl, rfl, rfl, HR.out.1⟩
          case measure => have := HR.out; simp [intOf]; omega
    · refine lay_start ?_
      go_enter Tryz.func37, Tryz.ntmps37
      go_wp2_with fail
      go_loopw [6, 7] (fun v6 v7 wr => ∃ (s t : Nat) (S T : Int) (dd : Ext), s ≤ 4611686018427387904 ∧ t ≤ 4611686018427387904 ∧ S = -(s : Int) ∧ T = -(t : Int) ∧ v6 = .int .i64 S ∧ v7 = .int .i64 T ∧ wr = lay w [.inr dd, .inl (.cells #[.int .i64 0, .int .i64 0] 26 (0, 0))] ∧ Nat.gcd s t = g) (fun _ v7 _ => (-(intOf v7)).toNat)
      case atStart => exact ⟨p, q, _, _, noExt _, HP.out, HQ.out.2, HPP.out, HQQ.out, rfl, rfl, (bw_noExt _).symm, HG.out⟩
      case round =>
        obtain ⟨s, t, S, T, dd, hs, ht, hS, hT, rfl, rfl, rfl, hg⟩ := hrel
        by_cases ht0 : T = 0
        · obtain rfl : S = GG := by
            have := HGG.out
            rw [show t = 0 by omega, Nat.gcd_zero_right] at hg
            omega
          subst ht0
          clear hg hS hT hs ht
          go_wp2_with fail
          exact bodyPost_ret (v := .tuple #[(.agg #[.int .i64 (X), .int .i64 (Y)]), .int .i64 0]) (by simp [results, Tryz.results37, go_sem]) rfl ⟨rfl, lay_ex _ _⟩
        · have t1 : (T == 0) = false := beq_eq_false_iff_ne.2 ht0
          have t2 : (T != 0) = true := by rw [bne, t1]; rfl
          obtain ⟨r, hr⟩ : ∃ r, s % t = r := ⟨_, rfl⟩
          have hrb : r < t := by rw [← hr]; exact Nat.mod_lt _ (by omega)
          obtain ⟨R, hR⟩ : ∃ R : Int, -(r : Int) = R := ⟨_, rfl⟩
          have j1 : S.tmod T = R := by rw [hS, hT, tmod_nn, hr, hR]
          have j2 : IntKind.i64.wrap R = R := IntWalk.i64_in _ (by omega)
          have HR := Lib.hid (show Nat.gcd t r = g ∧ r < t ∧ R = -(r : Int) ∧ T = -(t : Int) ∧ t ≤ 4611686018427387904 from ⟨by rw [← hg, ← hr, Nat.gcd_comm t, ← Nat.gcd_rec, Nat.gcd_comm], hrb, hR.symm, hT, ht⟩)
          clear hr hg hrb hR hS hT hs ht
          go_wp2_with fail
          refine region_bw (by kernel_rfl) (by kernel_rfl) ?_
          repeat (go_big_quiet_step ((first | fail)))
          refine wpQuiet_nil ?_
          rintro w' ⟨d, rfl⟩
          rw [lay_bw]
          obtain ⟨d3, e3⟩ : ∃ x, lay w [.inr d, .inr dd, .inl (.cells #[.int .i64 0, .int .i64 0] 26 (0, 0))] = lay w [.inr x, .inl (.cells #[.int .i64 0, .int .i64 0] 26 (0, 0))] := ⟨_, bw_bw _ _ _⟩
          rw [e3]
          clear e3
          go_wp2_with fail
          go_roundw
          case rel => exact ⟨t, r, T, R, d3, HR.out.2.2.2.2, by have := HR.out; omega, HR.out.2.2.2.1, HR.out.2.2.1, rfl, rfl, rfl, HR.out.1⟩
          case measure => have := HR.out; simp [intOf]; omega
theorem frac_same {n d : Int} (hn : -1073741824 ≤ n ∧ n ≤ 1073741824) (hd : 1 ≤ d ∧ d ≤ 1073741824) :
    (Nat.gcd n.natAbs d.natAbs == 1) = ((mkNN n d == n) && (mkDD n d == d)) := by
  rw [Bool.eq_iff_iff, Bool.and_eq_true, beq_iff_eq, beq_iff_eq, beq_iff_eq]
  have hE : mkE n d = if mkBig n d = true then 5 else 0 := if_neg (by omega)
  constructor
  · intro h
    have hB : mkBig n d = false := by unfold mkBig; rw [h, Nat.div_one, Nat.div_one, decide_eq_false (by omega), decide_eq_false (by omega)]; rfl
    rw [hB, if_neg (by decide)] at hE
    unfold mkNN mkDD
    rw [hE, if_pos rfl, if_pos rfl]
    unfold mkN mkD
    rw [h, Nat.div_one, Nat.div_one, decide_eq_false (show ¬ d < 0 by omega)]
    refine ⟨?_, by omega⟩
    by_cases c : n < 0
    · rw [decide_eq_true c]; simp; omega
    · rw [decide_eq_false c]; simp; omega
  · rintro ⟨-, h⟩
    unfold mkDD at h
    by_cases c : mkE n d = 0
    · rw [if_pos c] at h
      unfold mkD at h
      have hg : 0 < Nat.gcd n.natAbs d.natAbs := Nat.gcd_pos_of_pos_right _ (by omega)
      have h2 : d.natAbs / Nat.gcd n.natAbs d.natAbs = d.natAbs := by omega
      refine Decidable.byContradiction fun e => ?_
      have := Nat.div_lt_self (n := d.natAbs) (k := Nat.gcd n.natAbs d.natAbs) (by omega) (by omega)
      omega
    · rw [if_neg c] at h; omega
set_option maxHeartbeats 2000000 in
set_option maxRecDepth 100000 in
theorem r3_Valid (n d : Int) (w : World) :
    Calls Tryz.prog 13 #[(.agg #[.int .i64 (n), .int .i64 (d)])] w fun e w' => e = .returned (.bool (fracB n d)) ∧ ∃ d, w' = bw w d := by
  by_cases c3 : n < -1073741824
  · have g := decide_eq_true c3
    rw [show fracB n d = false by unfold fracB; rw [decide_eq_false (show ¬ -1073741824 ≤ n by omega)]; simp]
    refine lay_start ?_
    go_enter Tryz.func13, Tryz.ntmps13
    go_wp2_with (go_at_call 37; refine (HM.out _).mono ?_; rintro e w' ⟨rfl, dA, rfl⟩)
    go_ret
    exact ⟨rfl, lay_ex _ _⟩
  · by_cases c4 : 1073741824 < n
    · have g := decide_eq_true c4
      have g2 := decide_eq_false c3
      rw [show fracB n d = false by unfold fracB; rw [decide_eq_false (show ¬ n ≤ 1073741824 by omega)]; simp]
      refine lay_start ?_
      go_enter Tryz.func13, Tryz.ntmps13
      go_wp2_with (go_at_call 37; refine (HM.out _).mono ?_; rintro e w' ⟨rfl, dA, rfl⟩)
      go_ret
      exact ⟨rfl, lay_ex _ _⟩
    · by_cases c1 : d < 1
      · have g := decide_eq_false c4
        have g2 := decide_eq_false c3
        have g3 := decide_eq_true c1
        rw [show fracB n d = false by unfold fracB; rw [decide_eq_false (show ¬ 1 ≤ d by omega)]; simp]
        refine lay_start ?_
        go_enter Tryz.func13, Tryz.ntmps13
        go_wp2_with (go_at_call 37; refine (HM.out _).mono ?_; rintro e w' ⟨rfl, dA, rfl⟩)
        go_ret
        exact ⟨rfl, lay_ex _ _⟩
      · by_cases c2 : 1073741824 < d
        · have g := decide_eq_false c4
          have g2 := decide_eq_false c3
          have g3 := decide_eq_false c1
          have g4 := decide_eq_true c2
          rw [show fracB n d = false by unfold fracB; rw [decide_eq_false (show ¬ d ≤ 1073741824 by omega)]; simp]
          refine lay_start ?_
          go_enter Tryz.func13, Tryz.ntmps13
          go_wp2_with (go_at_call 37; refine (HM.out _).mono ?_; rintro e w' ⟨rfl, dA, rfl⟩)
          go_ret
          exact ⟨rfl, lay_ex _ _⟩
        · have g := decide_eq_false c4
          have g2 := decide_eq_false c3
          have g3 := decide_eq_false c1
          have g4 := decide_eq_false c2
          have HM := Lib.hid (fun W => r3_Make n d W (by omega) (by omega))
          rw [show fracB n d = ((mkNN n d == n) && (mkDD n d == d)) by
            unfold fracB; rw [← frac_same (by omega) (by omega), decide_eq_true (show 1 ≤ d by omega), decide_eq_true (show d ≤ 1073741824 by omega), decide_eq_true (show -1073741824 ≤ n by omega), decide_eq_true (show n ≤ 1073741824 by omega)]; simp only [Bool.true_and]]
          generalize mkNN n d = NN at *
          generalize mkDD n d = DD at *
          generalize mkE n d = EE at *
          by_cases h1 : NN = n
          · have k1 : (NN == n) = true := beq_iff_eq.2 h1
            rw [k1, Bool.true_and]
            clear k1
            subst h1
            by_cases h2 : DD = d
            · have k2 : (DD == d) = true := beq_iff_eq.2 h2
              rw [k2]
              clear k2
              subst h2
              refine lay_start ?_
              go_enter Tryz.func13, Tryz.ntmps13
              go_wp2_with (go_at_call 37; refine (HM.out _).mono ?_; rintro e w' ⟨rfl, dA, rfl⟩)
              go_ret
              exact ⟨rfl, lay_ex _ _⟩
            · have k2 : (DD == d) = false := beq_eq_false_iff_ne.2 h2
              rw [k2]
              refine lay_start ?_
              go_enter Tryz.func13, Tryz.ntmps13
              go_wp2_with (go_at_call 37; refine (HM.out _).mono ?_; rintro e w' ⟨rfl, dA, rfl⟩)
              go_ret
              exact ⟨rfl, lay_ex _ _⟩
          · have k1 : (NN == n) = false := beq_eq_false_iff_ne.2 h1
            rw [k1, Bool.false_and]
            refine lay_start ?_
            go_enter Tryz.func13, Tryz.ntmps13
            go_wp2_with (go_at_call 37; refine (HM.out _).mono ?_; rintro e w' ⟨rfl, dA, rfl⟩)
            go_ret
            exact ⟨rfl, lay_ex _ _⟩
theorem slopeE (n d : Int) : slpB n d = (decide (n ≤ 1000 * d) && decide (-(1000 * d) ≤ n)) := by
  first | rfl | (unfold slpB; rw [Bool.eq_iff_iff]; simp; try omega)
set_option maxHeartbeats 2000000 in
theorem r23_Slope1 (n d : Int) (w : World) (hO : SlOk n d) :
    Calls Tryz.prog 47 #[(.agg #[.int .i64 (n), .int .i64 (d)])] w fun e w' => e = .returned (.bool (slpB n d)) ∧ ∃ d, w' = bw w d := by
  rw [slopeE]
  obtain ⟨h1, h2, h3, h4⟩ := hO
  obtain ⟨X, hX⟩ : ∃ X, 1000 * d = X := ⟨_, rfl⟩
  obtain ⟨Y, hY⟩ : ∃ Y, -X = Y := ⟨_, rfl⟩
  have w1 : IntKind.i64.wrap X = X := IntWalk.i64_in _ (by omega)
  have w2 : IntKind.i64.wrap Y = Y := IntWalk.i64_in _ (by omega)
  have w3 : IntKind.i64.wrap (0 - X) = Y := by rw [show 0 - X = Y by omega]; exact w2
  have w4 : IntKind.i64.wrap (-X) = Y := by rw [hY]; exact w2
  rw [hX, hY]
  clear h1 h2 h3 h4 hY
  by_cases c1 : n ≤ X
  · rw [decide_eq_true c1, Bool.true_and]
    have g1 := decide_eq_true c1
    by_cases c2 : Y ≤ n
    · rw [decide_eq_true c2]
      have g2 := decide_eq_true c2
      refine lay_start ?_
      go_enter Tryz.func47, Tryz.ntmps47
      go_wp2_with fail
      go_ret
      exact ⟨rfl, lay_ex _ _⟩
    · rw [decide_eq_false c2]
      have g2 := decide_eq_false c2
      refine lay_start ?_
      go_enter Tryz.func47, Tryz.ntmps47
      go_wp2_with fail
      go_ret
      exact ⟨rfl, lay_ex _ _⟩
  · rw [decide_eq_false c1, Bool.false_and]
    have g1 := decide_eq_false c1
    refine lay_start ?_
    go_enter Tryz.func47, Tryz.ntmps47
    go_wp2_with fail
    go_ret
    exact ⟨rfl, lay_ex _ _⟩
end Go.Proofs.YtmomoeagnkjbiaaGreat
