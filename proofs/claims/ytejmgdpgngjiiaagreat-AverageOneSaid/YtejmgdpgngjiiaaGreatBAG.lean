/- Contracts and plain laws, several texts in one: Rat; Val; Va2 -/
import Derived.Test.YtejmgdpgngjiiaaGreatProg
import Derived.WalkKit
import Derived.WalkSpells
import Derived.WalkLawsBesides
import Derived.Lib.Hide
import Derived.BigQuiet
import Derived.RangeFuncNested
import Derived.RangeFuncBox
import Derived.RangeFuncLeaves
import Derived.Shelf.Abstract
import Derived.OwnWalkIn
import Derived.TacticsInMore
import Derived.LoopNIn
import Derived.LoopIn
import Derived.RangeFuncFrom
import Derived.RangeFuncWrites
import Derived.Maps.AppendAt
import Derived.Test.YtejmgdpgngjiiaaGreatBAA
import Derived.Test.YtejmgdpgngjiiaaGreatBAB
import Derived.Test.YtejmgdpgngjiiaaGreatBAC
/- ratio: gcd, size, Make. -/
namespace Go.Proofs.YtejmgdpgngjiiaaGreat
open Go.RowKit

set_option maxHeartbeats 400000 in
theorem rt_size (n : Int) (w : World) (h1 : -4611686018427387904 ≤ n) (h2 : n ≤ 4611686018427387904) :
    Calls Tryz.prog 100 #[.int .i64 n] w fun e w' => e = .returned (.int .u64 (n.natAbs : Int)) ∧ ∃ d, w' = bw w d := by
  by_cases hn : n < 0
  · have k1 : IntKind.u64.wrap n = n + 18446744073709551616 := by rw [IntKind.wrap_u64]; omega
    obtain ⟨X, hX⟩ : ∃ X, n + 18446744073709551616 = X := ⟨_, rfl⟩
    obtain ⟨Y, hY⟩ : ∃ Y : Int, ((n.natAbs : Nat) : Int) = Y := ⟨_, rfl⟩
    have k2 : IntKind.u64.wrap (-X) = Y := by rw [IntKind.wrap_u64]; omega
    have k3 : IntKind.u64.wrap X = X := IntWalk.u64_in _ (by omega)
    rw [hX] at k1
    rw [hY]
    clear hX hY
    refine lay_start ?_
    go_enter Tryz.func100, Tryz.ntmps100
    go_wp2_with fail
    go_ret
    exact ⟨rfl, lay_ex _ _⟩
  · have k1 : IntKind.u64.wrap n = n := IntWalk.u64_in _ (by omega)
    rw [show ((n.natAbs : Nat) : Int) = n by omega]
    refine lay_start ?_
    go_enter Tryz.func100, Tryz.ntmps100
    go_wp2_with fail
    go_ret
    exact ⟨rfl, lay_ex _ _⟩
set_option maxHeartbeats 1000000 in
set_option maxRecDepth 100000 in
theorem rt_gcd (a b : Nat) (w : World) (ha : a < 18446744073709551616) (hb : b < 18446744073709551616) :
    Calls Tryz.prog 101 #[.int .u64 (a : Int), .int .u64 (b : Int)] w fun e w' => e = .returned (.int .u64 ((Nat.gcd a b : Nat) : Int)) ∧ ∃ d, w' = bw w d := by
  obtain ⟨G, hG⟩ : ∃ G, Nat.gcd a b = G := ⟨_, rfl⟩
  rw [hG]
  refine lay_start ?_
  go_enter Tryz.func101, Tryz.ntmps101
  go_wp2_with fail
  go_loopw [0, 1] (fun v0 v1 wr => ∃ (x y : Nat) (dd : Ext), x < 18446744073709551616 ∧ y < 18446744073709551616 ∧ v0 = .int .u64 (x : Int) ∧ v1 = .int .u64 (y : Int) ∧ wr = lay w [.inr dd] ∧ Nat.gcd x y = G) (fun _ v1 _ => (intOf v1).toNat)
  case atStart => exact ⟨a, b, noExt _, ha, hb, rfl, rfl, (bw_noExt _).symm, hG⟩
  case round =>
    obtain ⟨x, y, dd, hx, hy, rfl, rfl, rfl, hg⟩ := hrel
    by_cases hy0 : y = 0
    · subst hy0
      have hgx : x = G := by rw [← hg, Nat.gcd_zero_right]
      clear hg hG
      go_wp2_with fail
      go_ret
      exact ⟨by rw [← hgx]; rfl, lay_ex _ _⟩
    · have t1 : ((y : Int) == 0) = false := beq_eq_false_iff_ne.2 (by omega)
      have t2 : ((y : Int) != 0) = true := by rw [bne, t1]; rfl
      have t3 : (y : Int) ≠ 0 := by omega
      obtain ⟨r, hr⟩ : ∃ r, x % y = r := ⟨_, rfl⟩
      have hrb : r < y := by rw [← hr]; exact Nat.mod_lt _ (by omega)
      have k1 : ((x : Int).tmod (y : Int)) = (r : Int) := by rw [← hr, Int.tmod_eq_emod_of_nonneg (by omega)]; omega
      have k2 : IntKind.u64.wrap (r : Int) = (r : Int) := IntWalk.u64_in _ (by omega)
      have k3 : ((x : Int) % (y : Int)) = (r : Int) := by rw [← hr]; omega
      have HG := Lib.hid (show Nat.gcd y r = G by rw [← hg, ← hr, Nat.gcd_comm y, ← Nat.gcd_rec, Nat.gcd_comm])
      have HR := Lib.hid hrb
      clear hr hg hG hrb
      go_wp2_with fail
      refine region_bw (by kernel_rfl) (by kernel_rfl) ?_
      repeat (go_big_quiet_step ((first | fail)))
      refine wpQuiet_nil ?_
      rintro w' ⟨d, rfl⟩
      rw [lay_bw]
      obtain ⟨d3, e3⟩ : ∃ x, lay w [.inr d, .inr dd] = lay w [.inr x] := ⟨_, bw_bw _ _ _⟩
      rw [e3]
      clear e3
      go_wp2_with fail
      go_roundw
      case rel => exact ⟨y, r, d3, by omega, by have := HR.out; omega, rfl, rfl, rfl, HG.out⟩
      case measure => have := HR.out; simp [intOf]; omega
/-- The fraction that is made: error, numerator, denominator. -/
def mkE (a b : Int) : Int := if b = 0 then 16 else if mkBig a b = true then 5 else 0
def mkNN (a b : Int) : Int := if mkE a b = 0 then mkN a b else 0
def mkDD (a b : Int) : Int := if mkE a b = 0 then mkD a b else 0
set_option maxHeartbeats 2000000 in
set_option maxRecDepth 100000 in
theorem rt_Make (a b : Int) (w : World) (ha : -4611686018427387904 ≤ a ∧ a ≤ 4611686018427387904) (hb : -4611686018427387904 ≤ b ∧ b ≤ 4611686018427387904) :
    Calls Tryz.prog 49 #[.int .i64 a, .int .i64 b] w fun e w' => e = .returned (.tuple #[(.agg #[.int .i64 (mkNN a b), .int .i64 (mkDD a b)]), .int .i64 (mkE a b)]) ∧ ∃ d, w' = bw w d := by
  by_cases hb0 : b = 0
  · subst hb0
    have e1 : mkE a 0 = 16 := if_pos rfl
    unfold mkNN mkDD
    rw [e1, if_neg (by decide), if_neg (by decide)]
    refine lay_start ?_
    go_enter Tryz.func49, Tryz.ntmps49
    go_wp2_with fail
    exact bodyPost_ret (v := .tuple #[(.agg #[.int .i64 (0), .int .i64 (0)]), .int .i64 16]) (by simp [results, Tryz.results49, go_sem]) rfl ⟨rfl, lay_ex _ _⟩
  · have HA := Lib.hid (fun W => rt_size a W ha.1 ha.2)
    have HB := Lib.hid (fun W => rt_size b W hb.1 hb.2)
    have t1 : (b == 0) = false := beq_eq_false_iff_ne.2 hb0
    obtain ⟨p, hp⟩ : ∃ p, a.natAbs = p := ⟨_, rfl⟩
    obtain ⟨q, hq⟩ : ∃ q, b.natAbs = q := ⟨_, rfl⟩
    have hpb : p ≤ 4611686018427387904 := by omega
    have hqb : 1 ≤ q ∧ q ≤ 4611686018427387904 := by omega
    have HG := Lib.hid (fun W => rt_gcd p q W (by omega) (by omega))
    obtain ⟨g, hg⟩ : ∃ g, Nat.gcd p q = g := ⟨_, rfl⟩
    have hg0 : 1 ≤ g := by rw [← hg]; exact Nat.gcd_pos_of_pos_right _ (by omega)
    have hgq : g ≤ q := by rw [← hg]; exact Nat.gcd_le_right _ (by omega)
    obtain ⟨x, hx⟩ : ∃ x, p / g = x := ⟨_, rfl⟩
    obtain ⟨y, hy⟩ : ∃ y, q / g = y := ⟨_, rfl⟩
    have hxb : x ≤ 4611686018427387904 := by rw [← hx]; exact Nat.le_trans (Nat.div_le_self _ _) hpb
    have hyb : y ≤ 4611686018427387904 := by rw [← hy]; exact Nat.le_trans (Nat.div_le_self _ _) hqb.2
    have eN : mkN a b = if decide (a < 0) != decide (b < 0) then -(x : Int) else (x : Int) := by unfold mkN; rw [hp, hq, hg, hx]
    have eD : mkD a b = (y : Int) := by unfold mkD; rw [hp, hq, hg, hy]
    have eB : mkBig a b = (decide (1073741824 < x) || decide (1073741824 < y)) := by unfold mkBig; rw [hp, hq, hg, hx, hy]
    rw [hg] at HG
    rw [hp] at HA
    rw [hq] at HB
    have k0 : (g : Int) ≠ 0 := by omega
    have k00 : g ≠ 0 := by omega
    have k1 : (p : Int).tdiv (g : Int) = (x : Int) := by rw [Int.tdiv_eq_ediv_of_nonneg (by omega), ← hx]; omega
    have k2 : (q : Int).tdiv (g : Int) = (y : Int) := by rw [Int.tdiv_eq_ediv_of_nonneg (by omega), ← hy]; omega
    have k3 : IntKind.u64.wrap (x : Int) = (x : Int) := IntWalk.u64_in _ (by omega)
    have k4 : IntKind.u64.wrap (y : Int) = (y : Int) := IntWalk.u64_in _ (by omega)
    have k5 : IntKind.i64.wrap (x : Int) = (x : Int) := IntWalk.i64_in _ (by omega)
    have k6 : IntKind.i64.wrap (y : Int) = (y : Int) := IntWalk.i64_in _ (by omega)
    have k7 : IntKind.i64.wrap (-(x : Int)) = -(x : Int) := IntWalk.i64_in _ (by omega)
    have eE : mkE a b = if mkBig a b = true then 5 else 0 := if_neg hb0
    unfold mkNN mkDD
    rw [eE, eN, eD, eB]
    clear eE eN eD eB hx hy hg hp hq hxb hyb hgq hg0 hpb hqb ha hb
    by_cases c1 : 1073741824 < x
    · rw [decide_eq_true c1, Bool.true_or, if_pos rfl, if_neg (by decide), if_neg (by decide)]
      have c1' : (1073741824 : Int) < (x : Int) := by omega
      refine lay_start ?_
      go_enter Tryz.func49, Tryz.ntmps49
      go_wp2_with (first | (go_at_call 100; first | (with_reducible refine (HA.out _).mono ?_; rintro e w' ⟨rfl, dA, rfl⟩) | (with_reducible refine (HB.out _).mono ?_; rintro e w' ⟨rfl, dB, rfl⟩)) | (go_at_call 101; refine (HG.out _).mono ?_; rintro e w' ⟨rfl, dC, rfl⟩))
      refine region_bw (by kernel_rfl) (by kernel_rfl) ?_
      repeat (go_big_quiet_step ((first | fail)))
      refine wpQuiet_nil ?_
      rintro w' ⟨d, rfl⟩
      rw [lay_bw]
      go_wp2_with fail
      exact bodyPost_ret (v := .tuple #[(.agg #[.int .i64 (0), .int .i64 (0)]), .int .i64 5]) (by simp [results, Tryz.results49, go_sem]) rfl ⟨rfl, lay_ex _ _⟩
    · have c1' : ¬ (1073741824 : Int) < (x : Int) := by omega
      by_cases c2 : 1073741824 < y
      · rw [decide_eq_false c1, decide_eq_true c2, Bool.false_or, if_pos rfl, if_neg (by decide), if_neg (by decide)]
        have c2' : (1073741824 : Int) < (y : Int) := by omega
        refine lay_start ?_
        go_enter Tryz.func49, Tryz.ntmps49
        go_wp2_with (first | (go_at_call 100; first | (with_reducible refine (HA.out _).mono ?_; rintro e w' ⟨rfl, dA, rfl⟩) | (with_reducible refine (HB.out _).mono ?_; rintro e w' ⟨rfl, dB, rfl⟩)) | (go_at_call 101; refine (HG.out _).mono ?_; rintro e w' ⟨rfl, dC, rfl⟩))
        refine region_bw (by kernel_rfl) (by kernel_rfl) ?_
        repeat (go_big_quiet_step ((first | fail)))
        refine wpQuiet_nil ?_
        rintro w' ⟨d, rfl⟩
        rw [lay_bw]
        go_wp2_with fail
        exact bodyPost_ret (v := .tuple #[(.agg #[.int .i64 (0), .int .i64 (0)]), .int .i64 5]) (by simp [results, Tryz.results49, go_sem]) rfl ⟨rfl, lay_ex _ _⟩
      · have c2' : ¬ (1073741824 : Int) < (y : Int) := by omega
        rw [decide_eq_false c1, decide_eq_false c2]
        simp only [Bool.false_or, Bool.false_eq_true, ↓reduceIte]
        by_cases s1 : a < 0
        · by_cases s2 : b < 0
          · rw [decide_eq_true s1, decide_eq_true s2, if_neg (by decide)]
            have d1 := decide_eq_true s1
            have d2 := decide_eq_true s2
            refine lay_start ?_
            go_enter Tryz.func49, Tryz.ntmps49
            go_wp2_with (first | (go_at_call 100; first | (with_reducible refine (HA.out _).mono ?_; rintro e w' ⟨rfl, dA, rfl⟩) | (with_reducible refine (HB.out _).mono ?_; rintro e w' ⟨rfl, dB, rfl⟩)) | (go_at_call 101; refine (HG.out _).mono ?_; rintro e w' ⟨rfl, dC, rfl⟩))
            refine region_bw (by kernel_rfl) (by kernel_rfl) ?_
            repeat (go_big_quiet_step ((first | fail)))
            refine wpQuiet_nil ?_
            rintro w' ⟨d, rfl⟩
            rw [lay_bw]
            go_wp2_with fail
            exact bodyPost_ret (v := .tuple #[(.agg #[.int .i64 ((x : Int)), .int .i64 ((y : Int))]), .int .i64 0]) (by simp [results, Tryz.results49, go_sem]) rfl ⟨rfl, lay_ex _ _⟩
          · rw [decide_eq_true s1, decide_eq_false s2, if_pos (by decide)]
            have d1 := decide_eq_true s1
            have d2 := decide_eq_false s2
            refine lay_start ?_
            go_enter Tryz.func49, Tryz.ntmps49
            go_wp2_with (first | (go_at_call 100; first | (with_reducible refine (HA.out _).mono ?_; rintro e w' ⟨rfl, dA, rfl⟩) | (with_reducible refine (HB.out _).mono ?_; rintro e w' ⟨rfl, dB, rfl⟩)) | (go_at_call 101; refine (HG.out _).mono ?_; rintro e w' ⟨rfl, dC, rfl⟩))
            refine region_bw (by kernel_rfl) (by kernel_rfl) ?_
            repeat (go_big_quiet_step ((first | fail)))
            refine wpQuiet_nil ?_
            rintro w' ⟨d, rfl⟩
            rw [lay_bw]
            go_wp2_with fail
            exact bodyPost_ret (v := .tuple #[(.agg #[.int .i64 (-(x : Int)), .int .i64 ((y : Int))]), .int .i64 0]) (by simp [results, Tryz.results49, go_sem]) rfl ⟨rfl, lay_ex _ _⟩
        · by_cases s2 : b < 0
          · rw [decide_eq_false s1, decide_eq_true s2, if_pos (by decide)]
            have d1 := decide_eq_false s1
            have d2 := decide_eq_true s2
            refine lay_start ?_
            go_enter Tryz.func49, Tryz.ntmps49
            go_wp2_with (first | (go_at_call 100; first | (with_reducible refine (HA.out _).mono ?_; rintro e w' ⟨rfl, dA, rfl⟩) | (with_reducible refine (HB.out _).mono ?_; rintro e w' ⟨rfl, dB, rfl⟩)) | (go_at_call 101; refine (HG.out _).mono ?_; rintro e w' ⟨rfl, dC, rfl⟩))
            refine region_bw (by kernel_rfl) (by kernel_rfl) ?_
            repeat (go_big_quiet_step ((first | fail)))
            refine wpQuiet_nil ?_
            rintro w' ⟨d, rfl⟩
            rw [lay_bw]
            go_wp2_with fail
            exact bodyPost_ret (v := .tuple #[(.agg #[.int .i64 (-(x : Int)), .int .i64 ((y : Int))]), .int .i64 0]) (by simp [results, Tryz.results49, go_sem]) rfl ⟨rfl, lay_ex _ _⟩
          · rw [decide_eq_false s1, decide_eq_false s2, if_neg (by decide)]
            have d1 := decide_eq_false s1
            have d2 := decide_eq_false s2
            refine lay_start ?_
            go_enter Tryz.func49, Tryz.ntmps49
            go_wp2_with (first | (go_at_call 100; first | (with_reducible refine (HA.out _).mono ?_; rintro e w' ⟨rfl, dA, rfl⟩) | (with_reducible refine (HB.out _).mono ?_; rintro e w' ⟨rfl, dB, rfl⟩)) | (go_at_call 101; refine (HG.out _).mono ?_; rintro e w' ⟨rfl, dC, rfl⟩))
            refine region_bw (by kernel_rfl) (by kernel_rfl) ?_
            repeat (go_big_quiet_step ((first | fail)))
            refine wpQuiet_nil ?_
            rintro w' ⟨d, rfl⟩
            rw [lay_bw]
            go_wp2_with fail
            exact bodyPost_ret (v := .tuple #[(.agg #[.int .i64 ((x : Int)), .int .i64 ((y : Int))]), .int .i64 0]) (by simp [results, Tryz.results49, go_sem]) rfl ⟨rfl, lay_ex _ _⟩
end Go.Proofs.YtejmgdpgngjiiaaGreat
/- slices.Values at ints: its function value, for every loop body that keeps what lay ahead. (The lines are the kit's worked text Test/GgSlicesIterAtTheDump, turned to this program.) -/
namespace Go.Proofs.YtejmgdpgngjiiaaGreat
open Go.RowKit Go.Shelf
attribute [local go_sem] Oper.semAt_some

/-- WHAT HAS COME WHEN k ROUNDS ARE OVER: f 0, .., f (k - 1). -/
def rgU {α : Type} (f : Nat → α) (k : Nat) : List α := (List.range k).map f
theorem rgU_succ {α : Type} (f : Nat → α) (k : Nat) : rgU f (k + 1) = rgU f k ++ [f k] := by simp [rgU, List.range_succ]
theorem rgU_length {α : Type} (f : Nat → α) (k : Nat) : (rgU f k).length = k := by simp [rgU]
theorem rgU_all (zs : List Int) : rgU (fun j => zs[j]?.getD 0) zs.length = zs := by
  apply List.ext_getElem
  · simp [rgU]
  · intro i h1 h2
    simp [rgU, h2]

set_option maxRecDepth 100000 in
set_option maxHeartbeats 2000000 in
/-- **slices.Values's closure: 'for _, v := range s { if !yield(v) { return } }': FOR EVERY LOOP BODY THAT KEEPS WHAT LAY BELOW n₀.** -/
theorem vl_values1_in (F : Fence) (n : Nat) (hV1 : F.fn 139) (hro : F.round = none) (hn : 1 ≤ n) (l Bs n₀ b off len cap : Nat) (zs : List Int) (hreach : len * 8 ≤ 140737488351232) (hb : b < n₀) (J Jx : List Int → World → Prop)
    (hY : ∀ pre x W, J pre W → pre.length < len → YieldAt F (n - 1) Tryz.prog l #[.int .i64 x] W fun e W' =>
      (e = .returned (.bool true) ∧ J (pre ++ [x]) W' ∧ Below n₀ W W') ∨ (e = .returned (.bool false) ∧ Jx (pre ++ [x]) W'))
    (W : World) (hBs : W.cell? ⟨Bs, 0, none⟩ = some (.slice (some ⟨b, off, none⟩) len cap)) (hc : ∀ j, j < len → W.cell? ⟨b, off + j, none⟩ = some (.int .i64 (zs[j]?.getD 0))) (h0 : J [] W) :
    CallsIn F n Tryz.prog 139 #[.func (.yield l) #[] #[], .pointer (some ⟨Bs, 0, none⟩)] W fun e W' => (∃ v, e = .returned v) ∧
      ((∃ ys, ys = rgU (fun j => zs[j]?.getD 0) len ∧ J ys W') ∨ (∃ pre, (∃ k, k ≤ len ∧ pre = rgU (fun j => zs[j]?.getD 0) k) ∧ Jx pre W')) := by
  refine callsIn_of_wp Tryz.func139 rfl hV1 ?_ hro
  simp only [Tryz.ntmps139, List.size_toArray, List.length_cons, List.length_nil, Nat.reduceAdd, Nat.reduceSub, Array.replicate_succ, Array.replicate_zero, List.push_toArray, List.append_toArray, List.nil_append, List.cons_append]
  gi_wp2
  gi_loopw [7] (fun i wr => ∃ k : Nat, k ≤ len ∧ i = .int .i64 k ∧ J (rgU (fun j => zs[j]?.getD 0) k) wr ∧ Below n₀ W wr)
    (fun i _ => len - (intOf i).toNat)
  case atStart => exact ⟨0, Nat.zero_le _, rfl, h0, Below.refl _ _⟩
  case round =>
    obtain ⟨k, hk, rfl, hJs, hnx⟩ := hrel
    have hcx : k < len → wr.cell? ⟨b, off + k, none⟩ = some (.int .i64 (zs[k]?.getD 0)) := fun h => (hnx.cell (p := ⟨b, off + k, none⟩) hb).trans (hc k h)
    by_cases hlt : k < len
    · obtain ⟨fn, tmps, assign, body, hy, hR⟩ := hY _ (zs[k]?.getD 0) wr hJs (by rw [rgU_length]; exact hlt)
      have hcx' := hcx hlt
      gi_wp2
      refine hR.mono ?_
      rintro e W3 (⟨rfl, hJ3, hk3⟩ | ⟨rfl, hJx3⟩)
      · -- THE ROUND GOES ON
        gi_wp2
        go_roundw
        case rel => exact ⟨k + 1, by omega, by simp, by rw [rgU_succ]; exact hJ3, hnx.trans hk3⟩
        case measure => simp [intOf]; omega
      · gi_wp2
        refine bodyPost_ret (results_none rfl _ _ _) rfl ?_
        exact ⟨⟨_, rfl⟩, .inr ⟨_, ⟨k + 1, by omega, (rgU_succ _ _).symm⟩, hJx3⟩⟩
    · obtain rfl : k = len := by omega
      gi_wp2
      go_end0
      exact ⟨⟨_, rfl⟩, .inl ⟨_, rfl, hJs⟩⟩

theorem rgU_take (zs : List Int) {k : Nat} (hk : k ≤ zs.length) : rgU (fun j => zs[j]?.getD 0) k = zs.take k := by
  apply List.ext_getElem
  · simp [rgU, hk]
  · intro i h1 h2
    have : i < zs.length := by simp [rgU] at h1; omega
    simp [rgU, this]

/-- THE SLICE VALUE sv HOLDS THE ints zs, in a block below n₀; or it is nil and there are none. -/
def IntsV (n₀ : Nat) (W : World) (sv : Value) (zs : List Int) : Prop :=
  (sv = .slice none 0 0 ∧ zs = []) ∨ ∃ b off cap, sv = .slice (some ⟨b, off, none⟩) zs.length cap ∧ b < n₀ ∧ ∀ j, j < zs.length → W.cell? ⟨b, off + j, none⟩ = some (.int .i64 (zs[j]?.getD 0))
theorem IntsV.below {n₀ : Nat} {A B : World} (h : Below n₀ A B) {sv : Value} {zs : List Int} : IntsV n₀ A sv zs → IntsV n₀ B sv zs
  | .inl e => .inl e
  | .inr ⟨b, off, cap, e, hb, hc⟩ => .inr ⟨b, off, cap, e, hb, fun j hj => (h.cell (p := ⟨b, off + j, none⟩) hb).trans (hc j hj)⟩

set_option maxRecDepth 100000 in
set_option maxHeartbeats 1000000 in
/-- .. at the nil slice: no round. -/
theorem vl_values1_nil_in (F : Fence) (n : Nat) (hV1 : F.fn 139) (hro : F.round = none) (l Bs : Nat) (J : List Int → World → Prop) (W : World) (hBs : W.cell? ⟨Bs, 0, none⟩ = some (.slice none 0 0)) (h0 : J [] W) :
    CallsIn F n Tryz.prog 139 #[.func (.yield l) #[] #[], .pointer (some ⟨Bs, 0, none⟩)] W fun e W' => (∃ v, e = .returned v) ∧ J [] W' := by
  refine callsIn_of_wp Tryz.func139 rfl hV1 ?_ hro
  simp only [Tryz.ntmps139, List.size_toArray, List.length_cons, List.length_nil, Nat.reduceAdd, Nat.reduceSub, Array.replicate_succ, Array.replicate_zero, List.push_toArray, List.append_toArray, List.nil_append, List.cons_append]
  gi_wp2
  gi_loopw [7] (fun i wr => i = .int .i64 0 ∧ J [] wr) (fun _ _ => 0)
  case atStart => exact ⟨rfl, h0⟩
  case round =>
    obtain ⟨rfl, hJs⟩ := hrel
    gi_wp2
    go_end0
    exact ⟨⟨_, rfl⟩, hJs⟩

set_option maxHeartbeats 1000000 in
/-- **slices.Values(s)**: the slice value is boxed; the function value captures the box. -/
theorem vl_values_in (F : Fence) (n : Nat) (hV : F.fn 87) (hro : F.round = none) (a : Option Addr) (len cap : Nat) (w : World) :
    CallsIn F n Tryz.prog 87 #[.slice a len cap] w fun e w' => e = .returned (.func (.func 139) #[] #[.pointer (some ⟨w.heap.size, 0, none⟩)]) ∧ w' = w.alloc (.cells #[.slice a len cap] 22) := by
  refine callsIn_of_wp Tryz.func87 rfl hV ?_ hro
  simp only [Tryz.ntmps87, List.size_toArray, List.length_cons, List.length_nil, Nat.reduceAdd, Nat.reduceSub, Array.replicate_succ, Array.replicate_zero, List.push_toArray, List.append_toArray, List.nil_append, List.cons_append]
  gi_wp2
  go_ret
  exact ⟨rfl, rfl⟩

/-- **slices.Values(s) HANDS BACK A VALUE THAT 'SeqStopsK', AT 'Kp := Below n₀'**: all of zs, in order; or a prefix. EVERY SLICE OF ints WITHIN THE REACH, THE nil ONE TOO. -/
theorem vl_values_stops (F : Fence) (n : Nat) (hV1 : F.fn 139) (hro : F.round = none) (hn : 1 ≤ n) (Bs n₀ : Nat) (sv : Value) (zs : List Int) (hreach : zs.length * 8 ≤ 140737488351232) (w : World) (hBs : Bs < w.heap.size) (hn₀ : n₀ ≤ w.heap.size)
    (hc : w.cell? ⟨Bs, 0, none⟩ = some sv) (hI : IntsV n₀ w sv zs) :
    SeqStopsK F n Tryz.prog 139 #[.pointer (some ⟨Bs, 0, none⟩)] (fun x : Int => #[Value.int .i64 x]) (Below n₀) (fun ys => ys = zs) (fun pre => pre <+: zs) zs.length w := fun l J Jx W hW _ _ hY h0 => by
  have hc' := (hW.cell (p := ⟨Bs, 0, none⟩) hBs).trans hc
  rcases hI.below (hW.mono hn₀) with ⟨rfl, rfl⟩ | ⟨b, off, cap, rfl, hb, hcs⟩
  · exact (vl_values1_nil_in F n hV1 hro l Bs J W hc' h0).mono fun e W' ⟨he, hj⟩ => ⟨he, .inl ⟨_, rfl, hj⟩⟩
  · refine (vl_values1_in F n hV1 hro hn l Bs n₀ b off zs.length cap zs hreach hb J Jx hY W hc' hcs h0).mono ?_
    rintro e W' ⟨he, ⟨ys, rfl, hj⟩ | ⟨pre, ⟨k, hk, rfl⟩, hj⟩⟩
    · exact ⟨he, .inl ⟨_, rgU_all zs, hj⟩⟩
    · exact ⟨he, .inr ⟨_, by rw [rgU_take zs hk]; exact List.take_prefix _ _, hj⟩⟩

end Go.Proofs.YtejmgdpgngjiiaaGreat
/- slices.AppendSeq of slices.Values at ints. (The walk follows the kit's worked text Test/GgPosAtTheDump.) -/
namespace Go.Proofs.YtejmgdpgngjiiaaGreat
open Go.RowKit Go.Shelf
attribute [local go_sem] Oper.semAt_some

theorem info_int : (Tryz.prog.info? 3).map (fun i => (i.zero, i.size, i.bytes)) = some (some (.int .i64 0), 1, 8) := by kernel_rfl
set_option maxRecDepth 100000 in
set_option maxHeartbeats 2000000 in
theorem vl_append (F : Fence) (n : Nat) (hA : F.fn 167) (hV1 : F.fn 139) (hro : F.round = none) (hn : 3 ≤ n) (Bs : Nat) (sv : Value) (zs : List Int) (hlen : zs.length ≤ 1000000000) (w : World) (hBs : Bs < w.heap.size)
    (hc : w.cell? ⟨Bs, 0, none⟩ = some sv) (hI : IntsV w.heap.size w sv zs) :
    CallsIn F n Tryz.prog 167 #[.slice none 0 0, .func (.func 139) #[] #[.pointer (some ⟨Bs, 0, none⟩)]] w fun e W' => ∃ v, e = .returned v ∧ W'.ownsRow w.heap.size 3 1 v zs.length (zs.map (Value.int .i64)) ∧ Below w.heap.size w W' := by
  have h1 : 1 ≤ n := by omega
  obtain ⟨i0, hi, hz0, hz1, hz2⟩ := info_parts info_int
  refine callsIn_of_wp_marks Tryz.func167 rfl hA ?_ hro
  simp only [Tryz.ntmps167, List.size_toArray, List.length_cons, List.length_nil, Nat.reduceAdd, Nat.reduceSub, Array.replicate_succ, Array.replicate_zero, List.push_toArray, List.append_toArray, List.nil_append, List.cons_append]
  gi_wp2
  have bO := Boxed.new w 22 (.slice none 0 0)
  have hB0 : Below w.heap.size w (w.alloc (.cells #[.slice none 0 0] 22)) := (Below.refl _ w).alloc (Nat.le_refl _) _
  refine wpIn_rangeFunc_ownG hro h1 (gf := 139) (lb := #[.pointer (some ⟨Bs, 0, none⟩)]) rfl hV1 (enters_of Tryz.func139 (by kernel_rfl) rfl)
    (vl_values_stops F (n - 1) hV1 hro (by omega) Bs w.heap.size sv zs (by omega) _ (by simp; omega) (by simp) ((hB0.cell (p := ⟨Bs, 0, none⟩) hBs).trans hc) (hI.below hB0)) belowK_t (belowK_b (by simp)) (Below.refl _ _) (fun _ => rfl)
    (fun pre W => (∃ v, Boxed W w.heap.size 22 v ∧ W.ownsRow w.heap.size 3 1 v pre.length (pre.map (Value.int .i64)) ∧ (v = .slice none 0 0 ↔ pre = [])) ∧ Below w.heap.size w W)
    (fun _ _ _ => False)
    (OwnFrom.and (Own.from (holdsRow_own w.heap.size w.heap.size 22 3 1 (fun pre : List Int => pre.length) (fun pre => pre.map (Value.int .i64)) (fun pre v => v = .slice none 0 0 ↔ pre = [])) _) (ownFrom_below (Nat.le_refl _) (by simp)))
    (fun _ _ _ _ _ hs _ _ => hs)
    ⟨⟨_, bO, World.ownsRow_nil _ _ _ _, by simp⟩, hB0⟩
    (fun x => { tmps := #[.slice none 0 0, .func (.func 139) #[] #[.pointer (some ⟨Bs, 0, none⟩)], .pointer (some ⟨w.heap.size, 0, none⟩), undef, .slice none 0 0, .int .i64 x, .func (.func 139) #[] #[.pointer (some ⟨Bs, 0, none⟩)], .int .i64 x, undef, undef, undef, undef, undef], defers := [] }) ?assign ?body ?done ?stop
  case assign =>
    intro l x W K hK
    gi_wp2
    exact hK
  case body =>
    rintro l pre x W ⟨⟨v, hv, hrow, hnil⟩, hB⟩ hlt
    have hcb := hv.cell
    have hM : maxLen = 9223372036854775807 := by decide
    gi_wp2_with (gi_at_builtin; refine wpListIn_append_own _ rfl _ _ 22 rfl w.heap.size 3 i0 (.int .i64 0) 1 8 Tryz.underlying22 hi hz0 hz1 hz2 rfl (by decide) _ _ _ rfl (hrow.alloc _) ⟨W.heap.size, 0, none⟩ 1 1 [.int .i64 x] rfl rfl (cell_one_new _ _ _) (by simp [Value.oneCell']) (by omega) (by omega) (by have := hB.size; simp; omega) ?_; intro v' w1 hown' hgrow _; obtain ⟨g', cap', rfl⟩ := ownsRow_succ hown'; obtain ⟨hv1, hv2, hr2, hk2, hb2⟩ := hv.appended (by decide) hrow hB.size (Nat.le_refl _) hown' hgrow; have hc1 := hv1.cell; have hf1 := hv1.frozen)
    exact ⟨hk2.from _, hb2, ⟨_, hv2, by simpa using hr2, by simp⟩, hB.trans hb2⟩
  case done =>
    rintro D ys W hD rfl ⟨⟨v, hv, hrow, hnil⟩, hB⟩ hK
    have hcb := hv.cell
    gi_wp2
    refine ⟨by simp, .inl ⟨_, _, rfl, run_takeDeferred hK, ?_⟩⟩
    exact ⟨_, results_tmp rfl _ _ _, v, rfl, ownsRow_putObj hrow _ hK rfl, hB.trans (belowK_b (w := w) (Nat.le_refl _) W D _ _ (by simp at hD; omega) hK rfl rfl)⟩
  case stop =>
    rintro D c pre W _ _ h _
    exact h.elim
end Go.Proofs.YtejmgdpgngjiiaaGreat
