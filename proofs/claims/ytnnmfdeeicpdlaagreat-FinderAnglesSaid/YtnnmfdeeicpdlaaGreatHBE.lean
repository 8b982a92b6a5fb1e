/- Contracts and plain laws, several texts in one: Dia; Dib; Dic; Did; Die -/
import Derived.Test.YtnnmfdeeicpdlaaGreatProg
import Derived.WalkKit
import Derived.WalkSpells
import Derived.WalkLawsBesides
import Derived.Lib.Hide
import Derived.BigQuiet
import Derived.Laws.MakeOwn
import Derived.Laws.Entries
import Derived.Test.YtnnmfdeeicpdlaaGreatHAC
import Derived.Test.YtnnmfdeeicpdlaaGreatHAD
import Derived.Test.YtnnmfdeeicpdlaaGreatHAE
import Derived.Test.YtnnmfdeeicpdlaaGreatHAZ
import Derived.Test.YtnnmfdeeicpdlaaGreatHBA
/- The reference's digits: Trim, Order. -/
namespace Go.Proofs.YtnnmfdeeicpdlaaGreat
set_option maxHeartbeats 2000000
set_option maxRecDepth 100000
open Go.RowKit

theorem trim_take {l : List Int} {n : Nat} (h : n < l.length) : trimD (l.take (n + 1)) = if nth l n = 0 then trimD (l.take n) else l.take (n + 1) := by
  rw [take_snoc h, trim_snoc]
theorem sl_take {w : World} {b cap n : Nat} {l : List Int} (k c : Nat) (h : Sl w (.slice (some ⟨b, 0, none⟩) n cap) l) (hk : k ≤ l.length) (hc : k ≤ c ∧ c ≤ 9223372036854775807) : Sl w (.slice (some ⟨b, 0, none⟩) k c) (l.take k) := by
  have := sl_cut (f := 0) (k := k) h (by omega) hc
  rwa [List.drop_zero, Nat.add_zero] at this
theorem dg_Trim (v : Value) (l : List Int) (w : World) (base : Nat) (ho : Ow w base v l) (hn : l.length ≤ 1000000) :
    Calls Tryz.prog 348 #[v] w (RwO w (trimD l)) := by
  have HS := Lib.hid ho.sl
  have HO := Lib.hid ho
  by_cases h0 : l.length = 0
  · obtain rfl : l = [] := List.length_eq_zero_iff.1 h0
    rw [trim_nil]
    rcases ho.1.2 with ⟨rfl, hz⟩ | ⟨g, cap, cur, rfl, h1, h2, h3, h4, h5⟩
    · clear ho HO h0
      refine lay_start ?_
      go_enter Tryz.func348, Tryz.ntmps348
      go_wp2_with fail
      go_loopw [3] (fun v3 wr => v3 = .int .i64 0 ∧ ∃ dd : Ext, wr = lay w [.inr dd]) (fun v3 _ => (intOf v3).toNat)
      case atStart => exact ⟨rfl, noExt _, (bw_noExt _).symm⟩
      case round =>
        obtain ⟨rfl, dd, rfl⟩ := hrel
        go_wp2_with (at_builtin; refine push_sl rfl _ _ rfl (lay w [.inr dd]) _ _ _ _ _ _ [] ?_ (ow_empty (L := [.inr dd])) (HS.out.lay _) (fun _ => rfl) rfl rfl (by simp) ?_; exact lay_below (A := [_]); intro v' d' hv')
        go_ret
        obtain ⟨d3, e3⟩ : ∃ x, lay w [.inr d', .inr dd] = lay w [.inr x] := ⟨_, bw_bw _ _ _⟩
        rw [lay_bw, e3] at hv'
        exact ⟨_, d3, rfl, e3, hv'.le (lay_below (w := w) (A := [.inr dd]) (B := [])).size⟩
    · clear ho HO h0 h1 h2 h3 h4 h5
      refine lay_start ?_
      go_enter Tryz.func348, Tryz.ntmps348
      go_wp2_with fail
      go_loopw [3] (fun v3 wr => v3 = .int .i64 0 ∧ ∃ dd : Ext, wr = lay w [.inr dd]) (fun v3 _ => (intOf v3).toNat)
      case atStart => exact ⟨rfl, noExt _, (bw_noExt _).symm⟩
      case round =>
        obtain ⟨rfl, dd, rfl⟩ := hrel
        go_wp2_with (at_builtin; refine push_sl rfl _ _ rfl (lay w [.inr dd]) _ _ _ _ _ _ [] ?_ (ow_empty (L := [.inr dd])) (HS.out.lay _) (fun h => by cases h) rfl rfl (by simp) ?_; exact lay_below (A := [_]); intro v' d' hv')
        go_ret
        obtain ⟨d3, e3⟩ : ∃ x, lay w [.inr d', .inr dd] = lay w [.inr x] := ⟨_, bw_bw _ _ _⟩
        rw [lay_bw, e3] at hv'
        exact ⟨_, d3, rfl, e3, hv'.le (lay_below (w := w) (A := [.inr dd]) (B := [])).size⟩
  · obtain ⟨g, cap, rfl, hg1, hg2, hcap⟩ := ho.form1 (by omega)
    have HC := Lib.hid (fun j (hj : j < l.length) => ho.cell (i := j) hj)
    obtain ⟨m, hm⟩ : ∃ m, l.length = m := ⟨_, rfl⟩
    rw [hm] at HS HO HC hcap h0 hn ⊢
    have HM := Lib.hid hm
    obtain ⟨T, hT⟩ : ∃ T, trimD l = T := ⟨_, rfl⟩
    rw [hT]
    have HT := Lib.hid hT
    clear hm hT ho
    refine lay_start ?_
    go_enter Tryz.func348, Tryz.ntmps348
    go_wp2_with fail
    go_loopw [3] (fun v3 wr => ∃ (n : Nat) (dd : Ext), n ≤ m ∧ v3 = .int .i64 (n : Int) ∧ wr = lay w [.inr dd] ∧ trimD (l.take n) = T) (fun v3 _ => (intOf v3).toNat)
    case atStart => exact ⟨m, noExt _, Nat.le_refl _, rfl, (bw_noExt _).symm, by rw [← HM.out, List.take_length]; exact HT.out⟩
    case round =>
      obtain ⟨n, dd, hnm, rfl, rfl, hI⟩ := hrel
      have HI := Lib.hid hI
      clear hI
      by_cases hn0 : n = 0
      · subst hn0
        have HR : Hid (T = []) := Lib.hid (by rw [← HI.out, List.take_zero]; rfl)
        have HL := Lib.hid (sl_none (w := lay w [.inl (.cells #[] 3 (0, 0)), .inr dd]) (a := some ⟨g, 0, none⟩) (c := cap) (by omega))
        go_wp2_with (at_builtin; refine push_sl rfl _ _ rfl (lay w [.inr dd]) _ _ _ _ _ _ [] ?_ (ow_empty (L := [.inr dd])) HL.out (fun h => by cases h) rfl rfl (by simp) ?_; exact lay_below (A := [_]); intro v' d' hv')
        go_ret
        obtain ⟨d3, e3⟩ : ∃ x, lay w [.inr d', .inr dd] = lay w [.inr x] := ⟨_, bw_bw _ _ _⟩
        exact ⟨_, d3, rfl, e3, by rw [HR.out]; rw [lay_bw, e3] at hv'; exact hv'.le (lay_below (w := w) (A := [.inr dd]) (B := [])).size⟩
      · obtain ⟨j, hj⟩ : ∃ j, n = j + 1 := ⟨n - 1, by omega⟩
        subst hj
        have e0 := HC.out j (by omega)
        have x1 : (0 : Int) < ((j + 1 : Nat) : Int) := by omega
        have x2 : decide ((0 : Int) < ((j + 1 : Nat) : Int)) = true := decide_eq_true x1
        have x3 : ((j + 1 : Nat) : Int) - 1 = (j : Int) := by omega
        have x4 : (j : Int) < (m : Int) := by omega
        have x5 : IntKind.i64.wrap (j : Int) = (j : Int) := IntWalk.i64_in _ (by omega)
        have HTt := Lib.hid (trim_take (l := l) (n := j) (by rw [HM.out]; omega))
        generalize nth l j = Q at *
        obtain ⟨J, hJ⟩ : ∃ J : Int, ((j + 1 : Nat) : Int) = J := ⟨_, rfl⟩
        rw [hJ] at x1 x2 x3 ⊢
        by_cases hz : Q = 0
        · have z1 : (Q == 0) = true := beq_iff_eq.2 hz
          have HN : Hid (trimD (l.take j) = T) := Lib.hid (by have := HTt.out; rw [if_pos hz] at this; rw [← this]; exact HI.out)
          go_wp2_with fail
          go_roundw
          case rel => exact ⟨j, dd, by omega, rfl, rfl, HN.out⟩
          case measure => simp [intOf]; omega
        · have z1 : (Q == 0) = false := beq_eq_false_iff_ne.2 hz
          have HR : Hid (T = l.take (j + 1)) := Lib.hid (by have := HTt.out; rw [if_neg hz] at this; rw [← this]; exact HI.out.symm)
          have hJ2 : J.toNat = j + 1 := by omega
          have x6 : 0 ≤ J := by omega
          have x7 : J ≤ (cap : Int) := by omega
          have x8 : ¬ (cap : Int) < J := by omega
          have HL := Lib.hid (fun L c (hc : j + 1 ≤ c ∧ c ≤ 9223372036854775807) => sl_take (j + 1) c (HS.out.lay L) (by rw [HM.out]; omega) hc)
          go_wp2_with (at_builtin; refine push_sl rfl _ _ rfl (lay w [.inr dd]) _ _ _ _ _ _ (l.take (j + 1)) ?_ (ow_empty (L := [.inr dd])) (HL.out _ _ (by omega)) (fun h => by cases h) rfl rfl (by rw [List.length_take]; simp; omega) ?_; exact lay_below (A := [_]); intro v' d' hv')
          go_ret
          obtain ⟨d3, e3⟩ : ∃ x, lay w [.inr d', .inr dd] = lay w [.inr x] := ⟨_, bw_bw _ _ _⟩
          exact ⟨_, d3, rfl, e3, by rw [HR.out]; rw [lay_bw, e3] at hv'; exact hv'.le (lay_below (w := w) (A := [.inr dd]) (B := [])).size⟩
theorem drop_none {a : List Int} {n : Nat} (h : a.length ≤ n) : a.drop n = [] := List.drop_eq_nil_of_le h
theorem ord_eq (x : Int) : ordI x x = 0 := by unfold ordI; rw [if_neg (by omega), if_neg (by omega)]
theorem ord_lt {x y : Int} (h : x < y) : ordI x y = -1 := if_pos h
theorem ord_gt {x y : Int} (h : y < x) : ordI x y = 1 := by unfold ordI; rw [if_neg (by omega), if_pos h]
theorem dg_Order (va vb : Value) (a b : List Int) (w : World) (ha : Sl w va a) (hb : Sl w vb b) (ca : Can a) (cb : Can b) :
    Calls Tryz.prog 305 #[va, vb] w fun e w' => e = .returned (.int .i64 (ordI (valD a) (valD b))) ∧ ∃ d, w' = bw w d := by
  obtain ⟨a1, c1, rfl, hc1, hw1, hx1⟩ := ha
  obtain ⟨a2, c2, rfl, hc2, hw2, hx2⟩ := hb
  have HCA := Lib.hid (And.intro ca cb)
  obtain ⟨m, hm⟩ : ∃ m, a.length = m := ⟨_, rfl⟩
  obtain ⟨q, hq⟩ : ∃ q, b.length = q := ⟨_, rfl⟩
  rw [hm] at hc1 ⊢
  rw [hq] at hc2 ⊢
  by_cases e : m = q
  · subst e
    have t1 : ((m : Int) == (m : Int)) = true := beq_iff_eq.2 rfl
    have t2 : ((m : Int) != (m : Int)) = false := by rw [bne, t1]; rfl
    have HE := Lib.hid (And.intro hm hq)
    obtain ⟨R, hR⟩ : ∃ R, ordI (valD a) (valD b) = R := ⟨_, rfl⟩
    rw [hR]
    have HR := Lib.hid hR
    clear hR
    by_cases hm0 : m = 0
    · subst hm0
      have : R = 0 := by rw [← HR.out, List.length_eq_zero_iff.1 hm, List.length_eq_zero_iff.1 hq]; exact ord_eq _
      subst this
      clear hm hq hx1 hx2
      refine lay_start ?_
      go_enter Tryz.func305, Tryz.ntmps305
      go_wp2_with fail
      go_loopw [5] (fun v5 wr => v5 = .int .i64 (-1) ∧ ∃ dd, wr = lay w [.inr dd]) (fun v5 _ => (intOf v5).toNat)
      case atStart => exact ⟨rfl, noExt _, (bw_noExt _).symm⟩
      case round =>
        obtain ⟨rfl, dd, rfl⟩ := hrel
        go_wp2_with fail
        go_ret
        exact ⟨rfl, lay_ex _ _⟩
    · obtain ⟨b1, o1, rfl, hb1, hcell1⟩ := hx1 (by intro h; rw [h] at hm; simp at hm; omega)
      obtain ⟨b2, o2, rfl, hb2, hcell2⟩ := hx2 (by intro h; rw [h] at hq; simp at hq; omega)
      rw [hm] at hcell1
      rw [hq] at hcell2
      have K1 := Lib.hid hcell1
      have K2 := Lib.hid hcell2
      clear hm hq hcell1 hcell2 hw1 hw2
      obtain ⟨M, hM⟩ : ∃ M : Int, (m : Int) - 1 = M := ⟨_, rfl⟩
      have kM : IntKind.i64.wrap M = M := IntWalk.i64_in _ (by omega)
      refine lay_start ?_
      go_enter Tryz.func305, Tryz.ntmps305
      go_wp2_with fail
      go_loopw [5] (fun v5 wr => ∃ (n : Nat) (N : Int) (dd : Ext), n ≤ m ∧ N = (n : Int) - 1 ∧ v5 = .int .i64 N ∧ wr = lay w [.inr dd] ∧ a.drop n = b.drop n) (fun v5 _ => (intOf v5 + 1).toNat)
      case atStart => exact ⟨m, M, noExt _, Nat.le_refl _, hM.symm, rfl, (bw_noExt _).symm, by rw [drop_none (Nat.le_of_eq HE.out.1), drop_none (Nat.le_of_eq HE.out.2)]⟩
      case round =>
        obtain ⟨n, N, dd, hnm, hN, rfl, rfl, hI⟩ := hrel
        have HI := Lib.hid hI
        clear hI
        by_cases hn0 : n = 0
        · subst hn0
          obtain rfl : N = -1 := by omega
          have : R = 0 := by
            have := HI.out
            rw [List.drop_zero, List.drop_zero] at this
            rw [← HR.out, this]; exact ord_eq _
          subst this
          clear hM kM hN
          go_wp2_with fail
          go_ret
          exact ⟨rfl, lay_ex _ _⟩
        · obtain ⟨j, rfl⟩ : ∃ j, n = j + 1 := ⟨n - 1, by omega⟩
          obtain rfl : N = (j : Int) := by omega
          clear hN hM kM
          have e1 := K1.out j (by omega)
          have e2 := K2.out j (by omega)
          have x1 : (0 : Int) ≤ (j : Int) := by omega
          have x2 : (j : Int) < (m : Int) := by omega
          have HJ : Hid (j < a.length ∧ a.length = b.length) := Lib.hid ⟨by rw [HE.out.1]; omega, by rw [HE.out.1, HE.out.2]⟩
          rcases Int.lt_trichotomy (nth a j) (nth b j) with hlt | heq | hgt
          · have : R = -1 := by rw [← HR.out]; exact ord_lt (ord_diff HCA.out.1.1 HCA.out.2.1 HJ.out.2 HJ.out.1 HI.out hlt)
            subst this
            generalize nth a j = A at *
            generalize nth b j = B at *
            go_wp2_with fail
            refine region_bw (by kernel_rfl) (by kernel_rfl) ?_
            repeat (go_big_quiet_step ((first | fail)))
            refine wpQuiet_nil ?_
            rintro w' ⟨d, rfl⟩
            rw [lay_bw]
            go_wp2_with fail
            go_ret
            exact ⟨rfl, lay_ex _ _⟩
          · have HD := Lib.hid (drop_step HJ.out.2 HJ.out.1 HI.out heq)
            have g1 : ¬ nth a j < nth b j := by omega
            have g2 : ¬ nth b j < nth a j := by omega
            obtain ⟨N2, hN2⟩ : ∃ N2 : Int, (j : Int) - 1 = N2 := ⟨_, rfl⟩
            have kN : IntKind.i64.wrap N2 = N2 := IntWalk.i64_in _ (by omega)
            clear heq
            generalize nth a j = A at *
            generalize nth b j = B at *
            go_wp2_with fail
            refine region_bw (by kernel_rfl) (by kernel_rfl) ?_
            repeat (go_big_quiet_step ((first | fail)))
            refine wpQuiet_nil ?_
            rintro w' ⟨r1, rfl⟩
            rw [lay_bw]
            go_wp2_with fail
            refine region_bw (by kernel_rfl) (by kernel_rfl) ?_
            repeat (go_big_quiet_step ((first | fail)))
            refine wpQuiet_nil ?_
            rintro w' ⟨r2, rfl⟩
            rw [lay_bw]
            obtain ⟨d3, e3⟩ : ∃ x, lay w [.inr r2, .inr r1, .inr dd] = lay w [.inr x] := by
              obtain ⟨y, hy⟩ := lay_ex w [.inr r2, .inr r1, .inr dd]
              exact ⟨y, hy⟩
            rw [e3]
            clear e3
            go_wp2_with fail
            go_roundw
            case rel => exact ⟨j, N2, d3, by omega, hN2.symm, rfl, rfl, HD.out⟩
            case measure => simp [intOf]; omega
          · have : R = 1 := by rw [← HR.out]; exact ord_gt (ord_diff HCA.out.2.1 HCA.out.1.1 HJ.out.2.symm (by rw [← HJ.out.2]; exact HJ.out.1) HI.out.symm hgt)
            subst this
            have g1 : ¬ nth a j < nth b j := by omega
            generalize nth a j = A at *
            generalize nth b j = B at *
            go_wp2_with fail
            refine region_bw (by kernel_rfl) (by kernel_rfl) ?_
            repeat (go_big_quiet_step ((first | fail)))
            refine wpQuiet_nil ?_
            rintro w' ⟨d, rfl⟩
            rw [lay_bw]
            go_wp2_with fail
            refine region_bw (by kernel_rfl) (by kernel_rfl) ?_
            repeat (go_big_quiet_step ((first | fail)))
            refine wpQuiet_nil ?_
            rintro w' ⟨d, rfl⟩
            rw [lay_bw]
            go_wp2_with fail
            go_ret
            exact ⟨rfl, lay_ex _ _⟩
  · have t1 : ((m : Int) == (q : Int)) = false := beq_eq_false_iff_ne.2 (by omega)
    have t2 : ((m : Int) != (q : Int)) = true := by rw [bne, t1]; rfl
    by_cases hlt : m < q
    · rw [ord_lt (HCA.out.2.short HCA.out.1.1 (by omega))]
      have x1 : (m : Int) < (q : Int) := by omega
      clear hm hq hx1 hx2
      refine lay_start ?_
      go_enter Tryz.func305, Tryz.ntmps305
      go_wp2_with fail
      go_ret
      exact ⟨rfl, lay_ex _ _⟩
    · rw [ord_gt (HCA.out.1.short HCA.out.2.1 (by omega))]
      have x1 : ¬ (m : Int) < (q : Int) := by omega
      clear hm hq hx1 hx2
      refine lay_start ?_
      go_enter Tryz.func305, Tryz.ntmps305
      go_wp2_with fail
      go_ret
      exact ⟨rfl, lay_ex _ _⟩
end Go.Proofs.YtnnmfdeeicpdlaaGreat
/- The reference's digits: Sum. -/
namespace Go.Proofs.YtnnmfdeeicpdlaaGreat
open Go.RowKit

def RwD (w : World) (p : List Int → Prop) (e : Ending) (w' : World) : Prop := ∃ l v d, p l ∧ e = .returned v ∧ w' = bw w d ∧ Ow (bw w d) w.heap.size v l
theorem dB_eq : dB = 268435456 := rfl
set_option maxHeartbeats 4000000 in
set_option maxRecDepth 100000 in
theorem dg_Sum (va vb : Value) (a b : List Int) (w : World) (ha : Sl w va a) (hb : Sl w vb b) (ca : Can a) (cb : Can b) (la : a.length ≤ 1000000) (lb : b.length ≤ 1000000) :
    Calls Tryz.prog 339 #[va, vb] w (RwD w fun l => Can l ∧ valD l = valD a + valD b ∧ l.length ≤ max a.length b.length + 1) := by
  obtain ⟨a1, c1, rfl, hc1, hw1, hx1⟩ := ha
  obtain ⟨a2, c2, rfl, hc2, hw2, hx2⟩ := hb
  have HX1 := Lib.hid hx1
  have HX2 := Lib.hid hx2
  have HCA := Lib.hid (And.intro ca cb)
  obtain ⟨m, hm⟩ : ∃ m, a.length = m := ⟨_, rfl⟩
  obtain ⟨q, hq⟩ : ∃ q, b.length = q := ⟨_, rfl⟩
  have HE := Lib.hid (And.intro hm hq)
  obtain ⟨M, hM⟩ : ∃ M, max m q = M := ⟨_, rfl⟩
  have hM2 : m ≤ M ∧ q ≤ M ∧ (M = m ∨ M = q) ∧ M ≤ 1000000 := by omega
  rw [hm]
  rw [hq]
  clear hx1 hx2 hw1 hw2 ca cb hm hq hM la lb
  refine lay_start ?_
  go_enter Tryz.func339, Tryz.ntmps339
  go_wp2_with fail
  go_loopw [5, 6, 7] (fun v5 v6 v7 wr => ∃ (i : Nat) (c : Int) (out : List Int) (dd : Ext), v7 = .int .i64 (i : Int) ∧ v6 = .int .i64 c ∧ wr = lay w [.inr dd] ∧ Ow (lay w [.inr dd]) (lay w []).heap.size v5 out ∧ SumI a b i out c ∧ i ≤ M + 1 ∧ (i = M + 1 → c = 0)) (fun _ _ v7 _ => M + 1 - (intOf v7).toNat)
  case atStart => exact ⟨0, 0, [], noExt _, rfl, rfl, (bw_noExt _).symm, Ow.nil _ _, SumI.start a b, by omega, fun h => by omega⟩
  case round =>
    obtain ⟨i, c, out, dd, rfl, rfl, rfl, hO, hI, hi, hc⟩ := hrel
    have HO := Lib.hid hO
    have HI := Lib.hid hI
    have hc0 := hI.c0
    have hcc := hI.c1
    have hlen : out.length ≤ 1000000000 := by rw [hI.len]; omega
    clear hO hI
    by_cases hgo : i < m ∨ i < q ∨ 0 < c
    · have hiM : i ≤ M := by
        rcases Nat.lt_or_ge M i with h | h
        · have := hc (by omega); omega
        · exact h
      have HN := Lib.hid (HI.out.step HCA.out.1 HCA.out.2 (by rw [HE.out.1, HE.out.2]; exact hgo))
      have na := HCA.out.1.1.nth i
      have nb := HCA.out.2.1.nth i
      have za : ¬ i < m → nth a i = 0 := fun h => nth_out (by rw [HE.out.1]; omega)
      have zb : ¬ i < q → nth b i = 0 := fun h => nth_out (by rw [HE.out.2]; omega)
      rw [dB_eq] at na nb HN
      obtain ⟨S, hS⟩ : ∃ S, c + nth a i + nth b i = S := ⟨_, rfl⟩
      rw [hS] at HN
      have hSb : 0 ≤ S ∧ S ≤ 536870912 := by omega
      have kS : IntKind.i64.wrap S = S := IntWalk.i64_in _ (by omega)
      have e1 : S.tmod 268435456 = S % 268435456 := Int.tmod_eq_emod_of_nonneg hSb.1
      have e2 : S.tdiv 268435456 = S / 268435456 := Int.tdiv_eq_ediv_of_nonneg hSb.1
      obtain ⟨R, hR⟩ : ∃ R, S % 268435456 = R := ⟨_, rfl⟩
      obtain ⟨K, hK⟩ : ∃ K, S / 268435456 = K := ⟨_, rfl⟩
      rw [hR] at e1 HN
      rw [hK] at e2 HN
      have kR : IntKind.i64.wrap R = R := IntWalk.i64_in _ (by omega)
      have kK : IntKind.i64.wrap K = K := IntWalk.i64_in _ (by omega)
      have lw : (Lit.int .i64 R).wf = true := lit_b (by omega)
      have HZ : Hid (i + 1 = M + 1 → K = 0) := Lib.hid fun h => by
        have h1 := za (by omega)
        have h2 := zb (by omega)
        omega
      have HiM := Lib.hid hiM
      have w3 : IntKind.i64.wrap ((i : Int) + 1) = (i : Int) + 1 := IntWalk.i64_in _ (by omega)
      have x0 : (0 : Int) ≤ (i : Int) := by omega
      by_cases h1 : i < m
      · obtain ⟨b1, o1, rfl, hb1, hcell1⟩ := HX1.out (by intro h; have := HE.out.1; rw [h] at this; simp at this; omega)
        have k1 := hcell1 i (by rw [HE.out.1]; exact h1)
        have x1 : (i : Int) < (m : Int) := by omega
        have x1d := decide_eq_true x1
        clear hcell1 za
        by_cases h2 : i < q
        · obtain ⟨b2, o2, rfl, hb2, hcell2⟩ := HX2.out (by intro h; have := HE.out.2; rw [h] at this; simp at this; omega)
          have k2 := hcell2 i (by rw [HE.out.2]; exact h2)
          have x2 : (i : Int) < (q : Int) := by omega
          clear hcell2 zb
          obtain ⟨S1, hS1⟩ : ∃ S1, c + nth a i = S1 := ⟨_, rfl⟩
          have kS1 : IntKind.i64.wrap S1 = S1 := IntWalk.i64_in _ (by omega)
          rw [hS1] at hS
          clear hR hK na nb hgo
          generalize nth a i = A at *
          generalize nth b i = B at *
          clear hc
          go_wp2_with (first | (at_builtin; refine push_int rfl _ _ rfl (lay w []) _ (R) 3 _ _ _ ?_ (ow_on (A := [_]) HO.out) ?_ rfl rfl hlen lw ?_; exact lay_below (A := [_, _]); exact lay_get w _ 0 _ rfl; intro v' d' hv'))
          go_roundw
          case rel => exact ⟨i + 1, K, out ++ [R], d', by go_num, rfl, rfl, hv', HN.out, by have := HiM.out; omega, HZ.out⟩
          case measure => have := HiM.out; simp [intOf]; omega
        · have x2 : ¬ (i : Int) < (q : Int) := by omega
          have hB := zb h2
          have hS1 : c + nth a i = S := by omega
          clear zb hS hR hK na nb hgo hB
          generalize nth a i = A at *
          clear hc
          go_wp2_with (first | (at_builtin; refine push_int rfl _ _ rfl (lay w []) _ (R) 3 _ _ _ ?_ (ow_on (A := [_]) HO.out) ?_ rfl rfl hlen lw ?_; exact lay_below (A := [_, _]); exact lay_get w _ 0 _ rfl; intro v' d' hv'))
          go_roundw
          case rel => exact ⟨i + 1, K, out ++ [R], d', by go_num, rfl, rfl, hv', HN.out, by have := HiM.out; omega, HZ.out⟩
          case measure => have := HiM.out; simp [intOf]; omega
      · have x1 : ¬ (i : Int) < (m : Int) := by omega
        have x1d := decide_eq_false x1
        have hA := za h1
        by_cases h2 : i < q
        · obtain ⟨b2, o2, rfl, hb2, hcell2⟩ := HX2.out (by intro h; have := HE.out.2; rw [h] at this; simp at this; omega)
          have k2 := hcell2 i (by rw [HE.out.2]; exact h2)
          have x2 : (i : Int) < (q : Int) := by omega
          have x2d := decide_eq_true x2
          have hS1 : c + nth b i = S := by omega
          clear zb za hS hR hK na nb hgo hcell2 hA
          generalize nth b i = B at *
          clear hc
          go_wp2_with (first | (at_builtin; refine push_int rfl _ _ rfl (lay w []) _ (R) 3 _ _ _ ?_ (ow_on (A := [_]) HO.out) ?_ rfl rfl hlen lw ?_; exact lay_below (A := [_, _]); exact lay_get w _ 0 _ rfl; intro v' d' hv'))
          go_roundw
          case rel => exact ⟨i + 1, K, out ++ [R], d', by go_num, rfl, rfl, hv', HN.out, by have := HiM.out; omega, HZ.out⟩
          case measure => have := HiM.out; simp [intOf]; omega
        · have x2 : ¬ (i : Int) < (q : Int) := by omega
          have x2d := decide_eq_false x2
          have x3 : 0 < c := by omega
          have x3d := decide_eq_true x3
          have hB := zb h2
          obtain rfl : c = S := by omega
          clear zb za hS hR hK na nb hgo hA hB
          clear hc
          go_wp2_with (first | (at_builtin; refine push_int rfl _ _ rfl (lay w []) _ (R) 3 _ _ _ ?_ (ow_on (A := [_]) HO.out) ?_ rfl rfl hlen lw ?_; exact lay_below (A := [_, _]); exact lay_get w _ 0 _ rfl; intro v' d' hv'))
          go_roundw
          case rel => exact ⟨i + 1, K, out ++ [R], d', by go_num, rfl, rfl, hv', HN.out, by have := HiM.out; omega, HZ.out⟩
          case measure => have := HiM.out; simp [intOf]; omega
    · have x1 : ¬ (i : Int) < (m : Int) := by omega
      have x2 : ¬ (i : Int) < (q : Int) := by omega
      have x3 : ¬ 0 < c := by omega
      have x1d := decide_eq_false x1
      have x2d := decide_eq_false x2
      have x3d := decide_eq_false x3
      have HD := Lib.hid (HI.out.done (by rw [HE.out.1]; omega) (by rw [HE.out.2]; omega) x3)
      clear hgo hc
      go_wp2_with fail
      go_ret
      exact ⟨out, _, dd, ⟨HD.out.1, HD.out.2, by rw [HI.out.len]; have h1 := HE.out.1; have h2 := HE.out.2; omega⟩, rfl, rfl, HO.out⟩
end Go.Proofs.YtnnmfdeeicpdlaaGreat
/- The reference's digits: Less. -/
namespace Go.Proofs.YtnnmfdeeicpdlaaGreat
open Go.RowKit

set_option maxHeartbeats 4000000 in
set_option maxRecDepth 100000 in
theorem dg_Less (va vb : Value) (a b : List Int) (w : World) (ha : Sl w va a) (hb : Sl w vb b) (ca : Can a) (cb : Can b) (la : a.length ≤ 1000000) (hv : valD b ≤ valD a) :
    Calls Tryz.prog 340 #[va, vb] w (RwD w fun l => Can l ∧ valD l = valD a - valD b ∧ l.length ≤ a.length) := by
  have hlen0 : b.length ≤ a.length := by
    rcases Nat.lt_or_ge a.length b.length with h | h
    · have := cb.short ca.1 h; omega
    · exact h
  obtain ⟨a1, c1, rfl, hc1, hw1, hx1⟩ := ha
  obtain ⟨a2, c2, rfl, hc2, hw2, hx2⟩ := hb
  have HX1 := Lib.hid hx1
  have HX2 := Lib.hid hx2
  have HCA := Lib.hid (And.intro ca cb)
  have HV := Lib.hid hv
  obtain ⟨m, hm⟩ : ∃ m, a.length = m := ⟨_, rfl⟩
  obtain ⟨q, hq⟩ : ∃ q, b.length = q := ⟨_, rfl⟩
  have HE := Lib.hid (And.intro hm hq)
  rw [hm] at la hlen0 ⊢
  rw [hq] at hlen0 ⊢
  clear hx1 hx2 hw1 hw2 ca cb hm hq hv
  refine lay_start ?_
  go_enter Tryz.func340, Tryz.ntmps340
  go_wp2_with fail
  go_loopw [5, 6, 7] (fun v5 v6 v7 wr => ∃ (i : Nat) (c : Int) (out : List Int) (dd : Ext), i ≤ m ∧ v7 = .int .i64 (i : Int) ∧ v6 = .int .i64 c ∧ wr = lay w [.inr dd] ∧ Ow (lay w [.inr dd]) (lay w []).heap.size v5 out ∧ LesI a b i out c) (fun _ _ v7 _ => m - (intOf v7).toNat)
  case atStart => exact ⟨0, 0, [], noExt _, Nat.zero_le _, rfl, rfl, (bw_noExt _).symm, Ow.nil _ _, LesI.start a b⟩
  case round =>
    obtain ⟨i, c, out, dd, hi, rfl, rfl, rfl, hO, hI⟩ := hrel
    have HO := Lib.hid hO
    have HI := Lib.hid hI
    have hcc := hI.c01
    have hlen : out.length ≤ 1000000000 := by rw [hI.len]; omega
    clear hO hI
    by_cases h1 : i < m
    · have na := HCA.out.1.1.nth i
      have nb := HCA.out.2.1.nth i
      have zb : ¬ i < q → nth b i = 0 := fun h => nth_out (by rw [HE.out.2]; omega)
      rw [dB_eq] at na nb
      obtain ⟨D, hD⟩ : ∃ D, nth a i - c - nth b i = D := ⟨_, rfl⟩
      have HN := Lib.hid (HI.out.step HCA.out.1.1 HCA.out.2.1 (d := D) hD.symm rfl rfl)
      rw [dB_eq] at HN
      have hDb : -268435457 ≤ D ∧ D ≤ 268435456 := by omega
      have kD : IntKind.i64.wrap D = D := IntWalk.i64_in _ (by omega)
      obtain ⟨D1, hD1⟩ : ∃ D1, nth a i - c = D1 := ⟨_, rfl⟩
      have kD1 : IntKind.i64.wrap D1 = D1 := IntWalk.i64_in _ (by omega)
      rw [hD1] at hD
      obtain ⟨D2, hD2⟩ : ∃ D2, D + 268435456 = D2 := ⟨_, rfl⟩
      have kD2 : IntKind.i64.wrap D2 = D2 := IntWalk.i64_in _ (by omega)
      rw [hD2] at HN
      have w3 : IntKind.i64.wrap ((i : Int) + 1) = (i : Int) + 1 := IntWalk.i64_in _ (by omega)
      have x0 : (0 : Int) ≤ (i : Int) := by omega
      have x1 : (i : Int) < (m : Int) := by omega
      have HiM := Lib.hid h1
      obtain ⟨b1, o1, rfl, hb1, hcell1⟩ := HX1.out (by intro h; have := HE.out.1; rw [h] at this; simp at this; omega)
      have k1 := hcell1 i (by rw [HE.out.1]; exact h1)
      clear hcell1
      by_cases hlt : D < 0
      · have hD2b : 0 ≤ D2 ∧ D2 < 268435456 := by omega
        have lw : (Lit.int .i64 D2).wf = true := lit_b (by omega)
        rw [if_pos hlt, if_pos hlt] at HN
        by_cases h2 : i < q
        · obtain ⟨b2, o2, rfl, hb2, hcell2⟩ := HX2.out (by intro h; have := HE.out.2; rw [h] at this; simp at this; omega)
          have k2 := hcell2 i (by rw [HE.out.2]; exact h2)
          have x2 : (i : Int) < (q : Int) := by omega
          clear hcell2 zb na nb
          generalize nth a i = A at *
          generalize nth b i = B at *
          clear hcc
          go_wp2_with (first | (at_builtin; refine push_int rfl _ _ rfl (lay w []) _ (D2) 3 _ _ _ ?_ (ow_on (A := [_]) HO.out) ?_ rfl rfl hlen lw ?_; exact lay_below (A := [_, _]); exact lay_get w _ 0 _ rfl; intro v' d' hv'))
          go_roundw
          case rel => exact ⟨i + 1, 1, out ++ [D2], d', by have := HiM.out; omega, by go_num, rfl, rfl, hv', HN.out⟩
          case measure => have := HiM.out; simp [intOf]; omega
        · have x2 : ¬ (i : Int) < (q : Int) := by omega
          have hB := zb h2
          obtain rfl : D1 = D := by omega
          clear zb na nb hB hD
          generalize nth a i = A at *
          clear hcc
          go_wp2_with (first | (at_builtin; refine push_int rfl _ _ rfl (lay w []) _ (D2) 3 _ _ _ ?_ (ow_on (A := [_]) HO.out) ?_ rfl rfl hlen lw ?_; exact lay_below (A := [_, _]); exact lay_get w _ 0 _ rfl; intro v' d' hv'))
          go_roundw
          case rel => exact ⟨i + 1, 1, out ++ [D2], d', by have := HiM.out; omega, by go_num, rfl, rfl, hv', HN.out⟩
          case measure => have := HiM.out; simp [intOf]; omega
      · have lw : (Lit.int .i64 D).wf = true := lit_b (by omega)
        rw [if_neg hlt, if_neg hlt] at HN
        by_cases h2 : i < q
        · obtain ⟨b2, o2, rfl, hb2, hcell2⟩ := HX2.out (by intro h; have := HE.out.2; rw [h] at this; simp at this; omega)
          have k2 := hcell2 i (by rw [HE.out.2]; exact h2)
          have x2 : (i : Int) < (q : Int) := by omega
          clear hcell2 zb na nb
          generalize nth a i = A at *
          generalize nth b i = B at *
          clear hcc
          go_wp2_with (first | (at_builtin; refine push_int rfl _ _ rfl (lay w []) _ (D) 3 _ _ _ ?_ (ow_on (A := [_]) HO.out) ?_ rfl rfl hlen lw ?_; exact lay_below (A := [_, _]); exact lay_get w _ 0 _ rfl; intro v' d' hv'))
          go_roundw
          case rel => exact ⟨i + 1, 0, out ++ [D], d', by have := HiM.out; omega, by go_num, rfl, rfl, hv', HN.out⟩
          case measure => have := HiM.out; simp [intOf]; omega
        · have x2 : ¬ (i : Int) < (q : Int) := by omega
          have hB := zb h2
          obtain rfl : D1 = D := by omega
          clear zb na nb hB hD
          generalize nth a i = A at *
          clear hcc
          go_wp2_with (first | (at_builtin; refine push_int rfl _ _ rfl (lay w []) _ (D1) 3 _ _ _ ?_ (ow_on (A := [_]) HO.out) ?_ rfl rfl hlen lw ?_; exact lay_below (A := [_, _]); exact lay_get w _ 0 _ rfl; intro v' d' hv'))
          go_roundw
          case rel => exact ⟨i + 1, 0, out ++ [D1], d', by have := HiM.out; omega, by go_num, rfl, rfl, hv', HN.out⟩
          case measure => have := HiM.out; simp [intOf]; omega
    · obtain rfl : i = m := by omega
      have HD := Lib.hid (HI.out.done HE.out.1 (by rw [HE.out.2]; exact hlen0) HV.out)
      have HTr := Lib.hid (trim_ok out.length out rfl HI.out.dg)
      have HT := Lib.hid (fun v W base (q : Ow W base v out) => dg_Trim v out W base q (by rw [HI.out.len]; exact la))
      clear hcc
      go_wp2_with fail
      refine (HT.out _ _ _ HO.out).mono ?_
      rintro e w' ⟨v', d', rfl, rfl, hv'⟩
      rw [lay_bw] at hv' ⊢
      obtain ⟨d3, e3⟩ : ∃ x, lay w [.inr d', .inr dd] = lay w [.inr x] := ⟨_, bw_bw _ _ _⟩
      rw [e3] at hv' ⊢
      clear e3
      have HV2 := Lib.hid hv'
      clear hv'
      go_wp2_with fail
      go_ret
      exact ⟨trimD out, _, d3, ⟨HTr.out.1, by rw [HTr.out.2]; exact HD.out, by have h := trim_len out; have h2 := HI.out.len; have h3 := HE.out.1; omega⟩, rfl, rfl, HV2.out.le (lay_below (w := w) (A := [.inr dd]) (B := [])).size⟩
end Go.Proofs.YtnnmfdeeicpdlaaGreat
/- The reference's digits: Times. -/
namespace Go.Proofs.YtnnmfdeeicpdlaaGreat
open Go.RowKit

theorem info_int0 : (Tryz.prog.info? 3).map (fun i => (i.zero.map (fun z => z.cells), i.size, i.bytes)) = some (some #[.int .i64 0], 1, 8) := by kernel_rfl
theorem make_int {m : Nat} (h2 : m ≤ 10000000) (W : World) :
    (Instr.makeSlice 112 (.int .i64 (m : Int)) (.int .i64 (m : Int))).run Tryz.prog W = .ok (.slice (some ⟨W.heap.size, 0, none⟩) m m) (W.alloc (.cells (madeCells #[.int .i64 0] m) 3)) := by
  have hinf := info_int0
  cases hq : Tryz.prog.info? 3 with
  | none => rw [hq] at hinf; cases hinf
  | some i =>
    rw [hq] at hinf
    simp only [Option.map_some, Option.some.injEq, Prod.mk.injEq] at hinf
    obtain ⟨hz, hs, hb⟩ := hinf
    cases hzz : i.zero with
    | none => rw [hzz] at hz; cases hz
    | some z =>
      rw [hzz] at hz
      simp only [Option.map_some, Option.some.injEq] at hz
      have hr := run_make (P := Tryz.prog) W 112 3 i z Tryz.underlying112 hq hzz .i64 .i64 m m (by omega) (by omega) (by rw [hb]; omega) (by omega)
      simp only [Int.toNat_natCast] at hr
      rw [hr, hs, hz, Nat.mul_one]
theorem ow_made {w : World} {L : List (Obj ⊕ Ext)} {m : Nat} (h : m ≤ 10000000) : Ow (lay w (.inl (.cells (madeCells #[.int .i64 0] m) 3 (0, 0)) :: L)) (lay w L).heap.size (.slice (some ⟨posn w (shp L), 0, none⟩) m m) (List.replicate m 0) := by
  have hM : maxLen = 9223372036854775807 := by decide
  rw [← lay_size w L]
  have h1 := World.ownsRow_lit (e := 3) (size := 1) (base := (lay w L).heap.size) (lay w L) (madeCells #[.int .i64 0] m) m (Nat.le_refl _) (by omega) (by rw [size_madeCells, Nat.mul_one])
  rw [toList_madeCells_one] at h1
  refine ⟨by rw [List.length_replicate, List.map_replicate]; exact h1, fun i hi => ?_⟩
  rw [List.length_replicate] at hi
  rw [show nth (List.replicate m 0) i = 0 from nth_repl m i]
  decide
theorem ow_store1 {w : World} {d : Ext} {g n c base : Nat} {L : List Int} (j : Nat) {x : Int} (h : Ow (lay w [.inr d]) base (.slice (some ⟨g, 0, none⟩) n c) L) (hg : w.heap.size ≤ g) (hx : (Lit.int .i64 x).wf = true) :
    ∃ d', (lay w [.inr d]).setCell ⟨g, j, none⟩ (.int .i64 x) = lay w [.inr d'] ∧ Ow (lay w [.inr d']) base (.slice (some ⟨g, 0, none⟩) n c) (L.set j x) := by
  obtain ⟨d2, e2⟩ := bw_store (w := w) (d := d) (g := g) (i := j) (v := .int .i64 x) hg
  have e3 : (lay w [.inr d]).setCell ⟨g, j, none⟩ (.int .i64 x) = lay w [.inr d2] := e2
  have h2 := ow_store h j x hx
  rw [e3] at h2
  exact ⟨d2, e3, h2⟩
set_option maxHeartbeats 4000000 in
set_option maxRecDepth 100000 in
theorem dg_Times (va vb : Value) (a b : List Int) (w : World) (ha : Sl w va a) (hb : Sl w vb b) (ca : Dg a) (cb : Dg b) (la : a.length ≤ 400000) (lb : b.length ≤ 400000) :
    Calls Tryz.prog 336 #[va, vb] w (RwD w fun l => Can l ∧ valD l = valD a * valD b ∧ l.length ≤ a.length + b.length) := by
  obtain ⟨a1, c1, rfl, hc1, hw1, hx1⟩ := ha
  obtain ⟨a2, c2, rfl, hc2, hw2, hx2⟩ := hb
  have HX1 := Lib.hid hx1
  have HX2 := Lib.hid hx2
  have HCA := Lib.hid (And.intro ca cb)
  obtain ⟨m, hm⟩ : ∃ m, a.length = m := ⟨_, rfl⟩
  obtain ⟨q, hq⟩ : ∃ q, b.length = q := ⟨_, rfl⟩
  have HE := Lib.hid (And.intro hm hq)
  obtain ⟨n, hn⟩ : ∃ n, m + q = n := ⟨_, rfl⟩
  have HST := Lib.hid (TmO.start a b)
  rw [hm, hq, hn] at HST
  have HT := Lib.hid (fun v l W base (h : Ow W base v l) (hl : l.length ≤ 1000000) => dg_Trim v l W base h hl)
  rw [hm] at la ⊢
  rw [hq] at lb ⊢
  rw [hn]
  have hnI : (m : Int) + (q : Int) = (n : Int) := by omega
  have kn : IntKind.i64.wrap (n : Int) = (n : Int) := IntWalk.i64_in _ (by omega)
  have hmk := make_int (m := n) (by omega)
  have HOM : Hid (Ow (lay w [.inl (.cells (madeCells #[.int .i64 0] n) 3 (0, 0))]) (lay w []).heap.size (.slice (some ⟨posn w [], 0, none⟩) n n) (List.replicate n 0)) := Lib.hid (ow_made (L := []) (by omega))
  have hn2 : n ≤ 800000 := by omega
  have HN := Lib.hid hn
  clear hx1 hx2 hw1 hw2 ca cb hm hq
  have hg : w.heap.size ≤ posn w [] := Nat.le_refl _
  refine lay_start ?_
  go_enter Tryz.func336, Tryz.ntmps336
  go_wp2_with fail
  obtain ⟨d0, e0⟩ : ∃ x, lay w [.inl (.cells (madeCells #[.int .i64 0] n) 3 (0, 0))] = lay w [.inr x] := by
    obtain ⟨y, hy⟩ := lay_ex w [.inl (.cells (madeCells #[.int .i64 0] n) 3 (0, 0))]
    exact ⟨y, hy⟩
  rw [e0] at HOM ⊢
  clear e0 hmk kn hnI hn
  go_loopw [6] (fun v6 wr => ∃ (i : Nat) (out : List Int) (dd : Ext), i ≤ m ∧ v6 = .int .i64 (i : Int) ∧ wr = lay w [.inr dd] ∧ Ow (lay w [.inr dd]) (lay w []).heap.size (.slice (some ⟨posn w [], 0, none⟩) n n) out ∧ TmO a b i out) (fun v6 _ => m - (intOf v6).toNat)
  case atStart => exact ⟨0, _, d0, Nat.zero_le _, rfl, rfl, HOM.out, HST.out⟩
  case round =>
    obtain ⟨i, out, dd, hi, rfl, rfl, hO, hI⟩ := hrel
    have HO := Lib.hid (And.intro hO hI)
    clear hO hI
    by_cases h1 : i < m
    · have x1 : (i : Int) < (m : Int) := by omega
      have x0 : (0 : Int) ≤ (i : Int) := by omega
      have w3 : IntKind.i64.wrap ((i : Int) + 1) = (i : Int) + 1 := IntWalk.i64_in _ (by omega)
      obtain ⟨b1, o1, rfl, hb1, hcell1⟩ := HX1.out (by intro h; have := HE.out.1; rw [h] at this; simp at this; omega)
      have k1 := hcell1 i (by rw [HE.out.1]; exact h1)
      have na := HCA.out.1.nth i
      rw [dB_eq] at na
      clear hcell1
      obtain ⟨A, hA⟩ : ∃ A, nth a i = A := ⟨_, rfl⟩
      rw [hA] at k1 na
      have HAA := Lib.hid hA
      clear hA
      go_wp2_with fail
      go_loopw [7, 8] (fun v7 v8 wr => ∃ (k : Nat) (c : Int) (out : List Int) (d2 : Ext), k ≤ q ∧ v8 = .int .i64 (k : Int) ∧ v7 = .int .i64 c ∧ wr = lay w [.inr d2] ∧ Ow (lay w [.inr d2]) (lay w []).heap.size (.slice (some ⟨posn w [], 0, none⟩) n n) out ∧ TmI a b i k out c) (fun _ v8 _ => q - (intOf v8).toNat)
      case atStart => exact ⟨0, 0, out, dd, Nat.zero_le _, rfl, rfl, rfl, HO.out.1, HO.out.2.row⟩
      case round =>
        obtain ⟨k, c, out2, d2, hk, rfl, rfl, rfl, hO2, hI2⟩ := hrel
        have HO2 := Lib.hid (And.intro hO2 hI2)
        have hc0 := hI2.c0
        have hcb := hI2.c1
        rw [dB_eq] at hcb
        have HL2 : Hid (out2.length = n) := Lib.hid (by rw [hI2.len, HE.out.1, HE.out.2]; exact HN.out)
        clear hO2 hI2
        by_cases h2 : k < q
        · obtain ⟨b2, o2, rfl, hb2, hcell2⟩ := HX2.out (by intro h; have := HE.out.2; rw [h] at this; simp at this; omega)
          have k2 := hcell2 k (by rw [HE.out.2]; exact h2)
          have nb := HCA.out.2.nth k
          have no := HO2.out.2.dg.nth (i + k)
          rw [dB_eq] at nb no
          clear hcell2
          obtain ⟨B, hB⟩ : ∃ B, nth b k = B := ⟨_, rfl⟩
          obtain ⟨O, hOo⟩ : ∃ O, nth out2 (i + k) = O := ⟨_, rfl⟩
          obtain ⟨D, hD⟩ : ∃ D, O + A * B + c = D := ⟨_, rfl⟩
          have hst := HO2.out.2.step HCA.out.1 HCA.out.2 (d := D) (by rw [HE.out.1]; exact h1) (by rw [HE.out.2]; exact h2) (by rw [hOo, HAA.out, hB, hD])
          rw [dB_eq] at hst
          obtain ⟨hD0, hD1, hst⟩ := hst
          have HST2 := Lib.hid hst
          clear hst
          obtain ⟨j, hj⟩ : ∃ j, i + k = j := ⟨_, rfl⟩
          have hj2 : j < n := by have := HN.out; omega
          have hjI : (i : Int) + (k : Int) = (j : Int) := by omega
          have kj : IntKind.i64.wrap (j : Int) = (j : Int) := IntWalk.i64_in _ (by omega)
          have xj0 : (0 : Int) ≤ (j : Int) := by omega
          have xj1 : (j : Int) < (n : Int) := by omega
          rw [hB] at k2 nb
          rw [hOo] at no
          rw [hj] at HST2 hOo
          have co : ∀ d', (lay w [.inr d', .inr d2]).cell? ⟨posn w [], j, none⟩ = some (.int .i64 O) := fun d' => by
            have h := (ow_on (A := [.inr d']) HO2.out.1).cell (i := j) (by rw [HL2.out]; exact hj2)
            rw [hOo] at h
            exact h
          obtain ⟨P, hP⟩ : ∃ P, A * B = P := ⟨_, rfl⟩
          have hPb : 0 ≤ P ∧ P ≤ 268435456 * 268435456 := by
            rw [← hP]
            exact ⟨Int.mul_nonneg na.1 nb.1, Int.mul_le_mul (by omega) (by omega) nb.1 (by decide)⟩
          rw [hP] at hD
          obtain ⟨S, hS⟩ : ∃ S, O + P = S := ⟨_, rfl⟩
          rw [hS] at hD
          have kP : IntKind.i64.wrap P = P := IntWalk.i64_in _ (by omega)
          have kS : IntKind.i64.wrap S = S := IntWalk.i64_in _ (by omega)
          have kD : IntKind.i64.wrap D = D := IntWalk.i64_in _ (by omega)
          have x2 : (k : Int) < (q : Int) := by omega
          have x20 : (0 : Int) ≤ (k : Int) := by omega
          have w4 : IntKind.i64.wrap ((k : Int) + 1) = (k : Int) + 1 := IntWalk.i64_in _ (by omega)
          have e1 : D.tmod 268435456 = D % 268435456 := Int.tmod_eq_emod_of_nonneg hD0
          have e2 : D.tdiv 268435456 = D / 268435456 := Int.tdiv_eq_ediv_of_nonneg hD0
          obtain ⟨R, hR⟩ : ∃ R, D % 268435456 = R := ⟨_, rfl⟩
          obtain ⟨K, hK2⟩ : ∃ K, D / 268435456 = K := ⟨_, rfl⟩
          rw [hR] at e1 HST2
          rw [hK2] at e2 HST2
          have kR : IntKind.i64.wrap R = R := IntWalk.i64_in _ (by omega)
          have kK : IntKind.i64.wrap K = K := IntWalk.i64_in _ (by omega)
          have lw : (Lit.int .i64 R).wf = true := lit_b (by omega)
          have HK2 := Lib.hid h2
          clear hOo hB hj hR hK2 nb no hPb hD0 hD1 hc0 hcb h2
          go_wp2_with fail
          refine region_bw (by kernel_rfl) (by kernel_rfl) ?_
          repeat (go_big_quiet_step ((first | fail)))
          refine wpQuiet_nil ?_
          rintro w' ⟨d, rfl⟩
          rw [lay_bw]
          obtain ⟨d3, e3⟩ : ∃ x, lay w [.inr d, .inr d2] = lay w [.inr x] := ⟨_, bw_bw _ _ _⟩
          have HO3 : Hid (Ow (lay w [.inr d, .inr d2]) (lay w []).heap.size (.slice (some ⟨posn w [], 0, none⟩) n n) out2) := Lib.hid (ow_on (A := [.inr d]) HO2.out.1)
          rw [e3] at HO3 ⊢
          clear e3 co
          have fz := HO3.out.froz j
          have co := HO3.out.cell (i := j) (by rw [HL2.out]; exact hj2)
          obtain ⟨d4, e4, hO4⟩ := ow_store1 j HO3.out hg lw
          have HO4 := Lib.hid hO4
          clear hO4
          go_wp2_with fail
          go_roundw
          case rel => exact ⟨k + 1, K, out2.set j R, d4, HK2.out, by go_num, rfl, rfl, HO4.out, HST2.out⟩
          case measure => have := HK2.out; simp [intOf]; omega
        · obtain rfl : k = q := by omega
          have HT2 := Lib.hid (HO2.out.2.done (by rw [HE.out.1]; exact h1) HE.out.2.symm)
          rw [HE.out.2] at HT2
          obtain ⟨j, hj⟩ : ∃ j, i + k = j := ⟨_, rfl⟩
          have hj2 : j < n := by have := HN.out; omega
          have hjI : (i : Int) + (k : Int) = (j : Int) := by omega
          have kj : IntKind.i64.wrap (j : Int) = (j : Int) := IntWalk.i64_in _ (by omega)
          have xj0 : (0 : Int) ≤ (j : Int) := by omega
          have xj1 : (j : Int) < (n : Int) := by omega
          rw [hj] at HT2
          have lw : (Lit.int .i64 c).wf = true := lit_b (by omega)
          have fz := HO2.out.1.froz j
          have co := HO2.out.1.cell (i := j) (by rw [HL2.out]; exact hj2)
          obtain ⟨d4, e4, hO4⟩ := ow_store1 j HO2.out.1 hg lw
          have HO4 := Lib.hid hO4
          have HH1 := Lib.hid h1
          clear hO4 hj hc0 hcb
          go_wp2_with fail
          go_roundw
          case rel => exact ⟨i + 1, out2.set j c, d4, HH1.out, by go_num, rfl, HO4.out, HT2.out⟩
          case measure => have := HH1.out; simp [intOf]; omega
    · obtain rfl : i = m := by omega
      have HD := Lib.hid (HO.out.2.done HE.out.1.symm)
      have hl : out.length = n := by rw [HO.out.2.len, HE.out.1, HE.out.2]; exact HN.out
      have HTr := Lib.hid (trim_ok out.length out rfl HO.out.2.dg)
      have HLn := Lib.hid (trim_len out)
      have HL := Lib.hid hl
      clear hl
      go_wp2_with fail
      refine (HT.out _ _ _ _ HO.out.1 (by rw [HL.out]; omega)).mono ?_
      rintro e w' ⟨v', d', rfl, rfl, hv'⟩
      rw [lay_bw] at hv' ⊢
      obtain ⟨d3, e3⟩ : ∃ x, lay w [.inr d', .inr dd] = lay w [.inr x] := ⟨_, bw_bw _ _ _⟩
      rw [e3] at hv' ⊢
      clear e3
      have HV2 := Lib.hid hv'
      clear hv'
      go_wp2_with fail
      go_ret
      exact ⟨trimD out, _, d3, ⟨HTr.out.1, by rw [HTr.out.2]; exact HD.out.2, by have := HLn.out; rw [HL.out] at this; exact this⟩, rfl, rfl, HV2.out.le (lay_below (w := w) (A := [.inr dd]) (B := [])).size⟩
end Go.Proofs.YtnnmfdeeicpdlaaGreat
/- The reference's digits: Over. -/
namespace Go.Proofs.YtnnmfdeeicpdlaaGreat
open Go.RowKit

theorem ow_formN {w : World} {base : Nat} {v : Value} {l : List Int} (h : Ow w base v l) : ∃ A c, v = .slice A l.length c ∧ (A = none → c = 0) := by
  rcases h.1.2 with ⟨rfl, hz⟩ | ⟨g, cap, cur, rfl, _⟩
  · exact ⟨none, 0, by rw [hz], fun _ => rfl⟩
  · exact ⟨_, cap, rfl, fun h => by cases h⟩
end Go.Proofs.YtnnmfdeeicpdlaaGreat
