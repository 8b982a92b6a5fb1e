/- Contracts and plain laws, several texts in one: SaR; Qn7; Qn8; Qn9 -/
import Derived.Test.YtakcfcekdngndaaProg
import Derived.WalkKit
import Derived.WalkSpells
import Derived.WalkLawsBesides
import Derived.Lib.Hide
import Derived.BigQuiet
import Derived.Test.YtakcfcekdngndaaBAA
import Derived.Test.YtakcfcekdngndaaBAT
/- Directions of points of a box about the pole star: they are within 185001 units. No program in sight. -/
namespace Go.Proofs.Ytakcfcekdngndaa
open Go.RowKit

theorem b_at (m : Nat) (n q x y x' y' : Int) (hm : n = (m : Int)) (hq : q = n + 5400000) (h0 : 0 < m) (h1 : m < 2700000) (h2 : m ≠ 1800000) (h : ((octS m : Nat) : Int) = x ∧ ((octC m : Nat) : Int) = y) (hx : x + 1 = x') (hy : y + 1 = y') : bLo n = x ∧ bHi n = x' ∧ bLo q = y ∧ bHi q = y' := by
  have e1 := b_one (n := n) (by omega) (by omega)
  have e2 := b_two (n := q) (by omega) (by omega)
  have t1 : n.toNat = m := by omega
  have t2 : (10800000 - q).toNat = 5400000 - m := by omega
  rw [t1] at e1
  rw [t2] at e2
  have s1 := sinQ_s (n := m) (by omega) h2 (by omega)
  have s2 := sinQ_c (n := 5400000 - m) (by omega) (by omega)
  rw [show 5400000 - (5400000 - m) = m by omega] at s2
  have o1 := oneQ_at m
  rw [if_neg (by omega)] at o1
  have o2 := oneQ_at (5400000 - m)
  rw [if_neg (by omega)] at o2
  unfold hiQ at e1 e2
  rw [s1, h.1, o1, hx] at e1
  rw [s2, h.2, o2, hy] at e2
  exact ⟨e1.1, e1.2, e2.1, e2.2⟩
theorem oct_is {r x y : Nat} {a b : Int} (h : RotN r x y) (ha : ((x / 73786976294838206464 : Nat) : Int) = a) (hb : ((y / 73786976294838206464 : Nat) : Int) = b) : ((octS r : Nat) : Int) = a ∧ ((octC r : Nat) : Int) = b := by
  have := oct_of h
  rw [this.1, this.2]
  exact ⟨ha, hb⟩
theorem b_180 : bLo 180000 = 56195305 ∧ bHi 180000 = 56195306 ∧ bLo 5580000 = 1072270298 ∧ bHi 5580000 = 1072270299 :=
  b_at 180000 180000 5580000 _ _ _ _ rfl rfl (by decide) (by decide) (by decide) (oct_is rot_180000 (by decide +kernel) (by decide +kernel)) rfl rfl
theorem b_185 : bLo 185000 = 57754799 ∧ bHi 185000 = 57754800 ∧ bLo 5585000 = 1072187431 ∧ bHi 5585000 = 1072187432 :=
  b_at 185000 185000 5585000 _ _ _ _ rfl rfl (by decide) (by decide) (by decide) (oct_is rot_185000 (by decide +kernel) (by decide +kernel)) rfl rfl
theorem b_1 : bHi 1 = 313 :=
  (b_at 1 1 5400001 312 1073741823 313 1073741824 rfl rfl (by decide) (by decide) (by decide) (oct_is rot_1 (by decide +kernel) (by decide +kernel)) rfl rfl).2.1
theorem zS_min {m : Int} (h0 : 1 ≤ m) (h1 : m ≤ 5400000) : 312 ≤ 1073741824 * zS m := by
  have hd := (cell_all (n := m) (by omega) (by omega)).dn
  have hm := (b_up (a := 1) (b := m) (by decide) h0 h1).2
  rw [b_1] at hm
  have := castle hm
  unfold g24 at hd
  push_cast at this
  grind
/-- Cosines of angles up to a right one are not negative, but for a little. -/
theorem zC_nn {n : Int} (h0 : -5400000 ≤ n) (h1 : n ≤ 5400000) : -(1 / 1000000000) ≤ 1073741824 * zC n := by
  have hc := (cell_all (n := n + 5400000) (by omega) (by omega)).lo
  have hp := castle (bLo_pos (n := n + 5400000) (by omega) (by omega))
  obtain ⟨q1, q2⟩ := zC_quarter n
  have ht : t31 + 1073741824 * (2 * e60) ≤ 1 / 1000000000 := by unfold t31 e60; grind
  push_cast at hp
  grind
theorem zJ : 1073741824 * zC 185000 ≤ 1072187433 ∧ 57754798 ≤ 1073741824 * zS 185000 ∧ 1072187430 ≤ 1073741824 * zC 185000 := by
  obtain ⟨e1, e2, e3, e4⟩ := b_185
  have h1 := (cell_all (n := 185000) (by decide) (by decide)).lo
  have h2 := (cell_all (n := 5585000) (by decide) (by decide)).hi
  have h3 := (cell_all (n := 5585000) (by decide) (by decide)).lo
  rw [e1] at h1
  rw [e4] at h2
  rw [e3] at h3
  obtain ⟨q1, q2⟩ := zC_quarter 185000
  rw [show (185000 : Int) + 5400000 = 5585000 from rfl] at q1 q2
  have ht : t31 + 1073741824 * (2 * e60) ≤ 1 / 1000000000 := by unfold t31 e60; grind
  push_cast at h1 h2 h3
  generalize zS 5585000 = a at *
  generalize zC 185000 = b at *
  generalize zS 185000 = c at *
  refine ⟨?_, ?_, ?_⟩ <;> grind
theorem slope_lt {X Y : Rat} {n : Int} (X0 : 536870912 ≤ X) (X1 : X ≤ 2147483648) (Y0 : -2147483648 ≤ Y) (Y1 : Y ≤ 2147483648) (hn : n ≤ 5400000) (h : X * zS n ≤ Y * zC n + 1 / 200000000) (hs : Y * zC 185000 ≤ X * zS 185000) : n ≤ 185000 := by
  rcases (show n ≤ 185000 ∨ 185001 ≤ n by omega) with g | g
  · exact g
  · have hm := zS_min (m := n - 185000) (by omega) (by omega)
    obtain ⟨a1, -⟩ := Z_sub n 185000
    rw [a1] at hm
    have hc := zC_nn (n := n) (by omega) hn
    obtain ⟨j1, j2, j3⟩ := zJ
    obtain ⟨-, -, hc1⟩ := Z_in n
    have hJ := (Z_in 185000).1
    generalize zS n = s at *
    generalize zC n = c at *
    generalize zS 185000 = sj at *
    generalize zC 185000 = cj at *
    -- c' is c, or zero if c is below it
    obtain ⟨p1, p2⟩ := rabs (x := Y) (y := c) (m := 2147483648) (f := 1) Y0 Y1 (by grind) hc1
    have k1 := Rat.mul_le_mul_of_nonneg_right h (show 0 ≤ cj by grind)
    have k2 : X * s * cj ≤ Y * c * cj + 1 / 200000000 := by grind
    rcases (Rat.le_total : (0 : Rat) ≤ c ∨ c ≤ 0) with z | z
    · have k3 := Rat.mul_le_mul_of_nonneg_right hs z
      have k4 : X * (s * cj - c * sj) ≤ 1 / 200000000 := by grind
      have k5 := rmul (a := 536870912) (b := X) (c := 1 / 10000000) (d := s * cj - c * sj) (by grind) X0 (by grind) (by grind)
      exact False.elim (by grind)
    · obtain ⟨r1, r2⟩ := rabs (x := Y * cj) (y := c) (m := 2147483648) (f := 1 / 1000000000000000000) (by have := rabs (x := Y) (y := cj) (m := 2147483648) (f := 1) Y0 Y1 (by grind) (by grind); grind) (by have := rabs (x := Y) (y := cj) (m := 2147483648) (f := 1) Y0 Y1 (by grind) (by grind); grind) (by grind) (by grind)
      obtain ⟨r3, r4⟩ := rabs (x := X * sj) (y := c) (m := 2147483648) (f := 1 / 1000000000000000000) (by have := rabs (x := X) (y := sj) (m := 2147483648) (f := 1) (by grind) X1 hJ.1 hJ.2; grind) (by have := rabs (x := X) (y := sj) (m := 2147483648) (f := 1) (by grind) X1 hJ.1 hJ.2; grind) (by grind) (by grind)
      have k4 : X * (s * cj - c * sj) ≤ 1 / 100000000 := by grind
      have k5 := rmul (a := 536870912) (b := X) (c := 1 / 10000000) (d := s * cj - c * sj) (by grind) X0 (by grind) (by grind)
      exact False.elim (by grind)
theorem slope_ok {X Y : Rat} (xp : 1072270298 ≤ X) (y0 : -56195306 ≤ Y) (y1 : Y ≤ 56195306) : Y * zC 185000 ≤ X * zS 185000 ∧ -Y * zC 185000 ≤ X * zS 185000 := by
  obtain ⟨j1, j2, j3⟩ := zJ
  generalize zC 185000 = c at *
  generalize zS 185000 = s at *
  have u1 := Rat.mul_le_mul_of_nonneg_right y1 (show 0 ≤ c by grind)
  have u2 := Rat.mul_le_mul_of_nonneg_right (show -Y ≤ 56195306 by grind) (show 0 ≤ c by grind)
  have u3 := Rat.mul_le_mul_of_nonneg_right xp (show 0 ≤ s by grind)
  constructor <;> grind
/-- A point near to the axis has its direction near to it. -/
theorem dir_near {X Y n M : Int} (h : DirP X Y n M) (X0 : 536870912 ≤ X) (X1 : X ≤ 2147483648) (Y0 : -56195306 ≤ Y) (Y1 : Y ≤ 56195306) (XP : 1072270298 ≤ X) : n ≤ 185000 ∧ M ≤ 185001 ∧ -185001 ≤ n ∧ -185000 ≤ M := by
  have x0 : (536870912 : Rat) ≤ (X : Rat) := castle X0
  have x1 : (X : Rat) ≤ 2147483648 := castle X1
  have xp : (1072270298 : Rat) ≤ (X : Rat) := castle XP
  have y0 : (-56195306 : Rat) ≤ (Y : Rat) := castle Y0
  have y1 : (Y : Rat) ≤ 56195306 := castle Y1
  obtain ⟨hs1, hs2⟩ := slope_ok xp y0 y1
  have a := slope_lt (n := n) x0 x1 (by clear hs1 hs2; grind) (by clear hs1 hs2; grind) (by have := h.nM; have := h.M1; omega) h.lo hs1
  have hh := h.hi
  have b := slope_lt (Y := -(Y : Rat)) (n := -M) x0 x1 (by clear hs1 hs2 hh; grind) (by clear hs1 hs2 hh; grind) (by have := h.nM; have := h.n0; omega) (by rw [zS_neg, zC_neg]; clear hs1 hs2; grind) hs2
  have := h.Mn
  have := h.nM
  omega
end Go.Proofs.Ytakcfcekdngndaa
/- arctrig: reaches. -/
namespace Go.Proofs.Ytakcfcekdngndaa
open Go.RowKit

theorem le_two {a z e : Rat} (h : a ≤ z + e) (hz : z ≤ 1) (he : e ≤ 1) : a ≤ 2 := by grind
theorem eA_one : eA ≤ 1 := by unfold eA; grind
theorem sico_le {k : Nat} (hk : k ≤ 5400000) : siA k ≤ 2 * (m192 : Int) ∧ coA k ≤ 2 * (m192 : Int) := by
  obtain ⟨⟨m1, n1⟩, ⟨m2, n2⟩⟩ := siA_near hk
  have hu := z_unit k
  obtain ⟨b1, b2⟩ := sq_one hu
  have hu2 : zc k * zc k + zs k * zs k = 1 := by rw [← hu]; grind
  obtain ⟨b3, b4⟩ := sq_one hu2
  have hm := m192_rat
  have key : ∀ z : Int, (z : Rat) / (m192 : Rat) ≤ 2 → z ≤ 2 * (m192 : Int) := by
    intro z h
    have h1 : (z : Rat) = ((z : Rat) / (m192 : Rat)) * (m192 : Rat) := by grind
    have h2 := Rat.mul_le_mul_of_nonneg_right h (Rat.le_of_lt hm)
    rw [← h1] at h2
    have h3 : ((2 * (m192 : Int) : Int) : Rat) = 2 * (m192 : Rat) := by
      rw [Rat.intCast_mul]; rfl
    rw [← h3] at h2
    exact Rat.intCast_le_intCast.1 h2
  first | exact ⟨key _ (le_two n1 b2 eA_one), key _ (le_two n2 b4 eA_one)⟩ | exact ⟨key _ (le_two m1 b2 eA_one), key _ (le_two m2 b4 eA_one)⟩
theorem m192_33 : 2 * m192 * 2147483649 < 18446744073709551616 ^ 4 := by decide +kernel
set_option maxHeartbeats 4000000 in
set_option maxRecDepth 100000 in
theorem ar_reaches (u v k : Nat) (hk : k ≤ 5400000) (hu : u ≤ 2147483648) (hv : v ≤ 2147483648) (w : World) :
    Calls Try.prog 84 #[.agg #[.int .i64 (u : Int), .int .i64 (v : Int)], .int .i64 (k : Int)] w fun e w' => e = .returned (.bool (rchB u v k)) ∧ ∃ d, w' = bw w d := by
  refine lay_start ?_
  unfold rchB
  by_cases h0 : k = 0
  · subst h0
    go_enter Try.func84, Try.ntmps84
    go_wp2_with fail
    exact bodyPost_ret (v := .bool true) (by simp [results, Try.results84, go_sem]) rfl ⟨rfl, lay_ex _ _⟩
  rw [if_neg h0]
  by_cases h1 : k = 2700000
  · subst h1
    go_enter Try.func84, Try.ntmps84
    go_wp2_with fail
    exact bodyPost_ret (v := .bool (decide (u ≤ v))) (by simp [results, Try.results84, go_sem]) rfl ⟨by first | rfl | simp, lay_ex _ _⟩
  rw [if_neg h1]
  have e0 : ¬ (k : Int) = 0 := by omega
  have e1 : ¬ (k : Int) = 2700000 := by omega
  have k1 : IntKind.u64.wrap (u : Int) = (u : Int) := IntWalk.u64_in _ (by omega)
  have k2 : IntKind.u64.wrap (v : Int) = (v : Int) := IntWalk.u64_in _ (by omega)
  have HC := Lib.hid (fun W => ar_circle k hk W)
  obtain ⟨s1, s2⟩ := sico_le hk
  unfold nuV at *
  go_enter Try.func84, Try.ntmps84
  go_wp2_with fail
  refine (HC.out _).mono ?_
  rintro e w' ⟨s, c, d1, rfl, rfl, hs, hc, hs2, hc2⟩
  rw [lay_bw]
  have HU := Lib.hid (And.intro hs (And.intro hc (And.intro hs2 hc2)))
  have T1 := Lib.hid (fun W => qn_times c v hc (by omega) W)
  have T2 := Lib.hid (fun W => qn_times s u hs (by omega) W)
  have b1 : val4 c ≤ 2 * m192 := by omega
  have b2 : val4 s ≤ 2 * m192 := by omega
  have p1 : v * val4 c < 18446744073709551616 ^ 4 := by
    have h3 := Nat.mul_le_mul hv b1
    have h4 := m192_33
    omega
  have p2 : u * val4 s < 18446744073709551616 ^ 4 := by
    have h3 := Nat.mul_le_mul hu b2
    have h4 := m192_33
    omega
  have HP := Lib.hid (And.intro p1 p2)
  unfold nuV at T1 T2
  clear hs hc hs2 hc2 HC s1 s2 b1 b2 p1 p2
  go_wp2_with fail
  refine region_mixP [(0, 0), (1, 0), (2, 0), (3, 0), (5, 0), (6, 0), (7, 0), (8, 0), (4, 1), (9, 1), (10, 1), (11, 0)] (by kernel_rfl) (by kernel_rfl) (by kernel_rfl) (by kernel_rfl) (by decide) (by kernel_rfl) ?_
  simp only [List.drop_succ_cons, List.drop_zero, List.length_cons, List.length_nil, Nat.reduceAdd]
  iterate 8 (refine wpMP_quiet rfl (fun K hK => ?_); go_simp; refine hK _ ?_; clear hK K)
  refine wpMP_special rfl (fun K hK d0 => ?_)
  rw [lay_bw]
  go_simp
  refine (T1.out _).mono ?_
  rintro e w' ⟨r1, f1, rfl, rfl, hw1, t1, ht1⟩
  have hr1 := times_small ht1 HP.out.1
  have HR1 := Lib.hid (And.intro hw1 hr1)
  clear hw1 ht1 hr1 t1
  refine ⟨_, rfl, ?_⟩
  go_simp
  refine hK _ _ (lay_in w [_, _] _) ?_
  clear hK K
  refine wpMP_special rfl (fun K hK d2 => ?_)
  rw [lay_bw]
  go_simp
  refine (T2.out _).mono ?_
  rintro e w' ⟨r2, f2, rfl, rfl, hw1, t1, ht1⟩
  have hr1 := times_small ht1 HP.out.2
  have HR2 := Lib.hid (And.intro hw1 hr1)
  clear hw1 ht1 hr1 t1
  refine ⟨_, rfl, ?_⟩
  go_simp
  refine hK _ _ (lay_in w [_, _, _, _] _) ?_
  clear hK K
  have HL := Lib.hid (fun W => qn_less r1 r2 HR1.out.1 HR2.out.1 W)
  unfold nuV at HL
  rw [HR1.out.2, HR2.out.2] at HL
  refine wpMP_special rfl (fun K hK d3 => ?_)
  rw [lay_bw]
  go_simp
  refine (HL.out _).mono ?_
  rintro e w' ⟨rfl, f3, rfl⟩
  refine ⟨_, rfl, ?_⟩
  go_simp
  refine hK _ _ (lay_in w [_, _, _, _, _, _] _) ?_
  clear hK K
  iterate 1 (refine wpMP_quiet rfl (fun K hK => ?_); go_simp; refine hK _ ?_; clear hK K)
  refine wpMP_nil ?_
  intro d4
  rw [lay_bw]
  go_wp2_with fail
  refine bodyPost_ret (v := .bool (!decide (v * val4 c < u * val4 s))) (by simp [results, Try.results84, go_sem]) rfl ⟨?_, lay_ex _ _⟩
  rw [← HU.out.2.2.1, ← HU.out.2.2.2]
  refine congrArg Ending.returned (congrArg Value.bool ?_)
  have e1 : ((val4 s : Int) * (u : Int) ≤ (val4 c : Int) * (v : Int)) ↔ ¬ (v * val4 c < u * val4 s) := by
    rw [← Int.natCast_mul, ← Int.natCast_mul, Int.ofNat_le, Nat.not_lt, Nat.mul_comm (val4 s), Nat.mul_comm (val4 c)]
  simp only [e1]
  by_cases hh : v * val4 c < u * val4 s <;> simp [hh]
end Go.Proofs.Ytakcfcekdngndaa
/- arctrig: angle. -/
namespace Go.Proofs.Ytakcfcekdngndaa
open Go.RowKit

set_option maxHeartbeats 4000000 in
set_option maxRecDepth 100000 in
theorem ar_angle (u v : Nat) (hu0 : 0 < u) (hu : u ≤ 2147483648) (hv : v ≤ 2147483648) (w : World) :
    Calls Try.prog 70 #[.agg #[.int .i64 (u : Int), .int .i64 (v : Int)]] w fun e w' => ∃ (k : Nat) (ex : Bool) (d : Ext), e = .returned (.tuple #[.int .i64 (k : Int), .bool ex]) ∧ AngP u v k ex ∧ w' = bw w d := by
  have a1 : (0 : Int) < (u : Int) := by omega
  have a2 : (0 : Int) ≤ (v : Int) := by omega
  refine lay_start ?_
  go_enter Try.func70, Try.ntmps70
  go_wp2_with fail
  go_loopw [4] (fun v4 wr => v4 = .int .i64 0 ∧ wr = lay w [.inl (.cells #[.int .i64 (u : Int), .int .i64 (v : Int)] 78 (0, 0))]) (fun _ _ => 0)
  case atStart => exact ⟨rfl, rfl⟩
  case round =>
    obtain ⟨rfl, rfl⟩ := hrel
    go_wp2_with fail
    go_loopw [5, 6] (fun v5 v6 wr => ∃ (l h : Nat) (dd : Ext), v5 = .int .i64 (l : Int) ∧ v6 = .int .i64 (h : Int) ∧ wr = lay w (.inr dd :: [.inl (.cells #[.int .i64 (u : Int), .int .i64 (v : Int)] 78 (0, 0))]) ∧ l < h ∧ h ≤ 5400000 ∧ (l = 0 ∨ rchB (u : Int) (v : Int) l = true) ∧ (h = 5400000 ∨ rchB (u : Int) (v : Int) h = false)) (fun v5 v6 _ => (intOf v6 - intOf v5).toNat)
    case atStart => exact ⟨0, 5400000, noExt _, rfl, rfl, (bw_noExt _).symm, by decide, by decide, .inl rfl, .inl rfl⟩
    case round =>
      obtain ⟨l, h, dd, rfl, rfl, rfl, hlh, hh, hA, hB⟩ := hrel
      have HA := Lib.hid hA
      have HB2 := Lib.hid hB
      clear hA hB
      have k1 : IntKind.i64.wrap ((h : Int) - (l : Int)) = (h : Int) - (l : Int) := IntWalk.i64_in _ (by omega)
      by_cases c : (1 : Int) < (h : Int) - (l : Int)
      · obtain ⟨XQ, hXQ⟩ : ∃ XQ : Int, (l : Int) + (h : Int) = XQ := ⟨_, rfl⟩
        obtain ⟨m, hm⟩ : ∃ m : Nat, XQ.tdiv 2 = (m : Int) := ⟨(XQ.tdiv 2).toNat, by rw [Int.tdiv_eq_ediv_of_nonneg (by omega)]; omega⟩
        have k2 : IntKind.i64.wrap ((l : Int) + (h : Int)) = XQ := by rw [hXQ]; exact IntWalk.i64_in _ (by omega)
        have hml : l < m ∧ m < h := by rw [Int.tdiv_eq_ediv_of_nonneg (by omega)] at hm; omega
        have k3 : IntKind.i64.wrap (m : Int) = (m : Int) := IntWalk.i64_in _ (by omega)
        have HBm := Lib.hid (fun W => ar_reaches u v m (by omega) (by omega) (by omega) W)
        have HLH := Lib.hid (And.intro hlh (And.intro hh hml))
        clear hXQ hlh hh hml
        cases cb : rchB (u : Int) (v : Int) m
        · rw [cb] at HBm
          have HC := Lib.hid cb
          clear cb
          go_wp2_with (go_at_call 84; refine (HBm.out _).mono ?_; rintro e w' ⟨rfl, d1, rfl⟩; rw [lay_bw])
          obtain ⟨g1, g2, g3, g4⟩ := HLH.out
          obtain ⟨de, hde⟩ := lay_fold w [.inr d1, .inr dd] [.inl (.cells #[.int .i64 (u : Int), .int .i64 (v : Int)] 78 (0, 0))]
          exact ⟨⟨_, _, de, rfl, rfl, hde, by omega, by omega, HA.out, .inr HC.out⟩, by simp only [intOf]; omega⟩
        · rw [cb] at HBm
          have HC := Lib.hid cb
          clear cb
          go_wp2_with (go_at_call 84; refine (HBm.out _).mono ?_; rintro e w' ⟨rfl, d1, rfl⟩; rw [lay_bw])
          obtain ⟨g1, g2, g3, g4⟩ := HLH.out
          obtain ⟨de, hde⟩ := lay_fold w [.inr d1, .inr dd] [.inl (.cells #[.int .i64 (u : Int), .int .i64 (v : Int)] 78 (0, 0))]
          exact ⟨⟨_, _, de, rfl, rfl, hde, by omega, by omega, .inr HC.out, HB2.out⟩, by simp only [intOf]; omega⟩
      · have hhl : h = l + 1 := by omega
        have kT : IntKind.i64.wrap (0 + (l : Int)) = 0 + (l : Int) := IntWalk.i64_in _ (by omega)
        subst hhl
        have HAng : ∀ ex, ex = (decide (l = 0 ∧ (v : Int) = 0) || decide (l = 2700000 ∧ (u : Int) = (v : Int))) → AngP (u : Int) (v : Int) l ex := fun ex h => ⟨by omega, HA.out, HB2.out, h⟩
        have HAng := Lib.hid HAng
        have HL := Lib.hid (And.intro hlh hh)
        clear hlh hh HA HB2
        have kT0 : IntKind.i64.wrap (l : Int) = (l : Int) := by simpa using kT
        by_cases c1 : (l : Int) = 0
        · have n1 : ¬ (l : Int) = 2700000 := by omega
          have n2 : ¬ l = 2700000 := by omega
          by_cases c2 : (v : Int) = 0
          · have N : Hid (l = 0 ∧ (v : Int) = 0 ∧ ¬ l = 2700000 ∧ True) := Lib.hid ⟨by omega, c2, n2, trivial⟩
            go_wp2_with fail
            refine region_mixS 22 [(0, 0), (1, 0), (2, 0), (3, 0), (4, 0), (5, 0), (6, 0), (7, 0), (8, 0), (9, 0), (10, 0), (11, 0), (12, 0), (13, 0), (14, 0), (15, 0), (16, 0), (17, 0), (18, 0), (19, 0), (20, 0), (21, 0), (22, 3)] (by kernel_rfl) (by kernel_rfl) (by kernel_rfl) rfl ?_
            iterate 22 (refine wpMS_quiet rfl (fun K hK => ?_); go_simp; refine hK _ ?_; clear hK K)
            refine wpMS_store rfl (fun K hK e1 => ?_)
            rw [lay_bw]
            go_simp
            refine hK _ _ ?_
            clear hK K
            refine wpMS_nil (fun e2 => ?_)
            rw [lay_bw]
            go_wp2_with fail
            refine bodyPost_ret (v := .tuple #[.int .i64 0, .bool true]) (by simp [results, Try.results70, go_sem] <;> first | done | decide | exact kT0 | omega | (refine ⟨by first | decide | exact kT0, by omega⟩)) rfl ?_
            exact ⟨l, true, _, by first | rfl | (rw [c1]; done) | (rw [c1]; rfl) | (rw [c1]; simp), HAng.out _ (by have := N.out; simp_all <;> omega), (lay_ex _ _).choose_spec⟩
          · have c3 : ¬ v = 0 := by omega
            have N : Hid (l = 0 ∧ ¬ (v : Int) = 0 ∧ ¬ l = 2700000 ∧ True) := Lib.hid ⟨by omega, c2, n2, trivial⟩
            go_wp2_with fail
            refine region_mixS 22 [(0, 0), (1, 0), (2, 0), (3, 0), (4, 0), (5, 0), (6, 0), (7, 0), (8, 0), (9, 0), (10, 0), (11, 0), (12, 0), (13, 0), (14, 0), (15, 0), (16, 0), (17, 0), (18, 0), (19, 0), (20, 0), (21, 0), (22, 3)] (by kernel_rfl) (by kernel_rfl) (by kernel_rfl) rfl ?_
            iterate 22 (refine wpMS_quiet rfl (fun K hK => ?_); go_simp; refine hK _ ?_; clear hK K)
            refine wpMS_store rfl (fun K hK e1 => ?_)
            rw [lay_bw]
            go_simp
            refine hK _ _ ?_
            clear hK K
            refine wpMS_nil (fun e2 => ?_)
            rw [lay_bw]
            go_wp2_with fail
            refine bodyPost_ret (v := .tuple #[.int .i64 0, .bool false]) (by simp [results, Try.results70, go_sem] <;> first | done | decide | exact kT0 | omega | (refine ⟨by first | decide | exact kT0, by omega⟩)) rfl ?_
            exact ⟨l, false, _, by first | rfl | (rw [c1]; done) | (rw [c1]; rfl) | (rw [c1]; simp), HAng.out _ (by have := N.out; simp_all <;> omega), (lay_ex _ _).choose_spec⟩
        · have n1 : ¬ l = 0 := by omega
          by_cases c2 : l = 2700000
          · subst c2
            by_cases c3 : u = v
            · have c4 : (u : Int) = (v : Int) := by omega
              have N : Hid (True ∧ True ∧ True ∧ (u : Int) = (v : Int)) := Lib.hid ⟨trivial, trivial, trivial, c4⟩
              go_wp2_with fail
              refine region_mixS 22 [(0, 0), (1, 0), (2, 0), (3, 0), (4, 0), (5, 0), (6, 0), (7, 0), (8, 0), (9, 0), (10, 0), (11, 0), (12, 0), (13, 0), (14, 0), (15, 0), (16, 0), (17, 0), (18, 0), (19, 0), (20, 0), (21, 0), (22, 3)] (by kernel_rfl) (by kernel_rfl) (by kernel_rfl) rfl ?_
              iterate 22 (refine wpMS_quiet rfl (fun K hK => ?_); go_simp; refine hK _ ?_; clear hK K)
              refine wpMS_store rfl (fun K hK e1 => ?_)
              rw [lay_bw]
              go_simp
              refine hK _ _ ?_
              clear hK K
              refine wpMS_nil (fun e2 => ?_)
              rw [lay_bw]
              go_wp2_with fail
              refine bodyPost_ret (v := .tuple #[.int .i64 (0 + 2700000), .bool true]) (by simp [results, Try.results70, go_sem] <;> first | done | decide | exact kT0 | omega | (refine ⟨by first | decide | exact kT0, by omega⟩)) rfl ?_
              exact ⟨2700000, true, _, by first | rfl | (rw [c1]; done) | (rw [c1]; rfl) | (rw [c1]; simp), HAng.out _ (by have := N.out; simp_all <;> omega), (lay_ex _ _).choose_spec⟩
            · have c4 : ¬ (u : Int) = (v : Int) := by omega
              have N : Hid (True ∧ True ∧ True ∧ ¬ (u : Int) = (v : Int)) := Lib.hid ⟨trivial, trivial, trivial, c4⟩
              go_wp2_with fail
              refine region_mixS 22 [(0, 0), (1, 0), (2, 0), (3, 0), (4, 0), (5, 0), (6, 0), (7, 0), (8, 0), (9, 0), (10, 0), (11, 0), (12, 0), (13, 0), (14, 0), (15, 0), (16, 0), (17, 0), (18, 0), (19, 0), (20, 0), (21, 0), (22, 3)] (by kernel_rfl) (by kernel_rfl) (by kernel_rfl) rfl ?_
              iterate 22 (refine wpMS_quiet rfl (fun K hK => ?_); go_simp; refine hK _ ?_; clear hK K)
              refine wpMS_store rfl (fun K hK e1 => ?_)
              rw [lay_bw]
              go_simp
              refine hK _ _ ?_
              clear hK K
              refine wpMS_nil (fun e2 => ?_)
              rw [lay_bw]
              go_wp2_with fail
              refine bodyPost_ret (v := .tuple #[.int .i64 (0 + 2700000), .bool false]) (by simp [results, Try.results70, go_sem] <;> first | done | decide | exact kT0 | omega | (refine ⟨by first | decide | exact kT0, by omega⟩)) rfl ?_
              exact ⟨2700000, false, _, by first | rfl | (rw [c1]; done) | (rw [c1]; rfl) | (rw [c1]; simp), HAng.out _ (by have := N.out; simp_all <;> omega), (lay_ex _ _).choose_spec⟩
          · have c3 : ¬ (l : Int) = 2700000 := by omega
            have N : Hid (¬ l = 0 ∧ True ∧ ¬ l = 2700000 ∧ True) := Lib.hid ⟨n1, trivial, c2, trivial⟩
            go_wp2_with fail
            refine region_mixS 22 [(0, 0), (1, 0), (2, 0), (3, 0), (4, 0), (5, 0), (6, 0), (7, 0), (8, 0), (9, 0), (10, 0), (11, 0), (12, 0), (13, 0), (14, 0), (15, 0), (16, 0), (17, 0), (18, 0), (19, 0), (20, 0), (21, 0), (22, 3)] (by kernel_rfl) (by kernel_rfl) (by kernel_rfl) rfl ?_
            iterate 22 (refine wpMS_quiet rfl (fun K hK => ?_); go_simp; refine hK _ ?_; clear hK K)
            refine wpMS_store rfl (fun K hK e1 => ?_)
            rw [lay_bw]
            go_simp
            refine hK _ _ ?_
            clear hK K
            refine wpMS_nil (fun e2 => ?_)
            rw [lay_bw]
            go_wp2_with fail
            refine bodyPost_ret (v := .tuple #[.int .i64 (l : Int), .bool false]) (by simp [results, Try.results70, go_sem] <;> first | done | decide | exact kT0 | omega | (refine ⟨by first | decide | exact kT0, by omega⟩)) rfl ?_
            exact ⟨l, false, _, by first | rfl | (rw [c1]; done) | (rw [c1]; rfl) | (rw [c1]; simp), HAng.out _ (by have := N.out; simp_all <;> omega), (lay_ex _ _).choose_spec⟩
end Go.Proofs.Ytakcfcekdngndaa
/- arctrig: angle, below the axis. -/
namespace Go.Proofs.Ytakcfcekdngndaa
open Go.RowKit

set_option maxHeartbeats 4000000 in
set_option maxRecDepth 100000 in
theorem ar_angleD (X Y : Nat) (MY : Int) (hX0 : 0 < X) (hX : X ≤ 2147483648) (hY0 : 0 < Y) (hY : Y ≤ 2147483648) (hM : MY = -(Y : Int)) (w : World) :
    Calls Try.prog 70 #[.agg #[.int .i64 (X : Int), .int .i64 MY]] w fun e w' => ∃ (k : Nat) (ex : Bool) (d : Ext), e = .returned (.tuple #[.int .i64 (16200000 + (k : Int)), .bool ex]) ∧ AngP Y X k ex ∧ w' = bw w d := by
  obtain ⟨MX, hMX⟩ : ∃ MX : Int, MX = -(X : Int) := ⟨_, rfl⟩
  have a1 : (0 : Int) < (X : Int) := by omega
  have a2 : ¬ (0 : Int) ≤ MY := by omega
  have a3 : ¬ (0 : Int) < MY := by omega
  have a4 : ¬ (0 : Int) < MX := by omega
  have a5 : (0 : Int) < (Y : Int) := by omega
  have a6 : (0 : Int) ≤ (X : Int) := by omega
  have k1 : IntKind.i64.wrap (-(X : Int)) = MX := by rw [hMX]; exact IntWalk.i64_in _ (by omega)
  have k2 : IntKind.i64.wrap (-MY) = (Y : Int) := by rw [hM, Int.neg_neg]; exact IntWalk.i64_in _ (by omega)
  have k3 : IntKind.i64.wrap (-MX) = (X : Int) := by rw [hMX, Int.neg_neg]; exact IntWalk.i64_in _ (by omega)
  have t1 : IntKind.i64.wrap ((0 : Int) + 5400000) = 5400000 := by decide
  have t2 : IntKind.i64.wrap ((5400000 : Int) + 5400000) = 10800000 := by decide
  have t3 : IntKind.i64.wrap ((10800000 : Int) + 5400000) = 16200000 := by decide
  clear hM hMX
  refine lay_start ?_
  go_enter Try.func70, Try.ntmps70
  go_wp2_with fail
  go_loopw [4] (fun v4 wr => (v4 = .int .i64 0 ∧ wr = lay w [.inl (.cells #[.int .i64 (X : Int), .int .i64 MY] 78 (0, 0))]) ∨ (v4 = .int .i64 5400000 ∧ wr = lay w [.inl (.cells #[.int .i64 MY, .int .i64 MX] 78 (0, 0))]) ∨ (v4 = .int .i64 10800000 ∧ wr = lay w [.inl (.cells #[.int .i64 MX, .int .i64 (Y : Int)] 78 (0, 0))]) ∨ (v4 = .int .i64 16200000 ∧ wr = lay w [.inl (.cells #[.int .i64 (Y : Int), .int .i64 (X : Int)] 78 (0, 0))])) (fun v4 _ => (16200001 - intOf v4).toNat)
  case atStart => exact .inl ⟨rfl, rfl⟩
  case round =>
    rcases hrel with ⟨rfl, rfl⟩ | ⟨rfl, rfl⟩ | ⟨rfl, rfl⟩ | ⟨rfl, rfl⟩
    · go_wp2_with fail
      all_goals first | (exfalso; have hq : (!decide ((0 : Int) ≤ MY)) = false := (by assumption); simp at hq; omega) | skip
      exact ⟨.inr (.inl ⟨by first | rfl | decide, by first | rfl | trivial⟩), by first | decide | (simp only [intOf]; decide)⟩
    · go_wp2_with fail
      exact ⟨.inr (.inr (.inl ⟨by first | rfl | decide, by first | rfl | trivial⟩)), by first | decide | (simp only [intOf]; decide)⟩
    · go_wp2_with fail
      exact ⟨.inr (.inr (.inr ⟨by first | rfl | decide, by first | rfl | trivial⟩)), by first | decide | (simp only [intOf]; decide)⟩
    · go_wp2_with fail
      go_loopw [5, 6] (fun v5 v6 wr => ∃ (l h : Nat) (dd : Ext), v5 = .int .i64 (l : Int) ∧ v6 = .int .i64 (h : Int) ∧ wr = lay w (.inr dd :: [.inl (.cells #[.int .i64 (Y : Int), .int .i64 (X : Int)] 78 (0, 0))]) ∧ l < h ∧ h ≤ 5400000 ∧ (l = 0 ∨ rchB (Y : Int) (X : Int) l = true) ∧ (h = 5400000 ∨ rchB (Y : Int) (X : Int) h = false)) (fun v5 v6 _ => (intOf v6 - intOf v5).toNat)
      case atStart => exact ⟨0, 5400000, noExt _, rfl, rfl, (bw_noExt _).symm, by decide, by decide, .inl rfl, .inl rfl⟩
      case round =>
        obtain ⟨l, h, dd, rfl, rfl, rfl, hlh, hh, hA, hB⟩ := hrel
        have HA := Lib.hid hA
        have HB2 := Lib.hid hB
        clear hA hB
        have k1 : IntKind.i64.wrap ((h : Int) - (l : Int)) = (h : Int) - (l : Int) := IntWalk.i64_in _ (by omega)
        by_cases c : (1 : Int) < (h : Int) - (l : Int)
        · obtain ⟨XQ, hXQ⟩ : ∃ XQ : Int, (l : Int) + (h : Int) = XQ := ⟨_, rfl⟩
          obtain ⟨m, hm⟩ : ∃ m : Nat, XQ.tdiv 2 = (m : Int) := ⟨(XQ.tdiv 2).toNat, by rw [Int.tdiv_eq_ediv_of_nonneg (by omega)]; omega⟩
          have k2 : IntKind.i64.wrap ((l : Int) + (h : Int)) = XQ := by rw [hXQ]; exact IntWalk.i64_in _ (by omega)
          have hml : l < m ∧ m < h := by rw [Int.tdiv_eq_ediv_of_nonneg (by omega)] at hm; omega
          have k3 : IntKind.i64.wrap (m : Int) = (m : Int) := IntWalk.i64_in _ (by omega)
          have HBm := Lib.hid (fun W => ar_reaches Y X m (by omega) (by omega) (by omega) W)
          have HLH := Lib.hid (And.intro hlh (And.intro hh hml))
          clear hXQ hlh hh hml
          cases cb : rchB (Y : Int) (X : Int) m
          · rw [cb] at HBm
            have HC := Lib.hid cb
            clear cb
            go_wp2_with (go_at_call 84; refine (HBm.out _).mono ?_; rintro e w' ⟨rfl, d1, rfl⟩; rw [lay_bw])
            obtain ⟨g1, g2, g3, g4⟩ := HLH.out
            obtain ⟨de, hde⟩ := lay_fold w [.inr d1, .inr dd] [.inl (.cells #[.int .i64 (Y : Int), .int .i64 (X : Int)] 78 (0, 0))]
            exact ⟨⟨_, _, de, rfl, rfl, hde, by omega, by omega, HA.out, .inr HC.out⟩, by simp only [intOf]; omega⟩
          · rw [cb] at HBm
            have HC := Lib.hid cb
            clear cb
            go_wp2_with (go_at_call 84; refine (HBm.out _).mono ?_; rintro e w' ⟨rfl, d1, rfl⟩; rw [lay_bw])
            obtain ⟨g1, g2, g3, g4⟩ := HLH.out
            obtain ⟨de, hde⟩ := lay_fold w [.inr d1, .inr dd] [.inl (.cells #[.int .i64 (Y : Int), .int .i64 (X : Int)] 78 (0, 0))]
            exact ⟨⟨_, _, de, rfl, rfl, hde, by omega, by omega, .inr HC.out, HB2.out⟩, by simp only [intOf]; omega⟩
        · have hhl : h = l + 1 := by omega
          have kT : IntKind.i64.wrap (16200000 + (l : Int)) = 16200000 + (l : Int) := IntWalk.i64_in _ (by omega)
          subst hhl
          have HAng : ∀ ex, ex = (decide (l = 0 ∧ (X : Int) = 0) || decide (l = 2700000 ∧ (Y : Int) = (X : Int))) → AngP (Y : Int) (X : Int) l ex := fun ex h => ⟨by omega, HA.out, HB2.out, h⟩
          have HAng := Lib.hid HAng
          have HL := Lib.hid (And.intro hlh hh)
          clear hlh hh HA HB2
          have kT0 : IntKind.i64.wrap (16200000 + (l : Int)) = (16200000 + (l : Int)) := by simpa using kT
          by_cases c1 : (l : Int) = 0
          · have n1 : ¬ (l : Int) = 2700000 := by omega
            have n2 : ¬ l = 2700000 := by omega
            by_cases c2 : (X : Int) = 0
            · have N : Hid (l = 0 ∧ (X : Int) = 0 ∧ ¬ l = 2700000 ∧ True) := Lib.hid ⟨by omega, c2, n2, trivial⟩
              go_wp2_with fail
              refine region_mixS 22 [(0, 0), (1, 0), (2, 0), (3, 0), (4, 0), (5, 0), (6, 0), (7, 0), (8, 0), (9, 0), (10, 0), (11, 0), (12, 0), (13, 0), (14, 0), (15, 0), (16, 0), (17, 0), (18, 0), (19, 0), (20, 0), (21, 0), (22, 3)] (by kernel_rfl) (by kernel_rfl) (by kernel_rfl) rfl ?_
              iterate 22 (refine wpMS_quiet rfl (fun K hK => ?_); go_simp; refine hK _ ?_; clear hK K)
              refine wpMS_store rfl (fun K hK e1 => ?_)
              rw [lay_bw]
              go_simp
              refine hK _ _ ?_
              clear hK K
              refine wpMS_nil (fun e2 => ?_)
              rw [lay_bw]
              go_wp2_with fail
              refine bodyPost_ret (v := .tuple #[.int .i64 16200000, .bool true]) (by simp [results, Try.results70, go_sem] <;> first | done | decide | exact kT0 | omega | (refine ⟨by first | decide | exact kT0, by omega⟩)) rfl ?_
              exact ⟨l, true, _, by first | rfl | (rw [c1]; done) | (rw [c1]; rfl) | (rw [c1]; simp), HAng.out _ (by have := N.out; simp_all <;> omega), (lay_ex _ _).choose_spec⟩
            · have c3 : ¬ X = 0 := by omega
              have N : Hid (l = 0 ∧ ¬ (X : Int) = 0 ∧ ¬ l = 2700000 ∧ True) := Lib.hid ⟨by omega, c2, n2, trivial⟩
              go_wp2_with fail
              refine region_mixS 22 [(0, 0), (1, 0), (2, 0), (3, 0), (4, 0), (5, 0), (6, 0), (7, 0), (8, 0), (9, 0), (10, 0), (11, 0), (12, 0), (13, 0), (14, 0), (15, 0), (16, 0), (17, 0), (18, 0), (19, 0), (20, 0), (21, 0), (22, 3)] (by kernel_rfl) (by kernel_rfl) (by kernel_rfl) rfl ?_
              iterate 22 (refine wpMS_quiet rfl (fun K hK => ?_); go_simp; refine hK _ ?_; clear hK K)
              refine wpMS_store rfl (fun K hK e1 => ?_)
              rw [lay_bw]
              go_simp
              refine hK _ _ ?_
              clear hK K
              refine wpMS_nil (fun e2 => ?_)
              rw [lay_bw]
              go_wp2_with fail
              refine bodyPost_ret (v := .tuple #[.int .i64 16200000, .bool false]) (by simp [results, Try.results70, go_sem] <;> first | done | decide | exact kT0 | omega | (refine ⟨by first | decide | exact kT0, by omega⟩)) rfl ?_
              exact ⟨l, false, _, by first | rfl | (rw [c1]; done) | (rw [c1]; rfl) | (rw [c1]; simp), HAng.out _ (by have := N.out; simp_all <;> omega), (lay_ex _ _).choose_spec⟩
          · have n1 : ¬ l = 0 := by omega
            by_cases c2 : l = 2700000
            · subst c2
              by_cases c3 : Y = X
              · have c4 : (Y : Int) = (X : Int) := by omega
                have N : Hid (True ∧ True ∧ True ∧ (Y : Int) = (X : Int)) := Lib.hid ⟨trivial, trivial, trivial, c4⟩
                go_wp2_with fail
                refine region_mixS 22 [(0, 0), (1, 0), (2, 0), (3, 0), (4, 0), (5, 0), (6, 0), (7, 0), (8, 0), (9, 0), (10, 0), (11, 0), (12, 0), (13, 0), (14, 0), (15, 0), (16, 0), (17, 0), (18, 0), (19, 0), (20, 0), (21, 0), (22, 3)] (by kernel_rfl) (by kernel_rfl) (by kernel_rfl) rfl ?_
                iterate 22 (refine wpMS_quiet rfl (fun K hK => ?_); go_simp; refine hK _ ?_; clear hK K)
                refine wpMS_store rfl (fun K hK e1 => ?_)
                rw [lay_bw]
                go_simp
                refine hK _ _ ?_
                clear hK K
                refine wpMS_nil (fun e2 => ?_)
                rw [lay_bw]
                go_wp2_with fail
                refine bodyPost_ret (v := .tuple #[.int .i64 (16200000 + 2700000), .bool true]) (by simp [results, Try.results70, go_sem] <;> first | done | decide | exact kT0 | omega | (refine ⟨by first | decide | exact kT0, by omega⟩)) rfl ?_
                exact ⟨2700000, true, _, by first | rfl | (rw [c1]; done) | (rw [c1]; rfl) | (rw [c1]; simp), HAng.out _ (by have := N.out; simp_all <;> omega), (lay_ex _ _).choose_spec⟩
              · have c4 : ¬ (Y : Int) = (X : Int) := by omega
                have N : Hid (True ∧ True ∧ True ∧ ¬ (Y : Int) = (X : Int)) := Lib.hid ⟨trivial, trivial, trivial, c4⟩
                go_wp2_with fail
                refine region_mixS 22 [(0, 0), (1, 0), (2, 0), (3, 0), (4, 0), (5, 0), (6, 0), (7, 0), (8, 0), (9, 0), (10, 0), (11, 0), (12, 0), (13, 0), (14, 0), (15, 0), (16, 0), (17, 0), (18, 0), (19, 0), (20, 0), (21, 0), (22, 3)] (by kernel_rfl) (by kernel_rfl) (by kernel_rfl) rfl ?_
                iterate 22 (refine wpMS_quiet rfl (fun K hK => ?_); go_simp; refine hK _ ?_; clear hK K)
                refine wpMS_store rfl (fun K hK e1 => ?_)
                rw [lay_bw]
                go_simp
                refine hK _ _ ?_
                clear hK K
                refine wpMS_nil (fun e2 => ?_)
                rw [lay_bw]
                go_wp2_with fail
                refine bodyPost_ret (v := .tuple #[.int .i64 (16200000 + 2700000), .bool false]) (by simp [results, Try.results70, go_sem] <;> first | done | decide | exact kT0 | omega | (refine ⟨by first | decide | exact kT0, by omega⟩)) rfl ?_
                exact ⟨2700000, false, _, by first | rfl | (rw [c1]; done) | (rw [c1]; rfl) | (rw [c1]; simp), HAng.out _ (by have := N.out; simp_all <;> omega), (lay_ex _ _).choose_spec⟩
            · have c3 : ¬ (l : Int) = 2700000 := by omega
              have N : Hid (¬ l = 0 ∧ True ∧ ¬ l = 2700000 ∧ True) := Lib.hid ⟨n1, trivial, c2, trivial⟩
              go_wp2_with fail
              refine region_mixS 22 [(0, 0), (1, 0), (2, 0), (3, 0), (4, 0), (5, 0), (6, 0), (7, 0), (8, 0), (9, 0), (10, 0), (11, 0), (12, 0), (13, 0), (14, 0), (15, 0), (16, 0), (17, 0), (18, 0), (19, 0), (20, 0), (21, 0), (22, 3)] (by kernel_rfl) (by kernel_rfl) (by kernel_rfl) rfl ?_
              iterate 22 (refine wpMS_quiet rfl (fun K hK => ?_); go_simp; refine hK _ ?_; clear hK K)
              refine wpMS_store rfl (fun K hK e1 => ?_)
              rw [lay_bw]
              go_simp
              refine hK _ _ ?_
              clear hK K
              refine wpMS_nil (fun e2 => ?_)
              rw [lay_bw]
              go_wp2_with fail
              refine bodyPost_ret (v := .tuple #[.int .i64 (16200000 + (l : Int)), .bool false]) (by simp [results, Try.results70, go_sem] <;> first | done | decide | exact kT0 | omega | (refine ⟨by first | decide | exact kT0, by omega⟩)) rfl ?_
              exact ⟨l, false, _, by first | rfl | (rw [c1]; done) | (rw [c1]; rfl) | (rw [c1]; simp), HAng.out _ (by have := N.out; simp_all <;> omega), (lay_ex _ _).choose_spec⟩
end Go.Proofs.Ytakcfcekdngndaa
