/- Contracts and plain laws, several texts in one: SaQ; SaR; Qn7; Qn8 -/
import Derived.Test.YtjfpgpipbooilaaGreatProg
import Derived.WalkKit
import Derived.WalkSpells
import Derived.WalkLawsBesides
import Derived.Lib.Hide
import Derived.BigQuiet
import Derived.Test.YtjfpgpipbooilaaGreatVAA
import Derived.Test.YtjfpgpipbooilaaGreatVAB
import Derived.Test.YtjfpgpipbooilaaGreatVAN
import Derived.Test.YtjfpgpipbooilaaGreatVAO
/- Directions of points: from the program's angle to whole angles of the exact rotation. No program in sight. -/
namespace Go.Proofs.YtjfpgpipbooilaaGreat
open Go.RowKit

theorem back_q (k : Nat) : Nr (zS ((k : Int) - 5400000)) (-(zc k)) (2 * e60) ∧ Nr (zC ((k : Int) - 5400000)) (zs k) (2 * e60) := by
  obtain ⟨a1, a2⟩ := Z_addN k 5400000
  obtain ⟨q1, q2, q3, q4⟩ := q_natz
  have u := z_unit k
  obtain ⟨b1, b2⟩ := sq_one u
  obtain ⟨b3, b4⟩ := sq_one (x := zc k) (y := zs k) (by grind)
  rw [show ((5400000 : Nat) : Int) = 5400000 from rfl] at a1 a2
  rw [a1, a2]
  generalize zs 5400000 = s at *
  generalize zc 5400000 = c at *
  generalize zs k = x at *
  generalize zc k = y at *
  obtain ⟨p1, p2⟩ := rabs (x := s - 1) (y := y) (m := e60) (f := 1) (by grind) (by unfold e60 at *; grind) b3 b4
  obtain ⟨p3, p4⟩ := rabs (x := c) (y := x) (m := e60) (f := 1) (by grind) (by grind) b1 b2
  obtain ⟨p5, p6⟩ := rabs (x := s - 1) (y := x) (m := e60) (f := 1) (by grind) (by unfold e60 at *; grind) b1 b2
  obtain ⟨p7, p8⟩ := rabs (x := c) (y := y) (m := e60) (f := 1) (by grind) (by grind) b3 b4
  constructor
  · constructor <;> grind
  · constructor <;> grind
end Go.Proofs.YtjfpgpipbooilaaGreat
/- Directions of points of a box about the pole star: they are within 185001 units. No program in sight. -/
namespace Go.Proofs.YtjfpgpipbooilaaGreat
open Go.RowKit

theorem b_at (m : Nat) (n q x y x' y' : Int) (hm : n = (m : Int)) (hq : q = n + 5400000) (h0 : 0 < m) (h1 : m < 2700000) (h2 : m ≠ 1800000) (h : ((octS m : Nat) : Int) = x ∧ ((octC m : Nat) : Int) = y) (hx : x + 1 = x') (hy : y + 1 = y') : bLo n = x ∧ bHi n = x' ∧ bLo q = y ∧ bHi q = y' := by
  have e1 := b_one (n := n) (by omega) (by omega)
  have e2 := b_two (n := q) (by omega) (by omega)
  have t1 : n.toNat = m := by omega
  have t2 : (10800000 - q).toNat = 5400000 - m := by omega
  rw [t1] at e1
  rw [t2] at e2
  have s1 := sinQ_s (n := m) (by omega) h2 (by omega)
  have s2 := sinQ_c (n := 5400000 - m) (by omega) (by omega)
  rw [show 5400000 - (5400000 - m) = m by omega] at s2
  have o1 := oneQ_at m
  rw [if_neg (by omega)] at o1
  have o2 := oneQ_at (5400000 - m)
  rw [if_neg (by omega)] at o2
  unfold hiQ at e1 e2
  rw [s1, h.1, o1, hx] at e1
  rw [s2, h.2, o2, hy] at e2
  exact ⟨e1.1, e1.2, e2.1, e2.2⟩
theorem oct_is {r x y : Nat} {a b : Int} (h : RotN r x y) (ha : ((x / 73786976294838206464 : Nat) : Int) = a) (hb : ((y / 73786976294838206464 : Nat) : Int) = b) : ((octS r : Nat) : Int) = a ∧ ((octC r : Nat) : Int) = b := by
  have := oct_of h
  rw [this.1, this.2]
  exact ⟨ha, hb⟩
theorem b_1 : bHi 1 = 313 :=
  (b_at 1 1 5400001 312 1073741823 313 1073741824 rfl rfl (by decide) (by decide) (by decide) (oct_is rot_1 (by decide +kernel) (by decide +kernel)) rfl rfl).2.1
theorem zS_min {m : Int} (h0 : 1 ≤ m) (h1 : m ≤ 5400000) : 312 ≤ 1073741824 * zS m := by
  have hd := (cell_all (n := m) (by omega) (by omega)).dn
  have hm := (b_up (a := 1) (b := m) (by decide) h0 h1).2
  rw [b_1] at hm
  have := castle hm
  unfold g24 at hd
  push_cast at this
  grind
end Go.Proofs.YtjfpgpipbooilaaGreat
/- arctrig: reaches. -/
namespace Go.Proofs.YtjfpgpipbooilaaGreat
open Go.RowKit

theorem le_two {a z e : Rat} (h : a ≤ z + e) (hz : z ≤ 1) (he : e ≤ 1) : a ≤ 2 := by grind
theorem eA_one : eA ≤ 1 := by unfold eA; grind
theorem sico_le {k : Nat} (hk : k ≤ 5400000) : siA k ≤ 2 * (m192 : Int) ∧ coA k ≤ 2 * (m192 : Int) := by
  obtain ⟨⟨m1, n1⟩, ⟨m2, n2⟩⟩ := siA_near hk
  have hu := z_unit k
  obtain ⟨b1, b2⟩ := sq_one hu
  have hu2 : zc k * zc k + zs k * zs k = 1 := by rw [← hu]; grind
  obtain ⟨b3, b4⟩ := sq_one hu2
  have hm := m192_rat
  have key : ∀ z : Int, (z : Rat) / (m192 : Rat) ≤ 2 → z ≤ 2 * (m192 : Int) := by
    intro z h
    have h1 : (z : Rat) = ((z : Rat) / (m192 : Rat)) * (m192 : Rat) := by grind
    have h2 := Rat.mul_le_mul_of_nonneg_right h (Rat.le_of_lt hm)
    rw [← h1] at h2
    have h3 : ((2 * (m192 : Int) : Int) : Rat) = 2 * (m192 : Rat) := by
      rw [Rat.intCast_mul]; rfl
    rw [← h3] at h2
    exact Rat.intCast_le_intCast.1 h2
  first | exact ⟨key _ (le_two n1 b2 eA_one), key _ (le_two n2 b4 eA_one)⟩ | exact ⟨key _ (le_two m1 b2 eA_one), key _ (le_two m2 b4 eA_one)⟩
theorem m192_33 : 2 * m192 * 2147483649 < 18446744073709551616 ^ 4 := by decide +kernel
set_option maxHeartbeats 4000000 in
set_option maxRecDepth 100000 in
theorem ar_reaches (u v k : Nat) (hk : k ≤ 5400000) (hu : u ≤ 2147483648) (hv : v ≤ 2147483648) (w : World) :
    Calls Tryz.prog 141 #[.agg #[.int .i64 (u : Int), .int .i64 (v : Int)], .int .i64 (k : Int)] w fun e w' => e = .returned (.bool (rchB u v k)) ∧ ∃ d, w' = bw w d := by
  refine lay_start ?_
  unfold rchB
  by_cases h0 : k = 0
  · subst h0
    go_enter Tryz.func141, Tryz.ntmps141
    go_wp2_with fail
    exact bodyPost_ret (v := .bool true) (by simp [results, Tryz.results141, go_sem]) rfl ⟨rfl, lay_ex _ _⟩
  rw [if_neg h0]
  by_cases h1 : k = 2700000
  · subst h1
    go_enter Tryz.func141, Tryz.ntmps141
    go_wp2_with fail
    exact bodyPost_ret (v := .bool (decide (u ≤ v))) (by simp [results, Tryz.results141, go_sem]) rfl ⟨by first | rfl | simp, lay_ex _ _⟩
  rw [if_neg h1]
  have e0 : ¬ (k : Int) = 0 := by omega
  have e1 : ¬ (k : Int) = 2700000 := by omega
  have k1 : IntKind.u64.wrap (u : Int) = (u : Int) := IntWalk.u64_in _ (by omega)
  have k2 : IntKind.u64.wrap (v : Int) = (v : Int) := IntWalk.u64_in _ (by omega)
  have HC := Lib.hid (fun W => ar_circle k hk W)
  obtain ⟨s1, s2⟩ := sico_le hk
  unfold nuV at *
  go_enter Tryz.func141, Tryz.ntmps141
  go_wp2_with fail
  refine (HC.out _).mono ?_
  rintro e w' ⟨s, c, d1, rfl, rfl, hs, hc, hs2, hc2⟩
  rw [lay_bw]
  have HU := Lib.hid (And.intro hs (And.intro hc (And.intro hs2 hc2)))
  have T1 := Lib.hid (fun W => qn_times c v hc (by omega) W)
  have T2 := Lib.hid (fun W => qn_times s u hs (by omega) W)
  have b1 : val4 c ≤ 2 * m192 := by omega
  have b2 : val4 s ≤ 2 * m192 := by omega
  have p1 : v * val4 c < 18446744073709551616 ^ 4 := by
    have h3 := Nat.mul_le_mul hv b1
    have h4 := m192_33
    omega
  have p2 : u * val4 s < 18446744073709551616 ^ 4 := by
    have h3 := Nat.mul_le_mul hu b2
    have h4 := m192_33
    omega
  have HP := Lib.hid (And.intro p1 p2)
  unfold nuV at T1 T2
  clear hs hc hs2 hc2 HC s1 s2 b1 b2 p1 p2
  go_wp2_with fail
  refine region_mixP [(0, 0), (1, 0), (2, 0), (3, 0), (5, 0), (6, 0), (7, 0), (8, 0), (4, 1), (9, 1), (10, 1), (11, 0)] (by kernel_rfl) (by kernel_rfl) (by kernel_rfl) (by kernel_rfl) (by decide) (by kernel_rfl) ?_
  simp only [List.drop_succ_cons, List.drop_zero, List.length_cons, List.length_nil, Nat.reduceAdd]
  iterate 8 (refine wpMP_quiet rfl (fun K hK => ?_); go_simp; refine hK _ ?_; clear hK K)
  refine wpMP_special rfl (fun K hK d0 => ?_)
  rw [lay_bw]
  go_simp
  refine (T1.out _).mono ?_
  rintro e w' ⟨r1, f1, rfl, rfl, hw1, t1, ht1⟩
  have hr1 := times_small ht1 HP.out.1
  have HR1 := Lib.hid (And.intro hw1 hr1)
  clear hw1 ht1 hr1 t1
  refine ⟨_, rfl, ?_⟩
  go_simp
  refine hK _ _ (lay_in w [_, _] _) ?_
  clear hK K
  refine wpMP_special rfl (fun K hK d2 => ?_)
  rw [lay_bw]
  go_simp
  refine (T2.out _).mono ?_
  rintro e w' ⟨r2, f2, rfl, rfl, hw1, t1, ht1⟩
  have hr1 := times_small ht1 HP.out.2
  have HR2 := Lib.hid (And.intro hw1 hr1)
  clear hw1 ht1 hr1 t1
  refine ⟨_, rfl, ?_⟩
  go_simp
  refine hK _ _ (lay_in w [_, _, _, _] _) ?_
  clear hK K
  have HL := Lib.hid (fun W => qn_less r1 r2 HR1.out.1 HR2.out.1 W)
  unfold nuV at HL
  rw [HR1.out.2, HR2.out.2] at HL
  refine wpMP_special rfl (fun K hK d3 => ?_)
  rw [lay_bw]
  go_simp
  refine (HL.out _).mono ?_
  rintro e w' ⟨rfl, f3, rfl⟩
  refine ⟨_, rfl, ?_⟩
  go_simp
  refine hK _ _ (lay_in w [_, _, _, _, _, _] _) ?_
  clear hK K
  iterate 1 (refine wpMP_quiet rfl (fun K hK => ?_); go_simp; refine hK _ ?_; clear hK K)
  refine wpMP_nil ?_
  intro d4
  rw [lay_bw]
  go_wp2_with fail
  refine bodyPost_ret (v := .bool (!decide (v * val4 c < u * val4 s))) (by simp [results, Tryz.results141, go_sem]) rfl ⟨?_, lay_ex _ _⟩
  rw [← HU.out.2.2.1, ← HU.out.2.2.2]
  refine congrArg Ending.returned (congrArg Value.bool ?_)
  have e1 : ((val4 s : Int) * (u : Int) ≤ (val4 c : Int) * (v : Int)) ↔ ¬ (v * val4 c < u * val4 s) := by
    rw [← Int.natCast_mul, ← Int.natCast_mul, Int.ofNat_le, Nat.not_lt, Nat.mul_comm (val4 s), Nat.mul_comm (val4 c)]
  simp only [e1]
  by_cases hh : v * val4 c < u * val4 s <;> simp [hh]
end Go.Proofs.YtjfpgpipbooilaaGreat
/- arctrig: angle. -/
namespace Go.Proofs.YtjfpgpipbooilaaGreat
open Go.RowKit

end Go.Proofs.YtjfpgpipbooilaaGreat
