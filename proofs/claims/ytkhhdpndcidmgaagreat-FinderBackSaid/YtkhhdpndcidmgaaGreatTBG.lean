/- Contracts and plain laws, several texts in one: BkP; NeP; NeQ; SaP; SaQ; SaR; Qn7; Qn8; Qn9; QnA; Fa1 -/
import Derived.Test.YtkhhdpndcidmgaaGreatProg
import Derived.WalkKit
import Derived.WalkSpells
import Derived.WalkLawsBesides
import Derived.Lib.Hide
import Derived.BigQuiet
import Derived.Test.YtkhhdpndcidmgaaGreatTAD
import Derived.Test.YtkhhdpndcidmgaaGreatTAE
import Derived.Test.YtkhhdpndcidmgaaGreatTAF
import Derived.Test.YtkhhdpndcidmgaaGreatTAI
import Derived.Test.YtkhhdpndcidmgaaGreatTAX
import Derived.Test.YtkhhdpndcidmgaaGreatTBA
import Derived.Test.YtkhhdpndcidmgaaGreatTBE
/- The altitude on the meridian contains the true one; arcsines of intervals. No program in sight. -/
namespace Go.Proofs.YtkhhdpndcidmgaaGreat
open Go.RowKit

theorem alt_InR {lat dec lha : Int} (h0 : -5400000 ≤ lat) (h1 : lat ≤ 5400000) (g0 : -5400000 ≤ dec) (g1 : dec ≤ 5400000) :
    InR (altS0 lat lat dec dec lha lha) (altS1 lat lat dec dec lha lha) (zS lat * zS dec + zC lat * zC dec * zC (lha % 21600000)) (10 * t30) := by
  have a1 := sin_InR (Int.le_refl lat) (Int.le_refl lat) h0 (by omega)
  have a2 := sin_InR (Int.le_refl dec) (Int.le_refl dec) g0 (by omega)
  have b1 := cos_InR (Int.le_refl lat) (Int.le_refl lat) (by omega) (by omega)
  have b2 := cos_InR (Int.le_refl dec) (Int.le_refl dec) (by omega) (by omega)
  have b3 := cos_InRT lha
  have t0 : (0 : Rat) ≤ t30 ∧ t30 ≤ 1 / 1000000 ∧ t31 ≤ t30 ∧ 0 ≤ t31 := by unfold t30 t31; refine ⟨?_, ?_, ?_, ?_⟩ <;> grind
  obtain ⟨t1, t2, t3, t4⟩ := t0
  have m1 := a1.mul a2 (g := 3 * t30) enc_in enc_in (by grind) (by grind) (by grind) (by grind)
  have m2 := b1.mul b2 (g := 3 * t30) (cos_in2 _ _) (cos_in2 _ _) (by grind) (by grind) (by grind) (by grind)
  have m3 := m2.mul b3 (g := 7 * t30) (cc_in _ _ _ _) (cos_in2 _ _) (by grind) (by grind) (by grind) (by grind)
  exact (m1.add m3).mono (Int.le_refl _) (Int.le_refl _) (by grind)
end Go.Proofs.YtkhhdpndcidmgaaGreat
/- An ex-meridian altitude has the latitude: the plain law. No program in sight. -/
namespace Go.Proofs.YtkhhdpndcidmgaaGreat
open Go.RowKit

theorem as_encl {S0 S1 : Int} {X e : Rat} (hE : asE S0 S1 = 0) (hX : InR S0 S1 X e) (h0 : -1 ≤ X) (h1 : X ≤ 1) (he : 0 ≤ e) :
    ((bHi (asL S0 S1) : Int) : Rat) ≤ 1073741824 * X + e ∧ 1073741824 * X ≤ ((bLo (asH S0 S1) : Int) : Rat) + e := by
  obtain ⟨a, b⟩ := hX
  unfold asL asH
  rw [if_pos hE, if_pos hE]
  have h1' := asnI_is (v := mx S0 (-1073741824)) (by rw [mx_eq]; omega)
  have h2' := asnI_is (v := -(mn S1 1073741824)) (by rw [mn_eq]; omega)
  have o := b_odd (n := asnI (-(mn S1 1073741824))) h2'.lo h2'.hi
  constructor
  · have := castle h1'.le
    have hm : ((mx S0 (-1073741824) : Int) : Rat) ≤ 1073741824 * X + e := by
      rcases (show mx S0 (-1073741824) = S0 ∨ mx S0 (-1073741824) = -1073741824 by rw [mx_eq]; omega) with g | g
      · rw [g]; exact a
      · rw [g]; push_cast; grind
    grind
  · have h3 : mn S1 1073741824 ≤ bLo (-(asnI (-(mn S1 1073741824)))) := by
      rw [o.1]
      have := h2'.le
      omega
    have := castle h3
    have hm : 1073741824 * X ≤ ((mn S1 1073741824 : Int) : Rat) + e := by
      rcases (show mn S1 1073741824 = S1 ∨ mn S1 1073741824 = 1073741824 by rw [mn_eq]; omega) with g | g
      · rw [g]; exact b
      · rw [g]; push_cast; grind
    grind
end Go.Proofs.YtkhhdpndcidmgaaGreat
/- An ex-meridian altitude has the latitude: the plain law, second part. No program in sight. -/
namespace Go.Proofs.YtkhhdpndcidmgaaGreat
open Go.RowKit

theorem sq_nn (x : Rat) : 0 ≤ x * x := by
  rcases (Rat.le_total : (0 : Rat) ≤ x ∨ x ≤ 0) with g | g
  · exact rmul0 g g
  · have := rmul0 (show 0 ≤ -x by grind) (show 0 ≤ -x by grind); grind
theorem alt_unit (lat dec : Int) {z : Rat} (z0 : -1 ≤ z) (z1 : z ≤ 1) : -1 ≤ zS lat * zS dec + zC lat * zC dec * z ∧ zS lat * zS dec + zC lat * zC dec * z ≤ 1 := by
  have u := Z_unit lat
  have v := Z_unit dec
  generalize zS lat = a at *
  generalize zC lat = b at *
  generalize zS dec = c at *
  generalize zC dec = d at *
  have s1 := sq_nn (a - c)
  have s2 := sq_nn (a + c)
  have s3 := sq_nn (b - d)
  have s4 := sq_nn (b + d)
  obtain ⟨p1, p2⟩ := rabs (x := z) (y := b * d) (m := 1) (f := (b * b + d * d) / 2) z0 z1 (by grind) (by grind)
  constructor <;> grind
theorem castlt {a b : Int} (h : (a : Rat) < (b : Rat)) : a < b := by exact_mod_cast h
theorem alt_some {lat dec lha : Int} (h0 : -5400000 ≤ lat) (h1 : lat ≤ 5400000) (g0 : -5400000 ≤ dec) (g1 : dec ≤ 5400000) :
    asE (altS0 lat lat dec dec lha lha) (altS1 lat lat dec dec lha lha) = 0 ∧ -5400000 ≤ asL (altS0 lat lat dec dec lha lha) (altS1 lat lat dec dec lha lha) ∧ asL (altS0 lat lat dec dec lha lha) (altS1 lat lat dec dec lha lha) ≤ asH (altS0 lat lat dec dec lha lha) (altS1 lat lat dec dec lha lha) ∧ asH (altS0 lat lat dec dec lha lha) (altS1 lat lat dec dec lha lha) ≤ 5400000 := by
  obtain ⟨-, z0, z1⟩ := Z_in (lha % 21600000)
  obtain ⟨X0, X1⟩ := alt_unit lat dec z0 z1
  obtain ⟨a, b⟩ := alt_InR (lha := lha) h0 h1 g0 g1
  have hf := alt_fx lat lat dec dec lha lha
  have hf' := fxB_iff.1 hf
  generalize altS0 lat lat dec dec lha lha = S0 at *
  generalize altS1 lat lat dec dec lha lha = S1 at *
  generalize zS lat * zS dec + zC lat * zC dec * zC (lha % 21600000) = X at *
  have t0 : 10 * t30 < 1 := by unfold t30; grind
  have c0 : (S0 : Rat) < ((1073741825 : Int) : Rat) := by push_cast; grind
  have c1 : ((-1073741825 : Int) : Rat) < (S1 : Rat) := by push_cast; grind
  have d0 : S0 < 1073741825 := castlt c0
  have d1 : -1073741825 < S1 := castlt c1
  have hE : asE S0 S1 = 0 := by rw [asE_at, hf, if_neg (by decide), mn_eq, mx_eq, if_neg (by omega)]
  refine ⟨hE, ?_⟩
  unfold asL asH
  rw [if_pos hE, if_pos hE]
  have i1 := asnI_in (v := mx S0 (-1073741824)) (by rw [mx_eq]; omega)
  have i2 := asnI_in (v := -(mn S1 1073741824)) (by rw [mn_eq]; omega)
  have hs := asn_sum (y := mx S0 (-1073741824)) (by rw [mx_eq]; omega) (by rw [mx_eq]; omega)
  have hm := asnI_mono (v := -(mn S1 1073741824)) (u := -(mx S0 (-1073741824))) (by rw [mn_eq]; omega) (by rw [mx_eq, mn_eq]; omega)
  omega
end Go.Proofs.YtkhhdpndcidmgaaGreat
/- Directions of points: what the program's decisions mean for the exact rotation. No program in sight. -/
namespace Go.Proofs.YtkhhdpndcidmgaaGreat
open Go.RowKit

def eA : Rat := 1 / 25000000000000000000
theorem siA_near {k : Nat} (hk : k ≤ 5400000) : Nr ((siA k : Rat) / (m192 : Rat)) (zs k) eA ∧ Nr ((coA k : Rat) / (m192 : Rat)) (zc k) eA := by
  unfold siA coA
  by_cases h : 2700000 < k
  · rw [if_pos h, if_pos h]
    obtain ⟨j, hj⟩ : ∃ j, 5400000 - k = j := ⟨_, rfl⟩
    rw [hj]
    have h1 := (cosA_near (r := j) (by omega)).trans (near_zs (r := j) (by omega)).2.symm
    have h2 := (sinA_near (r := j) (by omega)).trans (near_zs (r := j) (by omega)).1.symm
    obtain ⟨z1, z2⟩ := z_sub (a := 5400000) (b := j) (by omega)
    rw [show 5400000 - j = k by omega] at z1 z2
    obtain ⟨q1, q2, q3, q4⟩ := q_natz
    have u := z_unit j
    obtain ⟨b1, b2⟩ := sq_one u
    obtain ⟨b3, b4⟩ := sq_one (x := zc j) (y := zs j) (by grind)
    rw [z1, z2]
    generalize zs 5400000 = s at *
    generalize zc 5400000 = c at *
    generalize zs j = x at *
    generalize zc j = y at *
    obtain ⟨p1, p2⟩ := rabs (x := s - 1) (y := y) (m := e60) (f := 1) (by grind) (by unfold e60 at *; grind) b3 b4
    obtain ⟨p3, p4⟩ := rabs (x := c) (y := x) (m := e60) (f := 1) (by grind) (by grind) b1 b2
    obtain ⟨p5, p6⟩ := rabs (x := s - 1) (y := x) (m := e60) (f := 1) (by grind) (by unfold e60 at *; grind) b1 b2
    obtain ⟨p7, p8⟩ := rabs (x := c) (y := y) (m := e60) (f := 1) (by grind) (by grind) b3 b4
    obtain ⟨n1, n2⟩ := h1
    obtain ⟨n3, n4⟩ := h2
    unfold e60 sml eA at *
    constructor
    · constructor <;> grind
    · constructor <;> grind
  · rw [if_neg h, if_neg h]
    have h1 := (sinA_near (r := k) (by omega)).trans (near_zs (r := k) (by omega)).1.symm
    have h2 := (cosA_near (r := k) (by omega)).trans (near_zs (r := k) (by omega)).2.symm
    exact ⟨h1.le (by unfold sml eA; grind), h2.le (by unfold sml eA; grind)⟩
def rchB (u v : Int) (k : Nat) : Bool := if k = 0 then true else if k = 2700000 then decide (u ≤ v) else decide (siA k * u ≤ coA k * v)
theorem bd31 {u : Int} (h0 : -2147483648 ≤ u) (h1 : u ≤ 2147483648) : (-2147483648 : Rat) ≤ (u : Rat) ∧ (u : Rat) ≤ 2147483648 := ⟨castle h0, castle h1⟩
theorem div_mono {a b : Int} (h : a ≤ b) : (a : Rat) / (m192 : Rat) ≤ (b : Rat) / (m192 : Rat) := by
  rw [Rat.div_def, Rat.div_def]
  exact Rat.mul_le_mul_of_nonneg_right (castle h) (Rat.le_of_lt (Rat.inv_pos.2 m192_rat))
end Go.Proofs.YtkhhdpndcidmgaaGreat
/- Directions of points: from the program's angle to whole angles of the exact rotation. No program in sight. -/
namespace Go.Proofs.YtkhhdpndcidmgaaGreat
open Go.RowKit

end Go.Proofs.YtkhhdpndcidmgaaGreat
/- Directions of points of a box about the pole star: they are within 185001 units. No program in sight. -/
namespace Go.Proofs.YtkhhdpndcidmgaaGreat
open Go.RowKit

theorem b_at (m : Nat) (n q x y x' y' : Int) (hm : n = (m : Int)) (hq : q = n + 5400000) (h0 : 0 < m) (h1 : m < 2700000) (h2 : m ≠ 1800000) (h : ((octS m : Nat) : Int) = x ∧ ((octC m : Nat) : Int) = y) (hx : x + 1 = x') (hy : y + 1 = y') : bLo n = x ∧ bHi n = x' ∧ bLo q = y ∧ bHi q = y' := by
  have e1 := b_one (n := n) (by omega) (by omega)
  have e2 := b_two (n := q) (by omega) (by omega)
  have t1 : n.toNat = m := by omega
  have t2 : (10800000 - q).toNat = 5400000 - m := by omega
  rw [t1] at e1
  rw [t2] at e2
  have s1 := sinQ_s (n := m) (by omega) h2 (by omega)
  have s2 := sinQ_c (n := 5400000 - m) (by omega) (by omega)
  rw [show 5400000 - (5400000 - m) = m by omega] at s2
  have o1 := oneQ_at m
  rw [if_neg (by omega)] at o1
  have o2 := oneQ_at (5400000 - m)
  rw [if_neg (by omega)] at o2
  unfold hiQ at e1 e2
  rw [s1, h.1, o1, hx] at e1
  rw [s2, h.2, o2, hy] at e2
  exact ⟨e1.1, e1.2, e2.1, e2.2⟩
theorem oct_is {r x y : Nat} {a b : Int} (h : RotN r x y) (ha : ((x / 73786976294838206464 : Nat) : Int) = a) (hb : ((y / 73786976294838206464 : Nat) : Int) = b) : ((octS r : Nat) : Int) = a ∧ ((octC r : Nat) : Int) = b := by
  have := oct_of h
  rw [this.1, this.2]
  exact ⟨ha, hb⟩
theorem b_1 : bHi 1 = 313 :=
  (b_at 1 1 5400001 312 1073741823 313 1073741824 rfl rfl (by decide) (by decide) (by decide) (oct_is rot_1 (by decide +kernel) (by decide +kernel)) rfl rfl).2.1
end Go.Proofs.YtkhhdpndcidmgaaGreat
/- arctrig: reaches. -/
namespace Go.Proofs.YtkhhdpndcidmgaaGreat
open Go.RowKit

theorem le_two {a z e : Rat} (h : a ≤ z + e) (hz : z ≤ 1) (he : e ≤ 1) : a ≤ 2 := by grind
theorem eA_one : eA ≤ 1 := by unfold eA; grind
theorem sico_le {k : Nat} (hk : k ≤ 5400000) : siA k ≤ 2 * (m192 : Int) ∧ coA k ≤ 2 * (m192 : Int) := by
  obtain ⟨⟨m1, n1⟩, ⟨m2, n2⟩⟩ := siA_near hk
  have hu := z_unit k
  obtain ⟨b1, b2⟩ := sq_one hu
  have hu2 : zc k * zc k + zs k * zs k = 1 := by rw [← hu]; grind
  obtain ⟨b3, b4⟩ := sq_one hu2
  have hm := m192_rat
  have key : ∀ z : Int, (z : Rat) / (m192 : Rat) ≤ 2 → z ≤ 2 * (m192 : Int) := by
    intro z h
    have h1 : (z : Rat) = ((z : Rat) / (m192 : Rat)) * (m192 : Rat) := by grind
    have h2 := Rat.mul_le_mul_of_nonneg_right h (Rat.le_of_lt hm)
    rw [← h1] at h2
    have h3 : ((2 * (m192 : Int) : Int) : Rat) = 2 * (m192 : Rat) := by
      rw [Rat.intCast_mul]; rfl
    rw [← h3] at h2
    exact Rat.intCast_le_intCast.1 h2
  first | exact ⟨key _ (le_two n1 b2 eA_one), key _ (le_two n2 b4 eA_one)⟩ | exact ⟨key _ (le_two m1 b2 eA_one), key _ (le_two m2 b4 eA_one)⟩
theorem m192_33 : 2 * m192 * 2147483649 < 18446744073709551616 ^ 4 := by decide +kernel
set_option maxHeartbeats 4000000 in
set_option maxRecDepth 100000 in
theorem ar_reaches (u v k : Nat) (hk : k ≤ 5400000) (hu : u ≤ 2147483648) (hv : v ≤ 2147483648) (w : World) :
    Calls Tryz.prog 108 #[.agg #[.int .i64 (u : Int), .int .i64 (v : Int)], .int .i64 (k : Int)] w fun e w' => e = .returned (.bool (rchB u v k)) ∧ ∃ d, w' = bw w d := by
  refine lay_start ?_
  unfold rchB
  by_cases h0 : k = 0
  · subst h0
    go_enter Tryz.func108, Tryz.ntmps108
    go_wp2_with fail
    exact bodyPost_ret (v := .bool true) (by simp [results, Tryz.results108, go_sem]) rfl ⟨rfl, lay_ex _ _⟩
  rw [if_neg h0]
  by_cases h1 : k = 2700000
  · subst h1
    go_enter Tryz.func108, Tryz.ntmps108
    go_wp2_with fail
    exact bodyPost_ret (v := .bool (decide (u ≤ v))) (by simp [results, Tryz.results108, go_sem]) rfl ⟨by first | rfl | simp, lay_ex _ _⟩
  rw [if_neg h1]
  have e0 : ¬ (k : Int) = 0 := by omega
  have e1 : ¬ (k : Int) = 2700000 := by omega
  have k1 : IntKind.u64.wrap (u : Int) = (u : Int) := IntWalk.u64_in _ (by omega)
  have k2 : IntKind.u64.wrap (v : Int) = (v : Int) := IntWalk.u64_in _ (by omega)
  have HC := Lib.hid (fun W => ar_circle k hk W)
  obtain ⟨s1, s2⟩ := sico_le hk
  unfold nuV at *
  go_enter Tryz.func108, Tryz.ntmps108
  go_wp2_with fail
  refine (HC.out _).mono ?_
  rintro e w' ⟨s, c, d1, rfl, rfl, hs, hc, hs2, hc2⟩
  rw [lay_bw]
  have HU := Lib.hid (And.intro hs (And.intro hc (And.intro hs2 hc2)))
  have T1 := Lib.hid (fun W => qn_times c v hc (by omega) W)
  have T2 := Lib.hid (fun W => qn_times s u hs (by omega) W)
  have b1 : val4 c ≤ 2 * m192 := by omega
  have b2 : val4 s ≤ 2 * m192 := by omega
  have p1 : v * val4 c < 18446744073709551616 ^ 4 := by
    have h3 := Nat.mul_le_mul hv b1
    have h4 := m192_33
    omega
  have p2 : u * val4 s < 18446744073709551616 ^ 4 := by
    have h3 := Nat.mul_le_mul hu b2
    have h4 := m192_33
    omega
  have HP := Lib.hid (And.intro p1 p2)
  unfold nuV at T1 T2
  clear hs hc hs2 hc2 HC s1 s2 b1 b2 p1 p2
  go_wp2_with fail
  refine region_mixP [(0, 0), (1, 0), (2, 0), (3, 0), (5, 0), (6, 0), (7, 0), (8, 0), (4, 1), (9, 1), (10, 1), (11, 0)] (by kernel_rfl) (by kernel_rfl) (by kernel_rfl) (by kernel_rfl) (by decide) (by kernel_rfl) ?_
  simp only [List.drop_succ_cons, List.drop_zero, List.length_cons, List.length_nil, Nat.reduceAdd]
  iterate 8 (refine wpMP_quiet rfl (fun K hK => ?_); go_simp; refine hK _ ?_; clear hK K)
  refine wpMP_special rfl (fun K hK d0 => ?_)
  rw [lay_bw]
  go_simp
  refine (T1.out _).mono ?_
  rintro e w' ⟨r1, f1, rfl, rfl, hw1, t1, ht1⟩
  have hr1 := times_small ht1 HP.out.1
  have HR1 := Lib.hid (And.intro hw1 hr1)
  clear hw1 ht1 hr1 t1
  refine ⟨_, rfl, ?_⟩
  go_simp
  refine hK _ _ (lay_in w [_, _] _) ?_
  clear hK K
  refine wpMP_special rfl (fun K hK d2 => ?_)
  rw [lay_bw]
  go_simp
  refine (T2.out _).mono ?_
  rintro e w' ⟨r2, f2, rfl, rfl, hw1, t1, ht1⟩
  have hr1 := times_small ht1 HP.out.2
  have HR2 := Lib.hid (And.intro hw1 hr1)
  clear hw1 ht1 hr1 t1
  refine ⟨_, rfl, ?_⟩
  go_simp
  refine hK _ _ (lay_in w [_, _, _, _] _) ?_
  clear hK K
  have HL := Lib.hid (fun W => qn_less r1 r2 HR1.out.1 HR2.out.1 W)
  unfold nuV at HL
  rw [HR1.out.2, HR2.out.2] at HL
  refine wpMP_special rfl (fun K hK d3 => ?_)
  rw [lay_bw]
  go_simp
  refine (HL.out _).mono ?_
  rintro e w' ⟨rfl, f3, rfl⟩
  refine ⟨_, rfl, ?_⟩
  go_simp
  refine hK _ _ (lay_in w [_, _, _, _, _, _] _) ?_
  clear hK K
  iterate 1 (refine wpMP_quiet rfl (fun K hK => ?_); go_simp; refine hK _ ?_; clear hK K)
  refine wpMP_nil ?_
  intro d4
  rw [lay_bw]
  go_wp2_with fail
  refine bodyPost_ret (v := .bool (!decide (v * val4 c < u * val4 s))) (by simp [results, Tryz.results108, go_sem]) rfl ⟨?_, lay_ex _ _⟩
  rw [← HU.out.2.2.1, ← HU.out.2.2.2]
  refine congrArg Ending.returned (congrArg Value.bool ?_)
  have e1 : ((val4 s : Int) * (u : Int) ≤ (val4 c : Int) * (v : Int)) ↔ ¬ (v * val4 c < u * val4 s) := by
    rw [← Int.natCast_mul, ← Int.natCast_mul, Int.ofNat_le, Nat.not_lt, Nat.mul_comm (val4 s), Nat.mul_comm (val4 c)]
  simp only [e1]
  by_cases hh : v * val4 c < u * val4 s <;> simp [hh]
end Go.Proofs.YtkhhdpndcidmgaaGreat
/- arctrig: angle. -/
namespace Go.Proofs.YtkhhdpndcidmgaaGreat
open Go.RowKit

end Go.Proofs.YtkhhdpndcidmgaaGreat
/- arctrig: angle, below the axis. -/
namespace Go.Proofs.YtkhhdpndcidmgaaGreat
open Go.RowKit

end Go.Proofs.YtkhhdpndcidmgaaGreat
/- arctrig: before; the corners of a box. -/
namespace Go.Proofs.YtkhhdpndcidmgaaGreat
open Go.RowKit

def befB (a b c d : Int) : Bool := decide (b * c ≤ a * d)
theorem mul_bdQ {a b : Int} (ha : -2147483648 ≤ a) (ha2 : a ≤ 2147483648) (hb : -2147483648 ≤ b) (hb2 : b ≤ 2147483648) : -4611686018427387904 ≤ a * b ∧ a * b ≤ 4611686018427387904 := by
  have h1 : a.natAbs ≤ 2147483648 := by omega
  have h2 : b.natAbs ≤ 2147483648 := by omega
  have h3 := Nat.mul_le_mul h1 h2
  rw [← Int.natAbs_mul] at h3
  omega
def Bd31 (a : Int) : Prop := -2147483648 ≤ a ∧ a ≤ 2147483648
set_option maxRecDepth 100000 in
theorem ar_before (a b c d : Int) (ha : Bd31 a) (hb : Bd31 b) (hc : Bd31 c) (hd : Bd31 d) (w : World) :
    Calls Tryz.prog 72 #[.agg #[.int .i64 a, .int .i64 b], .agg #[.int .i64 c, .int .i64 d]] w fun e w' => e = .returned (.bool (befB a b c d)) ∧ ∃ d, w' = bw w d := by
  obtain ⟨p1, p2⟩ := mul_bdQ ha.1 ha.2 hd.1 hd.2
  obtain ⟨q1, q2⟩ := mul_bdQ hb.1 hb.2 hc.1 hc.2
  have k1 : IntKind.i64.wrap (a * d) = a * d := IntWalk.i64_in _ (by omega)
  have k2 : IntKind.i64.wrap (b * c) = b * c := IntWalk.i64_in _ (by omega)
  clear p1 p2 q1 q2
  unfold befB
  refine lay_start ?_
  go_enter Tryz.func72, Tryz.ntmps72
  go_wp2_with fail
  exact bodyPost_ret (v := .bool (decide (b * c ≤ a * d))) (by simp [results, Tryz.results72, go_sem]) rfl ⟨rfl, lay_ex _ _⟩
def crX (x0 x1 : Int) (j : Nat) : Int := if j < 2 then x0 else x1
def crY (y0 y1 : Int) (j : Nat) : Int := if j = 0 ∨ j = 2 then y0 else y1
end Go.Proofs.YtkhhdpndcidmgaaGreat
/- Bearing as a function: bisection, quadrants, corners. No function of the program. -/
namespace Go.Proofs.YtkhhdpndcidmgaaGreat
open Go.RowKit

def bisF (u v : Int) : Nat → Nat → Nat → Nat
  | 0, l, _ => l
  | f + 1, l, h => if l + 1 < h then (if rchB u v ((l + h) / 2) = true then bisF u v f ((l + h) / 2) h else bisF u v f l ((l + h) / 2)) else l
theorem bisF_end {u v : Int} {f l : Nat} : bisF u v f l (l + 1) = l := by cases f <;> simp [bisF]
theorem bisF_step {u v : Int} {f l h m : Nat} (hm : m = (l + h) / 2) (c : l + 1 < h) (hf : h - l ≤ 2 ^ f) :
    ∃ f', (rchB u v m = false → m - l ≤ 2 ^ f' ∧ bisF u v f' l m = bisF u v f l h) ∧ (rchB u v m = true → h - m ≤ 2 ^ f' ∧ bisF u v f' m h = bisF u v f l h) := by
  cases f with
  | zero => simp at hf; omega
  | succ f =>
    rw [Nat.pow_succ] at hf
    have e : bisF u v (f + 1) l h = if l + 1 < h then (if rchB u v ((l + h) / 2) = true then bisF u v f ((l + h) / 2) h else bisF u v f l ((l + h) / 2)) else l := rfl
    rw [e, if_pos c, ← hm]
    refine ⟨f, fun hr => ⟨by omega, ?_⟩, fun hr => ⟨by omega, ?_⟩⟩
    · rw [hr, if_neg Bool.false_ne_true]
    · rw [hr, if_pos rfl]
theorem bisF_lt {u v : Int} : ∀ {f l h : Nat}, l < h → bisF u v f l h < h
  | 0, l, h, c => c
  | f + 1, l, h, c => by
    unfold bisF
    split
    · split
      · exact bisF_lt (by omega)
      · have := bisF_lt (u := u) (v := v) (f := f) (l := l) (h := (l + h) / 2) (by omega)
        omega
    · exact c
def exF (u v : Int) (k : Nat) : Bool := decide (k = 0 ∧ v = 0) || decide (k = 2700000 ∧ u = v)
structure AngF (u v : Int) (k : Nat) (ex : Bool) : Prop where
  lt : k < 5400000
  fn : k = bisF u v 23 0 5400000
  ex : ex = (decide (k = 0 ∧ v = 0) || decide (k = 2700000 ∧ u = v))
def ang1 (T u v : Int) : Int × Bool := (T + (bisF u v 23 0 5400000 : Nat), exF u v (bisF u v 23 0 5400000))
def angF (X Y : Int) : Int × Bool :=
  if 0 < X ∧ 0 ≤ Y then ang1 0 X Y else if 0 < Y ∧ X ≤ 0 then ang1 5400000 Y (-X) else if X < 0 ∧ Y ≤ 0 then ang1 10800000 (-X) (-Y) else ang1 16200000 (-Y) X
theorem AngF.eq {u v : Int} {k : Nat} {ex : Bool} (h : AngF u v k ex) (T : Int) : ang1 T u v = (T + (k : Int), ex) := by
  unfold ang1 exF
  rw [← h.fn, h.ex]
theorem angF_bd (X Y : Int) : 0 ≤ (angF X Y).1 ∧ (angF X Y).1 < 21600000 := by
  have h : ∀ T u v, (ang1 T u v).1 = T + (bisF u v 23 0 5400000 : Nat) := fun _ _ _ => rfl
  have hb : ∀ u v, bisF u v 23 0 5400000 < 5400000 := fun u v => bisF_lt (by decide)
  unfold angF
  split
  · rw [h]; have := hb X Y; omega
  · split
    · rw [h]; have := hb Y (-X); omega
    · split
      · rw [h]; have := hb (-X) (-Y); omega
      · rw [h]; have := hb (-Y) X; omega
def fstC (x0 x1 y0 y1 : Int) : Nat → Int × Int
  | 0 => (x0, y0)
  | i + 1 => if befB (crX x0 x1 i) (crY y0 y1 i) (fstC x0 x1 y0 y1 i).1 (fstC x0 x1 y0 y1 i).2 = true then (crX x0 x1 i, crY y0 y1 i) else fstC x0 x1 y0 y1 i
def lstC (x0 x1 y0 y1 : Int) : Nat → Int × Int
  | 0 => (x0, y0)
  | i + 1 => if befB (lstC x0 x1 y0 y1 i).1 (lstC x0 x1 y0 y1 i).2 (crX x0 x1 i) (crY y0 y1 i) = true then (crX x0 x1 i, crY y0 y1 i) else lstC x0 x1 y0 y1 i
def oriB (x0 x1 y0 y1 : Int) : Prop := x0 ≤ 0 ∧ 0 ≤ x1 ∧ y0 ≤ 0 ∧ 0 ≤ y1
instance (x0 x1 y0 y1 : Int) : Decidable (oriB x0 x1 y0 y1) := by unfold oriB; infer_instance
def brG (a c : Int × Int) : Int × Int := ((angF a.1 a.2).1, (if (angF c.1 c.2).1 < (angF a.1 a.2).1 then (angF c.1 c.2).1 + 21600000 else (angF c.1 c.2).1) + (if (angF c.1 c.2).2 = true then 0 else 1))
def brF (x0 x1 y0 y1 : Int) : Int × Int := if oriB x0 x1 y0 y1 then (0, 21600000) else brG (fstC x0 x1 y0 y1 4) (lstC x0 x1 y0 y1 4)
theorem brF_bd (x0 x1 y0 y1 : Int) : 0 ≤ (brF x0 x1 y0 y1).1 ∧ (brF x0 x1 y0 y1).1 ≤ (brF x0 x1 y0 y1).2 ∧ (brF x0 x1 y0 y1).2 ≤ 43200000 := by
  unfold brF
  split
  · exact ⟨by decide, by decide, by decide⟩
  · unfold brG
    obtain ⟨h0, h1⟩ := angF_bd (fstC x0 x1 y0 y1 4).1 (fstC x0 x1 y0 y1 4).2
    obtain ⟨h2, h3⟩ := angF_bd (lstC x0 x1 y0 y1 4).1 (lstC x0 x1 y0 y1 4).2
    dsimp only
    refine ⟨h0, ?_, ?_⟩ <;> (split <;> split <;> omega)
structure BoxF (x0 x1 y0 y1 : Int) (i : Nat) (a b c d : Int) : Prop where
  i4 : i ≤ 4
  f : fstC x0 x1 y0 y1 i = (a, b)
  l : lstC x0 x1 y0 y1 i = (c, d)
theorem BoxF.start {x0 x1 y0 y1 : Int} : BoxF x0 x1 y0 y1 0 x0 y0 x0 y0 := ⟨by decide, rfl, rfl⟩
theorem BoxF.step {x0 x1 y0 y1 : Int} {i : Nat} {a b c d p q : Int} (h : BoxF x0 x1 y0 y1 i a b c d) (hi : i < 4) (hp : p = crX x0 x1 i) (hq : q = crY y0 y1 i) :
    BoxF x0 x1 y0 y1 (i + 1) (if befB p q a b = true then p else a) (if befB p q a b = true then q else b) (if befB c d p q = true then p else c) (if befB c d p q = true then q else d) := by
  refine ⟨by omega, ?_, ?_⟩
  · show (if _ then _ else _) = _
    rw [h.f, ← hp, ← hq]
    dsimp only
    split <;> rfl
  · show (if _ then _ else _) = _
    rw [h.l, ← hp, ← hq]
    dsimp only
    split <;> rfl
theorem fst_cor (x0 x1 y0 y1 : Int) : ∀ i, ∃ j, fstC x0 x1 y0 y1 i = (crX x0 x1 j, crY y0 y1 j)
  | 0 => ⟨0, rfl⟩
  | i + 1 => by
    unfold fstC
    split
    · exact ⟨i, rfl⟩
    · exact fst_cor x0 x1 y0 y1 i
theorem lst_cor (x0 x1 y0 y1 : Int) : ∀ i, ∃ j, lstC x0 x1 y0 y1 i = (crX x0 x1 j, crY y0 y1 j)
  | 0 => ⟨0, rfl⟩
  | i + 1 => by
    unfold lstC
    split
    · exact ⟨i, rfl⟩
    · exact lst_cor x0 x1 y0 y1 i
theorem crX_bd {x0 x1 : Int} (h0 : Bd31 x0) (h1 : Bd31 x1) (j : Nat) : Bd31 (crX x0 x1 j) := by unfold crX; split <;> assumption
theorem crY_bd {y0 y1 : Int} (h0 : Bd31 y0) (h1 : Bd31 y1) (j : Nat) : Bd31 (crY y0 y1 j) := by unfold crY; split <;> assumption
theorem cor_ne {x0 x1 y0 y1 : Int} (hx : x0 ≤ x1) (hy : y0 ≤ y1) (hn : ¬ oriB x0 x1 y0 y1) (j : Nat) : ¬ (crX x0 x1 j = 0 ∧ crY y0 y1 j = 0) := by
  rintro ⟨h1, h2⟩
  apply hn
  unfold crX at h1
  unfold crY at h2
  unfold oriB
  split at h1 <;> split at h2 <;> omega
theorem BoxF.bds {x0 x1 y0 y1 : Int} {i : Nat} {a b c d : Int} (h : BoxF x0 x1 y0 y1 i a b c d) (hX0 : Bd31 x0) (hX1 : Bd31 x1) (hY0 : Bd31 y0) (hY1 : Bd31 y1) (hn : x0 ≤ x1 ∧ y0 ≤ y1 ∧ ¬ oriB x0 x1 y0 y1) :
    Bd31 a ∧ Bd31 b ∧ Bd31 c ∧ Bd31 d ∧ ¬ (a = 0 ∧ b = 0) ∧ ¬ (c = 0 ∧ d = 0) := by
  obtain ⟨j, hj⟩ := fst_cor x0 x1 y0 y1 i
  obtain ⟨k, hk⟩ := lst_cor x0 x1 y0 y1 i
  rw [h.f, Prod.mk.injEq] at hj
  rw [h.l, Prod.mk.injEq] at hk
  obtain ⟨rfl, rfl⟩ := hj
  obtain ⟨rfl, rfl⟩ := hk
  exact ⟨crX_bd hX0 hX1 _, crY_bd hY0 hY1 _, crX_bd hX0 hX1 _, crY_bd hY0 hY1 _, cor_ne hn.1 hn.2.1 hn.2.2 _, cor_ne hn.1 hn.2.1 hn.2.2 _⟩
theorem BoxF.res {x0 x1 y0 y1 a b c d : Int} (h : BoxF x0 x1 y0 y1 4 a b c d) (hn : x0 ≤ x1 ∧ y0 ≤ y1 ∧ ¬ oriB x0 x1 y0 y1) :
    brF x0 x1 y0 y1 = ((angF a b).1, (if (angF c d).1 < (angF a b).1 then (angF c d).1 + 21600000 else (angF c d).1) + (if (angF c d).2 = true then 0 else 1)) := by
  unfold brF
  rw [if_neg hn.2.2, h.f, h.l]
  rfl
end Go.Proofs.YtkhhdpndcidmgaaGreat
