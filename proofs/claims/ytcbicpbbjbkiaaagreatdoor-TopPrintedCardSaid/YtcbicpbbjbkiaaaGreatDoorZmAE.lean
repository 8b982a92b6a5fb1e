/- Contracts and plain laws, several texts in one: CiP; QnP; QnQ; Qn5; Qn6; LgY -/
import GoSem.Core.Next
import Derived.Test.YtcbicpbbjbkiaaaGreatDoorProg
import Derived.WalkKit
import Derived.WalkSpells
import Derived.WalkLawsBesides
import Derived.Lib.Hide
import Derived.BigQuiet
import Derived.Maps.AppendAt
import Derived.Test.YtcbicpbbjbkiaaaGreatDoorZmAA
import Derived.Test.YtcbicpbbjbkiaaaGreatDoorZmAB
import Derived.Test.YtcbicpbbjbkiaaaGreatDoorZmAC
import Derived.Test.YtcbicpbbjbkiaaaGreatDoorZmAD
namespace Go.Proofs.YtcbicpbbjbkiaaaGreatDoor

theorem rabs {x y m f : Rat} (h1 : -m ≤ x) (h2 : x ≤ m) (h3 : -f ≤ y) (h4 : y ≤ f) : -(m * f) ≤ x * y ∧ x * y ≤ m * f := by
 have a1 := rmul0 (show 0 ≤ m - x by grind) (show 0 ≤ f + y by grind)
 have a2 := rmul0 (show 0 ≤ m + x by grind) (show 0 ≤ f - y by grind)
 have a3 := rmul0 (show 0 ≤ m - x by grind) (show 0 ≤ f - y by grind)
 have a4 := rmul0 (show 0 ≤ m + x by grind) (show 0 ≤ f + y by grind)
 constructor <;> grind
theorem sq_one {x y : Rat} (h : x * x + y * y = 1) : -1 ≤ x ∧ x ≤ 1 := by
 have hy : 0 ≤ y * y := by
  rcases (Rat.le_total : (0 : Rat) ≤ y ∨ y ≤ 0) with g | g
  ·exact rmul0 g g
  ·have := rmul0 (show 0 ≤ -y by grind) (show 0 ≤ -y by grind); grind
 constructor
 ·rcases (Rat.le_total : ((-1) : Rat) ≤ x ∨ x ≤ (-1)) with g | g
  ·exact g
  ·have a := rmul0 (show 0 ≤ -1 - x by grind) (show 0 ≤ -1 - x by grind)
   grind
 ·rcases (Rat.le_total : (x : Rat) ≤ 1 ∨ 1 ≤ x) with g | g
  ·exact g
  ·have a := rmul0 (show 0 ≤ x - 1 by grind) (show 0 ≤ x - 1 by grind)
   grind
theorem Nr.prod {a b c d e f m n : Rat} (h : Nr a b e) (g : Nr c d f) (a0 : -m ≤ a) (a1 : a ≤ m) (d0 : -n ≤ d) (d1 : d ≤ n) : Nr (a * c) (b * d) (m * f + n * e) := by
 obtain ⟨h1, h2⟩ := h
 obtain ⟨g1, g2⟩ := g
 obtain ⟨p1, p2⟩ := rabs a0 a1 (show -f ≤ c - d by grind) (show c - d ≤ f by grind)
 obtain ⟨q1, q2⟩ := rabs d0 d1 (show -e ≤ a - b by grind) (show a - b ≤ e by grind)
 constructor <;> grind
def c1R : Rat := (340282366920938463463374607431768211456 * 340282366920938463463374607431768211456 - 49492064077082142867227310776778 * 49492064077082142867227310776778) / (340282366920938463463374607431768211456 * 340282366920938463463374607431768211456 + 49492064077082142867227310776778 * 49492064077082142867227310776778)
def s1R : Rat := 2 * 49492064077082142867227310776778 * 340282366920938463463374607431768211456 / (340282366920938463463374607431768211456 * 340282366920938463463374607431768211456 + 49492064077082142867227310776778 * 49492064077082142867227310776778)
theorem unit1 : c1R * c1R + s1R * s1R = 1 := by decide +kernel
theorem unit_near : Nr s1R (23046538269650701392778 / k96) (1 / k96) ∧ Nr c1R (79228162514260985610427347966 / k96) (1 / k96) := by
 unfold Nr
 exact ⟨⟨by decide +kernel, by decide +kernel⟩, ⟨by decide +kernel, by decide +kernel⟩⟩
def zsc : Nat → Rat × Rat
 | 0 => (0, 1)
 | n + 1 => ((zsc n).1 * c1R + (zsc n).2 * s1R, (zsc n).2 * c1R - (zsc n).1 * s1R)
def zs (n : Nat) : Rat := (zsc n).1
def zc (n : Nat) : Rat := (zsc n).2
theorem zs_0 : zs 0 = 0 := rfl
theorem zc_0 : zc 0 = 1 := rfl
theorem zs_s (n : Nat) : zs (n + 1) = zs n * c1R + zc n * s1R := rfl
theorem zc_s (n : Nat) : zc (n + 1) = zc n * c1R - zs n * s1R := rfl
theorem z_unit : ∀ n, zs n * zs n + zc n * zc n = 1
 | 0 => by rw [zs_0, zc_0]; grind
 | n + 1 => by
  have h := z_unit n
  have u := unit1
  rw [zs_s, zc_s]
  generalize zs n = a at *
  generalize zc n = b at *
  grind
theorem z_add (a : Nat) : ∀ b, zs (a + b) = zs a * zc b + zc a * zs b ∧ zc (a + b) = zc a * zc b - zs a * zs b
 | 0 => by rw [Nat.add_zero, zs_0, zc_0]; constructor <;> grind
 | b + 1 => by
  obtain ⟨h1, h2⟩ := z_add a b
  rw [← Nat.add_assoc, zs_s, zc_s, zs_s, zc_s, h1, h2]
  constructor <;> grind
theorem z_sub {a b : Nat} (h : b ≤ a) : zs (a - b) = zs a * zc b - zc a * zs b ∧ zc (a - b) = zc a * zc b + zs a * zs b := by
 obtain ⟨h1, h2⟩ := z_add (a - b) b
 rw [Nat.sub_add_cancel h] at h1 h2
 have u := z_unit b
 rw [h1, h2]
 generalize zs (a - b) = x at *
 generalize zc (a - b) = y at *
 generalize zs b = p at *
 generalize zc b = q at *
 constructor <;> grind
def zS (n : Int) : Rat := if 0 ≤ n then zs n.toNat else -(zs (-n).toNat)
def zC (n : Int) : Rat := if 0 ≤ n then zc n.toNat else zc (-n).toNat
theorem zS_nat (n : Nat) : zS (n : Int) = zs n := by unfold zS; rw [if_pos (by omega)]; rfl
theorem zC_nat (n : Nat) : zC (n : Int) = zc n := by unfold zC; rw [if_pos (by omega)]; rfl
theorem zS_neg (n : Int) : zS (-n) = -(zS n) := by
 unfold zS
 rcases Int.lt_trichotomy n 0 with h | h | h
 ·rw [if_pos (by omega), if_neg (by omega)]; grind
 ·subst h
  simp only [Int.neg_zero, Int.le_refl, if_true]
  show zs 0 = -(zs 0)
  rw [zs_0]; grind
 ·rw [if_neg (by omega), if_pos (by omega), Int.neg_neg]
theorem zC_neg (n : Int) : zC (-n) = zC n := by
 unfold zC
 rcases Int.lt_trichotomy n 0 with h | h | h
 ·rw [if_pos (by omega), if_neg (by omega)]
 ·subst h; rfl
 ·rw [if_neg (by omega), if_pos (by omega), Int.neg_neg]
theorem Z_unit (n : Int) : zS n * zS n + zC n * zC n = 1 := by
 unfold zS zC
 split
 ·exact z_unit _
 ·have := z_unit (-n).toNat
  grind
theorem Z_addN (a b : Nat) : zS ((a : Int) - (b : Int)) = zs a * zc b - zc a * zs b ∧ zC ((a : Int) - (b : Int)) = zc a * zc b + zs a * zs b := by
 by_cases h : b ≤ a
 ·rw [show (a : Int) - (b : Int) = ((a - b : Nat) : Int) by omega, zS_nat, zC_nat]
  exact z_sub h
 ·obtain ⟨h1, h2⟩ := z_sub (a := b) (b := a) (by omega)
  rw [show (a : Int) - (b : Int) = -((b - a : Nat) : Int) by omega, zS_neg, zC_neg, zS_nat, zC_nat, h1, h2]
  constructor <;> grind
theorem Z_add (a b : Int) : zS (a + b) = zS a * zC b + zC a * zS b ∧ zC (a + b) = zC a * zC b - zS a * zS b := by
 have ha : ∃ m : Nat, a = (m : Int) ∨ a = -(m : Int) := ⟨a.natAbs, by omega⟩
 have hb : ∃ m : Nat, b = (m : Int) ∨ b = -(m : Int) := ⟨b.natAbs, by omega⟩
 obtain ⟨m, hm⟩ := ha
 obtain ⟨n, hn⟩ := hb
 rcases hm with rfl | rfl <;> rcases hn with rfl | rfl
 ·obtain ⟨h1, h2⟩ := z_add m n
  rw [show (m : Int) + (n : Int) = ((m + n : Nat) : Int) by omega]
  simp only [zS_nat, zC_nat]
  exact ⟨h1, h2⟩
 ·obtain ⟨h1, h2⟩ := Z_addN m n
  rw [show (m : Int) + -(n : Int) = (m : Int) - (n : Int) by omega, h1, h2]
  simp only [zS_nat, zC_nat, zS_neg, zC_neg]
  constructor <;> grind
 ·obtain ⟨h1, h2⟩ := Z_addN n m
  rw [show -(m : Int) + (n : Int) = (n : Int) - (m : Int) by omega, h1, h2]
  simp only [zS_nat, zC_nat, zS_neg, zC_neg]
  constructor <;> grind
 ·obtain ⟨h1, h2⟩ := z_add m n
  rw [show -(m : Int) + -(n : Int) = -((m + n : Nat) : Int) by omega]
  simp only [zS_nat, zC_nat, zS_neg, zC_neg]
  rw [h1, h2]
  constructor <;> grind
theorem Z_sub (a b : Int) : zS (a - b) = zS a * zC b - zC a * zS b ∧ zC (a - b) = zC a * zC b + zS a * zS b := by
 obtain ⟨h1, h2⟩ := Z_add a (-b)
 rw [Int.sub_eq_add_neg, h1, h2, zS_neg, zC_neg]
 constructor <;> grind
theorem Z_in (n : Int) : (-1 ≤ zS n ∧ zS n ≤ 1) ∧ -1 ≤ zC n ∧ zC n ≤ 1 := ⟨sq_one (Z_unit n), sq_one (y := zS n) (by have := Z_unit n; grind)⟩
theorem z_near : ∀ {r : Nat}, r ≤ 2700000 → Nr (zs r) (sinT r) (64 * (r : Rat) / k96) ∧ Nr (zc r) (cosT r) (64 * (r : Rat) / k96)
 | 0, _ => by
  rw [sin_zero, cos_zero, zs_0, zc_0]
  constructor
  ·constructor <;> grind
  ·constructor <;> grind
 | r + 1, h => by
  obtain ⟨h1, h2⟩ := z_near (r := r) (by omega)
  obtain ⟨h3, h4⟩ := one_near
  obtain ⟨u1, u2⟩ := unit_near
  have v1 := u1.trans h3
  have v2 := u2.trans h4
  have hs := sin_in (n := r) (by omega)
  have hx := xi_in (n := r) (by omega)
  have hc := cos_in (n := r) (by omega)
  have hs1 := sin_in (n := 1) (by omega)
  have hc1 := cos_in (n := 1) (by omega)
  have hx1 := xi_one
  have zu := z_unit r
  obtain ⟨z1, z2⟩ := sq_one zu
  obtain ⟨z3, z4⟩ := sq_one (x := zc r) (y := zs r) (by grind)
  have hr0 : (0 : Rat) ≤ (r : Rat) := by exact_mod_cast Nat.zero_le r
  have hr : (r : Rat) ≤ 2700000 := by exact_mod_cast (show r ≤ 2700000 by omega)
  have hk : 0 < 1 / k96 := by unfold k96; grind
  have he : eps ≤ 1 / k96 := by unfold eps k96; grind
  have p1 := h1.prod v2 z1 z2 (show -1 ≤ cosT 1 by grind) hc1.2
  have p2 := h2.prod v1 z3 z4 (show -(1 / 3437000) ≤ sinT 1 by grind) (show sinT 1 ≤ 1 / 3437000 by grind)
  have p3 := h2.prod v2 z3 z4 (show -1 ≤ cosT 1 by grind) hc1.2
  have p4 := h1.prod v1 z1 z2 (show -(1 / 3437000) ≤ sinT 1 by grind) (show sinT 1 ≤ 1 / 3437000 by grind)
  have q1 := (p1.add p2).trans (sin_step (n := r) (by omega)).symm
  have q2 := (p3.sub p4).trans (cos_step (n := r) (by omega)).symm
  rw [zs_s, zc_s]
  have e1 : 1 * (1 / k96 + 1 / k96) + 1 * (64 * (r : Rat) / k96) + (1 * (1 / k96 + 1 / k96) + 1 / 3437000 * (64 * (r : Rat) / k96)) + eps ≤ 64 * ((r + 1 : Nat) : Rat) / k96 := by
   have h5 := rmul hr0 hr (Rat.le_of_lt hk) (show 1 / k96 ≤ 1 / k96 by exact Rat.le_refl)
   push_cast
   grind
  exact ⟨q1.le e1, q2.le e1⟩
def nexQ (M sq t d : Nat) : Nat := t * sq / M / (d * (d + 1))
def altQ (M sq : Nat) : Nat → Nat → Nat → Int
 | 0, _, _ => 0
 | f + 1, t, d => (t : Int) - altQ M sq f (nexQ M sq t d) (d + 2)
theorem nr_mulM {M a b : Nat} (hM : 0 < M) : Nr (((a * b / M : Nat) : Rat) / (M : Rat)) ((a : Rat) / (M : Rat) * ((b : Rat) / (M : Rat))) (3 / (M : Rat)) := by
 have h1 := Nat.div_mul_le_self (a * b) M
 have h2 : a * b < (a * b / M + 1) * M := Nat.lt_mul_of_div_lt (Nat.lt_succ_self _) hM
 have h3 : (a * b / M + 1) * M ≤ (a * b / M + 3) * M := Nat.mul_le_mul_right M (by omega)
 exact nr_mul (k := 3) hM h1 (Nat.le_trans (Nat.le_of_lt h2) h3)
theorem mulM_le {M a b : Nat} (hM : 0 < M) (hb : b ≤ M) : a * b / M ≤ a := by
 have := Nat.div_le_div_right (c := M) (Nat.mul_le_mul_left a hb)
 rwa [Nat.mul_div_cancel _ hM] at this
theorem nexQ_le {M sq t d : Nat} (hM : 0 < M) (hsq : sq ≤ M) (hd : 1 ≤ d) : nexQ M sq t d * 2 ≤ t := by
 unfold nexQ
 have h1 := mulM_le (a := t) hM hsq
 have h2 := Nat.div_mul_le_self (t * sq / M) (d * (d + 1))
 have h3 := Nat.mul_le_mul_left (t * sq / M / (d * (d + 1))) (dd_ge hd)
 omega
theorem altQ_zero {M sq : Nat} : ∀ {f d : Nat}, altQ M sq f 0 d = 0
 | 0, _ => rfl
 | f + 1, d => by
  have : nexQ M sq 0 d = 0 := by unfold nexQ; simp
  unfold altQ
  rw [this, altQ_zero]
  rfl
theorem altQ_more {M sq : Nat} (hM : 0 < M) (hsq : sq ≤ M) : ∀ {f t d : Nat}, 1 ≤ d → t < 2 ^ f → altQ M sq (f + 1) t d = altQ M sq f t d
 | 0, t, d, hd, ht => by
  obtain rfl : t = 0 := by omega
  rw [altQ_zero]; rfl
 | f + 1, t, d, hd, ht => by
  have hn := nexQ_le (t := t) hM hsq hd
  show (t : Int) - altQ M sq (f + 1) (nexQ M sq t d) (d + 2) = (t : Int) - altQ M sq f (nexQ M sq t d) (d + 2)
  rw [altQ_more hM hsq (f := f) (t := nexQ M sq t d) (d := d + 2) (by omega) (by rw [Nat.pow_succ] at ht; omega)]
theorem altQ_next {M sq f t d : Nat} (hM : 0 < M) (hsq : sq ≤ M) (hd : 1 ≤ d) (ht : t < 2 ^ f) : altQ M sq f t d = (t : Int) - altQ M sq f (nexQ M sq t d) (d + 2) := by
 have h := altQ_more hM hsq hd ht
 rw [← h]
 show (t : Int) - altQ M sq f (nexQ M sq t d) (d + 2) = _
 rfl
theorem altQ_ok {M sq : Nat} (hM : 0 < M) (hsq : sq ≤ M) : ∀ {f t d : Nat}, 1 ≤ d → t ≤ 2 ^ f → Nr ((altQ M sq f t d : Rat) / (M : Rat)) ((t : Rat) / (M : Rat) * (1 - tay ((sq : Rat) / (M : Rat)) d f)) ((1 + 3 * (f : Rat)) * (1 / (M : Rat)))
 | 0, t, d, hd, ht => by
  have hM2 : (0 : Rat) < (M : Rat) := by exact_mod_cast hM
  have hi : 0 ≤ 1 / (M : Rat) := by rw [Rat.div_def, Rat.one_mul]; exact Rat.le_of_lt (Rat.inv_pos.2 hM2)
  have h1 : (t : Rat) ≤ 1 := by exact_mod_cast ht
  have h0 : (0 : Rat) ≤ (t : Rat) := by exact_mod_cast Nat.zero_le t
  have h2 := rmul h0 h1 hi Rat.le_refl
  have h3 := rmul0 h0 hi
  unfold altQ tay
  have e0 : (((0 : Int) : Rat)) = 0 := rfl
  have e1 : (((0 : Nat) : Rat)) = 0 := rfl
  rw [e0, e1]
  constructor <;> grind
 | f + 1, t, d, hd, ht => by
  have hn := nexQ_le (t := t) hM hsq hd
  have ih := altQ_ok hM hsq (f := f) (t := nexQ M sq t d) (d := d + 2) (by omega) (by rw [Nat.pow_succ] at ht; omega)
  have hg := nr_mulM (a := t) (b := sq) hM
  have hdd := dd_ge hd
  have hq := nr_div (y := t * sq / M) hM (show 0 < d * (d + 1) by omega)
  simp only [altQ, tay]
  unfold nexQ at *
  have hM2 : (0 : Rat) < (M : Rat) := by exact_mod_cast hM
  have hi : 0 ≤ 1 / (M : Rat) := by rw [Rat.div_def, Rat.one_mul]; exact Rat.le_of_lt (Rat.inv_pos.2 hM2)
  have hy1 : (sq : Rat) / (M : Rat) ≤ 1 := by
   have := natB hM hsq
   rwa [show (M : Rat) / (M : Rat) = 1 by grind] at this
  have hy0 := nat0 (a := sq) hM
  obtain ⟨t0, t1⟩ := tay_in hy0 hy1 (m := f) (d := d + 2) (by omega)
  have h2 := two_le hd
  obtain ⟨r0, r1, r2⟩ := div_ge (show (0 : Rat) ≤ 1 by decide) h2
  have e1 : ((d * (d + 1) : Nat) : Rat) = (d : Rat) * ((d : Rat) + 1) := by push_cast; rfl
  rw [e1] at hq
  generalize t * sq / M / (d * (d + 1)) = n1 at *
  generalize ((t * sq / M : Nat) : Rat) / (M : Rat) = H at *
  generalize hk : (d : Rat) * ((d : Rat) + 1) = k at *
  generalize hT : tay ((sq : Rat) / (M : Rat)) (d + 2) f = T at *
  generalize (sq : Rat) / (M : Rat) = Y at *
  generalize altQ M sq f n1 (d + 2) = A at *
  have hg2 := hg.mulc r0 r1 hg.pos
  have e2 : 1 / k * H = H / k := by grind
  have e3 : 1 / k * ((t : Rat) / (M : Rat) * Y) = (t : Rat) / (M : Rat) * Y / k := by grind
  rw [e2, e3] at hg2
  have h5 := hq.trans hg2
  have h6 := h5.mulc (c := 1 - T) (m := 1) (by grind) (by grind) h5.pos
  have h7 := ih.trans (by rw [Rat.mul_comm]; exact h6)
  have h8 := (Nr.refl ((t : Rat) / (M : Rat))).sub h7
  have e4 : (((t : Int) - A : Int) : Rat) / (M : Rat) = (t : Rat) / (M : Rat) - (A : Rat) / (M : Rat) := by push_cast; grind
  have e5 : (t : Rat) / (M : Rat) * (1 - Y / k * (1 - T)) = (t : Rat) / (M : Rat) - (1 - T) * ((t : Rat) / (M : Rat) * Y / k) := by grind
  rw [e4, e5]
  refine h8.le ?_
  push_cast
  grind
def m192 : Nat := 6277101735386680763835789423207666416102355444464034512896
def piA : Nat := piN / 18446744073709551616
def tA (k : Nat) : Nat := k * piA / 10800000
def sqA (k : Nat) : Nat := tA k * tA k / m192
def sinA (k : Nat) : Int := altQ m192 (sqA k) 200 (tA k) 2
def cosA (k : Nat) : Int := altQ m192 (sqA k) 200 m192 1
theorem m192_pos : 0 < m192 := by decide +kernel
theorem m192_pow : m192 = 18446744073709551616 ^ 3 := by decide +kernel
theorem m192_rat : (0 : Rat) < (m192 : Rat) := by exact_mod_cast m192_pos
theorem m192_big : 1 / (m192 : Rat) ≤ 1 / 100000000000000000000000000000000000000000 := by
 have h : 100000000000000000000000000000000000000000 ≤ m192 := by decide +kernel
 have h2 : (100000000000000000000000000000000000000000 : Rat) ≤ (m192 : Rat) := by exact_mod_cast h
 refine Rat.le_of_mul_le_mul_right (c := (m192 : Rat)) ?_ m192_rat
 rw [Rat.div_mul_cancel (by have := m192_rat; grind)]
 grind
theorem piA_ok : piA * 18446744073709551616 ≤ piN ∧ piN ≤ (piA + 1) * 18446744073709551616 := by decide +kernel
theorem piD_at : piD = 18446744073709551616 * (m192 * 10800000) := by decide +kernel
theorem tA_near {k : Nat} (hk : k ≤ 2700000) : Nr ((tA k : Rat) / (m192 : Rat)) (xi k) (2 / (m192 : Rat)) := by
 obtain ⟨u1, u2⟩ := piA_ok
 have h1 := nfl (a := k * piA) (K := 10800000) (by decide)
 change Nr ((tA k : Nat) : Rat) _ _ at h1
 have hM := m192_rat
 have v1 : (piA : Rat) * 18446744073709551616 ≤ (piN : Rat) := by
  have := Rat.natCast_le_natCast.2 u1
  rw [Rat.natCast_mul] at this
  exact this
 have v2 : (piN : Rat) ≤ ((piA : Rat) + 1) * 18446744073709551616 := by
  have := Rat.natCast_le_natCast.2 u2
  rw [Rat.natCast_mul, Rat.natCast_add] at this
  exact this
 have hD : (piD : Rat) = 18446744073709551616 * ((m192 : Rat) * 10800000) := by
  have : ((piD : Nat) : Rat) = ((18446744073709551616 * (m192 * 10800000) : Nat) : Rat) := by rw [← piD_at]
  rw [this, Rat.natCast_mul, Rat.natCast_mul]
  rfl
 have hk2 : (k : Rat) ≤ 2700000 := by exact_mod_cast hk
 have hk0 : (0 : Rat) ≤ (k : Rat) := by exact_mod_cast Nat.zero_le k
 unfold xi
 rw [hD]
 rw [Rat.natCast_mul] at h1
 have hK : ((10800000 : Nat) : Rat) = 10800000 := rfl
 rw [hK] at h1
 generalize (piN : Rat) = N at *
 generalize (piA : Rat) = P at *
 generalize ((tA k : Nat) : Rat) = T at *
 generalize (m192 : Rat) = M at *
 obtain ⟨a1, a2⟩ := h1
 have hi : 0 < 1 / M := by rw [Rat.div_def, Rat.one_mul]; exact Rat.inv_pos.2 hM
 have y1 := Rat.mul_le_mul_of_nonneg_left v1 hk0
 have y2 := Rat.mul_le_mul_of_nonneg_left v2 hk0
 have e1 : (k : Rat) * (N / (18446744073709551616 * (M * 10800000))) = (k : Rat) * N / 18446744073709551616 / 10800000 * (1 / M) := by grind
 have e2 : T / M = T * (1 / M) := by grind
 have e3 : 2 / M = 2 * (1 / M) := by grind
 rw [e1, e2, e3]
 have b1 : T ≤ (k : Rat) * N / 18446744073709551616 / 10800000 + 2 := by grind
 have b2 : (k : Rat) * N / 18446744073709551616 / 10800000 ≤ T + 2 := by grind
 have c1 := Rat.mul_le_mul_of_nonneg_right b1 (Rat.le_of_lt hi)
 have c2 := Rat.mul_le_mul_of_nonneg_right b2 (Rat.le_of_lt hi)
 constructor <;> grind
theorem sqA_near {r : Nat} (hr : r ≤ 2700000) : sqA r ≤ m192 ∧ tA r ≤ m192 ∧ Nr ((sqA r : Rat) / (m192 : Rat)) (xi r * xi r) (7 / (m192 : Rat)) ∧ (tA r : Rat) / (m192 : Rat) ≤ 1 := by
 have hn := tA_near hr
 have hx4 := xi_in (n := r) (by omega)
 have hb := m192_big
 have hx1 : (tA r : Rat) / (m192 : Rat) ≤ 1 := by
  obtain ⟨a, b⟩ := hn; grind
 have hx2 : tA r ≤ m192 := by
  have h0 := m192_rat
  have := Rat.mul_le_mul_of_nonneg_right hx1 (Rat.le_of_lt h0)
  rw [Rat.div_mul_cancel (by grind), Rat.one_mul] at this
  exact_mod_cast this
 have hg := nr_mulM (a := tA r) (b := tA r) m192_pos
 have hx0 : 0 ≤ (tA r : Rat) / (m192 : Rat) := nat0 m192_pos
 have hp := hn.mul hn hx0 hx1 hx4.1 (show xi r ≤ 1 by grind)
 exact ⟨Nat.le_trans (mulM_le m192_pos hx2) hx2, hx2, (hg.trans hp).le (by grind), hx1⟩
theorem m192_fuel : m192 ≤ 2 ^ 200 := by decide +kernel
theorem sinA_near {r : Nat} (hr : r ≤ 2700000) : Nr ((sinA r : Rat) / (m192 : Rat)) (sinT r) sml := by
 obtain ⟨h1, h2, h3, h4⟩ := sqA_near hr
 have hx4 := xi_in (n := r) (by omega)
 have hq := sq_in hx4
 have ha := altQ_ok m192_pos h1 (f := 200) (t := tA r) (d := 2) (by decide) (Nat.le_trans h2 m192_fuel)
 have hb := m192_big
 have hy0 : 0 ≤ (sqA r : Rat) / (m192 : Rat) := nat0 m192_pos
 have hy1 : (sqA r : Rat) / (m192 : Rat) ≤ 1 := by obtain ⟨a, b⟩ := h3; grind
 have hx0 : 0 ≤ (tA r : Rat) / (m192 : Rat) := nat0 m192_pos
 have g1 := tay_arg hy0 hy1 hq.1 (by grind) h3 (m := 200) (d := 2) (by decide)
 have g2 := tay_more hq.1 (by grind) 186 (m := 14) (d := 2) (by decide)
 have g3 := (Nr.refl 1).sub (g1.trans g2)
 obtain ⟨t0, t1⟩ := tay_in hq.1 (by grind) (m := 14) (d := 2) (by decide)
 have g4 := (tA_near hr).mul g3 hx0 h4 (show 0 ≤ 1 - tay (xi r * xi r) 2 14 by grind) (show 1 - tay (xi r * xi r) 2 14 ≤ 1 by grind)
 have hf := facT_sml (d := 2) (by decide +kernel)
 have hm : 0 ≤ 1 / (m192 : Rat) := by rw [Rat.div_def, Rat.one_mul]; exact Rat.le_of_lt (Rat.inv_pos.2 m192_rat)
 unfold sinT sinA
 refine (ha.trans g4).le ?_
 have e64 : ((200 : Nat) : Rat) = 200 := rfl
 rw [e64]
 unfold sml at *
 generalize (m192 : Rat) = M at *
 grind
theorem cosA_near {r : Nat} (hr : r ≤ 2700000) : Nr ((cosA r : Rat) / (m192 : Rat)) (cosT r) sml := by
 obtain ⟨h1, h2, h3, h4⟩ := sqA_near hr
 have hx4 := xi_in (n := r) (by omega)
 have hq := sq_in hx4
 have ha := altQ_ok m192_pos h1 (f := 200) (t := m192) (d := 1) (by decide) m192_fuel
 have hb := m192_big
 have hy0 : 0 ≤ (sqA r : Rat) / (m192 : Rat) := nat0 m192_pos
 have hy1 : (sqA r : Rat) / (m192 : Rat) ≤ 1 := by obtain ⟨a, b⟩ := h3; grind
 have g1 := tay_arg hy0 hy1 hq.1 (by grind) h3 (m := 200) (d := 1) (by decide)
 have g2 := tay_more hq.1 (by grind) 186 (m := 14) (d := 1) (by decide)
 have g3 := (Nr.refl 1).sub (g1.trans g2)
 have hf := facT_sml (d := 1) (by decide +kernel)
 have hm : 0 ≤ 1 / (m192 : Rat) := by rw [Rat.div_def, Rat.one_mul]; exact Rat.le_of_lt (Rat.inv_pos.2 m192_rat)
 have hmm : (m192 : Rat) / (m192 : Rat) = 1 := by have := m192_rat; grind
 unfold cosT cosA
 rw [hmm, Rat.one_mul] at ha
 refine (ha.trans g3).le ?_
 have e64 : ((200 : Nat) : Rat) = 200 := rfl
 rw [e64]
 unfold sml at *
 generalize (m192 : Rat) = M at *
 grind
def siA (k : Nat) : Int := if 2700000 < k then cosA (5400000 - k) else sinA k
def coA (k : Nat) : Int := if 2700000 < k then sinA (5400000 - k) else cosA k
set_option maxRecDepth 100000
open Go.RowKit

def piAL : List Nat := [3, 2611923443488327891, 1376283091369227076, 11820040416388919760]
theorem piAL_wd : Wd 4 piAL := ⟨rfl, fun i => by
 unfold piAL nt
 rcases i with _ | _ | _ | _ | i <;> simp [List.getD]⟩
theorem piAL_val : val4 piAL = piA := by decide +kernel
theorem ar_pi (w : World) : Calls Tryz.prog 292 #[] w fun e w' => e = .returned (nuV piAL) ∧ ∃ d, w' = bw w d := by
 refine lay_start ?_
 go_enter Tryz.func292, Tryz.ntmps292
 go_wp2_with fail
 exact bodyPost_ret (v := nuV piAL) (by simp [results, Tryz.results292, go_sem, nuV, piAL, nt]) rfl ⟨rfl, lay_ex _ _⟩
theorem sub_small {a b r c B : Nat} (h : r + b = a + c * B) (hc : c ≤ 1) (hr : r < B) (hle : b ≤ a) : r = a - b := by
 rcases (show c = 0 ∨ c = 1 by omega) with g | g
 ·subst g; omega
 ·subst g; omega
theorem add_small {a b r c B : Nat} (h : r + c * B = a + b) (hc : c ≤ 1) (hab : a + b < B) : r = a + b := by
 rcases (show c = 0 ∨ c = 1 by omega) with g | g
 ·subst g; omega
 ·subst g; omega
theorem m192_B4 : m192 < 18446744073709551616 ^ 4 := by decide +kernel
theorem limbs_zero {t : List Nat} (h : Wd 4 t) (h0 : val4 t = 0) : nt t 0 = 0 ∧ nt t 1 = 0 ∧ nt t 2 = 0 ∧ nt t 3 = 0 := by
 obtain ⟨hl, hw⟩ := h
 match t, hl with
 | [a, b, c, d], _ =>
  unfold val4 at h0
  simp only [valB, List.length_cons, List.length_nil, Nat.zero_add, Nat.reduceAdd, Nat.pow_zero, Nat.mul_one, Nat.pow_one, Nat.add_zero] at h0
  show a = 0 ∧ b = 0 ∧ c = 0 ∧ d = 0
  omega
theorem limbs_some {t : List Nat} (h : Wd 4 t) (h0 : val4 t ≠ 0) : (nt t 0 ≠ 0) ∨ (nt t 0 = 0 ∧ nt t 1 ≠ 0) ∨ (nt t 0 = 0 ∧ nt t 1 = 0 ∧ nt t 2 ≠ 0) ∨ (nt t 0 = 0 ∧ nt t 1 = 0 ∧ nt t 2 = 0 ∧ nt t 3 ≠ 0) := by
 obtain ⟨hl, hw⟩ := h
 match t, hl with
 | [a, b, c, d], _ =>
  unfold val4 at h0
  simp only [valB, List.length_cons, List.length_nil, Nat.zero_add, Nat.reduceAdd, Nat.pow_zero, Nat.mul_one, Nat.pow_one, Nat.add_zero] at h0
  show a ≠ 0 ∨ (a = 0 ∧ b ≠ 0) ∨ (a = 0 ∧ b = 0 ∧ c ≠ 0) ∨ (a = 0 ∧ b = 0 ∧ c = 0 ∧ d ≠ 0)
  omega
structure SerI (sq F d0 : Nat) (fin : Int) (s t d k : Nat) (mi : Bool) : Prop where
 dk : d = d0 + 2 * k
 fuel : t * 2 ^ k ≤ m192
 fin1 : mi = true → fin = (s : Int) - ((t : Int) - altQ m192 sq 200 t d)
 fin2 : mi = false → fin = (s : Int) + ((t : Int) - altQ m192 sq 200 t d)
 bd1 : mi = true → t ≤ s ∧ s ≤ F
 bd2 : mi = false → s + t ≤ F
theorem m192_200 : m192 < 2 ^ 200 := by decide +kernel
theorem SerI.start {sq F d0 : Nat} (hF : F ≤ m192) : SerI sq F d0 (altQ m192 sq 200 F d0) F F d0 0 true := ⟨by omega, by omega, fun _ => by omega, fun h => (by cases h), fun _ => ⟨Nat.le_refl _, Nat.le_refl _⟩, fun h => (by cases h)⟩
theorem SerI.step {sq F d0 : Nat} {fin : Int} {s t d k : Nat} {mi : Bool} (h : SerI sq F d0 fin s t d k mi) (hs : sq ≤ m192) (hd : 1 ≤ d0) (_hF : F ≤ m192) (ht : 0 < t) :
  k ≤ 192 ∧ nexQ m192 sq t d * 2 ≤ t ∧ (mi = true → nexQ m192 sq t d ≤ s ∧ SerI sq F d0 fin (s - nexQ m192 sq t d) (nexQ m192 sq t d) (d + 2) (k + 1) false) ∧ (mi = false → s + nexQ m192 sq t d ≤ F ∧ SerI sq F d0 fin (s + nexQ m192 sq t d) (nexQ m192 sq t d) (d + 2) (k + 1) true) := by
 have hd1 : 1 ≤ d := by have := h.dk; omega
 have hn := nexQ_le (t := t) m192_pos hs hd1
 have hk : k ≤ 192 := by
  rcases Nat.lt_or_ge 192 k with g | g
  ·have h1 : 2 ^ 193 ≤ 2 ^ k := Nat.pow_le_pow_right (by decide) g
   have h2 : 1 * 2 ^ k ≤ t * 2 ^ k := Nat.mul_le_mul_right _ ht
   have h3 := h.fuel
   have h4 : m192 < 2 ^ 193 := by decide +kernel
   omega
  ·exact g
 have ht2 : t < 2 ^ 200 := by
  have h1 : t * 1 ≤ t * 2 ^ k := Nat.mul_le_mul_left t (Nat.pow_pos (by decide))
  have h3 := h.fuel
  have h4 := m192_200
  omega
 have ha := altQ_next m192_pos hs hd1 ht2
 have hf : nexQ m192 sq t d * 2 ^ (k + 1) ≤ m192 := by
  rw [Nat.pow_succ, Nat.mul_comm (2 ^ k), ← Nat.mul_assoc]
  exact Nat.le_trans (Nat.mul_le_mul_right _ hn) h.fuel
 generalize nexQ m192 sq t d = t' at *
 refine ⟨hk, hn, fun hm => ?_, fun hm => ?_⟩
 ·have f1 := h.fin1 hm
  have b1 := h.bd1 hm
  refine ⟨by omega, by have := h.dk; omega, hf, fun h => (by cases h), fun _ => by omega, fun h => (by cases h), fun _ => by omega⟩
 ·have f1 := h.fin2 hm
  have b1 := h.bd2 hm
  refine ⟨by omega, by have := h.dk; omega, hf, fun _ => by omega, fun h => (by cases h), fun _ => by omega, fun h => (by cases h)⟩
theorem SerI.done {sq F d0 : Nat} {fin : Int} {s d k : Nat} {mi : Bool} (h : SerI sq F d0 fin s 0 d k mi) : fin = (s : Int) := by
 cases mi
 ·have := h.fin2 rfl
  rw [altQ_zero] at this
  omega
 ·have := h.fin1 rfl
  rw [altQ_zero] at this
  omega
set_option maxHeartbeats 4000000 in
theorem ar_series (f q : List Nat) (n0 : Nat) (hf : Wd 4 f) (hq : Wd 4 q) (hf2 : val4 f ≤ m192) (hq2 : val4 q ≤ m192) (hn : n0 ≤ 1) (w : World) :
  Calls Tryz.prog 295 #[nuV f, nuV q, .int .u64 (n0 : Int)] w fun e w' => ∃ r d, e = .returned (nuV r) ∧ w' = bw w d ∧ Wd 4 r ∧ altQ m192 (val4 q) 200 (val4 f) (n0 + 1) = (val4 r : Int) := by
 have HSt := Lib.hid (SerI.start (sq := val4 q) (d0 := n0 + 1) hf2)
 generalize altQ m192 (val4 q) 200 (val4 f) (n0 + 1) = FIN at *
 refine lay_start ?_
 unfold nuV
 go_enter Tryz.func295, Tryz.ntmps295
 go_wp2_with fail
 refine region_mixW [0, 0, 2, 1, 1] (by kernel_rfl) (by kernel_rfl) (by kernel_rfl) ?_
 repeat (refine wpM_quiet (fun K hK => ?_); go_simp; first | (refine hK _ ?_; clear hK K) | (apply Exists.intro; refine ⟨fun _ => ?_, hK _ ?_⟩; (first | fail); clear hK K))
 refine wpM_two (fun J hJ d => ?_) (fun J hJ d => ?_)
 all_goals (go_simp; refine hJ _ _ (by first | exact lay_in w [_] _ | exact lay_in w [_, _] _ | exact lay_in w [_, _, _] _ | exact lay_in w [_, _, _, _] _ | exact lay_in w [_, _, _, _, _] _ | exact lay_in w [_, _, _, _, _, _] _) (fun K hK d => ?_); go_simp; refine hK _ _ (by first | exact lay_in w [_] _ | exact lay_in w [_, _] _ | exact lay_in w [_, _, _] _ | exact lay_in w [_, _, _, _] _ | exact lay_in w [_, _, _, _, _] _ | exact lay_in w [_, _, _, _, _, _] _) ?_; clear hK K hJ J)
 all_goals (repeat (first | (refine wpM_quiet (fun K hK => ?_); go_simp; first | (refine hK _ ?_; clear hK K) | (apply Exists.intro; refine ⟨fun _ => ?_, hK _ ?_⟩; (first | fail); clear hK K)) | (refine wpM_special (fun K hK d => ?_); go_simp; refine hK _ _ (by first | exact lay_in w [_] _ | exact lay_in w [_, _] _ | exact lay_in w [_, _, _] _ | exact lay_in w [_, _, _, _] _ | exact lay_in w [_, _, _, _, _] _ | exact lay_in w [_, _, _, _, _, _] _) ?_; clear hK K)))
 all_goals (refine wpM_nil ?_; intro d; rw [lay_bw])
 ·rename_i e1 e2 e3 e4
  go_wp2_with fail
  obtain ⟨ee, hee⟩ := lay_fold w [.inr d, .inr e4, .inr e3] [.inl (.cells #[.int .u64 (nt f 0 : Int), .int .u64 (nt f 1 : Int), .int .u64 (nt f 2 : Int), .int .u64 (nt f 3 : Int)] 294 (0, 0)), .inr e2, .inl (.cells #[.int .u64 (nt f 0 : Int), .int .u64 (nt f 1 : Int), .int .u64 (nt f 2 : Int), .int .u64 (nt f 3 : Int)] 294 (0, 0)), .inr e1, .inl (.cells #[.int .u64 0, .int .u64 0, .int .u64 0, .int .u64 0] 294 (0, 0)), .inl (.cells #[.int .u64 (nt q 0 : Int), .int .u64 (nt q 1 : Int), .int .u64 (nt q 2 : Int), .int .u64 (nt q 3 : Int)] 294 (0, 0)), .inl (.cells #[.int .u64 (nt f 0 : Int), .int .u64 (nt f 1 : Int), .int .u64 (nt f 2 : Int), .int .u64 (nt f 3 : Int)] 294 (0, 0))]
  change lay w [.inr d, .inr e4, .inr e3, .inl (.cells #[.int .u64 (nt f 0 : Int), .int .u64 (nt f 1 : Int), .int .u64 (nt f 2 : Int), .int .u64 (nt f 3 : Int)] 294 (0, 0)), .inr e2, .inl (.cells #[.int .u64 (nt f 0 : Int), .int .u64 (nt f 1 : Int), .int .u64 (nt f 2 : Int), .int .u64 (nt f 3 : Int)] 294 (0, 0)), .inr e1, .inl (.cells #[.int .u64 0, .int .u64 0, .int .u64 0, .int .u64 0] 294 (0, 0)), .inl (.cells #[.int .u64 (nt q 0 : Int), .int .u64 (nt q 1 : Int), .int .u64 (nt q 2 : Int), .int .u64 (nt q 3 : Int)] 294 (0, 0)), .inl (.cells #[.int .u64 (nt f 0 : Int), .int .u64 (nt f 1 : Int), .int .u64 (nt f 2 : Int), .int .u64 (nt f 3 : Int)] 294 (0, 0))] = _ at hee
  rw [hee]
  clear hee
  go_loopw [2, 9] (fun v2 v9 wr => ∃ (s t : List Nat) (nn k : Nat) (mi : Bool) (e : Ext), v2 = .int .u64 (nn : Int) ∧ v9 = .bool mi ∧ wr = lay w [.inr e, .inl (.cells #[.int .u64 (nt t 0 : Int), .int .u64 (nt t 1 : Int), .int .u64 (nt t 2 : Int), .int .u64 (nt t 3 : Int)] 294 (0, 0)), .inr e2, .inl (.cells #[.int .u64 (nt s 0 : Int), .int .u64 (nt s 1 : Int), .int .u64 (nt s 2 : Int), .int .u64 (nt s 3 : Int)] 294 (0, 0)), .inr e1, .inl (.cells #[.int .u64 0, .int .u64 0, .int .u64 0, .int .u64 0] 294 (0, 0)), .inl (.cells #[.int .u64 (nt q 0 : Int), .int .u64 (nt q 1 : Int), .int .u64 (nt q 2 : Int), .int .u64 (nt q 3 : Int)] 294 (0, 0)), .inl (.cells #[.int .u64 (nt f 0 : Int), .int .u64 (nt f 1 : Int), .int .u64 (nt f 2 : Int), .int .u64 (nt f 3 : Int)] 294 (0, 0))] ∧ Wd 4 s ∧ Wd 4 t ∧ SerI (val4 q) (val4 f) (n0 + 1) FIN (val4 s) (val4 t) (nn + 1) k mi) (fun v2 _ _ => 400 - (intOf v2).toNat)
  case atStart => exact ⟨f, f, n0, 0, true, ee, rfl, rfl, rfl, hf, hf, HSt.out⟩
  case round =>
   obtain ⟨s, t, nn, k, mi, e, rfl, rfl, rfl, hs, ht, hS⟩ := hrel
   have HS := Lib.hid hS
   have HW := Lib.hid (And.intro hs ht)
   clear hS hs ht
   by_cases h0 : val4 t = 0
   ·obtain ⟨z0, z1, z2, z3⟩ := limbs_zero HW.out.2 h0
    have hneq : ∀ W, (binOp .neq 294 (.agg #[.int .u64 (nt t 0 : Int), .int .u64 (nt t 1 : Int), .int .u64 (nt t 2 : Int), .int .u64 (nt t 3 : Int)]) (.agg #[.int .u64 0, .int .u64 0, .int .u64 0, .int .u64 0])).run Tryz.prog W = .ok (.bool false) W := fun W => by
     rw [neq_num, z0, z1, z2, z3]; rfl
    have hfin := HS.out
    rw [h0] at hfin
    have HF := Lib.hid (And.intro HW.out.1 hfin.done)
    clear hfin z0 z1 z2 z3 h0
    go_wp2_with fail
    obtain ⟨dz, ez⟩ := lay_all w [.inr e, .inl (.cells #[.int .u64 (nt t 0 : Int), .int .u64 (nt t 1 : Int), .int .u64 (nt t 2 : Int), .int .u64 (nt t 3 : Int)] 294 (0, 0)), .inr e2, .inl (.cells #[.int .u64 (nt s 0 : Int), .int .u64 (nt s 1 : Int), .int .u64 (nt s 2 : Int), .int .u64 (nt s 3 : Int)] 294 (0, 0)), .inr e1, .inl (.cells #[.int .u64 (nt s 0 : Int), .int .u64 (nt s 1 : Int), .int .u64 (nt s 2 : Int), .int .u64 (nt s 3 : Int)] 294 (0, 0)), .inl (.cells #[.int .u64 (nt q 0 : Int), .int .u64 (nt q 1 : Int), .int .u64 (nt q 2 : Int), .int .u64 (nt q 3 : Int)] 294 (0, 0)), .inl (.cells #[.int .u64 (nt f 0 : Int), .int .u64 (nt f 1 : Int), .int .u64 (nt f 2 : Int), .int .u64 (nt f 3 : Int)] 294 (0, 0))]
    exact bodyPost_ret (v := .agg #[.int .u64 (nt s 0 : Int), .int .u64 (nt s 1 : Int), .int .u64 (nt s 2 : Int), .int .u64 (nt s 3 : Int)]) (by simp [results, Tryz.results295, go_sem]) rfl ⟨s, dz, rfl, ez, HF.out.1, HF.out.2⟩
   ·obtain ⟨hk, hn2, hT, hF⟩ := HS.out.step hq2 (by omega) hf2 (by omega)
    have hdk := HS.out.dk
    have hneq : ∀ W, (binOp .neq 294 (.agg #[.int .u64 (nt t 0 : Int), .int .u64 (nt t 1 : Int), .int .u64 (nt t 2 : Int), .int .u64 (nt t 3 : Int)]) (.agg #[.int .u64 0, .int .u64 0, .int .u64 0, .int .u64 0])).run Tryz.prog W = .ok (.bool true) W := fun W => by
     rw [neq_num]
     congr 2
     have := limbs_some HW.out.2 h0
     simp
     omega
    have ht192 : val4 t ≤ m192 := by
     have h1 : val4 t * 1 ≤ val4 t * 2 ^ k := Nat.mul_le_mul_left _ (Nat.pow_pos (by decide))
     have h3 := HS.out.fuel
     omega
    have hM := qn_mul t q HW.out.2 hq (by
     have h1 := Nat.mul_le_mul ht192 hq2
     have h2 : m192 * m192 < 18446744073709551616 ^ 7 := by decide +kernel
     omega)
    obtain ⟨D, hD⟩ : ∃ D, (nn + 1) * (nn + 1 + 1) = D := ⟨_, rfl⟩
    have hnn : nn ≤ 400 := by omega
    have hDb : 0 < D ∧ D < 1000000 := by
     have h1 := Nat.mul_le_mul (show nn + 1 ≤ 401 by omega) (show nn + 1 + 1 ≤ 402 by omega)
     have h2 : 0 < (nn + 1) * (nn + 1 + 1) := Nat.mul_pos (by omega) (by omega)
     omega
    have kn1 : IntKind.u64.wrap ((nn : Int) + 1) = (nn : Int) + 1 := IntWalk.u64_in _ (by omega)
    have kn2 : IntKind.u64.wrap ((nn : Int) + 2) = (nn : Int) + 2 := IntWalk.u64_in _ (by omega)
    have eD : ((nn : Int) + 1) * ((nn : Int) + 2) = (D : Int) := by rw [← hD]; push_cast; rfl
    have kD : IntKind.u64.wrap (((nn : Int) + 1) * ((nn : Int) + 2)) = (D : Int) := by rw [eD]; exact IntWalk.u64_in _ (by omega)
    unfold nuV at hM
    unfold nexQ at hT hF hn2
    rw [hD, m192_pow] at hT hF hn2
    have HT := Lib.hid (And.intro hT (And.intro hF hn2))
    clear hT hF hn2 eD hD h0 ht192
    go_wp2_with fail
    refine (hM _).mono ?_
    rintro xx w' ⟨r1, d1, rfl, rfl, hw1, hv1⟩
    rw [lay_bw]
    have hO := qn_over r1 D hw1 hDb.1 (by omega)
    unfold nuV at hO
    go_wp2_with fail
    refine (hO _).mono ?_
    rintro xx w' ⟨r2, d2, rfl, rfl, hw2, hv2⟩
    rw [hv1] at hv2
    have HT := HT.out
    rw [← hv2] at HT
    have HT := Lib.hid HT
    have HX := Lib.hid (And.intro hw2 (And.intro (val4_lt HW.out.1) (val4_lt hw2)))
    clear hw1 hv1 hw2 hv2 hM hO
    rw [lay_bw]
    cases mi
    ·obtain ⟨hle, hnext⟩ := HT.out.2.1 rfl
     have HN := Lib.hid (And.intro hle hnext)
     clear hle hnext
     have hA := qn_add s r2 HW.out.1 HX.out.1
     unfold nuV at hA
     go_wp2_with fail
     refine (hA _).mono ?_
     rintro xx w' ⟨r3, d3, rfl, rfl, hw3, c, hc, hv3⟩
     have hv4 := add_small hv3 hc (Nat.lt_of_le_of_lt (Nat.le_trans HN.out.1 hf2) m192_B4)
     have hser := HN.out.2
     rw [← hv4] at hser
     have HZ := Lib.hid (And.intro hw3 hser)
     clear hw3 hc hv3 hv4 hser hA
     rw [lay_bw]
     go_wp2_with fail
     obtain ⟨df, hdf⟩ := lay_fold w [.inr d3, .inr d2, .inr d1, .inr e] [.inl (.cells #[.int .u64 (nt r2 0 : Int), .int .u64 (nt r2 1 : Int), .int .u64 (nt r2 2 : Int), .int .u64 (nt r2 3 : Int)] 294 (0, 0)), .inr e2, .inl (.cells #[.int .u64 (nt r3 0 : Int), .int .u64 (nt r3 1 : Int), .int .u64 (nt r3 2 : Int), .int .u64 (nt r3 3 : Int)] 294 (0, 0)), .inr e1, .inl (.cells #[.int .u64 0, .int .u64 0, .int .u64 0, .int .u64 0] 294 (0, 0)), .inl (.cells #[.int .u64 (nt q 0 : Int), .int .u64 (nt q 1 : Int), .int .u64 (nt q 2 : Int), .int .u64 (nt q 3 : Int)] 294 (0, 0)), .inl (.cells #[.int .u64 (nt f 0 : Int), .int .u64 (nt f 1 : Int), .int .u64 (nt f 2 : Int), .int .u64 (nt f 3 : Int)] 294 (0, 0))]
     exact ⟨⟨r3, r2, nn + 2, k + 1, true, df, by first | rfl | exact congrArg (Value.int .u64) (by omega), rfl, hdf, HZ.out.1, HX.out.1, HZ.out.2⟩, by simp only [intOf]; omega⟩
    ·obtain ⟨hle, hnext⟩ := HT.out.1 rfl
     have HN := Lib.hid (And.intro hle hnext)
     clear hle hnext
     have hA := qn_sub s r2 HW.out.1 HX.out.1
     unfold nuV at hA
     go_wp2_with fail
     refine (hA _).mono ?_
     rintro xx w' ⟨r3, d3, rfl, rfl, hw3, c, hc, hv3⟩
     have hv4 := sub_small hv3 hc (val4_lt hw3) HN.out.1
     have hser := HN.out.2
     rw [← hv4] at hser
     have HZ := Lib.hid (And.intro hw3 hser)
     clear hw3 hc hv3 hv4 hser hA
     rw [lay_bw]
     go_wp2_with fail
     obtain ⟨df, hdf⟩ := lay_fold w [.inr d3, .inr d2, .inr d1, .inr e] [.inl (.cells #[.int .u64 (nt r2 0 : Int), .int .u64 (nt r2 1 : Int), .int .u64 (nt r2 2 : Int), .int .u64 (nt r2 3 : Int)] 294 (0, 0)), .inr e2, .inl (.cells #[.int .u64 (nt r3 0 : Int), .int .u64 (nt r3 1 : Int), .int .u64 (nt r3 2 : Int), .int .u64 (nt r3 3 : Int)] 294 (0, 0)), .inr e1, .inl (.cells #[.int .u64 0, .int .u64 0, .int .u64 0, .int .u64 0] 294 (0, 0)), .inl (.cells #[.int .u64 (nt q 0 : Int), .int .u64 (nt q 1 : Int), .int .u64 (nt q 2 : Int), .int .u64 (nt q 3 : Int)] 294 (0, 0)), .inl (.cells #[.int .u64 (nt f 0 : Int), .int .u64 (nt f 1 : Int), .int .u64 (nt f 2 : Int), .int .u64 (nt f 3 : Int)] 294 (0, 0))]
     exact ⟨⟨r3, r2, nn + 2, k + 1, false, df, by first | rfl | exact congrArg (Value.int .u64) (by omega), rfl, hdf, HZ.out.1, HX.out.1, HZ.out.2⟩, by simp only [intOf]; omega⟩
 ·rename_i e1 e2 e3 e4
  go_wp2_with fail
  obtain ⟨ee, hee⟩ := lay_fold w [.inr d, .inr e4, .inr e3] [.inl (.cells #[.int .u64 (nt f 0 : Int), .int .u64 (nt f 1 : Int), .int .u64 (nt f 2 : Int), .int .u64 (nt f 3 : Int)] 294 (0, 0)), .inr e2, .inl (.cells #[.int .u64 (nt f 0 : Int), .int .u64 (nt f 1 : Int), .int .u64 (nt f 2 : Int), .int .u64 (nt f 3 : Int)] 294 (0, 0)), .inr e1, .inl (.cells #[.int .u64 0, .int .u64 0, .int .u64 0, .int .u64 0] 294 (0, 0)), .inl (.cells #[.int .u64 (nt q 0 : Int), .int .u64 (nt q 1 : Int), .int .u64 (nt q 2 : Int), .int .u64 (nt q 3 : Int)] 294 (0, 0)), .inl (.cells #[.int .u64 (nt f 0 : Int), .int .u64 (nt f 1 : Int), .int .u64 (nt f 2 : Int), .int .u64 (nt f 3 : Int)] 294 (0, 0))]
  change lay w [.inr d, .inr e4, .inr e3, .inl (.cells #[.int .u64 (nt f 0 : Int), .int .u64 (nt f 1 : Int), .int .u64 (nt f 2 : Int), .int .u64 (nt f 3 : Int)] 294 (0, 0)), .inr e2, .inl (.cells #[.int .u64 (nt f 0 : Int), .int .u64 (nt f 1 : Int), .int .u64 (nt f 2 : Int), .int .u64 (nt f 3 : Int)] 294 (0, 0)), .inr e1, .inl (.cells #[.int .u64 0, .int .u64 0, .int .u64 0, .int .u64 0] 294 (0, 0)), .inl (.cells #[.int .u64 (nt q 0 : Int), .int .u64 (nt q 1 : Int), .int .u64 (nt q 2 : Int), .int .u64 (nt q 3 : Int)] 294 (0, 0)), .inl (.cells #[.int .u64 (nt f 0 : Int), .int .u64 (nt f 1 : Int), .int .u64 (nt f 2 : Int), .int .u64 (nt f 3 : Int)] 294 (0, 0))] = _ at hee
  rw [hee]
  clear hee
  go_loopw [2, 9] (fun v2 v9 wr => ∃ (s t : List Nat) (nn k : Nat) (mi : Bool) (e : Ext), v2 = .int .u64 (nn : Int) ∧ v9 = .bool mi ∧ wr = lay w [.inr e, .inl (.cells #[.int .u64 (nt s 0 : Int), .int .u64 (nt s 1 : Int), .int .u64 (nt s 2 : Int), .int .u64 (nt s 3 : Int)] 294 (0, 0)), .inr e2, .inl (.cells #[.int .u64 (nt t 0 : Int), .int .u64 (nt t 1 : Int), .int .u64 (nt t 2 : Int), .int .u64 (nt t 3 : Int)] 294 (0, 0)), .inr e1, .inl (.cells #[.int .u64 0, .int .u64 0, .int .u64 0, .int .u64 0] 294 (0, 0)), .inl (.cells #[.int .u64 (nt q 0 : Int), .int .u64 (nt q 1 : Int), .int .u64 (nt q 2 : Int), .int .u64 (nt q 3 : Int)] 294 (0, 0)), .inl (.cells #[.int .u64 (nt f 0 : Int), .int .u64 (nt f 1 : Int), .int .u64 (nt f 2 : Int), .int .u64 (nt f 3 : Int)] 294 (0, 0))] ∧ Wd 4 s ∧ Wd 4 t ∧ SerI (val4 q) (val4 f) (n0 + 1) FIN (val4 s) (val4 t) (nn + 1) k mi) (fun v2 _ _ => 400 - (intOf v2).toNat)
  case atStart => exact ⟨f, f, n0, 0, true, ee, rfl, rfl, rfl, hf, hf, HSt.out⟩
  case round =>
   obtain ⟨s, t, nn, k, mi, e, rfl, rfl, rfl, hs, ht, hS⟩ := hrel
   have HS := Lib.hid hS
   have HW := Lib.hid (And.intro hs ht)
   clear hS hs ht
   by_cases h0 : val4 t = 0
   ·obtain ⟨z0, z1, z2, z3⟩ := limbs_zero HW.out.2 h0
    have hneq : ∀ W, (binOp .neq 294 (.agg #[.int .u64 (nt t 0 : Int), .int .u64 (nt t 1 : Int), .int .u64 (nt t 2 : Int), .int .u64 (nt t 3 : Int)]) (.agg #[.int .u64 0, .int .u64 0, .int .u64 0, .int .u64 0])).run Tryz.prog W = .ok (.bool false) W := fun W => by
     rw [neq_num, z0, z1, z2, z3]; rfl
    have hfin := HS.out
    rw [h0] at hfin
    have HF := Lib.hid (And.intro HW.out.1 hfin.done)
    clear hfin z0 z1 z2 z3 h0
    go_wp2_with fail
    obtain ⟨dz, ez⟩ := lay_all w [.inr e, .inl (.cells #[.int .u64 (nt s 0 : Int), .int .u64 (nt s 1 : Int), .int .u64 (nt s 2 : Int), .int .u64 (nt s 3 : Int)] 294 (0, 0)), .inr e2, .inl (.cells #[.int .u64 (nt t 0 : Int), .int .u64 (nt t 1 : Int), .int .u64 (nt t 2 : Int), .int .u64 (nt t 3 : Int)] 294 (0, 0)), .inr e1, .inl (.cells #[.int .u64 (nt s 0 : Int), .int .u64 (nt s 1 : Int), .int .u64 (nt s 2 : Int), .int .u64 (nt s 3 : Int)] 294 (0, 0)), .inl (.cells #[.int .u64 (nt q 0 : Int), .int .u64 (nt q 1 : Int), .int .u64 (nt q 2 : Int), .int .u64 (nt q 3 : Int)] 294 (0, 0)), .inl (.cells #[.int .u64 (nt f 0 : Int), .int .u64 (nt f 1 : Int), .int .u64 (nt f 2 : Int), .int .u64 (nt f 3 : Int)] 294 (0, 0))]
    exact bodyPost_ret (v := .agg #[.int .u64 (nt s 0 : Int), .int .u64 (nt s 1 : Int), .int .u64 (nt s 2 : Int), .int .u64 (nt s 3 : Int)]) (by simp [results, Tryz.results295, go_sem]) rfl ⟨s, dz, rfl, ez, HF.out.1, HF.out.2⟩
   ·obtain ⟨hk, hn2, hT, hF⟩ := HS.out.step hq2 (by omega) hf2 (by omega)
    have hdk := HS.out.dk
    have hneq : ∀ W, (binOp .neq 294 (.agg #[.int .u64 (nt t 0 : Int), .int .u64 (nt t 1 : Int), .int .u64 (nt t 2 : Int), .int .u64 (nt t 3 : Int)]) (.agg #[.int .u64 0, .int .u64 0, .int .u64 0, .int .u64 0])).run Tryz.prog W = .ok (.bool true) W := fun W => by
     rw [neq_num]
     congr 2
     have := limbs_some HW.out.2 h0
     simp
     omega
    have ht192 : val4 t ≤ m192 := by
     have h1 : val4 t * 1 ≤ val4 t * 2 ^ k := Nat.mul_le_mul_left _ (Nat.pow_pos (by decide))
     have h3 := HS.out.fuel
     omega
    have hM := qn_mul t q HW.out.2 hq (by
     have h1 := Nat.mul_le_mul ht192 hq2
     have h2 : m192 * m192 < 18446744073709551616 ^ 7 := by decide +kernel
     omega)
    obtain ⟨D, hD⟩ : ∃ D, (nn + 1) * (nn + 1 + 1) = D := ⟨_, rfl⟩
    have hnn : nn ≤ 400 := by omega
    have hDb : 0 < D ∧ D < 1000000 := by
     have h1 := Nat.mul_le_mul (show nn + 1 ≤ 401 by omega) (show nn + 1 + 1 ≤ 402 by omega)
     have h2 : 0 < (nn + 1) * (nn + 1 + 1) := Nat.mul_pos (by omega) (by omega)
     omega
    have kn1 : IntKind.u64.wrap ((nn : Int) + 1) = (nn : Int) + 1 := IntWalk.u64_in _ (by omega)
    have kn2 : IntKind.u64.wrap ((nn : Int) + 2) = (nn : Int) + 2 := IntWalk.u64_in _ (by omega)
    have eD : ((nn : Int) + 1) * ((nn : Int) + 2) = (D : Int) := by rw [← hD]; push_cast; rfl
    have kD : IntKind.u64.wrap (((nn : Int) + 1) * ((nn : Int) + 2)) = (D : Int) := by rw [eD]; exact IntWalk.u64_in _ (by omega)
    unfold nuV at hM
    unfold nexQ at hT hF hn2
    rw [hD, m192_pow] at hT hF hn2
    have HT := Lib.hid (And.intro hT (And.intro hF hn2))
    clear hT hF hn2 eD hD h0 ht192
    go_wp2_with fail
    refine (hM _).mono ?_
    rintro xx w' ⟨r1, d1, rfl, rfl, hw1, hv1⟩
    rw [lay_bw]
    have hO := qn_over r1 D hw1 hDb.1 (by omega)
    unfold nuV at hO
    go_wp2_with fail
    refine (hO _).mono ?_
    rintro xx w' ⟨r2, d2, rfl, rfl, hw2, hv2⟩
    rw [hv1] at hv2
    have HT := HT.out
    rw [← hv2] at HT
    have HT := Lib.hid HT
    have HX := Lib.hid (And.intro hw2 (And.intro (val4_lt HW.out.1) (val4_lt hw2)))
    clear hw1 hv1 hw2 hv2 hM hO
    rw [lay_bw]
    cases mi
    ·obtain ⟨hle, hnext⟩ := HT.out.2.1 rfl
     have HN := Lib.hid (And.intro hle hnext)
     clear hle hnext
     have hA := qn_add s r2 HW.out.1 HX.out.1
     unfold nuV at hA
     go_wp2_with fail
     refine (hA _).mono ?_
     rintro xx w' ⟨r3, d3, rfl, rfl, hw3, c, hc, hv3⟩
     have hv4 := add_small hv3 hc (Nat.lt_of_le_of_lt (Nat.le_trans HN.out.1 hf2) m192_B4)
     have hser := HN.out.2
     rw [← hv4] at hser
     have HZ := Lib.hid (And.intro hw3 hser)
     clear hw3 hc hv3 hv4 hser hA
     rw [lay_bw]
     go_wp2_with fail
     obtain ⟨df, hdf⟩ := lay_fold w [.inr d3, .inr d2, .inr d1, .inr e] [.inl (.cells #[.int .u64 (nt r3 0 : Int), .int .u64 (nt r3 1 : Int), .int .u64 (nt r3 2 : Int), .int .u64 (nt r3 3 : Int)] 294 (0, 0)), .inr e2, .inl (.cells #[.int .u64 (nt r2 0 : Int), .int .u64 (nt r2 1 : Int), .int .u64 (nt r2 2 : Int), .int .u64 (nt r2 3 : Int)] 294 (0, 0)), .inr e1, .inl (.cells #[.int .u64 0, .int .u64 0, .int .u64 0, .int .u64 0] 294 (0, 0)), .inl (.cells #[.int .u64 (nt q 0 : Int), .int .u64 (nt q 1 : Int), .int .u64 (nt q 2 : Int), .int .u64 (nt q 3 : Int)] 294 (0, 0)), .inl (.cells #[.int .u64 (nt f 0 : Int), .int .u64 (nt f 1 : Int), .int .u64 (nt f 2 : Int), .int .u64 (nt f 3 : Int)] 294 (0, 0))]
     exact ⟨⟨r3, r2, nn + 2, k + 1, true, df, by first | rfl | exact congrArg (Value.int .u64) (by omega), rfl, hdf, HZ.out.1, HX.out.1, HZ.out.2⟩, by simp only [intOf]; omega⟩
    ·obtain ⟨hle, hnext⟩ := HT.out.1 rfl
     have HN := Lib.hid (And.intro hle hnext)
     clear hle hnext
     have hA := qn_sub s r2 HW.out.1 HX.out.1
     unfold nuV at hA
     go_wp2_with fail
     refine (hA _).mono ?_
     rintro xx w' ⟨r3, d3, rfl, rfl, hw3, c, hc, hv3⟩
     have hv4 := sub_small hv3 hc (val4_lt hw3) HN.out.1
     have hser := HN.out.2
     rw [← hv4] at hser
     have HZ := Lib.hid (And.intro hw3 hser)
     clear hw3 hc hv3 hv4 hser hA
     rw [lay_bw]
     go_wp2_with fail
     obtain ⟨df, hdf⟩ := lay_fold w [.inr d3, .inr d2, .inr d1, .inr e] [.inl (.cells #[.int .u64 (nt r3 0 : Int), .int .u64 (nt r3 1 : Int), .int .u64 (nt r3 2 : Int), .int .u64 (nt r3 3 : Int)] 294 (0, 0)), .inr e2, .inl (.cells #[.int .u64 (nt r2 0 : Int), .int .u64 (nt r2 1 : Int), .int .u64 (nt r2 2 : Int), .int .u64 (nt r2 3 : Int)] 294 (0, 0)), .inr e1, .inl (.cells #[.int .u64 0, .int .u64 0, .int .u64 0, .int .u64 0] 294 (0, 0)), .inl (.cells #[.int .u64 (nt q 0 : Int), .int .u64 (nt q 1 : Int), .int .u64 (nt q 2 : Int), .int .u64 (nt q 3 : Int)] 294 (0, 0)), .inl (.cells #[.int .u64 (nt f 0 : Int), .int .u64 (nt f 1 : Int), .int .u64 (nt f 2 : Int), .int .u64 (nt f 3 : Int)] 294 (0, 0))]
     exact ⟨⟨r3, r2, nn + 2, k + 1, false, df, by first | rfl | exact congrArg (Value.int .u64) (by omega), rfl, hdf, HZ.out.1, HX.out.1, HZ.out.2⟩, by simp only [intOf]; omega⟩
set_option maxHeartbeats 4000000
set_option maxRecDepth 100000
open Go.RowKit

theorem piA_small {k : Nat} (hk : k ≤ 2700000) : k * piA < 18446744073709551616 ^ 4 := by
 have h1 := Nat.mul_le_mul_right piA hk
 have h2 : 2700000 * piA < 18446744073709551616 ^ 4 := by decide +kernel
 omega
theorem one192 : Wd 4 [1, 0, 0, 0] ∧ val4 [1, 0, 0, 0] = m192 := ⟨⟨rfl, fun i => by
 unfold nt
 rcases i with _ | _ | _ | _ | i <;> simp [List.getD]⟩, by decide +kernel⟩
theorem times_small {v t P : Nat} (h : v + t * 18446744073709551616 ^ 4 = P) (hP : P < 18446744073709551616 ^ 4) : v = P := by
 rcases Nat.eq_zero_or_pos t with g | g
 ·subst g; omega
 ·have := Nat.mul_le_mul_right (18446744073709551616 ^ 4) g
  omega
theorem region_mixSC {P : Program} {κ : Type} {id : Nat} {Q : Exit → Act → World → Prop} {a : Act} {w : World} {l : List Oper} (st : Nat) (s : List (Nat × Nat)) (Cl : κ → World) (hCl : ∀ k d, ∃ k', bw (Cl k) d = Cl k') (hw : ∃ k, w = Cl k) (hm : P.follows .mixedOrders = true) (hsel : Region.noSelect l.toArray = true)
  (hB : lexMS .any l.toArray st s (Array.replicate l.toArray.size false) = true) (hn : s.length = l.toArray.size)
  (h : wpMS P l l.toArray Cl (fun a w => Q .normal a w) s a w) : (Code.region id l.toArray true).wp P Q a w := by
 refine wp_region_any hm ?_
 have := wpD_of_wpMS (md := .any) (st := st) hCl (fun j => by simp) hsel s _ a w (.inr hw) hB h
 have := wpD_ext (⟨#[], w.drawn + 1⟩ : Ext) this
 rw [← bw_drewExt] at this
 have := wpD_sound (Q' := Q) _ _ _ _ this
 rwa [hn] at this
@[go_sem] def clC (w : World) (d1 d2 d3 d4 : Ext) (r2 r3 : List Nat) (p : Array Value × Ext) : World := lay w [.inr p.2, .inl (.cells #[.int .u64 (nt r3 0 : Int), .int .u64 (nt r3 1 : Int), .int .u64 (nt r3 2 : Int), .int .u64 (nt r3 3 : Int)] 294 (0, 0)), .inr d4, .inl (.cells #[.int .u64 (nt r2 0 : Int), .int .u64 (nt r2 1 : Int), .int .u64 (nt r2 2 : Int), .int .u64 (nt r2 3 : Int)] 294 (0, 0)), .inr d3, .inr d2, .inr d1, .inl (.cells #[.int .u64 0, .int .u64 0, .int .u64 0, .int .u64 0] 294 (0, 0)), .inl (.cells p.1 294 (0, 0))]
theorem clC_ext (w : World) (d1 d2 d3 d4 : Ext) (r2 r3 : List Nat) (p : Array Value × Ext) (d : Ext) : ∃ p', bw (clC w d1 d2 d3 d4 r2 r3 p) d = clC w d1 d2 d3 d4 r2 r3 p' := by
 obtain ⟨e, he⟩ := lay_fold w [.inr d, .inr p.2] [.inl (.cells #[.int .u64 (nt r3 0 : Int), .int .u64 (nt r3 1 : Int), .int .u64 (nt r3 2 : Int), .int .u64 (nt r3 3 : Int)] 294 (0, 0)), .inr d4, .inl (.cells #[.int .u64 (nt r2 0 : Int), .int .u64 (nt r2 1 : Int), .int .u64 (nt r2 2 : Int), .int .u64 (nt r2 3 : Int)] 294 (0, 0)), .inr d3, .inr d2, .inr d1, .inl (.cells #[.int .u64 0, .int .u64 0, .int .u64 0, .int .u64 0] 294 (0, 0)), .inl (.cells p.1 294 (0, 0))]
 exact ⟨(p.1, e), he⟩
theorem ar_circle0 (k : Nat) (hk : k ≤ 2700000) (w : World) :
  Calls Tryz.prog 247 #[.int .i64 (k : Int)] w fun e w' => ∃ s c d, e = .returned (.tuple #[nuV s, nuV c]) ∧ w' = bw w d ∧ Wd 4 s ∧ Wd 4 c ∧ (val4 s : Int) = sinA k ∧ (val4 c : Int) = cosA k := by
 have g1 : ¬ (2700000 : Int) < (k : Int) := by omega
 have g2 : ¬ 2700000 < k := by omega
 have kk : IntKind.u64.wrap (k : Int) = (k : Int) := IntWalk.u64_in _ (by omega)
 obtain ⟨h1, h2, h3, h4⟩ := sqA_near hk
 have HPi := Lib.hid (fun W => ar_pi W)
 unfold nuV at *
 refine lay_start ?_
 go_enter Tryz.func247, Tryz.ntmps247
 go_wp2_with (go_at_call 292; refine (HPi.out _).mono ?_; rintro e w' ⟨rfl, d1, rfl⟩; rw [lay_bw])
 have HT := qn_times piAL k piAL_wd (by omega)
 unfold nuV at HT
 refine (HT _).mono ?_
 rintro e w' ⟨r1, d2, rfl, rfl, hw1, t, ht⟩
 rw [piAL_val] at ht
 have ht2 := times_small ht (piA_small hk)
 rw [lay_bw]
 go_wp2_with fail
 have HO := qn_over r1 10800000 hw1 (by decide) (by decide)
 unfold nuV at HO
 refine (HO _).mono ?_
 rintro e w' ⟨r2, d3, rfl, rfl, hw2, hv2⟩
 rw [ht2] at hv2
 rw [lay_bw]
 have HW := Lib.hid (And.intro hw2 (show val4 r2 = tA k from hv2))
 clear hw1 hw2 hv2 ht ht2 t
 have HM := qn_mul r2 r2 HW.out.1 HW.out.1 (by
  rw [HW.out.2]
  have h5 := Nat.mul_le_mul h2 h2
  have h6 : m192 * m192 < 18446744073709551616 ^ 7 := by decide +kernel
  omega)
 unfold nuV at HM
 go_wp2_with fail
 refine (HM _).mono ?_
 rintro e w' ⟨r3, d4, rfl, rfl, hw3, hv3⟩
 have hv4 : val4 r3 = sqA k := by rw [hv3, HW.out.2, ← m192_pow]; rfl
 rw [lay_bw]
 have HS1 := Lib.hid (fun W => ar_series r2 r3 1 HW.out.1 hw3 (by rw [HW.out.2]; exact h2) (by rw [hv4]; exact h1) (by decide) W)
 have HS2 := Lib.hid (fun W => ar_series [1, 0, 0, 0] r3 0 one192.1 hw3 (by rw [one192.2]; exact Nat.le_refl _) (by rw [hv4]; exact h1) (by decide) W)
 rw [HW.out.2, hv4] at HS1
 rw [one192.2, hv4] at HS2
 unfold nuV at HS1 HS2
 rw [show ((1 : Nat) : Int) = 1 from rfl] at HS1
 rw [show ((0 : Nat) : Int) = 0 from rfl, show nt [1, 0, 0, 0] 0 = 1 from rfl, show nt [1, 0, 0, 0] 1 = 0 from rfl, show nt [1, 0, 0, 0] 2 = 0 from rfl, show nt [1, 0, 0, 0] 3 = 0 from rfl, show ((1 : Nat) : Int) = 1 from rfl, show ((0 : Nat) : Int) = 0 from rfl] at HS2
 clear hw3 hv3 hv4 HM HO HT HPi h1 h2 h3 h4
 go_wp2_with fail
 refine region_mixSC 7 [(0, 0), (1, 0), (3, 0), (4, 0), (2, 1), (5, 1), (6, 1), (7, 3)] (clC w d1 d2 d3 d4 r2 r3) (clC_ext w d1 d2 d3 d4 r2 r3) ⟨(#[.int .u64 0, .int .u64 0, .int .u64 0, .int .u64 0], noExt (lay w [.inl (.cells #[.int .u64 (nt r3 0 : Int), .int .u64 (nt r3 1 : Int), .int .u64 (nt r3 2 : Int), .int .u64 (nt r3 3 : Int)] 294 (0, 0)), .inr d4, .inl (.cells #[.int .u64 (nt r2 0 : Int), .int .u64 (nt r2 1 : Int), .int .u64 (nt r2 2 : Int), .int .u64 (nt r2 3 : Int)] 294 (0, 0)), .inr d3, .inr d2, .inr d1, .inl (.cells #[.int .u64 0, .int .u64 0, .int .u64 0, .int .u64 0] 294 (0, 0)), .inl (.cells #[.int .u64 0, .int .u64 0, .int .u64 0, .int .u64 0] 294 (0, 0))])), (bw_noExt (lay w [.inl (.cells #[.int .u64 (nt r3 0 : Int), .int .u64 (nt r3 1 : Int), .int .u64 (nt r3 2 : Int), .int .u64 (nt r3 3 : Int)] 294 (0, 0)), .inr d4, .inl (.cells #[.int .u64 (nt r2 0 : Int), .int .u64 (nt r2 1 : Int), .int .u64 (nt r2 2 : Int), .int .u64 (nt r2 3 : Int)] 294 (0, 0)), .inr d3, .inr d2, .inr d1, .inl (.cells #[.int .u64 0, .int .u64 0, .int .u64 0, .int .u64 0] 294 (0, 0)), .inl (.cells #[.int .u64 0, .int .u64 0, .int .u64 0, .int .u64 0] 294 (0, 0))])).symm⟩ (by kernel_rfl) (by kernel_rfl) (by kernel_rfl) rfl ?_
 repeat (refine wpMS_quiet rfl (fun K hK => ?_); go_simp; (first | (refine hK _ ?_; clear hK K) | (apply Exists.intro; refine ⟨fun p => ?_, hK _ ?_⟩; (rcases p with ⟨p1, p2⟩; fail); clear hK K)))
 refine wpMS_special rfl (fun K hK e1 => ?_)
 rw [lay_bw]
 go_simp
 refine (HS1.out _).mono ?_
 rintro e w' ⟨s1, f1, rfl, rfl, hs1, hs2⟩
 have HA := Lib.hid (And.intro hs1 hs2)
 clear hs1 hs2 HS1
 refine ⟨_, rfl, hK _ _ ⟨(_, _), (lay_fold w [.inr f1, .inr e1] [.inl (.cells #[.int .u64 (nt r3 0 : Int), .int .u64 (nt r3 1 : Int), .int .u64 (nt r3 2 : Int), .int .u64 (nt r3 3 : Int)] 294 (0, 0)), .inr d4, .inl (.cells #[.int .u64 (nt r2 0 : Int), .int .u64 (nt r2 1 : Int), .int .u64 (nt r2 2 : Int), .int .u64 (nt r2 3 : Int)] 294 (0, 0)), .inr d3, .inr d2, .inr d1, .inl (.cells #[.int .u64 0, .int .u64 0, .int .u64 0, .int .u64 0] 294 (0, 0)), .inl (.cells #[.int .u64 0, .int .u64 0, .int .u64 0, .int .u64 0] 294 (0, 0))]).choose_spec⟩ ?_⟩
 clear hK K
 refine wpMS_special rfl (fun K hK e2 => ?_)
 rw [lay_bw, lay_bw]
 go_simp
 refine (HS2.out _).mono ?_
 rintro e w' ⟨s2, f2, rfl, rfl, hs1, hs2⟩
 have HB := Lib.hid (And.intro hs1 hs2)
 clear hs1 hs2 HS2
 refine ⟨_, rfl, hK _ _ ⟨(_, _), (lay_fold w [.inr f2, .inr e2, .inr f1, .inr e1] [.inl (.cells #[.int .u64 (nt r3 0 : Int), .int .u64 (nt r3 1 : Int), .int .u64 (nt r3 2 : Int), .int .u64 (nt r3 3 : Int)] 294 (0, 0)), .inr d4, .inl (.cells #[.int .u64 (nt r2 0 : Int), .int .u64 (nt r2 1 : Int), .int .u64 (nt r2 2 : Int), .int .u64 (nt r2 3 : Int)] 294 (0, 0)), .inr d3, .inr d2, .inr d1, .inl (.cells #[.int .u64 0, .int .u64 0, .int .u64 0, .int .u64 0] 294 (0, 0)), .inl (.cells #[.int .u64 0, .int .u64 0, .int .u64 0, .int .u64 0] 294 (0, 0))]).choose_spec⟩ ?_⟩
 clear hK K
 refine wpMS_special rfl (fun K hK e3 => ?_)
 rw [lay_bw, lay_bw]
 go_simp
 refine hK _ _ ⟨(_, _), (lay_fold w [.inr e3, .inr f2, .inr e2, .inr f1, .inr e1] [.inl (.cells #[.int .u64 (nt r3 0 : Int), .int .u64 (nt r3 1 : Int), .int .u64 (nt r3 2 : Int), .int .u64 (nt r3 3 : Int)] 294 (0, 0)), .inr d4, .inl (.cells #[.int .u64 (nt r2 0 : Int), .int .u64 (nt r2 1 : Int), .int .u64 (nt r2 2 : Int), .int .u64 (nt r2 3 : Int)] 294 (0, 0)), .inr d3, .inr d2, .inr d1, .inl (.cells #[.int .u64 0, .int .u64 0, .int .u64 0, .int .u64 0] 294 (0, 0)), .inl (.cells #[.int .u64 (nt s1 0 : Int), .int .u64 (nt s1 1 : Int), .int .u64 (nt s1 2 : Int), .int .u64 (nt s1 3 : Int)] 294 (0, 0))]).choose_spec⟩ ?_
 clear hK K
 refine wpMS_store rfl (fun K hK e4 => ?_)
 rw [lay_bw]
 go_simp
 refine hK _ _ ?_
 clear hK K
 refine wpMS_nil (fun e5 => ?_)
 rw [lay_bw]
 go_wp2_with fail
 obtain ⟨dz, ez⟩ := lay_all w [.inr e5, .inr e4, .inr e3, .inr f2, .inr e2, .inr f1, .inr e1, .inl (.cells #[.int .u64 (nt r3 0 : Int), .int .u64 (nt r3 1 : Int), .int .u64 (nt r3 2 : Int), .int .u64 (nt r3 3 : Int)] 294 (0, 0)), .inr d4, .inl (.cells #[.int .u64 (nt r2 0 : Int), .int .u64 (nt r2 1 : Int), .int .u64 (nt r2 2 : Int), .int .u64 (nt r2 3 : Int)] 294 (0, 0)), .inr d3, .inr d2, .inr d1, .inl (.cells #[.int .u64 (nt s2 0 : Int), .int .u64 (nt s2 1 : Int), .int .u64 (nt s2 2 : Int), .int .u64 (nt s2 3 : Int)] 294 (0, 0)), .inl (.cells #[.int .u64 (nt s1 0 : Int), .int .u64 (nt s1 1 : Int), .int .u64 (nt s1 2 : Int), .int .u64 (nt s1 3 : Int)] 294 (0, 0))]
 exact bodyPost_ret (v := .tuple #[.agg #[.int .u64 (nt s1 0 : Int), .int .u64 (nt s1 1 : Int), .int .u64 (nt s1 2 : Int), .int .u64 (nt s1 3 : Int)], .agg #[.int .u64 (nt s2 0 : Int), .int .u64 (nt s2 1 : Int), .int .u64 (nt s2 2 : Int), .int .u64 (nt s2 3 : Int)]]) (by simp [results, Tryz.results247, go_sem]) rfl ⟨s1, s2, dz, rfl, ez, HA.out.1, HB.out.1, HA.out.2.symm, HB.out.2.symm⟩
theorem ar_circle (k : Nat) (hk : k ≤ 5400000) (w : World) :
  Calls Tryz.prog 247 #[.int .i64 (k : Int)] w fun e w' => ∃ s c d, e = .returned (.tuple #[nuV s, nuV c]) ∧ w' = bw w d ∧ Wd 4 s ∧ Wd 4 c ∧ (val4 s : Int) = siA k ∧ (val4 c : Int) = coA k := by
 unfold siA coA
 rcases Nat.lt_or_ge 2700000 k with g | g
 ·rw [if_pos g, if_pos g]
  have g1 : (2700000 : Int) < (k : Int) := by omega
  have HC := Lib.hid (fun W => ar_circle0 (5400000 - k) (by omega) W)
  have kk : IntKind.i64.wrap (5400000 - (k : Int)) = ((5400000 - k : Nat) : Int) := by
   rw [show (5400000 - (k : Int)) = ((5400000 - k : Nat) : Int) by omega]
   exact IntWalk.i64_in _ (by omega)
  generalize 5400000 - k = k' at HC kk ⊢
  unfold nuV at *
  refine lay_start ?_
  go_enter Tryz.func247, Tryz.ntmps247
  go_wp2_with fail
  refine (HC.out _).mono ?_
  rintro e w' ⟨s1, c1, d1, rfl, rfl, h1, h2, h3, h4⟩
  rw [lay_bw]
  go_wp2_with fail
  go_region
  rw [bw_drewExt, lay_bw]
  go_wp2_with fail
  refine bodyPost_ret (v := .tuple #[.agg #[.int .u64 (nt c1 0 : Int), .int .u64 (nt c1 1 : Int), .int .u64 (nt c1 2 : Int), .int .u64 (nt c1 3 : Int)], .agg #[.int .u64 (nt s1 0 : Int), .int .u64 (nt s1 1 : Int), .int .u64 (nt s1 2 : Int), .int .u64 (nt s1 3 : Int)]]) (by simp [results, Tryz.results247, go_sem]) rfl ?_
  obtain ⟨dz, ez⟩ := lay_ex w [.inr ⟨#[], (lay w [.inr d1, .inl (.cells #[.int .u64 (nt s1 0 : Int), .int .u64 (nt s1 1 : Int), .int .u64 (nt s1 2 : Int), .int .u64 (nt s1 3 : Int)] 294 (0, 0)), .inl (.cells #[.int .u64 (nt c1 0 : Int), .int .u64 (nt c1 1 : Int), .int .u64 (nt c1 2 : Int), .int .u64 (nt c1 3 : Int)] 294 (0, 0))]).drawn + 1⟩, .inr d1, .inl (.cells #[.int .u64 (nt s1 0 : Int), .int .u64 (nt s1 1 : Int), .int .u64 (nt s1 2 : Int), .int .u64 (nt s1 3 : Int)] 294 (0, 0)), .inl (.cells #[.int .u64 (nt c1 0 : Int), .int .u64 (nt c1 1 : Int), .int .u64 (nt c1 2 : Int), .int .u64 (nt c1 3 : Int)] 294 (0, 0))]
  exact ⟨c1, s1, dz, rfl, ez, h2, h1, h4, h3⟩
 ·rw [if_neg (by omega), if_neg (by omega)]
  exact ar_circle0 k g w
end Go.Proofs.YtcbicpbbjbkiaaaGreatDoor
namespace Go.Proofs.YtcbicpbbjbkiaaaGreatDoor
open Go.RowKit

theorem sop_byteK {ops : Array Oper} {o : Oper} {a : Act} {K : Act → World → Prop} {E : Prop} (hgd : o.guard = none) (s x : Operand)
  (ho : o.op = .call { callee := .builtin .append, args := #[s, x], argTypes := #[68, 68] })
  (W0 : World) (B : Nat) (wb : World) (c : Int) (te : TypeId) (xb : Nat) (v : Value) (l : List Int) (hw : Below W0.heap.size W0 wb) (hB : W0.heap.size ≤ B) (hBw : B ≤ wb.heap.size) (hown : OwG bR wb B v l)
  (hcell : wb.heap[xb]? = some (.cells #[.int .u8 c] te (0, 0))) (hs : a.eval s = v) (hx : a.eval x = .slice (some ⟨xb, 0, none⟩) 1 1)
  (hn : l.length ≤ 1000000000) (hc : 0 ≤ c ∧ c < 256)
  (h : ∀ v' d, OwG bR (Go.Proofs.YtcbicpbbjbkiaaaGreatDoor.bw W0 d) B v' (l ++ [c]) → GrwT wb (Go.Proofs.YtcbicpbbjbkiaaaGreatDoor.bw W0 d) v → K (a.put o.dst v') (Go.Proofs.YtcbicpbbjbkiaaaGreatDoor.bw W0 d)) :
  if Region.wanted o (yielded ops a.tmps) = true then sOp Tryz.prog o a K wb else E := by
 have hwn : Region.wanted o (yielded ops a.tmps) = true := by simp [Region.wanted, hgd]
 rw [if_pos hwn]
 obtain ⟨i, hi, hz0, hz1, hz2⟩ := info_parts info_u8z
 have hM : maxLen = 9223372036854775807 := by decide
 obtain ⟨v', w', hr, hown', hg, _, _⟩ := run_append_own_at (P := Tryz.prog) (w := wb) B 68 o.type 5 i (.int .u8 0) 1 1 Tryz.underlying68 hi hz0 hz1 hz2 rfl (by decide) v l.length (l.flatMap bR.enc) hown.1 ⟨xb, 0, none⟩ 1 1 [.int .u8 c] rfl (World.news_of_block (cs := #[.int .u8 c]) hcell) (by simp [Value.oneCell']) (by omega) (by omega) hBw
 obtain ⟨d, hd⟩ := bw_of (w := W0) (w' := w') (hw.grown hg hw.size (fun k hk => Nat.le_trans hB (hown.1.lt k hk).1))
 subst hd
 unfold sOp execOp
 simp only [ho, resolve, invoke, builtin, Sem.run_bind, Sem.run_pure, Result.andThen_ok, List.map_toArray, List.map_cons, List.map_nil, hs, hx, hr]
 refine h v' d ⟨?_, fun y hy => ?_⟩ ⟨hg.size, fun k hk hne => hg.block k hk (fun e => hne e.symm)⟩
 ·rw [List.flatMap_append, List.length_append]
  exact hown'
 ·rcases List.mem_append.1 hy with hy | hy
  ·exact hown.2 y hy
  ·rw [List.mem_singleton.1 hy]; exact hc
def byN (n : Int) (j : Nat) : Int := n / 2 ^ (56 - 8 * j) % 256
def be8 (n : Int) : List Int := (List.range 8).map (byN n)
def nbF (ns : List Int) : List Int := ns.flatMap be8
theorem byN_bd (n : Int) (j : Nat) : 0 ≤ byN n j ∧ byN n j < 256 := by unfold byN; omega
theorem be8_len (n : Int) : (be8 n).length = 8 := by unfold be8; simp
theorem be8_next (n : Int) {j : Nat} (h : j < 8) : (be8 n).take (j + 1) = (be8 n).take j ++ [byN n j] := by
 rw [List.take_add_one]
 congr 1
 unfold be8
 rw [List.getElem?_map, List.getElem?_range h]
 rfl
theorem nbF_next {ns : List Int} {i : Nat} {n : Int} (h : ns[i]? = some n) : nbF (ns.take (i + 1)) = nbF (ns.take i) ++ be8 n := by
 unfold nbF
 rw [List.take_add_one, h, List.flatMap_append]
 simp
theorem nbF_len (ns : List Int) : (nbF ns).length = 8 * ns.length := by
 unfold nbF
 induction ns with
 | nil => rfl
 | cons n ns ih => rw [List.flatMap_cons, List.length_append, be8_len, ih, List.length_cons]; omega
theorem byN_0 (n : Int) : IntKind.u8.wrap (n / 72057594037927936) = byN n 0 := rfl
theorem byN_1 (n : Int) : IntKind.u8.wrap (n / 281474976710656) = byN n 1 := rfl
theorem byN_2 (n : Int) : IntKind.u8.wrap (n / 1099511627776) = byN n 2 := rfl
theorem byN_3 (n : Int) : IntKind.u8.wrap (n / 4294967296) = byN n 3 := rfl
theorem byN_4 (n : Int) : IntKind.u8.wrap (n / 16777216) = byN n 4 := rfl
theorem byN_5 (n : Int) : IntKind.u8.wrap (n / 65536) = byN n 5 := rfl
theorem byN_6 (n : Int) : IntKind.u8.wrap (n / 256) = byN n 6 := rfl
theorem byN_7 (n : Int) : IntKind.u8.wrap n = byN n 7 := by unfold byN; rw [show 2 ^ (56 - 8 * 7) = (1 : Int) from rfl, Int.ediv_one]; rfl
theorem WrI.bw {B b : Nat} {v : Value} {bs : List Int} {W : World} (h : WrI B b v bs W) (d : Ext) : WrI B b v bs (bw W d) := ⟨h.ge, (bw_get W d b h.lt).trans h.blk, h.row.bw d⟩
theorem WrK.bw {b : Nat} {W W' : World} (h : WrK b W W') (d : Ext) : WrK b W (bw W' d) := ⟨Nat.le_trans h.size (bw_le _ d), fun k hk hb hn => (bw_get W' d k (Nat.lt_of_lt_of_le hk h.size)).trans (h.kept k hk hb hn)⟩
theorem GrwT.bw {wb w' : World} {v : Value} (h : GrwT wb w' v) (d : Ext) : GrwT wb (bw w' d) v := ⟨Nat.le_trans h.size (bw_le _ d), fun k hk hv => (bw_get w' d k (Nat.lt_of_lt_of_le hk h.size)).trans (h.kept k hk hv)⟩
theorem lit_blk (w2 : World) (e1 e2 : Ext) (o : Obj) : (bw ((bw w2 e1).alloc o) e2).heap[(bw w2 e1).heap.size]? = some o := by
 have := lay_get w2 [.inr e2, .inl o, .inr e1] 1 o rfl
 rw [show (shp [Sum.inr e2, Sum.inl o, Sum.inr e1]).drop 2 = shp [.inr e1] from rfl, ← lay_size] at this
 exact this
structure KW (W0 : World) (b : Nat) (v : Value) where
 d : Ext
 h : (bw W0 d).cell? ⟨b, 0, none⟩ = some v
set_option maxHeartbeats 4000000 in
set_option maxRecDepth 100000 in
theorem lg_numbers (W0 : World) (B b : Nat) (v : Value) (bs ns : List Int) (u : Value) (W : World) (hW : Below W0.heap.size W0 W) (hB0 : W0.heap.size ≤ B) (hBW : B ≤ W.heap.size) (h : WrI B b v bs W) (hl : bs.length ≤ 10000000) (hu : Sl W u ns) (hnb : ∀ k, u.ownBlock = some k → NoB W k ∧ k ≠ b) (hn : ns.length ≤ 10000) :
  Calls Tryz.prog 144 #[.pointer (some ⟨b, 0, none⟩), u] W (WrP W0 B b (bs ++ nbF ns) W) := by
 have HI := Lib.hid h
 have HW := Lib.hid hW
 have HB0 := Lib.hid hB0
 have HBW := Lib.hid hBW
 have HL := Lib.hid hl
 have HN := Lib.hid hn
 obtain ⟨a, c, rfl⟩ : ∃ a c, u = .slice a ns.length c := by obtain ⟨a, c, e, -⟩ := hu; exact ⟨a, c, e⟩
 have HC : Hid (∀ i n, ns[i]? = some n → ∃ ub uo, a = some ⟨ub, uo, none⟩ ∧ ub < W.heap.size ∧ NoB W ub ∧ ub ≠ b ∧ W.cell? ⟨ub, uo + i, none⟩ = some (.int .i64 n)) := Lib.hid (fun i n hi => by
  have hlt := (List.getElem?_eq_some_iff.1 hi).1
  obtain ⟨ub, uo, cap, he, -, hwf, hb, hr⟩ := hu.open (by omega)
  cases he
  obtain ⟨k1, k2⟩ := hnb ub rfl
  have e : nth ns i = n := by unfold nth; rw [List.getD_eq_getElem?_getD, hi]; rfl
  exact ⟨ub, uo, rfl, hb, k1, k2, by rw [← e]; exact hr i hlt⟩)
 obtain ⟨m, hm⟩ : ∃ m, m = ns.length := ⟨_, rfl⟩
 have HM := Lib.hid hm
 rw [← hm] at hn ⊢
 clear h hW hB0 hBW hl hu hnb hm
 refine lay_start ?_
 go_enter Tryz.func144, Tryz.ntmps144
 go_wp2_with fail
 go_loopw [9] (fun v9 wr => ∃ (i : Nat) (x : Value) (d : Ext) (w1 : World), i ≤ m ∧ v9 = .int .i64 (i : Int) ∧ w1 = wr ∧ w1 = bw W0 d ∧ WrI B b x (bs ++ nbF (ns.take i)) w1 ∧ WrK b W w1) (fun v9 _ => m - (intOf v9).toNat)
 case atStart => exact ⟨0, v, _, W, Nat.zero_le _, rfl, rfl, (bw_of HW.out).choose_spec, by rw [show bs ++ nbF (ns.take 0) = bs from by simp [nbF]]; exact HI.out, WrK.refl _ _⟩
 case round =>
  obtain ⟨i, x, d, w1, hi, rfl, rfl, hw1, hI1, hK1⟩ := hrel
  by_cases hlt : i < m
  ·obtain ⟨n, hnn⟩ : ∃ n, ns[i]? = some n := ⟨_, List.getElem?_eq_getElem (by rw [← HM.out]; exact hlt)⟩
   obtain ⟨ub, uo, rfl, hub, hnb, hne, hc⟩ := HC.out i n hnn
   have hc1 : w1.cell? ⟨ub, uo + i, none⟩ = some (.int .i64 n) := (World.cell?_of_block (a := ⟨ub, uo + i, none⟩) (hK1.kept ub hub hne hnb)).trans hc
   have HNx := Lib.hid (nbF_next hnn)
   have HI1 := Lib.hid hI1
   have HK1 := Lib.hid hK1
   have HW1 := Lib.hid hw1
   have x1 : (i : Int) < m := by omega
   clear hI1 hK1 hw1 hnb hc hnn
   go_wp2_with fail
   go_loopw [6] (fun v6 wr => ∃ (j : Nat) (y : Value) (d2 : Ext) (w2 : World), j ≤ 8 ∧ v6 = .int .i64 (56 - 8 * (j : Int)) ∧ w2 = wr ∧ w2 = bw W0 d2 ∧ WrI B b y (bs ++ (nbF (ns.take i) ++ (be8 n).take j)) w2 ∧ WrK b W w2) (fun v6 _ => (intOf v6 + 8).toNat)
   case atStart => exact ⟨0, x, d, w1, by decide, rfl, rfl, HW1.out, by simpa using HI1.out, HK1.out⟩
   case round =>
    obtain ⟨j, y, d2, w2, hj, rfl, rfl, hw2, hI2, hK2⟩ := hrel
    by_cases hj8 : j < 8
    ·have x2 : (0 : Int) ≤ 56 - 8 * (j : Int) := by omega
     have HK2 := Lib.hid hK2
     have HW2 := Lib.hid hw2
     have HNj := Lib.hid (be8_next n hj8)
     have hcw := hI2.cell
     have hbl := hI2.lt
     obtain ⟨va, vc, rfl⟩ := hI2.row.form
     obtain ⟨nl, hnl⟩ : ∃ nl, (bs ++ (nbF (ns.take i) ++ (be8 n).take j)).length = nl := ⟨_, rfl⟩
     have HBl : Hid (nl ≤ 1000000000) := Lib.hid (by
      have h1 := HL.out
      have h2 := nbF_len (ns.take i)
      have h3 := be8_len n
      rw [← hnl, List.length_append, List.length_append, h2, List.length_take, List.length_take, h3]
      omega)
     rw [hnl] at hcw
     have hI3 := hI2
     rw [hnl] at hI3
     have HI2 := Lib.hid hI3
     clear hI3
     have hqk : ∀ k : KW W0 b (.slice va nl vc), (Go.Proofs.YtcbicpbbjbkiaaaGreatDoor.bw W0 k.d).cell? ⟨b, 0, none⟩ = some (.slice va nl vc) := fun k => k.h
     have HKW : Hid (w2.cell? ⟨b, 0, none⟩ = some (.slice va nl vc)) := Lib.hid hcw
     have hb0 : b < w2.heap.size := hbl
     haveI hNe : Nonempty (KW W0 b (.slice va nl vc)) := ⟨⟨d2, by rw [← HW2.out]; exact HKW.out⟩⟩
     clear hI2 hK2 hw2
     go_wp2_with fail
     refine region_mixSC 13 [(0, 0), (1, 0), (2, 0), (3, 0), (4, 0), (5, 0), (6, 0), (7, 0), (8, 0), (9, 1), (10, 1), (11, 2), (12, 0), (13, 3)] (fun k : KW W0 b (.slice va nl vc) => Go.Proofs.YtcbicpbbjbkiaaaGreatDoor.bw W0 k.d) (fun k e => ?_) ⟨⟨d2, by rw [← HW2.out]; exact HKW.out⟩, HW2.out⟩ (by kernel_rfl) (by kernel_rfl) (by kernel_rfl) rfl ?_
     ·have hlt := World.block_lt_of_cell? _ _ k.h
      exact ⟨⟨_, by rw [← bw_bw, bw_cell _ _ _ _ hlt]; exact k.h⟩, bw_bw _ _ _⟩
     ·have hj' : j = 0 ∨ j = 1 ∨ j = 2 ∨ j = 3 ∨ j = 4 ∨ j = 5 ∨ j = 6 ∨ j = 7 := by omega
      have HJ8 := Lib.hid hj8
      clear hj8 hj x2
      rcases hj' with rfl | rfl | rfl | rfl | rfl | rfl | rfl | rfl
      all_goals
       repeat (first | (refine wpMS_pure rfl (fun K hK => ?_); go_simp; refine hK _ ?_; clear hK K) | (refine wpMS_quiet rfl (fun K hK => ?_); go_simp; first | (refine hK _ ?_; clear hK K) | (apply Exists.intro; refine ⟨fun _ => ?_, hK _ ?_⟩; (first | fail); clear hK K)))
       refine wpMS_special rfl (fun K hK e1 => ?_)
       go_simp
       first | rw [byN_0] | rw [byN_1] | rw [byN_2] | rw [byN_3] | rw [byN_4] | rw [byN_5] | rw [byN_6] | rw [byN_7]
       refine hK _ _ ?_ ?_
       ·obtain ⟨dk, hdk⟩ := bw_of (w := W0) (w' := (Go.Proofs.YtcbicpbbjbkiaaaGreatDoor.bw w2 e1).alloc _) (below_lay (W := w2) (by rw [HW2.out]; exact bw_below W0 d2) [.inl _, .inr e1])
        exact ⟨⟨dk, by rw [← hdk]; exact cell_on (w := w2) (L := [.inr e1]) (cell_on (w := w2) (L := []) HKW.out _) (.inl _)⟩, hdk⟩
       clear hK K
       refine wpMS_special rfl (fun K hK e2 => ?_)
       refine sop_byteK rfl _ _ rfl W0 B _ (byN n _) 5 _ _ _ (below_lay (W := w2) (by rw [HW2.out]; exact bw_below W0 d2) [.inr e2, .inl _, .inr e1]) HB0.out (Nat.le_trans (Nat.le_trans HBW.out HK2.out.size) (lay_extends w2 [.inr e2, .inl _, .inr e1]).size) (HI2.out.row.ext (lay_extends w2 [.inr e2, .inl _, .inr e1])) (lit_blk w2 e1 e2 _) rfl rfl (by rw [hnl]; exact HBl.out) (byN_bd _ _) ?_
       intro v' d' hv' hg
       obtain ⟨q1, q2, q3, q4, q5⟩ := HI2.out.step (lay_extends w2 [.inr e2, .inl _, .inr e1]) hg hv'
       refine hK _ _ ⟨⟨d', q3⟩, rfl⟩ ?_
       clear hK K q1 q2 q3 q4 q5
       repeat (first | (refine wpMS_pure rfl (fun K hK => ?_); go_simp; refine hK _ ?_; clear hK K) | (refine wpMS_quiet rfl (fun K hK => ?_); go_simp; first | (refine hK _ ?_; clear hK K) | (apply Exists.intro; refine ⟨fun _ => ?_, hK _ ?_⟩; (first | fail); clear hK K)))
       refine wpMS_store rfl (fun K hK e3 => ?_)
       obtain ⟨r1, r2, r3, r4, r5⟩ := HI2.out.step (lay_extends w2 [.inr e2, .inl _, .inr e1]) (hg.bw e3) (hv'.bw e3)
       obtain ⟨w3, hw3⟩ : ∃ w3, w3 = Go.Proofs.YtcbicpbbjbkiaaaGreatDoor.bw (Go.Proofs.YtcbicpbbjbkiaaaGreatDoor.bw W0 d') e3 := ⟨_, rfl⟩
       rw [← hw3] at r1 r2 r3 r4 r5 ⊢
       have hs := bw_bw W0 d' e3
       rw [← hw3] at hs
       obtain ⟨va2, n2, vc2, hve⟩ : ∃ p q r, v' = .slice p q r := by obtain ⟨p, r, e⟩ := hv'.form; exact ⟨_, _, _, e⟩
       subst hve
       have R1 := Lib.hid (And.intro r1 (And.intro r2 hs))
       clear r1 r2 hs hv' hg hw3
       go_simp
       refine hK _ _ ?_
       clear hK K
       refine wpMS_nil (fun e4 => ?_)
       have hd4 : ∃ d4, Go.Proofs.YtcbicpbbjbkiaaaGreatDoor.bw (w3.setCell ⟨b, 0, none⟩ (.slice va2 n2 vc2)) e4 = Go.Proofs.YtcbicpbbjbkiaaaGreatDoor.bw W0 d4 := by
        obtain ⟨ds, hds⟩ := bw_set (W0 := W0) (d := _) (b := b) (i := 0) (v := .slice va2 n2 vc2) (Nat.le_trans HB0.out HI2.out.ge)
        rw [← R1.out.2.2] at hds
        exact ⟨_, by rw [hds]; exact bw_bw _ _ _⟩
       have R4 := Lib.hid (And.intro (R1.out.1.bw e4) (And.intro (R1.out.2.1.bw e4) hd4))
       obtain ⟨w4, hw4⟩ : ∃ w4, w4 = Go.Proofs.YtcbicpbbjbkiaaaGreatDoor.bw (w3.setCell ⟨b, 0, none⟩ (.slice va2 n2 vc2)) e4 := ⟨_, rfl⟩
       rw [← hw4] at R4 ⊢
       clear hd4
       clear hw4 R1 r3 r4 r5
       go_wp2_with fail
       obtain ⟨a1, a2, d4, a3⟩ := R4.out
       first | refine ⟨⟨1, .slice va2 n2 vc2, d4, w4, by decide, rfl, rfl, a3, ?_, HK2.out.trans a2⟩, by simp [intOf]⟩ | refine ⟨⟨2, .slice va2 n2 vc2, d4, w4, by decide, rfl, rfl, a3, ?_, HK2.out.trans a2⟩, by simp [intOf]⟩ | refine ⟨⟨3, .slice va2 n2 vc2, d4, w4, by decide, rfl, rfl, a3, ?_, HK2.out.trans a2⟩, by simp [intOf]⟩ | refine ⟨⟨4, .slice va2 n2 vc2, d4, w4, by decide, rfl, rfl, a3, ?_, HK2.out.trans a2⟩, by simp [intOf]⟩ | refine ⟨⟨5, .slice va2 n2 vc2, d4, w4, by decide, rfl, rfl, a3, ?_, HK2.out.trans a2⟩, by simp [intOf]⟩ | refine ⟨⟨6, .slice va2 n2 vc2, d4, w4, by decide, rfl, rfl, a3, ?_, HK2.out.trans a2⟩, by simp [intOf]⟩ | refine ⟨⟨7, .slice va2 n2 vc2, d4, w4, by decide, rfl, rfl, a3, ?_, HK2.out.trans a2⟩, by simp [intOf]⟩ | refine ⟨⟨8, .slice va2 n2 vc2, d4, w4, by decide, rfl, rfl, a3, ?_, HK2.out.trans a2⟩, by simp [intOf]⟩
       rw [HNj.out, ← List.append_assoc (nbF _), ← List.append_assoc bs]
       exact a1
    ·obtain rfl : j = 8 := by omega
     have x2 : ¬ (0 : Int) ≤ 56 - 8 * ((8 : Nat) : Int) := by omega
     have HI2 := Lib.hid hI2
     have HK2 := Lib.hid hK2
     have HW2 := Lib.hid hw2
     have HN8 : Hid ((be8 n).take 8 = be8 n) := Lib.hid (List.take_of_length_le (by rw [be8_len]; decide))
     clear hI2 hK2 hw2
     go_wp2_with fail
     obtain ⟨d3, hd3⟩ : ∃ d3, w2 = Go.Proofs.YtcbicpbbjbkiaaaGreatDoor.bw W0 d3 := ⟨_, HW2.out⟩
     refine ⟨⟨i + 1, y, d3, w2, by omega, by go_num, rfl, hd3, ?_, HK2.out⟩, by simp [intOf]; omega⟩
     rw [HNx.out, ← HN8.out]
     exact HI2.out
  ·obtain rfl : i = m := by omega
   have x1 : ¬ (i : Int) < i := by omega
   have HI1 := Lib.hid hI1
   have HK1 := Lib.hid hK1
   have HW1 := Lib.hid hw1
   have HE : Hid (ns.take i = ns) := Lib.hid (by rw [HM.out, List.take_length])
   clear hI1 hK1 hw1
   go_wp2_with fail
   (try simp only [Exit.inBlock, Exit.then])
   exact bodyPost_end (v := .tuple #[]) (results_none rfl _ _ _) rfl ⟨rfl, x, d, HW1.out, by have := HI1.out; rwa [HE.out] at this, HK1.out⟩
end Go.Proofs.YtcbicpbbjbkiaaaGreatDoor
