/- Contracts and plain laws, several texts in one: CiP; CiC; InP; AlP; BkP; Chn -/
import GoSem.Core.Next
import Derived.Test.YtakcfcekdngndaaProg
import Derived.WalkKit
import Derived.WalkSpells
import Derived.WalkLawsBesides
import Derived.Lib.Hide
import Derived.BigQuiet
import Derived.Test.YtakcfcekdngndaaBAA
import Derived.Test.YtakcfcekdngndaaBAE
import Derived.Test.YtakcfcekdngndaaBAG
import Derived.Test.YtakcfcekdngndaaBAH
/- A rotation of the plane by exact rationals, by about a unit of angle: sums of angles are exact, and each sine lies in the cell that the program finds. No program in sight. -/
namespace Go.Proofs.Ytakcfcekdngndaa

theorem rabs {x y m f : Rat} (h1 : -m ≤ x) (h2 : x ≤ m) (h3 : -f ≤ y) (h4 : y ≤ f) : -(m * f) ≤ x * y ∧ x * y ≤ m * f := by
  have a1 := rmul0 (show 0 ≤ m - x by grind) (show 0 ≤ f + y by grind)
  have a2 := rmul0 (show 0 ≤ m + x by grind) (show 0 ≤ f - y by grind)
  have a3 := rmul0 (show 0 ≤ m - x by grind) (show 0 ≤ f - y by grind)
  have a4 := rmul0 (show 0 ≤ m + x by grind) (show 0 ≤ f + y by grind)
  constructor <;> grind
theorem sq_one {x y : Rat} (h : x * x + y * y = 1) : -1 ≤ x ∧ x ≤ 1 := by
  have hy : 0 ≤ y * y := by
    rcases (Rat.le_total : (0 : Rat) ≤ y ∨ y ≤ 0) with g | g
    · exact rmul0 g g
    · have := rmul0 (show 0 ≤ -y by grind) (show 0 ≤ -y by grind); grind
  constructor
  · rcases (Rat.le_total : ((-1) : Rat) ≤ x ∨ x ≤ (-1)) with g | g
    · exact g
    · have a := rmul0 (show 0 ≤ -1 - x by grind) (show 0 ≤ -1 - x by grind)
      grind
  · rcases (Rat.le_total : (x : Rat) ≤ 1 ∨ 1 ≤ x) with g | g
    · exact g
    · have a := rmul0 (show 0 ≤ x - 1 by grind) (show 0 ≤ x - 1 by grind)
      grind
/-- Nearness of products, whatever the signs. -/
theorem Nr.prod {a b c d e f m n : Rat} (h : Nr a b e) (g : Nr c d f) (a0 : -m ≤ a) (a1 : a ≤ m) (d0 : -n ≤ d) (d1 : d ≤ n) : Nr (a * c) (b * d) (m * f + n * e) := by
  obtain ⟨h1, h2⟩ := h
  obtain ⟨g1, g2⟩ := g
  obtain ⟨p1, p2⟩ := rabs a0 a1 (show -f ≤ c - d by grind) (show c - d ≤ f by grind)
  obtain ⟨q1, q2⟩ := rabs d0 d1 (show -e ≤ a - b by grind) (show a - b ≤ e by grind)
  constructor <;> grind
/-- The rotation's cosine and sine of a unit. -/
def c1R : Rat := (340282366920938463463374607431768211456 * 340282366920938463463374607431768211456 - 49492064077082142867227310776778 * 49492064077082142867227310776778) / (340282366920938463463374607431768211456 * 340282366920938463463374607431768211456 + 49492064077082142867227310776778 * 49492064077082142867227310776778)
def s1R : Rat := 2 * 49492064077082142867227310776778 * 340282366920938463463374607431768211456 / (340282366920938463463374607431768211456 * 340282366920938463463374607431768211456 + 49492064077082142867227310776778 * 49492064077082142867227310776778)
theorem unit1 : c1R * c1R + s1R * s1R = 1 := by decide +kernel
theorem unit_near : Nr s1R (23046538269650701392778 / k96) (1 / k96) ∧ Nr c1R (79228162514260985610427347966 / k96) (1 / k96) := by
  unfold Nr
  exact ⟨⟨by decide +kernel, by decide +kernel⟩, ⟨by decide +kernel, by decide +kernel⟩⟩
def zsc : Nat → Rat × Rat
  | 0 => (0, 1)
  | n + 1 => ((zsc n).1 * c1R + (zsc n).2 * s1R, (zsc n).2 * c1R - (zsc n).1 * s1R)
def zs (n : Nat) : Rat := (zsc n).1
def zc (n : Nat) : Rat := (zsc n).2
theorem zs_0 : zs 0 = 0 := rfl
theorem zc_0 : zc 0 = 1 := rfl
theorem zs_s (n : Nat) : zs (n + 1) = zs n * c1R + zc n * s1R := rfl
theorem zc_s (n : Nat) : zc (n + 1) = zc n * c1R - zs n * s1R := rfl
theorem z_unit : ∀ n, zs n * zs n + zc n * zc n = 1
  | 0 => by rw [zs_0, zc_0]; grind
  | n + 1 => by
    have h := z_unit n
    have u := unit1
    rw [zs_s, zc_s]
    generalize zs n = a at *
    generalize zc n = b at *
    grind
theorem z_add (a : Nat) : ∀ b, zs (a + b) = zs a * zc b + zc a * zs b ∧ zc (a + b) = zc a * zc b - zs a * zs b
  | 0 => by rw [Nat.add_zero, zs_0, zc_0]; constructor <;> grind
  | b + 1 => by
    obtain ⟨h1, h2⟩ := z_add a b
    rw [← Nat.add_assoc, zs_s, zc_s, zs_s, zc_s, h1, h2]
    constructor <;> grind
theorem z_sub {a b : Nat} (h : b ≤ a) : zs (a - b) = zs a * zc b - zc a * zs b ∧ zc (a - b) = zc a * zc b + zs a * zs b := by
  obtain ⟨h1, h2⟩ := z_add (a - b) b
  rw [Nat.sub_add_cancel h] at h1 h2
  have u := z_unit b
  rw [h1, h2]
  generalize zs (a - b) = x at *
  generalize zc (a - b) = y at *
  generalize zs b = p at *
  generalize zc b = q at *
  constructor <;> grind
/-- The sine and the cosine of the rotation, for every whole angle. -/
def zS (n : Int) : Rat := if 0 ≤ n then zs n.toNat else -(zs (-n).toNat)
def zC (n : Int) : Rat := if 0 ≤ n then zc n.toNat else zc (-n).toNat
theorem zS_nat (n : Nat) : zS (n : Int) = zs n := by unfold zS; rw [if_pos (by omega)]; rfl
theorem zC_nat (n : Nat) : zC (n : Int) = zc n := by unfold zC; rw [if_pos (by omega)]; rfl
theorem zS_neg (n : Int) : zS (-n) = -(zS n) := by
  unfold zS
  rcases Int.lt_trichotomy n 0 with h | h | h
  · rw [if_pos (by omega), if_neg (by omega)]; grind
  · subst h
    simp only [Int.neg_zero, Int.le_refl, if_true]
    show zs 0 = -(zs 0)
    rw [zs_0]; grind
  · rw [if_neg (by omega), if_pos (by omega), Int.neg_neg]
theorem zC_neg (n : Int) : zC (-n) = zC n := by
  unfold zC
  rcases Int.lt_trichotomy n 0 with h | h | h
  · rw [if_pos (by omega), if_neg (by omega)]
  · subst h; rfl
  · rw [if_neg (by omega), if_pos (by omega), Int.neg_neg]
theorem Z_unit (n : Int) : zS n * zS n + zC n * zC n = 1 := by
  unfold zS zC
  split
  · exact z_unit _
  · have := z_unit (-n).toNat
    grind
theorem Z_addN (a b : Nat) : zS ((a : Int) - (b : Int)) = zs a * zc b - zc a * zs b ∧ zC ((a : Int) - (b : Int)) = zc a * zc b + zs a * zs b := by
  by_cases h : b ≤ a
  · rw [show (a : Int) - (b : Int) = ((a - b : Nat) : Int) by omega, zS_nat, zC_nat]
    exact z_sub h
  · obtain ⟨h1, h2⟩ := z_sub (a := b) (b := a) (by omega)
    rw [show (a : Int) - (b : Int) = -((b - a : Nat) : Int) by omega, zS_neg, zC_neg, zS_nat, zC_nat, h1, h2]
    constructor <;> grind
theorem Z_add (a b : Int) : zS (a + b) = zS a * zC b + zC a * zS b ∧ zC (a + b) = zC a * zC b - zS a * zS b := by
  have ha : ∃ m : Nat, a = (m : Int) ∨ a = -(m : Int) := ⟨a.natAbs, by omega⟩
  have hb : ∃ m : Nat, b = (m : Int) ∨ b = -(m : Int) := ⟨b.natAbs, by omega⟩
  obtain ⟨m, hm⟩ := ha
  obtain ⟨n, hn⟩ := hb
  rcases hm with rfl | rfl <;> rcases hn with rfl | rfl
  · obtain ⟨h1, h2⟩ := z_add m n
    rw [show (m : Int) + (n : Int) = ((m + n : Nat) : Int) by omega]
    simp only [zS_nat, zC_nat]
    exact ⟨h1, h2⟩
  · obtain ⟨h1, h2⟩ := Z_addN m n
    rw [show (m : Int) + -(n : Int) = (m : Int) - (n : Int) by omega, h1, h2]
    simp only [zS_nat, zC_nat, zS_neg, zC_neg]
    constructor <;> grind
  · obtain ⟨h1, h2⟩ := Z_addN n m
    rw [show -(m : Int) + (n : Int) = (n : Int) - (m : Int) by omega, h1, h2]
    simp only [zS_nat, zC_nat, zS_neg, zC_neg]
    constructor <;> grind
  · obtain ⟨h1, h2⟩ := z_add m n
    rw [show -(m : Int) + -(n : Int) = -((m + n : Nat) : Int) by omega]
    simp only [zS_nat, zC_nat, zS_neg, zC_neg]
    rw [h1, h2]
    constructor <;> grind
theorem Z_sub (a b : Int) : zS (a - b) = zS a * zC b - zC a * zS b ∧ zC (a - b) = zC a * zC b + zS a * zS b := by
  obtain ⟨h1, h2⟩ := Z_add a (-b)
  rw [Int.sub_eq_add_neg, h1, h2, zS_neg, zC_neg]
  constructor <;> grind
theorem Z_in (n : Int) : (-1 ≤ zS n ∧ zS n ≤ 1) ∧ -1 ≤ zC n ∧ zC n ≤ 1 := ⟨sq_one (Z_unit n), sq_one (y := zS n) (by have := Z_unit n; grind)⟩
theorem z_near : ∀ {r : Nat}, r ≤ 2700000 → Nr (zs r) (sinT r) (64 * (r : Rat) / k96) ∧ Nr (zc r) (cosT r) (64 * (r : Rat) / k96)
  | 0, _ => by
    rw [sin_zero, cos_zero, zs_0, zc_0]
    constructor
    · constructor <;> grind
    · constructor <;> grind
  | r + 1, h => by
    obtain ⟨h1, h2⟩ := z_near (r := r) (by omega)
    obtain ⟨h3, h4⟩ := one_near
    obtain ⟨u1, u2⟩ := unit_near
    have v1 := u1.trans h3
    have v2 := u2.trans h4
    have hs := sin_in (n := r) (by omega)
    have hx := xi_in (n := r) (by omega)
    have hc := cos_in (n := r) (by omega)
    have hs1 := sin_in (n := 1) (by omega)
    have hc1 := cos_in (n := 1) (by omega)
    have hx1 := xi_one
    have zu := z_unit r
    obtain ⟨z1, z2⟩ := sq_one zu
    obtain ⟨z3, z4⟩ := sq_one (x := zc r) (y := zs r) (by grind)
    have hr0 : (0 : Rat) ≤ (r : Rat) := by exact_mod_cast Nat.zero_le r
    have hr : (r : Rat) ≤ 2700000 := by exact_mod_cast (show r ≤ 2700000 by omega)
    have hk : 0 < 1 / k96 := by unfold k96; grind
    have he : eps ≤ 1 / k96 := by unfold eps k96; grind
    have p1 := h1.prod v2 z1 z2 (show -1 ≤ cosT 1 by grind) hc1.2
    have p2 := h2.prod v1 z3 z4 (show -(1 / 3437000) ≤ sinT 1 by grind) (show sinT 1 ≤ 1 / 3437000 by grind)
    have p3 := h2.prod v2 z3 z4 (show -1 ≤ cosT 1 by grind) hc1.2
    have p4 := h1.prod v1 z1 z2 (show -(1 / 3437000) ≤ sinT 1 by grind) (show sinT 1 ≤ 1 / 3437000 by grind)
    have q1 := (p1.add p2).trans (sin_step (n := r) (by omega)).symm
    have q2 := (p3.sub p4).trans (cos_step (n := r) (by omega)).symm
    rw [zs_s, zc_s]
    have e1 : 1 * (1 / k96 + 1 / k96) + 1 * (64 * (r : Rat) / k96) + (1 * (1 / k96 + 1 / k96) + 1 / 3437000 * (64 * (r : Rat) / k96)) + eps ≤ 64 * ((r + 1 : Nat) : Rat) / k96 := by
      have h5 := rmul hr0 hr (Rat.le_of_lt hk) (show 1 / k96 ≤ 1 / k96 by exact Rat.le_refl)
      push_cast
      grind
    exact ⟨q1.le e1, q2.le e1⟩
end Go.Proofs.Ytakcfcekdngndaa
/- The exact rotation's sines lie in the cells that the program finds, and not near to their borders. No program in sight. -/
namespace Go.Proofs.Ytakcfcekdngndaa
open Go.RowKit

theorem thirdS_ab : (2 * evI lisS 1800000 - facW).natAbs * 1267650600228229401496703205376 ≤ 2 * facW := by decide +kernel
theorem sin_third : Nr (sinT 1800000) (1 / 2) eps := by
  have h2 : sinT 1800000 * (facW : Rat) = ((evI lisS 1800000 : Int) : Rat) := lisS_ok 1800000
  have hM := eps_of (M := (2 * evI lisS 1800000 - facW).natAbs) (W := 2 * facW) thirdS_ab
  have hW := facW_rat
  refine nr_of_int (W := 2 * (facW : Rat)) (x := 2 * evI lisS 1800000 - facW) (by grind) ?_ (Nat.le_refl _) (by push_cast at hM; exact hM)
  rw [show (sinT 1800000 - 1 / 2) * (2 * (facW : Rat)) = 2 * (sinT 1800000 * (facW : Rat)) - (facW : Rat) by grind, h2]
  generalize evI lisS 1800000 = u
  push_cast
  rfl
/-- A small number. -/
def e60 : Rat := 1 / 73786976294838206464
theorem near60 {r : Nat} (h : r ≤ 2700000) : 64 * (r : Rat) / k96 ≤ 1 / 442721857769029238784 := by
  have hr : (r : Rat) ≤ 2700000 := by exact_mod_cast h
  unfold k96
  grind
theorem q_near : -e60 ≤ zC 5400000 ∧ zC 5400000 ≤ e60 ∧ 1 - e60 ≤ zS 5400000 ∧ zS 5400000 ≤ 1 := by
  obtain ⟨h1, h2⟩ := z_near (r := 2700000) (by decide)
  have h3 := near60 (r := 2700000) (by decide)
  have h4 := (h1.trans sin_mid).trans h2.symm
  have he : eps ≤ 1 / 442721857769029238784 := by unfold eps; grind
  obtain ⟨a1, a2⟩ := z_add 2700000 2700000
  rw [show (5400000 : Int) = ((2700000 + 2700000 : Nat) : Int) from rfl, zS_nat, zC_nat, a1, a2]
  have u := z_unit 2700000
  obtain ⟨b1, b2⟩ := sq_one u
  obtain ⟨b3, b4⟩ := sq_one (x := zc 2700000) (y := zs 2700000) (by grind)
  generalize zs 2700000 = s at *
  generalize zc 2700000 = c at *
  have d : Nr s c (1 / 147573952589676412928) := h4.le (by grind)
  obtain ⟨d1, d2⟩ := d
  obtain ⟨p1, p2⟩ := rabs (m := 2) (f := 1 / 147573952589676412928) (x := c + s) (y := c - s) (by grind) (by grind) (by grind) (by grind)
  obtain ⟨q1, q2⟩ := rabs (m := 1 / 147573952589676412928) (f := 1 / 147573952589676412928) (x := c - s) (y := c - s) (by grind) (by grind) (by grind) (by grind)
  have sq0 : 0 ≤ (c - s) * (c - s) := by
    rcases (Rat.le_total : (0 : Rat) ≤ (c - s) ∨ (c - s) ≤ 0) with g | g
    · exact rmul0 g g
    · have := rmul0 (show 0 ≤ -(c - s) by grind) (show 0 ≤ -(c - s) by grind); grind
  unfold e60
  refine ⟨?_, ?_, ?_, ?_⟩ <;> grind
theorem q_natz : -e60 ≤ zc 5400000 ∧ zc 5400000 ≤ e60 ∧ 1 - e60 ≤ zs 5400000 ∧ zs 5400000 ≤ 1 := by
  have h := q_near
  rw [show (5400000 : Int) = ((5400000 : Nat) : Int) from rfl, zS_nat, zC_nat] at h
  exact h
/-- Where the sine of a whole angle lies. -/
structure CellE (n : Int) (t g : Rat) : Prop where
  lo : (bLo n : Rat) ≤ 1073741824 * zS n + t
  hi : 1073741824 * zS n ≤ (bHi n : Rat) + t
  up : 1073741824 * zS n + g ≤ (bLo n : Rat) + 1
  dn : (bHi n : Rat) + g ≤ 1073741824 * zS n + 1
theorem CellE.same {n m : Int} {t g d t' g' : Rat} (h : CellE n t g) (hn : Nr (zS m) (zS n) d) (h1 : bLo m = bLo n) (h2 : bHi m = bHi n) (ht : t + 1073741824 * d ≤ t') (hg : g' + 1073741824 * d ≤ g) : CellE m t' g' := by
  obtain ⟨a1, a2, a3, a4⟩ := h
  obtain ⟨n1, n2⟩ := hn
  have e1 : (bLo m : Rat) = (bLo n : Rat) := by rw [h1]
  have e2 : (bHi m : Rat) = (bHi n : Rat) := by rw [h2]
  constructor <;> simp only [e1, e2] <;> grind
theorem CellE.opp {n m : Int} {t g d t' g' : Rat} (h : CellE n t g) (hn : Nr (zS m) (-(zS n)) d) (h1 : bLo m = -(bHi n)) (h2 : bHi m = -(bLo n)) (ht : t + 1073741824 * d ≤ t') (hg : g' + 1073741824 * d ≤ g) : CellE m t' g' := by
  obtain ⟨a1, a2, a3, a4⟩ := h
  obtain ⟨n1, n2⟩ := hn
  have e1 : (bLo m : Rat) = -(bHi n : Rat) := by rw [h1]; push_cast; rfl
  have e2 : (bHi m : Rat) = -(bLo n : Rat) := by rw [h2]; push_cast; rfl
  constructor <;> simp only [e1, e2] <;> grind
theorem near_zs {r : Nat} (h : r ≤ 2700000) : Nr (zs r) (sinT r) (1 / 442721857769029238784) ∧ Nr (zc r) (cosT r) (1 / 442721857769029238784) :=
  ⟨(z_near h).1.le (near60 h), (z_near h).2.le (near60 h)⟩
theorem cell_bt {f : Nat} {v z : Rat} (hb : Bt f v) (hn : Nr z v (1 / 442721857769029238784)) : (f : Rat) + 1 / 8388608 ≤ 1073741824 * z ∧ 1073741824 * z + 1 / 8388608 ≤ (f : Rat) + 1 := by
  obtain ⟨b1, b2⟩ := hb
  obtain ⟨n1, n2⟩ := hn
  constructor <;> grind
/-- Up to a right angle, but for the errors of the rotation. -/
theorem cell_q {m : Nat} (h : m ≤ 5400000) : ((sinQ m : Nat) : Rat) ≤ 1073741824 * zs m + 1 / 17179869184 ∧ 1073741824 * zs m ≤ ((hiQ m : Int) : Rat) + 1 / 17179869184 ∧ 1073741824 * zs m + 1 / 9000000 ≤ ((sinQ m : Nat) : Rat) + 1 ∧ ((hiQ m : Int) : Rat) + 1 / 9000000 ≤ 1073741824 * zs m + 1 := by
  have exact : ∀ {k : Nat}, sinQ m = k → hiQ m = (k : Int) → Nr (1073741824 * zs m) (k : Rat) (1 / 17179869184) → ((sinQ m : Nat) : Rat) ≤ 1073741824 * zs m + 1 / 17179869184 ∧ 1073741824 * zs m ≤ ((hiQ m : Int) : Rat) + 1 / 17179869184 ∧ 1073741824 * zs m + 1 / 9000000 ≤ ((sinQ m : Nat) : Rat) + 1 ∧ ((hiQ m : Int) : Rat) + 1 / 9000000 ≤ 1073741824 * zs m + 1 := fun {k} h1 h2 h3 => by
    rw [h1, h2]
    obtain ⟨n1, n2⟩ := h3
    push_cast
    refine ⟨?_, ?_, ?_, ?_⟩ <;> grind
  have inner : ∀ {f : Nat}, sinQ m = f → hiQ m = (f : Int) + 1 → (f : Rat) + 1 / 8500000 ≤ 1073741824 * zs m ∧ 1073741824 * zs m + 1 / 8500000 ≤ (f : Rat) + 1 → ((sinQ m : Nat) : Rat) ≤ 1073741824 * zs m + 1 / 17179869184 ∧ 1073741824 * zs m ≤ ((hiQ m : Int) : Rat) + 1 / 17179869184 ∧ 1073741824 * zs m + 1 / 9000000 ≤ ((sinQ m : Nat) : Rat) + 1 ∧ ((hiQ m : Int) : Rat) + 1 / 9000000 ≤ 1073741824 * zs m + 1 := fun {f} h1 h2 h3 => by
    rw [h1, h2]
    obtain ⟨n1, n2⟩ := h3
    push_cast
    refine ⟨?_, ?_, ?_, ?_⟩ <;> grind
  have hu : hiQ m = (sinQ m : Int) + oneQ m := rfl
  have ho := oneQ_at m
  by_cases c0 : m = 0
  · subst c0
    refine exact (k := 0) sinQ_0 (by rw [hu, ho, sinQ_0]; rfl) ?_
    rw [zs_0]
    constructor <;> grind
  by_cases c1 : m = 1800000
  · subst c1
    refine exact (k := 536870912) sinQ_h (by rw [hu, ho, sinQ_h, if_pos (.inr (.inl rfl)), Int.add_zero]) ?_
    have h1 := (near_zs (r := 1800000) (by decide)).1.trans sin_third
    have he : eps ≤ 1 / 442721857769029238784 := by unfold eps; grind
    obtain ⟨n1, n2⟩ := h1
    generalize zs 1800000 = z at *
    push_cast
    constructor <;> grind
  by_cases c2 : m = 5400000
  · subst c2
    refine exact (k := 1073741824) sinQ_q (by rw [hu, ho, sinQ_q, if_pos (.inr (.inr rfl)), Int.add_zero]) ?_
    obtain ⟨h1, h2, h3, h4⟩ := q_natz
    unfold e60 at h3
    generalize zs 5400000 = z at *
    push_cast
    constructor <;> grind
  rw [if_neg (by omega)] at ho
  rw [ho] at hu
  by_cases c3 : m ≤ 2700000
  · have hs := sinQ_s c0 c1 c3
    rw [hs] at hu
    have := cell_bt (octS_bt (r := m) (by omega) c3 c1) (near_zs c3).1
    exact inner hs hu (by obtain ⟨n1, n2⟩ := this; constructor <;> grind)
  · have hs := sinQ_c (n := m) (by omega) (by omega)
    rw [hs] at hu
    obtain ⟨k, hk⟩ : ∃ k, 5400000 - m = k := ⟨_, rfl⟩
    rw [hk] at hs hu
    have hb := cell_bt (octC_bt (r := k) (by omega) (by omega)) (near_zs (r := k) (by omega)).2
    refine inner hs hu ?_
    obtain ⟨z1, -⟩ := z_sub (a := 5400000) (b := k) (by omega)
    rw [show 5400000 - k = m by omega] at z1
    obtain ⟨q1, q2, q3, q4⟩ := q_natz
    generalize zs 5400000 = zq at *
    generalize zc 5400000 = cq at *
    have u := z_unit k
    obtain ⟨b1, b2⟩ := sq_one u
    obtain ⟨b3, b4⟩ := sq_one (x := zc k) (y := zs k) (by grind)
    obtain ⟨p1, p2⟩ := rabs (x := zq - 1) (y := zc k) (m := e60) (f := 1) (by grind) (by unfold e60 at *; grind) b3 b4
    obtain ⟨p3, p4⟩ := rabs (x := cq) (y := zs k) (m := e60) (f := 1) (by grind) (by grind) b1 b2
    rw [z1]
    unfold e60 at *
    obtain ⟨n1, n2⟩ := hb
    constructor <;> grind
theorem cell_1 {n : Int} (h0 : 0 ≤ n) (h1 : n ≤ 5400000) : CellE n (1 / 17179869184) (1 / 9000000) := by
  obtain ⟨m, rfl⟩ := Int.eq_ofNat_of_zero_le h0
  obtain ⟨e1, e2⟩ := b_one h0 h1
  have h := cell_q (m := m) (by omega)
  rw [Int.toNat_natCast] at e1 e2
  obtain ⟨a1, a2, a3, a4⟩ := h
  constructor
  · rw [e1, zS_nat]; push_cast; exact a1
  · rw [e2, zS_nat]; exact a2
  · rw [e1, zS_nat]; push_cast; exact a3
  · rw [e2, zS_nat]; exact a4
theorem cell_2 {n : Int} (h0 : -5400000 ≤ n) (h1 : n ≤ 5400000) : CellE n (1 / 17179869184) (1 / 9000000) := by
  by_cases h : 0 ≤ n
  · exact cell_1 h h1
  · obtain ⟨b1, b2⟩ := b_odd (n := -n) (by omega) (by omega)
    rw [Int.neg_neg] at b1 b2
    refine (cell_1 (n := -n) (by omega) (by omega)).opp (d := 0) ?_ b1 b2 (by grind) (by grind)
    rw [zS_neg]
    constructor <;> grind
/-- Half a turn, and a whole one. -/
theorem half_near : -(2 * e60) ≤ zS 10800000 ∧ zS 10800000 ≤ 2 * e60 ∧ -1 ≤ zC 10800000 ∧ zC 10800000 ≤ -1 + 3 * e60 := by
  obtain ⟨q1, q2, q3, q4⟩ := q_near
  obtain ⟨a1, a2⟩ := Z_add 5400000 5400000
  rw [show (5400000 : Int) + 5400000 = 10800000 from rfl] at a1 a2
  have hz := (Z_in 10800000).2.1
  rw [a2] at hz
  rw [a1, a2]
  clear a1 a2
  generalize zS 5400000 = s at *
  generalize zC 5400000 = c at *
  have he : (0 : Rat) < e60 ∧ e60 ≤ 1 / 1000 := by unfold e60; constructor <;> grind
  generalize e60 = e at *
  obtain ⟨p1, p2⟩ := rabs (x := s) (y := c) (m := 1) (f := e) (by grind) q4 q1 q2
  obtain ⟨p3, p4⟩ := rabs (x := c) (y := c) (m := e) (f := e) q1 q2 q1 q2
  have p5 := rmul (a := 1 - e) (b := s) (c := 1 - e) (d := s) (by grind) q3 (by grind) q3
  have p6 := rmul (a := e) (b := 1 / 1000) (c := e) (d := e) (by grind) (by grind) (by grind) (by grind)
  refine ⟨?_, ?_, hz, ?_⟩ <;> grind
theorem turn_near : -(5 * e60) ≤ zS 21600000 ∧ zS 21600000 ≤ 5 * e60 ∧ 1 - 7 * e60 ≤ zC 21600000 ∧ zC 21600000 ≤ 1 := by
  obtain ⟨q1, q2, q3, q4⟩ := half_near
  obtain ⟨a1, a2⟩ := Z_add 10800000 10800000
  rw [show (10800000 : Int) + 10800000 = 21600000 from rfl] at a1 a2
  have hz := (Z_in 21600000).2.2
  rw [a2] at hz
  rw [a1, a2]
  clear a1 a2
  generalize zS 10800000 = s at *
  generalize zC 10800000 = c at *
  have he : (0 : Rat) < e60 ∧ e60 ≤ 1 / 1000 := by unfold e60; constructor <;> grind
  generalize e60 = e at *
  obtain ⟨p1, p2⟩ := rabs (x := c) (y := s) (m := 1) (f := 2 * e) (by grind) (by grind) q1 q2
  obtain ⟨p3, p4⟩ := rabs (x := s) (y := s) (m := 2 * e) (f := 2 * e) q1 q2 q1 q2
  have p5 := rmul (a := 1 - 3 * e) (b := -c) (c := 1 - 3 * e) (d := -c) (by grind) (by grind) (by grind) (by grind)
  have p6 := rmul (a := e) (b := 1 / 1000) (c := e) (d := e) (by grind) (by grind) (by grind) (by grind)
  refine ⟨?_, ?_, ?_, hz⟩ <;> grind
/-- The final errors: of an end, and of the distance from the next number. -/
def t31 : Rat := 1 / 2147483648
def g24 : Rat := 1 / 16777216
theorem zS_refl (m : Int) : Nr (zS (10800000 - m)) (zS m) (6 * e60) := by
  obtain ⟨q1, q2, q3, q4⟩ := half_near
  obtain ⟨a1, -⟩ := Z_sub 10800000 m
  obtain ⟨⟨b1, b2⟩, b3, b4⟩ := Z_in m
  rw [a1]
  clear a1
  generalize zS 10800000 = s at *
  generalize zC 10800000 = c at *
  generalize zS m = x at *
  generalize zC m = y at *
  have he : (0 : Rat) < e60 ∧ e60 ≤ 1 / 1000 := by unfold e60; constructor <;> grind
  generalize e60 = e at *
  obtain ⟨p1, p2⟩ := rabs (x := s) (y := y) (m := 2 * e) (f := 1) q1 q2 b3 b4
  obtain ⟨p3, p4⟩ := rabs (x := c + 1) (y := x) (m := 3 * e) (f := 1) (by grind) (by grind) b1 b2
  constructor <;> grind
theorem zS_turn (m : Int) : Nr (zS (m + 21600000)) (zS m) (12 * e60) := by
  obtain ⟨q1, q2, q3, q4⟩ := turn_near
  obtain ⟨a1, -⟩ := Z_add m 21600000
  obtain ⟨⟨b1, b2⟩, b3, b4⟩ := Z_in m
  rw [a1]
  clear a1
  generalize zS 21600000 = s at *
  generalize zC 21600000 = c at *
  generalize zS m = x at *
  generalize zC m = y at *
  have he : (0 : Rat) < e60 ∧ e60 ≤ 1 / 1000 := by unfold e60; constructor <;> grind
  generalize e60 = e at *
  obtain ⟨p1, p2⟩ := rabs (x := s) (y := y) (m := 5 * e) (f := 1) q1 q2 b3 b4
  obtain ⟨p3, p4⟩ := rabs (x := c - 1) (y := x) (m := 7 * e) (f := 1) (by grind) (by grind) b1 b2
  constructor <;> grind
theorem cell_3 {n : Int} (h0 : -5400000 ≤ n) (h1 : n ≤ 16200000) : CellE n (1 / 6000000000) (1 / 10000000) := by
  have he : 1073741824 * (6 * e60) ≤ 1 / 10000000000 := by unfold e60; grind
  by_cases h : n ≤ 5400000
  · refine (cell_2 h0 h).same (d := 0) ?_ rfl rfl (by grind) (by grind)
    constructor <;> grind
  · have hn := zS_refl (10800000 - n)
    rw [show 10800000 - (10800000 - n) = n by omega] at hn
    refine (cell_2 (n := 10800000 - n) (by omega) (by omega)).same hn ?_ ?_ (by grind) (by grind)
    · by_cases g : n ≤ 10800000
      · rw [(b_two (n := n) (by omega) g).1, (b_one (n := 10800000 - n) (by omega) (by omega)).1]
      · rw [(b_three (n := n) (by omega) h1).1, (b_four (n := 10800000 - n) (by omega) (by omega)).1, show (-(10800000 - n)) = n - 10800000 by omega]
    · by_cases g : n ≤ 10800000
      · rw [(b_two (n := n) (by omega) g).2, (b_one (n := 10800000 - n) (by omega) (by omega)).2]
      · rw [(b_three (n := n) (by omega) h1).2, (b_four (n := 10800000 - n) (by omega) (by omega)).2, show (-(10800000 - n)) = n - 10800000 by omega]
/-- Every angle from a right angle below zero to a right angle beyond a turn. -/
theorem cell_all {n : Int} (h0 : -5400000 ≤ n) (h1 : n ≤ 27000000) : CellE n t31 g24 := by
  have he : 1073741824 * (12 * e60) ≤ 1 / 5000000000 := by unfold e60; grind
  by_cases h : n ≤ 16200000
  · refine (cell_3 h0 h).same (d := 0) ?_ rfl rfl (by unfold t31; grind) (by unfold g24; grind)
    constructor <;> grind
  · have hn := zS_turn (n - 21600000)
    rw [show n - 21600000 + 21600000 = n by omega] at hn
    have hb := b_shift (n - 21600000) 1
    rw [show n - 21600000 + 21600000 * 1 = n by omega] at hb
    exact (cell_3 (n := n - 21600000) (by omega) (by omega)).same hn hb.1 hb.2 (by unfold t31; grind) (by unfold g24; grind)
/-- A whole number that is not above the sine, but for a small error, is not above it. -/
theorem snap_lo {n L : Int} (h0 : -5400000 ≤ n) (h1 : n ≤ 27000000) (h : (L : Rat) ≤ 1073741824 * zS n + 1 / 17000000) : L ≤ bLo n := by
  have hu := (cell_all h0 h1).up
  have : (L : Rat) < (bLo n : Rat) + 1 := by unfold g24 at hu; grind
  have h2 : L < bLo n + 1 := by exact_mod_cast this
  omega
theorem snap_hi {n U : Int} (h0 : -5400000 ≤ n) (h1 : n ≤ 27000000) (h : 1073741824 * zS n ≤ (U : Rat) + 1 / 17000000) : bHi n ≤ U := by
  have hu := (cell_all h0 h1).dn
  have : (bHi n : Rat) < (U : Rat) + 1 := by unfold g24 at hu; grind
  have h2 : bHi n < U + 1 := by exact_mod_cast this
  omega
end Go.Proofs.Ytakcfcekdngndaa
/- Values of the exact rotation within intervals of whole numbers, but for small errors. No program in sight. -/
namespace Go.Proofs.Ytakcfcekdngndaa
open Go.RowKit

/-- A value, times 2^30, lies between two whole numbers, but for an error. -/
structure InR (l h : Int) (v e : Rat) : Prop where
  lo : (l : Rat) ≤ 1073741824 * v + e
  hi : 1073741824 * v ≤ (h : Rat) + e
theorem InR.mono {l h l' h' : Int} {v e e' : Rat} (x : InR l h v e) (h1 : l' ≤ l) (h2 : h ≤ h') (h3 : e ≤ e') : InR l' h' v e' := by
  obtain ⟨a, b⟩ := x
  have g1 : (l' : Rat) ≤ (l : Rat) := by exact_mod_cast h1
  have g2 : (h : Rat) ≤ (h' : Rat) := by exact_mod_cast h2
  constructor <;> grind
theorem InR.add {a0 a1 b0 b1 : Int} {x y e f : Rat} (hx : InR a0 a1 x e) (hy : InR b0 b1 y f) : InR (a0 + b0) (a1 + b1) (x + y) (e + f) := by
  obtain ⟨a, b⟩ := hx
  obtain ⟨c, d⟩ := hy
  constructor <;> push_cast <;> grind
theorem InR.sub {a0 a1 b0 b1 : Int} {x y e f : Rat} (hx : InR a0 a1 x e) (hy : InR b0 b1 y f) : InR (a0 - b1) (a1 - b0) (x - y) (e + f) := by
  obtain ⟨a, b⟩ := hx
  obtain ⟨c, d⟩ := hy
  constructor <;> push_cast <;> grind
theorem InR.neg {a0 a1 : Int} {x e : Rat} (hx : InR a0 a1 x e) : InR (-a1) (-a0) (-x) e := by
  obtain ⟨a, b⟩ := hx
  constructor <;> push_cast <;> grind
theorem InR.near {l h : Int} {v u e d e' : Rat} (x : InR l h v e) (hn : Nr u v d) (he : e + 1073741824 * d ≤ e') : InR l h u e' := by
  obtain ⟨a, b⟩ := x
  obtain ⟨c, d⟩ := hn
  constructor <;> grind
/-- A number is near to one in the interval. -/
theorem clampR {a0 a1 X e : Rat} (h : a0 ≤ a1) (h1 : a0 ≤ X + e) (h2 : X ≤ a1 + e) (h0 : 0 ≤ e) : ∃ x, a0 ≤ x ∧ x ≤ a1 ∧ -e ≤ X - x ∧ X - x ≤ e := by
  by_cases c1 : X ≤ a0
  · exact ⟨a0, by grind, h, by grind, by grind⟩
  · by_cases c2 : X ≤ a1
    · exact ⟨X, by grind, c2, by grind, by grind⟩
    · exact ⟨a1, h, by grind, by grind, by grind⟩
theorem linR {a0 a1 x k : Rat} (h0 : a0 ≤ x) (h1 : x ≤ a1) : (a0 * k ≤ x * k ∨ a1 * k ≤ x * k) ∧ (x * k ≤ a0 * k ∨ x * k ≤ a1 * k) := by
  rcases (Rat.le_total : (0 : Rat) ≤ k ∨ k ≤ 0) with g | g
  · exact ⟨.inl (Rat.mul_le_mul_of_nonneg_right h0 g), .inr (Rat.mul_le_mul_of_nonneg_right h1 g)⟩
  · have a := Rat.mul_le_mul_of_nonneg_right h0 (show 0 ≤ -k by grind)
    have b := Rat.mul_le_mul_of_nonneg_right h1 (show 0 ≤ -k by grind)
    exact ⟨.inr (by grind), .inl (by grind)⟩
theorem boxR {a0 a1 b0 b1 x y : Rat} (h0 : a0 ≤ x) (h1 : x ≤ a1) (g0 : b0 ≤ y) (g1 : y ≤ b1) : (a0 * b0 ≤ x * y ∨ a0 * b1 ≤ x * y ∨ a1 * b0 ≤ x * y ∨ a1 * b1 ≤ x * y) ∧ (x * y ≤ a0 * b0 ∨ x * y ≤ a0 * b1 ∨ x * y ≤ a1 * b0 ∨ x * y ≤ a1 * b1) := by
  obtain ⟨p, q⟩ := linR (k := y) h0 h1
  obtain ⟨p0, q0⟩ := linR (k := a0) g0 g1
  obtain ⟨p1, q1⟩ := linR (k := a1) g0 g1
  constructor
  · rcases p with p | p
    · rcases p0 with p0 | p0
      · left; grind
      · right; left; grind
    · rcases p1 with p1 | p1
      · right; right; left; grind
      · right; right; right; grind
  · rcases q with q | q
    · rcases q0 with q0 | q0
      · left; grind
      · right; left; grind
    · rcases q1 with q1 | q1
      · right; right; left; grind
      · right; right; right; grind
theorem castle {a b : Int} (h : a ≤ b) : (a : Rat) ≤ (b : Rat) := by exact_mod_cast h
/-- Products. -/
theorem InR.mul {a0 a1 b0 b1 : Int} {x y e f g : Rat} (hx : InR a0 a1 x e) (hy : InR b0 b1 y f) (ha : -1073741824 ≤ a0 ∧ a0 ≤ a1 ∧ a1 ≤ 1073741824) (hb : -1073741824 ≤ b0 ∧ b0 ≤ b1 ∧ b1 ≤ 1073741824)
    (he : 0 ≤ e) (hf : 0 ≤ f) (hf1 : f ≤ 1073741824) (hg : 2 * e + f ≤ g) : InR (mulL a0 a1 b0 b1) (mulH a0 a1 b0 b1) (x * y) g := by
  obtain ⟨x1, x2⟩ := hx
  obtain ⟨y1, y2⟩ := hy
  obtain ⟨X, hX⟩ : ∃ X, 1073741824 * x = X := ⟨_, rfl⟩
  obtain ⟨Y, hY⟩ : ∃ Y, 1073741824 * y = Y := ⟨_, rfl⟩
  rw [hX] at x1 x2
  rw [hY] at y1 y2
  have ca0 : (-1073741824 : Rat) ≤ (a0 : Rat) := castle ha.1
  have ca : (a0 : Rat) ≤ (a1 : Rat) := castle ha.2.1
  have ca1 : (a1 : Rat) ≤ 1073741824 := castle ha.2.2
  have cb0 : (-1073741824 : Rat) ≤ (b0 : Rat) := castle hb.1
  have cb : (b0 : Rat) ≤ (b1 : Rat) := castle hb.2.1
  have cb1 : (b1 : Rat) ≤ 1073741824 := castle hb.2.2
  obtain ⟨u, u1, u2, u3, u4⟩ := clampR ca x1 x2 he
  obtain ⟨v, v1, v2, v3, v4⟩ := clampR cb y1 y2 hf
  obtain ⟨p1, p2⟩ := boxR u1 u2 v1 v2
  obtain ⟨r1, r2⟩ := rabs (x := Y) (y := X - u) (m := 2147483648) (f := e) (by grind) (by grind) u3 u4
  obtain ⟨s1, s2⟩ := rabs (x := u) (y := Y - v) (m := 1073741824) (f := f) (by grind) (by grind) v3 v4
  have hm := mn4_is (a0 * b0) (a0 * b1) (a1 * b0) (a1 * b1)
  have hx4 := mx4_is (a0 * b0) (a0 * b1) (a1 * b0) (a1 * b1)
  have e1 : m4 a0 a1 b0 b1 = mn (mn (mn (a0 * b0) (a0 * b1)) (a1 * b0)) (a1 * b1) := rfl
  have e2 : x4 a0 a1 b0 b1 = mx (mx (mx (a0 * b0) (a0 * b1)) (a1 * b0)) (a1 * b1) := rfl
  have hlo : mulL a0 a1 b0 b1 * 1073741824 ≤ m4 a0 a1 b0 b1 := by unfold mulL; omega
  have hhi : x4 a0 a1 b0 b1 ≤ mulH a0 a1 b0 b1 * 1073741824 := by unfold mulH; omega
  rw [← e1] at hm
  rw [← e2] at hx4
  obtain ⟨⟨m1, m2, m3, m4'⟩, -⟩ := hm
  obtain ⟨⟨n1, n2, n3, n4⟩, -⟩ := hx4
  generalize m4 a0 a1 b0 b1 = M at *
  generalize x4 a0 a1 b0 b1 = N at *
  generalize mulL a0 a1 b0 b1 = L at *
  generalize mulH a0 a1 b0 b1 = H at *
  have c1 := castle m1
  have c2 := castle m2
  have c3 := castle m3
  have c4 := castle m4'
  have d1 := castle n1
  have d2 := castle n2
  have d3 := castle n3
  have d4 := castle n4
  have cl := castle hlo
  have ch := castle hhi
  push_cast at c1 c2 c3 c4 d1 d2 d3 d4 cl ch
  have hM : (M : Rat) ≤ u * v := by rcases p1 with p | p | p | p <;> grind
  have hN : u * v ≤ (N : Rat) := by rcases p2 with p | p | p | p <;> grind
  have hXY : 1073741824 * (1073741824 * (x * y)) = X * Y := by rw [← hX, ← hY]; grind
  have k1 : u * v ≤ X * Y + 2147483648 * e + 1073741824 * f := by grind
  have k2 : X * Y ≤ u * v + 2147483648 * e + 1073741824 * f := by grind
  obtain ⟨Z, hZ⟩ : ∃ Z, 1073741824 * (x * y) = Z := ⟨_, rfl⟩
  rw [hZ] at hXY
  constructor
  · rw [hZ]; grind
  · rw [hZ]; grind
/-- The sine of an angle of an arc. -/
theorem sin_InR {lo hi n : Int} (h1 : lo ≤ n) (h2 : n ≤ hi) (h3 : -5400000 ≤ n) (h4 : n ≤ 27000000) : InR (encL lo hi) (encH lo hi) (zS n) t31 := by
  have hp := enc_part h1 (Int.le_refl n) h2
  rw [(enc_point n).1, (enc_point n).2] at hp
  have hc := cell_all h3 h4
  exact InR.mono ⟨hc.lo, hc.hi⟩ hp.1 hp.2 Rat.le_refl
theorem zC_quarter (n : Int) : Nr (zS (n + 5400000)) (zC n) (2 * e60) := by
  obtain ⟨q1, q2, q3, q4⟩ := q_near
  obtain ⟨a1, -⟩ := Z_add n 5400000
  obtain ⟨⟨b1, b2⟩, b3, b4⟩ := Z_in n
  rw [a1]
  clear a1
  generalize zS 5400000 = s at *
  generalize zC 5400000 = c at *
  generalize zS n = x at *
  generalize zC n = y at *
  have he : (0 : Rat) < e60 ∧ e60 ≤ 1 / 1000 := by unfold e60; constructor <;> grind
  generalize e60 = e at *
  obtain ⟨p1, p2⟩ := rabs (x := x) (y := c) (m := 1) (f := e) b1 b2 q1 q2
  obtain ⟨p3, p4⟩ := rabs (x := y) (y := s - 1) (m := 1) (f := e) b3 b4 (by grind) (by grind)
  constructor <;> grind
def t30 : Rat := 1 / 1073741824
theorem t_30 : t31 + 1073741824 * (2 * e60) ≤ t30 := by unfold t31 t30 e60; grind
/-- The cosine of an angle of an arc. -/
theorem cos_InR {lo hi n : Int} (h1 : lo ≤ n) (h2 : n ≤ hi) (h3 : -10800000 ≤ n) (h4 : n ≤ 21600000) : InR (cosL lo hi) (cosH lo hi) (zC n) t30 := by
  have h := sin_InR (lo := lo + 5400000) (hi := hi + 5400000) (n := n + 5400000) (by omega) (by omega) (by omega) (by omega)
  exact h.near (zC_quarter n).symm t_30
/-- Of any angle, by the one within a turn. -/
theorem cos_InRT (n : Int) : InR (cosL n n) (cosH n n) (zC (n % 21600000)) t30 := by
  have h := cos_InR (lo := n % 21600000) (hi := n % 21600000) (n := n % 21600000) (Int.le_refl _) (Int.le_refl _) (by omega) (by omega)
  have e1 : cosL n n = cosL (n % 21600000) (n % 21600000) ∧ cosH n n = cosH (n % 21600000) (n % 21600000) := by
    unfold cosL cosH
    rw [(enc_point _).1, (enc_point _).1, (enc_point _).2, (enc_point _).2]
    have := b_shift (n % 21600000 + 5400000) (n / 21600000)
    rw [show n % 21600000 + 5400000 + 21600000 * (n / 21600000) = n + 5400000 by omega] at this
    exact this
  rw [e1.1, e1.2]
  exact h
end Go.Proofs.Ytakcfcekdngndaa
/- The sine of an altitude: what is reckoned. No program in sight. -/
namespace Go.Proofs.Ytakcfcekdngndaa
open Go.RowKit

def ssL (a0 a1 b0 b1 : Int) : Int := mulL (encL a0 a1) (encH a0 a1) (encL b0 b1) (encH b0 b1)
def ssH (a0 a1 b0 b1 : Int) : Int := mulH (encL a0 a1) (encH a0 a1) (encL b0 b1) (encH b0 b1)
theorem ss_in (a0 a1 b0 b1 : Int) : -1073741824 ≤ ssL a0 a1 b0 b1 ∧ ssL a0 a1 b0 b1 ≤ ssH a0 a1 b0 b1 ∧ ssH a0 a1 b0 b1 ≤ 1073741824 := by
  obtain ⟨p1, p2, p3⟩ := @enc_in a0 a1
  obtain ⟨q1, q2, q3⟩ := @enc_in b0 b1
  exact mul_unit p1 p2 p3 q1 q2 q3
def c3L (a0 a1 b0 b1 c0 c1 : Int) : Int := mulL (ccL a0 a1 b0 b1) (ccH a0 a1 b0 b1) (cosL c0 c1) (cosH c0 c1)
def c3H (a0 a1 b0 b1 c0 c1 : Int) : Int := mulH (ccL a0 a1 b0 b1) (ccH a0 a1 b0 b1) (cosL c0 c1) (cosH c0 c1)
theorem c3_in (a0 a1 b0 b1 c0 c1 : Int) : -1073741824 ≤ c3L a0 a1 b0 b1 c0 c1 ∧ c3L a0 a1 b0 b1 c0 c1 ≤ c3H a0 a1 b0 b1 c0 c1 ∧ c3H a0 a1 b0 b1 c0 c1 ≤ 1073741824 := by
  obtain ⟨p1, p2, p3⟩ := cc_in a0 a1 b0 b1
  obtain ⟨q1, q2, q3⟩ := cos_in2 c0 c1
  exact mul_unit p1 p2 p3 q1 q2 q3
/-- The sine of the altitude. -/
def altS0 (a0 a1 b0 b1 c0 c1 : Int) : Int := ssL a0 a1 b0 b1 + c3L a0 a1 b0 b1 c0 c1
def altS1 (a0 a1 b0 b1 c0 c1 : Int) : Int := ssH a0 a1 b0 b1 + c3H a0 a1 b0 b1 c0 c1
theorem alt_fx (a0 a1 b0 b1 c0 c1 : Int) : fxB (altS0 a0 a1 b0 b1 c0 c1) (altS1 a0 a1 b0 b1 c0 c1) = true := by
  have h1 := ss_in a0 a1 b0 b1
  have h2 := c3_in a0 a1 b0 b1 c0 c1
  unfold altS0 altS1
  rw [fxB_iff]
  omega
end Go.Proofs.Ytakcfcekdngndaa
/- The altitude on the meridian contains the true one; arcsines of intervals. No program in sight. -/
namespace Go.Proofs.Ytakcfcekdngndaa
open Go.RowKit

/-- An interval that has the cell of a sine has its angle among its arcsines. -/
theorem as_has {L H k : Int} (h0 : -5400000 ≤ k) (h1 : k ≤ 5400000) (hL : L ≤ bLo k) (hH : bHi k ≤ H) (hf : fxB L H = true) :
    asE L H = 0 ∧ -5400000 ≤ asL L H ∧ asL L H ≤ k ∧ k ≤ asH L H ∧ asH L H ≤ 5400000 := by
  have hb := bb_le k
  have hE : asE L H = 0 := by
    rw [asE_at, hf, if_neg (by decide), mn_eq, mx_eq, if_neg (by omega)]
  have hx : mx L (-1073741824) ≤ bLo k := by rw [mx_eq]; omega
  have hy : bHi k ≤ mn H 1073741824 := by rw [mn_eq]; omega
  have hx0 : -1073741824 ≤ mx L (-1073741824) := by rw [mx_eq]; omega
  have hy1 : mn H 1073741824 ≤ 1073741824 := by rw [mn_eq]; omega
  have m1 := asnI_mono hx0 hx
  have s1 := asn_self h0 h1
  obtain ⟨o1, o2⟩ := b_odd h0 h1
  have m2 := asnI_mono (v := -(mn H 1073741824)) (u := bLo (-k)) (by omega) (by omega)
  have s2 := asn_self (n := -k) (by omega) (by omega)
  have i1 := asnI_in hx0
  have i2 := asnI_in (v := -(mn H 1073741824)) (by omega)
  unfold asL asH
  rw [if_pos hE, if_pos hE]
  omega
/-- The sine of the altitude. -/
theorem alt_InR {lat dec lha : Int} (h0 : -5400000 ≤ lat) (h1 : lat ≤ 5400000) (g0 : -5400000 ≤ dec) (g1 : dec ≤ 5400000) :
    InR (altS0 lat lat dec dec lha lha) (altS1 lat lat dec dec lha lha) (zS lat * zS dec + zC lat * zC dec * zC (lha % 21600000)) (10 * t30) := by
  have a1 := sin_InR (Int.le_refl lat) (Int.le_refl lat) h0 (by omega)
  have a2 := sin_InR (Int.le_refl dec) (Int.le_refl dec) g0 (by omega)
  have b1 := cos_InR (Int.le_refl lat) (Int.le_refl lat) (by omega) (by omega)
  have b2 := cos_InR (Int.le_refl dec) (Int.le_refl dec) (by omega) (by omega)
  have b3 := cos_InRT lha
  have t0 : (0 : Rat) ≤ t30 ∧ t30 ≤ 1 / 1000000 ∧ t31 ≤ t30 ∧ 0 ≤ t31 := by unfold t30 t31; refine ⟨?_, ?_, ?_, ?_⟩ <;> grind
  obtain ⟨t1, t2, t3, t4⟩ := t0
  have m1 := a1.mul a2 (g := 3 * t30) enc_in enc_in (by grind) (by grind) (by grind) (by grind)
  have m2 := b1.mul b2 (g := 3 * t30) (cos_in2 _ _) (cos_in2 _ _) (by grind) (by grind) (by grind) (by grind)
  have m3 := m2.mul b3 (g := 7 * t30) (cc_in _ _ _ _) (cos_in2 _ _) (by grind) (by grind) (by grind) (by grind)
  exact (m1.add m3).mono (Int.le_refl _) (Int.le_refl _) (by grind)
theorem t30_10 : 10 * t30 + 1073741824 * (8 * e60) ≤ 1 / 17000000 := by unfold t30 e60; grind
theorem zC_abs (n : Int) : zC n = zC (-(n.natAbs : Int)) := by
  rcases (show n = (n.natAbs : Int) ∨ n = -(n.natAbs : Int) by omega) with h | h
  · rw [zC_neg, ← h]
  · rw [← h]
/-- Altitudes that contain a whole angle. -/
theorem alt_has {lat dec lha k : Int} (h0 : -5400000 ≤ lat) (h1 : lat ≤ 5400000) (g0 : -5400000 ≤ dec) (g1 : dec ≤ 5400000) (k0 : -5400000 ≤ k) (k1 : k ≤ 5400000)
    (hn : Nr (zS lat * zS dec + zC lat * zC dec * zC (lha % 21600000)) (zS k) (8 * e60)) :
    asE (altS0 lat lat dec dec lha lha) (altS1 lat lat dec dec lha lha) = 0 ∧ -5400000 ≤ asL (altS0 lat lat dec dec lha lha) (altS1 lat lat dec dec lha lha) ∧ asL (altS0 lat lat dec dec lha lha) (altS1 lat lat dec dec lha lha) ≤ k ∧ k ≤ asH (altS0 lat lat dec dec lha lha) (altS1 lat lat dec dec lha lha) ∧ asH (altS0 lat lat dec dec lha lha) (altS1 lat lat dec dec lha lha) ≤ 5400000 := by
  obtain ⟨a, b⟩ := (alt_InR (lha := lha) h0 h1 g0 g1).near hn.symm t30_10
  exact as_has k0 k1 (snap_lo k0 (by omega) a) (snap_hi k0 (by omega) b) (alt_fx _ _ _ _ _ _)
/-- On the meridian, above the pole. -/
theorem alt_upper {lat dec : Int} :
    Nr (zS lat * zS dec + zC lat * zC dec * zC ((0 : Int) % 21600000)) (zS (5400000 - ((lat - dec).natAbs : Int))) (8 * e60) := by
  have e1 : zC ((0 : Int) % 21600000) = 1 := rfl
  obtain ⟨-, a2⟩ := Z_sub lat dec
  rw [e1, show zS lat * zS dec + zC lat * zC dec * 1 = zC (lat - dec) by rw [a2]; grind, zC_abs (lat - dec), show 5400000 - ((lat - dec).natAbs : Int) = -((lat - dec).natAbs : Int) + 5400000 by omega]
  exact (zC_quarter _).symm.le (by unfold e60; grind)
/-- On the meridian, below the pole. -/
theorem alt_lower {lat dec : Int} :
    Nr (zS lat * zS dec + zC lat * zC dec * zC ((10800000 : Int) % 21600000)) (zS (((lat + dec).natAbs : Int) - 5400000)) (8 * e60) := by
  have e1 : ((10800000 : Int) % 21600000) = 10800000 := rfl
  obtain ⟨-, a2⟩ := Z_add lat dec
  have hq := zC_quarter (-((lat + dec).natAbs : Int))
  rw [← zC_abs (lat + dec)] at hq
  rw [e1, show (((lat + dec).natAbs : Int) - 5400000) = -(-((lat + dec).natAbs : Int) + 5400000) by omega, zS_neg]
  obtain ⟨-, -, q3, q4⟩ := half_near
  obtain ⟨⟨b1, b2⟩, b3, b4⟩ := Z_in lat
  obtain ⟨-, c3, c4⟩ := Z_in dec
  obtain ⟨p1, p2⟩ := rabs (x := zC lat) (y := zC dec) (m := 1) (f := 1) b3 b4 c3 c4
  rw [a2] at hq
  generalize zC 10800000 = z at *
  obtain ⟨r1, r2⟩ := rabs (x := zC lat * zC dec) (y := z + 1) (m := 1) (f := 3 * e60) (by grind) (by grind) (by unfold e60 at *; grind) (by grind)
  obtain ⟨n1, n2⟩ := hq
  generalize zC lat * zC dec = P at *
  generalize zS lat * zS dec = Q at *
  generalize zS (-((lat + dec).natAbs : Int) + 5400000) = Y at *
  have he : (0 : Rat) < e60 := by unfold e60; grind
  constructor <;> grind
/-- The part of an arc from pole to pole. -/
theorem ls_has {x y n : Int} (h0 : -5400000 ≤ n) (h1 : n ≤ 5400000) (hx : x ≤ n) (hy : n ≤ y) : lsE x y = 0 ∧ insideB n n (lsLo x y) (lsHi x y) = true := by
  unfold lsE lsLo lsHi
  rw [insideB_iff]
  omega
end Go.Proofs.Ytakcfcekdngndaa
/- A cell that keeps its value: storing what is there changes nothing. No program in sight. -/
namespace Go.Proofs.Ytakcfcekdngndaa
open Go.RowKit

theorem set_same {W : World} {b i : Nat} {v : Value} (h : W.cell? ⟨b, i, none⟩ = some v) : W.setCell ⟨b, i, none⟩ v = W := by
  have hh : W.heap.modify b (fun o => match o with | .cells c elem frozen => .cells (if (none : Option Nat).isSome then c else c.setIfInBounds i v) elem frozen | o => o) = W.heap := by
    refine Array.ext (by simp) fun j h1 h2 => ?_
    rw [Array.getElem_modify]
    split
    · rename_i e
      subst e
      unfold World.cell? at h
      rw [Array.getElem?_eq_getElem h2] at h
      dsimp only at h
      split at h
      · rename_i c e f he
        rw [Option.some.injEq] at he
        rw [he]
        simp only [Option.isSome_none, Bool.false_eq_true, if_false] at h ⊢
        obtain ⟨hi, hv⟩ := Array.getElem?_eq_some_iff.1 h
        rw [Array.setIfInBounds_def, dif_pos hi, ← hv, Array.set_getElem_self]
      · cases h
    · rfl
  obtain ⟨heap, tape, drawn, os, output⟩ := W
  unfold World.setCell
  dsimp only at hh ⊢
  exact congrArg (fun x => ({ heap := x, tape := tape, drawn := drawn, os := os, output := output } : World)) hh
/-- A chain without an error, behind a pointer. -/
structure ChW (b : Nat) (W : World) : Prop where
  lt : b < W.heap.size
  cell : W.cell? ⟨b, 0, none⟩ = some (.int .i64 0)
  froz : W.frozen? ⟨b, 0, none⟩ = false
theorem ChW.ext {b : Nat} {W W' : World} (h : ChW b W) (hb : Below W.heap.size W W') : ChW b W' :=
  ⟨Nat.lt_of_lt_of_le h.lt hb.size, (hb.cell (p := ⟨b, 0, none⟩) h.lt).trans h.cell, (hb.frozen (p := ⟨b, 0, none⟩) h.lt).trans h.froz⟩
theorem ChW.bw {b : Nat} {W : World} (h : ChW b W) (d : Ext) : ChW b (bw W d) := h.ext (bw_below W d)
theorem ChW.lay {b : Nat} {W : World} (h : ChW b W) (L : List (Obj ⊕ Ext)) : ChW b (lay W L) := h.ext (lay_extends W L)
theorem ChW.set {b : Nat} {W : World} (h : ChW b W) : W.setCell ⟨b, 0, none⟩ (.int .i64 0) = W := set_same h.cell
theorem ChW.on {b : Nat} {w : World} {L : List (Obj ⊕ Ext)} (h : ChW b (Go.Proofs.Ytakcfcekdngndaa.lay w L)) (L' : List (Obj ⊕ Ext)) : ChW b (Go.Proofs.Ytakcfcekdngndaa.lay w (L' ++ L)) := by
  rw [lay_append]
  exact h.lay L'
/-- The cell that has just been made. -/
theorem chW_new (w : World) (L : List (Obj ⊕ Ext)) (t : TypeId) (p : List Nat) (hp : shp L = p) : ChW (posn w p) (lay w (.inl (Obj.cells #[.int .i64 0] t) :: L)) := by
  subst hp
  have hg : (lay w (.inl (Obj.cells #[.int .i64 0] t) :: L)).heap[posn w (shp L)]? = some (Obj.cells #[.int .i64 0] t) := lay_get w (.inl (Obj.cells #[.int .i64 0] t) :: L) 0 _ rfl
  refine ⟨(Array.getElem?_eq_some_iff.1 hg).1, ?_, ?_⟩
  · unfold World.cell?; dsimp only; rw [hg]; rfl
  · unfold World.frozen?; dsimp only; rw [hg]; rfl
end Go.Proofs.Ytakcfcekdngndaa
