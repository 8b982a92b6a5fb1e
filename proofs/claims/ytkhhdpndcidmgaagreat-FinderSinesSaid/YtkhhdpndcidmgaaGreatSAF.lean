/- Contracts and plain laws, several texts in one: CiP; TgK; Lb1; QnP; QnQ; Ns1 -/
import GoSem.Core.Next
import Derived.Test.YtkhhdpndcidmgaaGreatSAE
/- A rotation of the plane by exact rationals, by about a unit of angle: sums of angles are exact, and each sine lies in the cell that the program finds. No program in sight. -/
namespace Go.Proofs.YtkhhdpndcidmgaaGreat

theorem rabs {x y m f : Rat} (h1 : -m ≤ x) (h2 : x ≤ m) (h3 : -f ≤ y) (h4 : y ≤ f) : -(m * f) ≤ x * y ∧ x * y ≤ m * f := by
  have a1 := rmul0 (show 0 ≤ m - x by grind) (show 0 ≤ f + y by grind)
  have a2 := rmul0 (show 0 ≤ m + x by grind) (show 0 ≤ f - y by grind)
  have a3 := rmul0 (show 0 ≤ m - x by grind) (show 0 ≤ f - y by grind)
  have a4 := rmul0 (show 0 ≤ m + x by grind) (show 0 ≤ f + y by grind)
  constructor <;> grind
theorem sq_one {x y : Rat} (h : x * x + y * y = 1) : -1 ≤ x ∧ x ≤ 1 := by
  have hy : 0 ≤ y * y := by
    rcases (Rat.le_total : (0 : Rat) ≤ y ∨ y ≤ 0) with g | g
    · exact rmul0 g g
    · have := rmul0 (show 0 ≤ -y by grind) (show 0 ≤ -y by grind); grind
  constructor
  · rcases (Rat.le_total : ((-1) : Rat) ≤ x ∨ x ≤ (-1)) with g | g
    · exact g
    · have a := rmul0 (show 0 ≤ -1 - x by grind) (show 0 ≤ -1 - x by grind)
      grind
  · rcases (Rat.le_total : (x : Rat) ≤ 1 ∨ 1 ≤ x) with g | g
    · exact g
    · have a := rmul0 (show 0 ≤ x - 1 by grind) (show 0 ≤ x - 1 by grind)
      grind
theorem Nr.prod {a b c d e f m n : Rat} (h : Nr a b e) (g : Nr c d f) (a0 : -m ≤ a) (a1 : a ≤ m) (d0 : -n ≤ d) (d1 : d ≤ n) : Nr (a * c) (b * d) (m * f + n * e) := by
  obtain ⟨h1, h2⟩ := h
  obtain ⟨g1, g2⟩ := g
  obtain ⟨p1, p2⟩ := rabs a0 a1 (show -f ≤ c - d by grind) (show c - d ≤ f by grind)
  obtain ⟨q1, q2⟩ := rabs d0 d1 (show -e ≤ a - b by grind) (show a - b ≤ e by grind)
  constructor <;> grind
def c1R : Rat := (340282366920938463463374607431768211456 * 340282366920938463463374607431768211456 - 49492064077082142867227310776778 * 49492064077082142867227310776778) / (340282366920938463463374607431768211456 * 340282366920938463463374607431768211456 + 49492064077082142867227310776778 * 49492064077082142867227310776778)
def s1R : Rat := 2 * 49492064077082142867227310776778 * 340282366920938463463374607431768211456 / (340282366920938463463374607431768211456 * 340282366920938463463374607431768211456 + 49492064077082142867227310776778 * 49492064077082142867227310776778)
theorem unit1 : c1R * c1R + s1R * s1R = 1 := by decide +kernel
theorem unit_near : Nr s1R (23046538269650701392778 / k96) (1 / k96) ∧ Nr c1R (79228162514260985610427347966 / k96) (1 / k96) := by
  unfold Nr
  exact ⟨⟨by decide +kernel, by decide +kernel⟩, ⟨by decide +kernel, by decide +kernel⟩⟩
def zsc : Nat → Rat × Rat
  | 0 => (0, 1)
  | n + 1 => ((zsc n).1 * c1R + (zsc n).2 * s1R, (zsc n).2 * c1R - (zsc n).1 * s1R)
def zs (n : Nat) : Rat := (zsc n).1
def zc (n : Nat) : Rat := (zsc n).2
theorem zs_0 : zs 0 = 0 := rfl
theorem zc_0 : zc 0 = 1 := rfl
theorem zs_s (n : Nat) : zs (n + 1) = zs n * c1R + zc n * s1R := rfl
theorem zc_s (n : Nat) : zc (n + 1) = zc n * c1R - zs n * s1R := rfl
theorem z_unit : ∀ n, zs n * zs n + zc n * zc n = 1
  | 0 => by rw [zs_0, zc_0]; grind
  | n + 1 => by
    have h := z_unit n
    have u := unit1
    rw [zs_s, zc_s]
    generalize zs n = a at *
    generalize zc n = b at *
    grind
theorem z_add (a : Nat) : ∀ b, zs (a + b) = zs a * zc b + zc a * zs b ∧ zc (a + b) = zc a * zc b - zs a * zs b
  | 0 => by rw [Nat.add_zero, zs_0, zc_0]; constructor <;> grind
  | b + 1 => by
    obtain ⟨h1, h2⟩ := z_add a b
    rw [← Nat.add_assoc, zs_s, zc_s, zs_s, zc_s, h1, h2]
    constructor <;> grind
theorem z_sub {a b : Nat} (h : b ≤ a) : zs (a - b) = zs a * zc b - zc a * zs b ∧ zc (a - b) = zc a * zc b + zs a * zs b := by
  obtain ⟨h1, h2⟩ := z_add (a - b) b
  rw [Nat.sub_add_cancel h] at h1 h2
  have u := z_unit b
  rw [h1, h2]
  generalize zs (a - b) = x at *
  generalize zc (a - b) = y at *
  generalize zs b = p at *
  generalize zc b = q at *
  constructor <;> grind
def zS (n : Int) : Rat := if 0 ≤ n then zs n.toNat else -(zs (-n).toNat)
def zC (n : Int) : Rat := if 0 ≤ n then zc n.toNat else zc (-n).toNat
theorem zS_nat (n : Nat) : zS (n : Int) = zs n := by unfold zS; rw [if_pos (by omega)]; rfl
theorem zC_nat (n : Nat) : zC (n : Int) = zc n := by unfold zC; rw [if_pos (by omega)]; rfl
theorem zS_neg (n : Int) : zS (-n) = -(zS n) := by
  unfold zS
  rcases Int.lt_trichotomy n 0 with h | h | h
  · rw [if_pos (by omega), if_neg (by omega)]; grind
  · subst h
    simp only [Int.neg_zero, Int.le_refl, if_true]
    show zs 0 = -(zs 0)
    rw [zs_0]; grind
  · rw [if_neg (by omega), if_pos (by omega), Int.neg_neg]
theorem zC_neg (n : Int) : zC (-n) = zC n := by
  unfold zC
  rcases Int.lt_trichotomy n 0 with h | h | h
  · rw [if_pos (by omega), if_neg (by omega)]
  · subst h; rfl
  · rw [if_neg (by omega), if_pos (by omega), Int.neg_neg]
theorem Z_unit (n : Int) : zS n * zS n + zC n * zC n = 1 := by
  unfold zS zC
  split
  · exact z_unit _
  · have := z_unit (-n).toNat
    grind
theorem Z_addN (a b : Nat) : zS ((a : Int) - (b : Int)) = zs a * zc b - zc a * zs b ∧ zC ((a : Int) - (b : Int)) = zc a * zc b + zs a * zs b := by
  by_cases h : b ≤ a
  · rw [show (a : Int) - (b : Int) = ((a - b : Nat) : Int) by omega, zS_nat, zC_nat]
    exact z_sub h
  · obtain ⟨h1, h2⟩ := z_sub (a := b) (b := a) (by omega)
    rw [show (a : Int) - (b : Int) = -((b - a : Nat) : Int) by omega, zS_neg, zC_neg, zS_nat, zC_nat, h1, h2]
    constructor <;> grind
theorem Z_add (a b : Int) : zS (a + b) = zS a * zC b + zC a * zS b ∧ zC (a + b) = zC a * zC b - zS a * zS b := by
  have ha : ∃ m : Nat, a = (m : Int) ∨ a = -(m : Int) := ⟨a.natAbs, by omega⟩
  have hb : ∃ m : Nat, b = (m : Int) ∨ b = -(m : Int) := ⟨b.natAbs, by omega⟩
  obtain ⟨m, hm⟩ := ha
  obtain ⟨n, hn⟩ := hb
  rcases hm with rfl | rfl <;> rcases hn with rfl | rfl
  · obtain ⟨h1, h2⟩ := z_add m n
    rw [show (m : Int) + (n : Int) = ((m + n : Nat) : Int) by omega]
    simp only [zS_nat, zC_nat]
    exact ⟨h1, h2⟩
  · obtain ⟨h1, h2⟩ := Z_addN m n
    rw [show (m : Int) + -(n : Int) = (m : Int) - (n : Int) by omega, h1, h2]
    simp only [zS_nat, zC_nat, zS_neg, zC_neg]
    constructor <;> grind
  · obtain ⟨h1, h2⟩ := Z_addN n m
    rw [show -(m : Int) + (n : Int) = (n : Int) - (m : Int) by omega, h1, h2]
    simp only [zS_nat, zC_nat, zS_neg, zC_neg]
    constructor <;> grind
  · obtain ⟨h1, h2⟩ := z_add m n
    rw [show -(m : Int) + -(n : Int) = -((m + n : Nat) : Int) by omega]
    simp only [zS_nat, zC_nat, zS_neg, zC_neg]
    rw [h1, h2]
    constructor <;> grind
theorem Z_sub (a b : Int) : zS (a - b) = zS a * zC b - zC a * zS b ∧ zC (a - b) = zC a * zC b + zS a * zS b := by
  obtain ⟨h1, h2⟩ := Z_add a (-b)
  rw [Int.sub_eq_add_neg, h1, h2, zS_neg, zC_neg]
  constructor <;> grind
theorem Z_in (n : Int) : (-1 ≤ zS n ∧ zS n ≤ 1) ∧ -1 ≤ zC n ∧ zC n ≤ 1 := ⟨sq_one (Z_unit n), sq_one (y := zS n) (by have := Z_unit n; grind)⟩
theorem z_near : ∀ {r : Nat}, r ≤ 2700000 → Nr (zs r) (sinT r) (64 * (r : Rat) / k96) ∧ Nr (zc r) (cosT r) (64 * (r : Rat) / k96)
  | 0, _ => by
    rw [sin_zero, cos_zero, zs_0, zc_0]
    constructor
    · constructor <;> grind
    · constructor <;> grind
  | r + 1, h => by
    obtain ⟨h1, h2⟩ := z_near (r := r) (by omega)
    obtain ⟨h3, h4⟩ := one_near
    obtain ⟨u1, u2⟩ := unit_near
    have v1 := u1.trans h3
    have v2 := u2.trans h4
    have hs := sin_in (n := r) (by omega)
    have hx := xi_in (n := r) (by omega)
    have hc := cos_in (n := r) (by omega)
    have hs1 := sin_in (n := 1) (by omega)
    have hc1 := cos_in (n := 1) (by omega)
    have hx1 := xi_one
    have zu := z_unit r
    obtain ⟨z1, z2⟩ := sq_one zu
    obtain ⟨z3, z4⟩ := sq_one (x := zc r) (y := zs r) (by grind)
    have hr0 : (0 : Rat) ≤ (r : Rat) := by exact_mod_cast Nat.zero_le r
    have hr : (r : Rat) ≤ 2700000 := by exact_mod_cast (show r ≤ 2700000 by omega)
    have hk : 0 < 1 / k96 := by unfold k96; grind
    have he : eps ≤ 1 / k96 := by unfold eps k96; grind
    have p1 := h1.prod v2 z1 z2 (show -1 ≤ cosT 1 by grind) hc1.2
    have p2 := h2.prod v1 z3 z4 (show -(1 / 3437000) ≤ sinT 1 by grind) (show sinT 1 ≤ 1 / 3437000 by grind)
    have p3 := h2.prod v2 z3 z4 (show -1 ≤ cosT 1 by grind) hc1.2
    have p4 := h1.prod v1 z1 z2 (show -(1 / 3437000) ≤ sinT 1 by grind) (show sinT 1 ≤ 1 / 3437000 by grind)
    have q1 := (p1.add p2).trans (sin_step (n := r) (by omega)).symm
    have q2 := (p3.sub p4).trans (cos_step (n := r) (by omega)).symm
    rw [zs_s, zc_s]
    have e1 : 1 * (1 / k96 + 1 / k96) + 1 * (64 * (r : Rat) / k96) + (1 * (1 / k96 + 1 / k96) + 1 / 3437000 * (64 * (r : Rat) / k96)) + eps ≤ 64 * ((r + 1 : Nat) : Rat) / k96 := by
      have h5 := rmul hr0 hr (Rat.le_of_lt hk) (show 1 / k96 ≤ 1 / k96 by exact Rat.le_refl)
      push_cast
      grind
    exact ⟨q1.le e1, q2.le e1⟩
end Go.Proofs.YtkhhdpndcidmgaaGreat
/- The quick sums of 62 binary digits are near to the sine and the cosine. No program in sight. -/
namespace Go.Proofs.YtkhhdpndcidmgaaGreat

def higN (h a b : Nat) : Nat := a / h * (b / h) + a / h * (b % h) / h + a % h * (b / h) / h
def nexT (h sq t d : Nat) : Nat := higN h t sq / (d * (d + 1))
def altS (h sq : Nat) : Nat → Nat → Nat → Int
  | 0, _, _ => 0
  | f + 1, t, d => (t : Int) - altS h sq f (nexT h sq t d) (d + 2)
def quiX (r : Nat) : Nat := r * 2620088056 * 512 + r * 658911831 / 4194304
def h31 : Nat := 2147483648
end Go.Proofs.YtkhhdpndcidmgaaGreat
/- Sines and cosines by 22 terms of their series, and a rotation of numbers of 160 bits that is near to them. No program in sight. -/
namespace Go.Proofs.YtkhhdpndcidmgaaGreat

def sinU (n : Nat) : Rat := xi n * (1 - tay (xi n * xi n) 2 22)
def cosU (n : Nat) : Rat := 1 - tay (xi n * xi n) 1 22
def litAU : List Int := adI [(dnT (piD * piD) 2 22 : Int)] (scI (-1) (liT (piN * piN) (piD * piD) 2 22))
def litBU : List Int := adI [(dnT (piD * piD) 1 22 : Int)] (scI (-1) (liT (piN * piN) (piD * piD) 1 22))
def facU : Nat := piD * dnT (piD * piD) 2 22 * dnT (piD * piD) 1 22
def lisSU : List Int := scI (dnT (piD * piD) 1 22 : Int) (0 :: inI (scI (piN : Int) litAU))
def lisCU : List Int := scI ((piD * dnT (piD * piD) 2 22 : Nat) : Int) (inI litBU)
theorem lisSU_ok (n : Nat) : sinU n * (facU : Rat) = ((evI lisSU (n : Int) : Int) : Rat) := by
  have h := lis_ok (a := piN) piD_ne n 2 22 (by decide)
  have hp : (piD : Rat) ≠ 0 := by exact_mod_cast piD_ne
  unfold sinU lisSU facU xi litAU
  simp only [evI_sc, evI, evI_in]
  rw [show ((n : Int) * (n : Int)) = ((n * n : Nat) : Int) by push_cast; rfl]
  push_cast at h ⊢
  rw [← h]
  generalize tay _ 2 22 = T
  generalize (dnT _ 2 22 : Rat) = F
  generalize (dnT _ 1 22 : Rat) = G
  generalize (piN : Rat) = A at *
  generalize (piD : Rat) = B at *
  grind
theorem lisCU_ok (n : Nat) : cosU n * (facU : Rat) = ((evI lisCU (n : Int) : Int) : Rat) := by
  have h := lis_ok (a := piN) piD_ne n 1 22 (by decide)
  unfold cosU lisCU facU xi litBU
  simp only [evI_sc, evI_in]
  rw [show ((n : Int) * (n : Int)) = ((n * n : Nat) : Int) by push_cast; rfl]
  push_cast at h ⊢
  rw [← h]
  generalize tay _ 1 22 = T
  generalize (dnT _ 2 22 : Rat) = F
  generalize (dnT _ 1 22 : Rat) = G
  generalize (piD : Rat) = B at *
  grind
def stpSU : List Int := adI (scI (facU : Int) (shI lisSU)) (adI (scI (-(evI lisCU 1)) lisSU) (scI (-(evI lisSU 1)) lisCU))
def stpCU : List Int := adI (scI (facU : Int) (shI lisCU)) (adI (scI (-(evI lisCU 1)) lisCU) (scI (evI lisSU 1) lisSU))
def k160 : Nat := 1461501637330902918203684832716283019655932542976
theorem stpSU_ab : abI stpSU 2700000 * k160 ≤ facU * facU := by decide +kernel
theorem stpCU_ab : abI stpCU 2700000 * k160 ≤ facU * facU := by decide +kernel
theorem facU_pos : 0 < facU := by decide +kernel
theorem facU_rat : (0 : Rat) < (facU : Rat) := by exact_mod_cast facU_pos
theorem k160_rat : (0 : Rat) < (k160 : Rat) := by exact_mod_cast (show 0 < k160 by decide)
theorem eps_ofU {M W : Nat} (h : M * k160 ≤ W) : (M : Rat) ≤ 1 / (k160 : Rat) * (W : Rat) := by
  have h1 : (M : Rat) * (k160 : Rat) ≤ (W : Rat) := by exact_mod_cast h
  have h0 := k160_rat
  have hi : 0 < 1 / (k160 : Rat) := by rw [Rat.div_def, Rat.one_mul]; exact Rat.inv_pos.2 h0
  have h2 := Rat.mul_le_mul_of_nonneg_left h1 (Rat.le_of_lt hi)
  have h3 : 1 / (k160 : Rat) * (k160 : Rat) = 1 := by rw [Rat.div_mul_cancel (by grind)]
  generalize 1 / (k160 : Rat) = i at *
  generalize (k160 : Rat) = k at *
  have e : i * ((M : Rat) * k) = i * k * (M : Rat) := by grind
  rw [h3, Rat.one_mul] at e
  rw [e] at h2
  exact h2
theorem sinU_step {n : Nat} (h : n ≤ 2700000) : Nr (sinU (n + 1)) (sinU n * cosU 1 + cosU n * sinU 1) (1 / (k160 : Rat)) := by
  have h1 := lisSU_ok (n + 1)
  have h2 := lisSU_ok n
  have h3 := lisCU_ok n
  have h4 := lisSU_ok 1
  have h5 := lisCU_ok 1
  have hb := Nat.le_trans (Nat.mul_le_mul_right _ (evI_ab (x := (n : Int)) (N := 2700000) (by omega) stpSU)) stpSU_ab
  have hW := facU_rat
  refine nr_of_int (W := (facU : Rat) * facU) (x := evI stpSU (n : Int)) (Rat.mul_pos hW hW) ?_ (Nat.le_refl _) (by have := eps_ofU hb; rw [Rat.natCast_mul] at this; exact this)
  unfold stpSU
  simp only [evI_ad, evI_sc, evI_sh]
  push_cast at h1 h2 h3 h4 h5 ⊢
  rw [← h1, ← h2, ← h3, ← h4, ← h5]
  grind
theorem cosU_step {n : Nat} (h : n ≤ 2700000) : Nr (cosU (n + 1)) (cosU n * cosU 1 - sinU n * sinU 1) (1 / (k160 : Rat)) := by
  have h1 := lisCU_ok (n + 1)
  have h2 := lisSU_ok n
  have h3 := lisCU_ok n
  have h4 := lisSU_ok 1
  have h5 := lisCU_ok 1
  have hb := Nat.le_trans (Nat.mul_le_mul_right _ (evI_ab (x := (n : Int)) (N := 2700000) (by omega) stpCU)) stpCU_ab
  have hW := facU_rat
  refine nr_of_int (W := (facU : Rat) * facU) (x := evI stpCU (n : Int)) (Rat.mul_pos hW hW) ?_ (Nat.le_refl _) (by have := eps_ofU hb; rw [Rat.natCast_mul] at this; exact this)
  unfold stpCU
  simp only [evI_ad, evI_sc, evI_sh]
  push_cast at h1 h2 h3 h4 h5 ⊢
  rw [← h1, ← h2, ← h3, ← h4, ← h5]
  grind
theorem cosU_in {n : Nat} (h : n ≤ 2700001) : 17 / 25 ≤ cosU n ∧ cosU n ≤ 1 := by
  have hq := sq_in (xi_in h)
  obtain ⟨t0, t1⟩ := tay_in hq.1 (by grind) (m := 22) (d := 1) (by decide)
  unfold cosU
  constructor <;> grind
theorem sinU_in {n : Nat} (h : n ≤ 2700001) : 0 ≤ sinU n ∧ sinU n ≤ xi n := by
  have hx := xi_in h
  have hq := sq_in hx
  obtain ⟨t0, t1⟩ := tay_in hq.1 (by grind) (m := 22) (d := 2) (by decide)
  unfold sinU
  have h1 : (0 : Rat) ≤ 1 - tay (xi n * xi n) 2 22 := by grind
  have h2 := rmul0 hx.1 h1
  have h3 := Rat.mul_le_mul_of_nonneg_left (show 1 - tay (xi n * xi n) 2 22 ≤ 1 by grind) hx.1
  constructor <;> grind
def s1U : Nat := 425133593245199460169970897845407932666872
def c1U : Nat := 1461501637330841085028993473485354317854231948077
theorem oneU_ab : (evI lisSU 1 * k160 - s1U * (facU : Int)).natAbs ≤ facU ∧ (evI lisCU 1 * k160 - c1U * (facU : Int)).natAbs ≤ facU := by decide +kernel
theorem oneU_near : Nr ((s1U : Rat) / (k160 : Rat)) (sinU 1) (1 / (k160 : Rat)) ∧ Nr ((c1U : Rat) / (k160 : Rat)) (cosU 1) (1 / (k160 : Rat)) := by
  obtain ⟨h1, h2⟩ := oneU_ab
  have h3 := lisSU_ok 1
  have h4 := lisCU_ok 1
  have hW := facU_rat
  have hk := k160_rat
  have hM : ((facU : Nat) : Rat) ≤ 1 / (k160 : Rat) * ((k160 : Rat) * (facU : Rat)) := by
    have : 1 / (k160 : Rat) * (k160 : Rat) = 1 := by rw [Rat.div_mul_cancel (by grind)]
    rw [← Rat.mul_assoc, this, Rat.one_mul]
    exact Rat.le_refl
  have hks : (s1U : Rat) / (k160 : Rat) * (k160 : Rat) = (s1U : Rat) := Rat.div_mul_cancel (by grind)
  have hkc : (c1U : Rat) / (k160 : Rat) * (k160 : Rat) = (c1U : Rat) := Rat.div_mul_cancel (by grind)
  constructor
  · refine (nr_of_int (W := (k160 : Rat) * (facU : Rat)) (x := evI lisSU 1 * k160 - s1U * (facU : Int)) (Rat.mul_pos hk hW) ?_ h1 hM).symm
    push_cast at h3 ⊢
    rw [← h3]
    generalize (s1U : Rat) / (k160 : Rat) = q at *
    grind
  · refine (nr_of_int (W := (k160 : Rat) * (facU : Rat)) (x := evI lisCU 1 * k160 - c1U * (facU : Int)) (Rat.mul_pos hk hW) ?_ h2 hM).symm
    push_cast at h4 ⊢
    rw [← h4]
    generalize (c1U : Rat) / (k160 : Rat) = q at *
    grind
theorem sinU_zero : sinU 0 = 0 := by unfold sinU xi; grind
theorem cosU_zero : cosU 0 = 1 := by
  have : xi 0 * xi 0 = 0 := by unfold xi; grind
  unfold cosU
  rw [this, tay_zero]
  grind
def rotU : Nat → Nat × Nat := rotV c1U s1U k160
theorem rotU_succ (r : Nat) : rotU (r + 1) = (((rotU r).1 * c1U + (rotU r).2 * s1U) / k160, ((rotU r).2 * c1U - (rotU r).1 * s1U) / k160) := rfl
theorem rotU_near : ∀ {r : Nat}, r ≤ 2700000 → Nr (((rotU r).1 : Rat) / (k160 : Rat)) (sinU r) (64 * (r : Rat) / (k160 : Rat)) ∧ Nr (((rotU r).2 : Rat) / (k160 : Rat)) (cosU r) (64 * (r : Rat) / (k160 : Rat))
  | 0, _ => by
    rw [sinU_zero, cosU_zero, show rotU 0 = (0, k160) from rfl]
    have hk : (k160 : Rat) / (k160 : Rat) = 1 := by have := k160_rat; grind
    constructor
    · constructor <;> grind
    · dsimp only
      rw [hk]
      constructor <;> grind
  | r + 1, h => by
    obtain ⟨h1, h2⟩ := rotU_near (r := r) (by omega)
    obtain ⟨h3, h4⟩ := oneU_near
    have hx := xi_in (n := r) (by omega)
    have hs := sinU_in (n := r) (by omega)
    have hc := cosU_in (n := r) (by omega)
    have hs1 := sinU_in (n := 1) (by omega)
    have hc1 := cosU_in (n := 1) (by omega)
    have hx1 := xi_one
    have hr : (r : Rat) ≤ 2700000 := by exact_mod_cast (show r ≤ 2700000 by omega)
    have hr0 : (0 : Rat) ≤ (r : Rat) := by exact_mod_cast Nat.zero_le r
    have hk : 0 < 1 / (k160 : Rat) ∧ 1 / (k160 : Rat) ≤ 1 / 10000000000000000000000000000 := by
      rw [show (k160 : Rat) = 1461501637330902918203684832716283019655932542976 from rfl]
      constructor <;> grind
    have g1 : 64 * (r : Rat) / (k160 : Rat) ≤ 1 / 100 := by
      have := rmul hr0 hr (Rat.le_of_lt hk.1) hk.2
      grind
    have st := rot_step (K := k160) (k := (k160 : Rat)) (s1 := s1U) (c1 := c1U) (by decide) rfl h1 h2 h3 h4 (by grind) hc.1 hc.2 hs1.1 (by grind) hc1.1 hc1.2 g1 (by grind) (sinU_step (n := r) (by omega)) (cosU_step (n := r) (by omega))
    rw [rotU_succ]
    have e1 : 64 * (r : Rat) / (k160 : Rat) + 64 * (r : Rat) / (k160 : Rat) / 3437000 + 4 / (k160 : Rat) + 1 / (k160 : Rat) ≤ 64 * ((r + 1 : Nat) : Rat) / (k160 : Rat) := by
      have h5 := rmul hr0 hr (Rat.le_of_lt hk.1) (show 1 / (k160 : Rat) ≤ 1 / (k160 : Rat) by exact Rat.le_refl)
      push_cast
      generalize (k160 : Rat) = k at *
      grind
    exact ⟨st.1.le e1, st.2.le e1⟩
end Go.Proofs.YtkhhdpndcidmgaaGreat
/- Rounded sums of series with alternating signs, by products that are rounded down; a circle with 192 binary digits. No program in sight. -/
namespace Go.Proofs.YtkhhdpndcidmgaaGreat

def nexQ (M sq t d : Nat) : Nat := t * sq / M / (d * (d + 1))
def altQ (M sq : Nat) : Nat → Nat → Nat → Int
  | 0, _, _ => 0
  | f + 1, t, d => (t : Int) - altQ M sq f (nexQ M sq t d) (d + 2)
theorem nr_mulM {M a b : Nat} (hM : 0 < M) : Nr (((a * b / M : Nat) : Rat) / (M : Rat)) ((a : Rat) / (M : Rat) * ((b : Rat) / (M : Rat))) (3 / (M : Rat)) := by
  have h1 := Nat.div_mul_le_self (a * b) M
  have h2 : a * b < (a * b / M + 1) * M := Nat.lt_mul_of_div_lt (Nat.lt_succ_self _) hM
  have h3 : (a * b / M + 1) * M ≤ (a * b / M + 3) * M := Nat.mul_le_mul_right M (by omega)
  exact nr_mul (k := 3) hM h1 (Nat.le_trans (Nat.le_of_lt h2) h3)
theorem mulM_le {M a b : Nat} (hM : 0 < M) (hb : b ≤ M) : a * b / M ≤ a := by
  have := Nat.div_le_div_right (c := M) (Nat.mul_le_mul_left a hb)
  rwa [Nat.mul_div_cancel _ hM] at this
theorem nexQ_le {M sq t d : Nat} (hM : 0 < M) (hsq : sq ≤ M) (hd : 1 ≤ d) : nexQ M sq t d * 2 ≤ t := by
  unfold nexQ
  have h1 := mulM_le (a := t) hM hsq
  have h2 := Nat.div_mul_le_self (t * sq / M) (d * (d + 1))
  have h3 := Nat.mul_le_mul_left (t * sq / M / (d * (d + 1))) (dd_ge hd)
  omega
theorem altQ_zero {M sq : Nat} : ∀ {f d : Nat}, altQ M sq f 0 d = 0
  | 0, _ => rfl
  | f + 1, d => by
    have : nexQ M sq 0 d = 0 := by unfold nexQ; simp
    unfold altQ
    rw [this, altQ_zero]
    rfl
theorem altQ_more {M sq : Nat} (hM : 0 < M) (hsq : sq ≤ M) : ∀ {f t d : Nat}, 1 ≤ d → t < 2 ^ f → altQ M sq (f + 1) t d = altQ M sq f t d
  | 0, t, d, hd, ht => by
    obtain rfl : t = 0 := by omega
    rw [altQ_zero]; rfl
  | f + 1, t, d, hd, ht => by
    have hn := nexQ_le (t := t) hM hsq hd
    show (t : Int) - altQ M sq (f + 1) (nexQ M sq t d) (d + 2) = (t : Int) - altQ M sq f (nexQ M sq t d) (d + 2)
    rw [altQ_more hM hsq (f := f) (t := nexQ M sq t d) (d := d + 2) (by omega) (by rw [Nat.pow_succ] at ht; omega)]
theorem altQ_next {M sq f t d : Nat} (hM : 0 < M) (hsq : sq ≤ M) (hd : 1 ≤ d) (ht : t < 2 ^ f) : altQ M sq f t d = (t : Int) - altQ M sq f (nexQ M sq t d) (d + 2) := by
  have h := altQ_more hM hsq hd ht
  rw [← h]
  show (t : Int) - altQ M sq f (nexQ M sq t d) (d + 2) = _
  rfl
theorem altQ_ok {M sq : Nat} (hM : 0 < M) (hsq : sq ≤ M) : ∀ {f t d : Nat}, 1 ≤ d → t ≤ 2 ^ f → Nr ((altQ M sq f t d : Rat) / (M : Rat)) ((t : Rat) / (M : Rat) * (1 - tay ((sq : Rat) / (M : Rat)) d f)) ((1 + 3 * (f : Rat)) * (1 / (M : Rat)))
  | 0, t, d, hd, ht => by
    have hM2 : (0 : Rat) < (M : Rat) := by exact_mod_cast hM
    have hi : 0 ≤ 1 / (M : Rat) := by rw [Rat.div_def, Rat.one_mul]; exact Rat.le_of_lt (Rat.inv_pos.2 hM2)
    have h1 : (t : Rat) ≤ 1 := by exact_mod_cast ht
    have h0 : (0 : Rat) ≤ (t : Rat) := by exact_mod_cast Nat.zero_le t
    have h2 := rmul h0 h1 hi Rat.le_refl
    have h3 := rmul0 h0 hi
    unfold altQ tay
    have e0 : (((0 : Int) : Rat)) = 0 := rfl
    have e1 : (((0 : Nat) : Rat)) = 0 := rfl
    rw [e0, e1]
    constructor <;> grind
  | f + 1, t, d, hd, ht => by
    have hn := nexQ_le (t := t) hM hsq hd
    have ih := altQ_ok hM hsq (f := f) (t := nexQ M sq t d) (d := d + 2) (by omega) (by rw [Nat.pow_succ] at ht; omega)
    have hg := nr_mulM (a := t) (b := sq) hM
    have hdd := dd_ge hd
    have hq := nr_div (y := t * sq / M) hM (show 0 < d * (d + 1) by omega)
    simp only [altQ, tay]
    unfold nexQ at *
    have hM2 : (0 : Rat) < (M : Rat) := by exact_mod_cast hM
    have hi : 0 ≤ 1 / (M : Rat) := by rw [Rat.div_def, Rat.one_mul]; exact Rat.le_of_lt (Rat.inv_pos.2 hM2)
    have hy1 : (sq : Rat) / (M : Rat) ≤ 1 := by
      have := natB hM hsq
      rwa [show (M : Rat) / (M : Rat) = 1 by grind] at this
    have hy0 := nat0 (a := sq) hM
    obtain ⟨t0, t1⟩ := tay_in hy0 hy1 (m := f) (d := d + 2) (by omega)
    have h2 := two_le hd
    obtain ⟨r0, r1, r2⟩ := div_ge (show (0 : Rat) ≤ 1 by decide) h2
    have e1 : ((d * (d + 1) : Nat) : Rat) = (d : Rat) * ((d : Rat) + 1) := by push_cast; rfl
    rw [e1] at hq
    generalize t * sq / M / (d * (d + 1)) = n1 at *
    generalize ((t * sq / M : Nat) : Rat) / (M : Rat) = H at *
    generalize hk : (d : Rat) * ((d : Rat) + 1) = k at *
    generalize hT : tay ((sq : Rat) / (M : Rat)) (d + 2) f = T at *
    generalize (sq : Rat) / (M : Rat) = Y at *
    generalize altQ M sq f n1 (d + 2) = A at *
    have hg2 := hg.mulc r0 r1 hg.pos
    have e2 : 1 / k * H = H / k := by grind
    have e3 : 1 / k * ((t : Rat) / (M : Rat) * Y) = (t : Rat) / (M : Rat) * Y / k := by grind
    rw [e2, e3] at hg2
    have h5 := hq.trans hg2
    have h6 := h5.mulc (c := 1 - T) (m := 1) (by grind) (by grind) h5.pos
    have h7 := ih.trans (by rw [Rat.mul_comm]; exact h6)
    have h8 := (Nr.refl ((t : Rat) / (M : Rat))).sub h7
    have e4 : (((t : Int) - A : Int) : Rat) / (M : Rat) = (t : Rat) / (M : Rat) - (A : Rat) / (M : Rat) := by push_cast; grind
    have e5 : (t : Rat) / (M : Rat) * (1 - Y / k * (1 - T)) = (t : Rat) / (M : Rat) - (1 - T) * ((t : Rat) / (M : Rat) * Y / k) := by grind
    rw [e4, e5]
    refine h8.le ?_
    push_cast
    grind
def m192 : Nat := 6277101735386680763835789423207666416102355444464034512896
def piA : Nat := piN / 18446744073709551616
def tA (k : Nat) : Nat := k * piA / 10800000
def sqA (k : Nat) : Nat := tA k * tA k / m192
def sinA (k : Nat) : Int := altQ m192 (sqA k) 200 (tA k) 2
def cosA (k : Nat) : Int := altQ m192 (sqA k) 200 m192 1
theorem m192_pos : 0 < m192 := by decide +kernel
theorem m192_pow : m192 = 18446744073709551616 ^ 3 := by decide +kernel
end Go.Proofs.YtkhhdpndcidmgaaGreat
/- The circle with 192 binary digits is near to the exact rotation. No program in sight. -/
namespace Go.Proofs.YtkhhdpndcidmgaaGreat

theorem m192_rat : (0 : Rat) < (m192 : Rat) := by exact_mod_cast m192_pos
theorem m192_big : 1 / (m192 : Rat) ≤ 1 / 100000000000000000000000000000000000000000 := by
  have h : 100000000000000000000000000000000000000000 ≤ m192 := by decide +kernel
  have h2 : (100000000000000000000000000000000000000000 : Rat) ≤ (m192 : Rat) := by exact_mod_cast h
  refine Rat.le_of_mul_le_mul_right (c := (m192 : Rat)) ?_ m192_rat
  rw [Rat.div_mul_cancel (by have := m192_rat; grind)]
  grind
theorem piA_ok : piA * 18446744073709551616 ≤ piN ∧ piN ≤ (piA + 1) * 18446744073709551616 := by decide +kernel
theorem piD_at : piD = 18446744073709551616 * (m192 * 10800000) := by decide +kernel
theorem tA_near {k : Nat} (hk : k ≤ 2700000) : Nr ((tA k : Rat) / (m192 : Rat)) (xi k) (2 / (m192 : Rat)) := by
  obtain ⟨u1, u2⟩ := piA_ok
  have h1 := nfl (a := k * piA) (K := 10800000) (by decide)
  change Nr ((tA k : Nat) : Rat) _ _ at h1
  have hM := m192_rat
  have v1 : (piA : Rat) * 18446744073709551616 ≤ (piN : Rat) := by
    have := Rat.natCast_le_natCast.2 u1
    rw [Rat.natCast_mul] at this
    exact this
  have v2 : (piN : Rat) ≤ ((piA : Rat) + 1) * 18446744073709551616 := by
    have := Rat.natCast_le_natCast.2 u2
    rw [Rat.natCast_mul, Rat.natCast_add] at this
    exact this
  have hD : (piD : Rat) = 18446744073709551616 * ((m192 : Rat) * 10800000) := by
    have : ((piD : Nat) : Rat) = ((18446744073709551616 * (m192 * 10800000) : Nat) : Rat) := by rw [← piD_at]
    rw [this, Rat.natCast_mul, Rat.natCast_mul]
    rfl
  have hk2 : (k : Rat) ≤ 2700000 := by exact_mod_cast hk
  have hk0 : (0 : Rat) ≤ (k : Rat) := by exact_mod_cast Nat.zero_le k
  unfold xi
  rw [hD]
  rw [Rat.natCast_mul] at h1
  have hK : ((10800000 : Nat) : Rat) = 10800000 := rfl
  rw [hK] at h1
  generalize (piN : Rat) = N at *
  generalize (piA : Rat) = P at *
  generalize ((tA k : Nat) : Rat) = T at *
  generalize (m192 : Rat) = M at *
  obtain ⟨a1, a2⟩ := h1
  have hi : 0 < 1 / M := by rw [Rat.div_def, Rat.one_mul]; exact Rat.inv_pos.2 hM
  have y1 := Rat.mul_le_mul_of_nonneg_left v1 hk0
  have y2 := Rat.mul_le_mul_of_nonneg_left v2 hk0
  have e1 : (k : Rat) * (N / (18446744073709551616 * (M * 10800000))) = (k : Rat) * N / 18446744073709551616 / 10800000 * (1 / M) := by grind
  have e2 : T / M = T * (1 / M) := by grind
  have e3 : 2 / M = 2 * (1 / M) := by grind
  rw [e1, e2, e3]
  have b1 : T ≤ (k : Rat) * N / 18446744073709551616 / 10800000 + 2 := by grind
  have b2 : (k : Rat) * N / 18446744073709551616 / 10800000 ≤ T + 2 := by grind
  have c1 := Rat.mul_le_mul_of_nonneg_right b1 (Rat.le_of_lt hi)
  have c2 := Rat.mul_le_mul_of_nonneg_right b2 (Rat.le_of_lt hi)
  constructor <;> grind
theorem sqA_near {r : Nat} (hr : r ≤ 2700000) : sqA r ≤ m192 ∧ tA r ≤ m192 ∧ Nr ((sqA r : Rat) / (m192 : Rat)) (xi r * xi r) (7 / (m192 : Rat)) ∧ (tA r : Rat) / (m192 : Rat) ≤ 1 := by
  have hn := tA_near hr
  have hx4 := xi_in (n := r) (by omega)
  have hb := m192_big
  have hx1 : (tA r : Rat) / (m192 : Rat) ≤ 1 := by
    obtain ⟨a, b⟩ := hn; grind
  have hx2 : tA r ≤ m192 := by
    have h0 := m192_rat
    have := Rat.mul_le_mul_of_nonneg_right hx1 (Rat.le_of_lt h0)
    rw [Rat.div_mul_cancel (by grind), Rat.one_mul] at this
    exact_mod_cast this
  have hg := nr_mulM (a := tA r) (b := tA r) m192_pos
  have hx0 : 0 ≤ (tA r : Rat) / (m192 : Rat) := nat0 m192_pos
  have hp := hn.mul hn hx0 hx1 hx4.1 (show xi r ≤ 1 by grind)
  exact ⟨Nat.le_trans (mulM_le m192_pos hx2) hx2, hx2, (hg.trans hp).le (by grind), hx1⟩
theorem m192_fuel : m192 ≤ 2 ^ 200 := by decide +kernel
theorem sinA_near {r : Nat} (hr : r ≤ 2700000) : Nr ((sinA r : Rat) / (m192 : Rat)) (sinT r) sml := by
  obtain ⟨h1, h2, h3, h4⟩ := sqA_near hr
  have hx4 := xi_in (n := r) (by omega)
  have hq := sq_in hx4
  have ha := altQ_ok m192_pos h1 (f := 200) (t := tA r) (d := 2) (by decide) (Nat.le_trans h2 m192_fuel)
  have hb := m192_big
  have hy0 : 0 ≤ (sqA r : Rat) / (m192 : Rat) := nat0 m192_pos
  have hy1 : (sqA r : Rat) / (m192 : Rat) ≤ 1 := by obtain ⟨a, b⟩ := h3; grind
  have hx0 : 0 ≤ (tA r : Rat) / (m192 : Rat) := nat0 m192_pos
  have g1 := tay_arg hy0 hy1 hq.1 (by grind) h3 (m := 200) (d := 2) (by decide)
  have g2 := tay_more hq.1 (by grind) 186 (m := 14) (d := 2) (by decide)
  have g3 := (Nr.refl 1).sub (g1.trans g2)
  obtain ⟨t0, t1⟩ := tay_in hq.1 (by grind) (m := 14) (d := 2) (by decide)
  have g4 := (tA_near hr).mul g3 hx0 h4 (show 0 ≤ 1 - tay (xi r * xi r) 2 14 by grind) (show 1 - tay (xi r * xi r) 2 14 ≤ 1 by grind)
  have hf := facT_sml (d := 2) (by decide +kernel)
  have hm : 0 ≤ 1 / (m192 : Rat) := by rw [Rat.div_def, Rat.one_mul]; exact Rat.le_of_lt (Rat.inv_pos.2 m192_rat)
  unfold sinT sinA
  refine (ha.trans g4).le ?_
  have e64 : ((200 : Nat) : Rat) = 200 := rfl
  rw [e64]
  unfold sml at *
  generalize (m192 : Rat) = M at *
  grind
theorem cosA_near {r : Nat} (hr : r ≤ 2700000) : Nr ((cosA r : Rat) / (m192 : Rat)) (cosT r) sml := by
  obtain ⟨h1, h2, h3, h4⟩ := sqA_near hr
  have hx4 := xi_in (n := r) (by omega)
  have hq := sq_in hx4
  have ha := altQ_ok m192_pos h1 (f := 200) (t := m192) (d := 1) (by decide) m192_fuel
  have hb := m192_big
  have hy0 : 0 ≤ (sqA r : Rat) / (m192 : Rat) := nat0 m192_pos
  have hy1 : (sqA r : Rat) / (m192 : Rat) ≤ 1 := by obtain ⟨a, b⟩ := h3; grind
  have g1 := tay_arg hy0 hy1 hq.1 (by grind) h3 (m := 200) (d := 1) (by decide)
  have g2 := tay_more hq.1 (by grind) 186 (m := 14) (d := 1) (by decide)
  have g3 := (Nr.refl 1).sub (g1.trans g2)
  have hf := facT_sml (d := 1) (by decide +kernel)
  have hm : 0 ≤ 1 / (m192 : Rat) := by rw [Rat.div_def, Rat.one_mul]; exact Rat.le_of_lt (Rat.inv_pos.2 m192_rat)
  have hmm : (m192 : Rat) / (m192 : Rat) = 1 := by have := m192_rat; grind
  unfold cosT cosA
  rw [hmm, Rat.one_mul] at ha
  refine (ha.trans g3).le ?_
  have e64 : ((200 : Nat) : Rat) = 200 := rfl
  rw [e64]
  unfold sml at *
  generalize (m192 : Rat) = M at *
  grind
def siA (k : Nat) : Int := if 2700000 < k then cosA (5400000 - k) else sinA k
def coA (k : Nat) : Int := if 2700000 < k then sinA (5400000 - k) else cosA k
end Go.Proofs.YtkhhdpndcidmgaaGreat
/- Sines by floored series at any scale, near to those by 22 terms; the sign of a cross product by them. No program in sight. -/
namespace Go.Proofs.YtkhhdpndcidmgaaGreat

theorem icast {a b : Int} (h : a ≤ b) : (a : Rat) ≤ (b : Rat) := by exact_mod_cast h
theorem icastN {n : Nat} {b : Int} (h : (n : Int) ≤ b) : (n : Rat) ≤ (b : Rat) := by exact_mod_cast h
theorem icastM {n : Nat} {b : Int} (h : b ≤ -(n : Int)) : (b : Rat) ≤ -(n : Rat) := by
  have := icast h
  rw [Rat.intCast_neg] at this
  exact this
structure MOk (M P Q : Nat) : Prop where
  pos : 0 < M
  fuel : M ≤ 2 ^ 200
  big : 1000000000000000000000 ≤ M
  p1 : P * Q ≤ piN
  p2 : piN ≤ (P + 1) * Q
  d : piD = Q * (M * 10800000)
  q : 0 < Q
def tM (P k : Nat) : Nat := k * P / 10800000
def sqM (M P k : Nat) : Nat := tM P k * tM P k / M
def sinM (M P k : Nat) : Int := altQ M (sqM M P k) 200 (tM P k) 2
def cosM (M P k : Nat) : Int := altQ M (sqM M P k) 200 M 1
section
variable {M P Q : Nat}
theorem MOk.rat (h : MOk M P Q) : (0 : Rat) < (M : Rat) := by exact_mod_cast h.pos
theorem MOk.inv (h : MOk M P Q) : 0 < 1 / (M : Rat) ∧ 1 / (M : Rat) ≤ 1 / 1000000000000000000000 := by
  have hM := h.rat
  have h2 : (1000000000000000000000 : Rat) ≤ (M : Rat) := by exact_mod_cast h.big
  have hi : 0 < 1 / (M : Rat) := by rw [Rat.div_def, Rat.one_mul]; exact Rat.inv_pos.2 hM
  refine ⟨hi, Rat.le_of_mul_le_mul_right (c := (M : Rat)) ?_ hM⟩
  rw [Rat.div_mul_cancel (by grind)]
  grind
theorem tM_near (h : MOk M P Q) {k : Nat} (hk : k ≤ 2700000) : Nr ((tM P k : Rat) / (M : Rat)) (xi k) (2 / (M : Rat)) := by
  have u1 := h.p1
  have u2 := h.p2
  have h1 := nfl (a := k * P) (K := 10800000) (by decide)
  change Nr ((tM P k : Nat) : Rat) _ _ at h1
  have hM := h.rat
  have hQ : (0 : Rat) < (Q : Rat) := by exact_mod_cast h.q
  have v1 : (P : Rat) * (Q : Rat) ≤ (piN : Rat) := by
    have := Rat.natCast_le_natCast.2 u1
    rw [Rat.natCast_mul] at this
    exact this
  have v2 : (piN : Rat) ≤ ((P : Rat) + 1) * (Q : Rat) := by
    have := Rat.natCast_le_natCast.2 u2
    rw [Rat.natCast_mul, Rat.natCast_add] at this
    exact this
  have hD : (piD : Rat) = (Q : Rat) * ((M : Rat) * 10800000) := by
    have : ((piD : Nat) : Rat) = ((Q * (M * 10800000) : Nat) : Rat) := by rw [← h.d]
    rw [this, Rat.natCast_mul, Rat.natCast_mul]
    rfl
  have hk2 : (k : Rat) ≤ 2700000 := by exact_mod_cast hk
  have hk0 : (0 : Rat) ≤ (k : Rat) := by exact_mod_cast Nat.zero_le k
  unfold xi
  rw [hD]
  rw [Rat.natCast_mul] at h1
  have hK : ((10800000 : Nat) : Rat) = 10800000 := rfl
  rw [hK] at h1
  have hN : ∃ t : Rat, (piN : Rat) = t * (Q : Rat) := ⟨(piN : Rat) / (Q : Rat), (Rat.div_mul_cancel (by grind)).symm⟩
  obtain ⟨N, hN⟩ := hN
  rw [hN] at v1 v2 ⊢
  have w1 : (P : Rat) ≤ N := Rat.le_of_mul_le_mul_right v1 hQ
  have w2 : N ≤ (P : Rat) + 1 := Rat.le_of_mul_le_mul_right v2 hQ
  clear v1 v2 u1 u2 hD hN
  generalize (P : Rat) = P' at *
  generalize ((tM P k : Nat) : Rat) = T at *
  generalize (M : Rat) = M' at *
  generalize (Q : Rat) = Q' at *
  obtain ⟨a1, a2⟩ := h1
  have hi : 0 < 1 / M' := by rw [Rat.div_def, Rat.one_mul]; exact Rat.inv_pos.2 hM
  have y1 := Rat.mul_le_mul_of_nonneg_left w1 hk0
  have y2 := Rat.mul_le_mul_of_nonneg_left w2 hk0
  have e1 : (k : Rat) * (N * Q' / (Q' * (M' * 10800000))) = (k : Rat) * N / 10800000 * (1 / M') := by grind
  have e2 : T / M' = T * (1 / M') := by grind
  have e3 : 2 / M' = 2 * (1 / M') := by grind
  rw [e1, e2, e3]
  have b1 : T ≤ (k : Rat) * N / 10800000 + 2 := by grind
  have b2 : (k : Rat) * N / 10800000 ≤ T + 2 := by grind
  have c1 := Rat.mul_le_mul_of_nonneg_right b1 (Rat.le_of_lt hi)
  have c2 := Rat.mul_le_mul_of_nonneg_right b2 (Rat.le_of_lt hi)
  constructor <;> grind
theorem sqM_near (h : MOk M P Q) {r : Nat} (hr : r ≤ 2700000) : sqM M P r ≤ M ∧ tM P r ≤ M ∧ Nr ((sqM M P r : Rat) / (M : Rat)) (xi r * xi r) (7 / (M : Rat)) ∧ (tM P r : Rat) / (M : Rat) ≤ 1 := by
  have hn := tM_near h hr
  have hx4 := xi_in (n := r) (by omega)
  obtain ⟨i0, i1⟩ := h.inv
  have hx1 : (tM P r : Rat) / (M : Rat) ≤ 1 := by
    obtain ⟨a, b⟩ := hn; grind
  have hx2 : tM P r ≤ M := by
    have h0 := h.rat
    have := Rat.mul_le_mul_of_nonneg_right hx1 (Rat.le_of_lt h0)
    rw [Rat.div_mul_cancel (by grind), Rat.one_mul] at this
    exact_mod_cast this
  have hg := nr_mulM (a := tM P r) (b := tM P r) h.pos
  have hx0 : 0 ≤ (tM P r : Rat) / (M : Rat) := nat0 h.pos
  have hp := hn.mul hn hx0 hx1 hx4.1 (show xi r ≤ 1 by grind)
  exact ⟨Nat.le_trans (mulM_le h.pos hx2) hx2, hx2, (hg.trans hp).le (by grind), hx1⟩
def tl50 : Rat := 1 / 100000000000000000000000000000000000000000000000000
theorem facU_tl {d : Nat} (h : 100000000000000000000000000000000000000000000000000 ≤ facT d 22) : 1 / (2 * (facT d 22 : Rat)) ≤ tl50 := by
  have h2 : (100000000000000000000000000000000000000000000000000 : Rat) ≤ (facT d 22 : Rat) := by exact_mod_cast h
  have h3 : (0 : Rat) < 2 * (facT d 22 : Rat) := by grind
  refine Rat.le_of_mul_le_mul_right (c := 2 * (facT d 22 : Rat)) ?_ h3
  rw [Rat.div_mul_cancel (by grind)]
  unfold tl50
  grind
theorem sinM_near (h : MOk M P Q) {r : Nat} (hr : r ≤ 2700000) : Nr ((sinM M P r : Rat) / (M : Rat)) (sinU r) (620 / (M : Rat) + tl50) := by
  obtain ⟨h1, h2, h3, h4⟩ := sqM_near h hr
  have hx4 := xi_in (n := r) (by omega)
  have hq := sq_in hx4
  have ha := altQ_ok h.pos h1 (f := 200) (t := tM P r) (d := 2) (by decide) (Nat.le_trans h2 h.fuel)
  obtain ⟨i0, i1⟩ := h.inv
  have hy0 : 0 ≤ (sqM M P r : Rat) / (M : Rat) := nat0 h.pos
  have hy1 : (sqM M P r : Rat) / (M : Rat) ≤ 1 := by obtain ⟨a, b⟩ := h3; grind
  have hx0 : 0 ≤ (tM P r : Rat) / (M : Rat) := nat0 h.pos
  have g1 := tay_arg hy0 hy1 hq.1 (by grind) h3 (m := 200) (d := 2) (by decide)
  have g2 := tay_more hq.1 (by grind) 178 (m := 22) (d := 2) (by decide)
  have g3 := (Nr.refl 1).sub (g1.trans g2)
  obtain ⟨t0, t1⟩ := tay_in hq.1 (by grind) (m := 22) (d := 2) (by decide)
  have g4 := (tM_near h hr).mul g3 hx0 h4 (show 0 ≤ 1 - tay (xi r * xi r) 2 22 by grind) (show 1 - tay (xi r * xi r) 2 22 ≤ 1 by grind)
  have hf := facU_tl (d := 2) (by decide +kernel)
  unfold sinU sinM
  refine (ha.trans g4).le ?_
  have e64 : ((200 : Nat) : Rat) = 200 := rfl
  rw [e64]
  unfold tl50 at *
  generalize (M : Rat) = M' at *
  grind
theorem cosM_near (h : MOk M P Q) {r : Nat} (hr : r ≤ 2700000) : Nr ((cosM M P r : Rat) / (M : Rat)) (cosU r) (620 / (M : Rat) + tl50) := by
  obtain ⟨h1, h2, h3, h4⟩ := sqM_near h hr
  have hx4 := xi_in (n := r) (by omega)
  have hq := sq_in hx4
  have ha := altQ_ok h.pos h1 (f := 200) (t := M) (d := 1) (by decide) h.fuel
  obtain ⟨i0, i1⟩ := h.inv
  have hy0 : 0 ≤ (sqM M P r : Rat) / (M : Rat) := nat0 h.pos
  have hy1 : (sqM M P r : Rat) / (M : Rat) ≤ 1 := by obtain ⟨a, b⟩ := h3; grind
  have g1 := tay_arg hy0 hy1 hq.1 (by grind) h3 (m := 200) (d := 1) (by decide)
  have g2 := tay_more hq.1 (by grind) 178 (m := 22) (d := 1) (by decide)
  have g3 := (Nr.refl 1).sub (g1.trans g2)
  have hf := facU_tl (d := 1) (by decide +kernel)
  have hmm : (M : Rat) / (M : Rat) = 1 := by have := h.rat; grind
  unfold cosU cosM
  rw [hmm, Rat.one_mul] at ha
  refine (ha.trans g3).le ?_
  have e64 : ((200 : Nat) : Rat) = 200 := rfl
  rw [e64]
  unfold tl50 at *
  generalize (M : Rat) = M' at *
  grind
def siM (M P k : Nat) : Int := if 2700000 < k then cosM M P (5400000 - k) else sinM M P k
def coM (M P k : Nat) : Int := if 2700000 < k then sinM M P (5400000 - k) else cosM M P k
def sU (k : Nat) : Rat := if 2700000 < k then cosU (5400000 - k) else sinU k
def cU (k : Nat) : Rat := if 2700000 < k then sinU (5400000 - k) else cosU k
theorem siM_A (k : Nat) : siM m192 piA k = siA k ∧ coM m192 piA k = coA k := ⟨rfl, rfl⟩
theorem siM_near (h : MOk M P Q) {k : Nat} (hk : k ≤ 5400000) : Nr ((siM M P k : Rat) / (M : Rat)) (sU k) (620 / (M : Rat) + tl50) ∧ Nr ((coM M P k : Rat) / (M : Rat)) (cU k) (620 / (M : Rat) + tl50) := by
  unfold siM coM sU cU
  by_cases c : 2700000 < k
  · rw [if_pos c, if_pos c, if_pos c, if_pos c]
    exact ⟨cosM_near h (by omega), sinM_near h (by omega)⟩
  · rw [if_neg c, if_neg c, if_neg c, if_neg c]
    exact ⟨sinM_near h (by omega), cosM_near h (by omega)⟩
def crM (M P k : Nat) (x y : Int) : Int := x * siM M P k - y * coM M P k
def crU (k : Nat) (x y : Int) : Rat := (x : Rat) * sU k - (y : Rat) * cU k
theorem crM_near (h : MOk M P Q) {k : Nat} (hk : k ≤ 5400000) {x y : Int} (x0 : 0 ≤ x) (x1 : x ≤ 2147483648) (y0 : 0 ≤ y) (y1 : y ≤ 2147483648) : Nr ((crM M P k x y : Rat) / (M : Rat)) (crU k x y) (4294967296 * (620 / (M : Rat) + tl50)) := by
  obtain ⟨n1, n2⟩ := siM_near h hk
  have a0 : (0 : Rat) ≤ (x : Rat) := by exact_mod_cast x0
  have a1 : (x : Rat) ≤ 2147483648 := icast x1
  have b0 : (0 : Rat) ≤ (y : Rat) := by exact_mod_cast y0
  have b1 : (y : Rat) ≤ 2147483648 := icast y1
  have m1 := n1.mulc a0 a1 n1.pos
  have m2 := n2.mulc b0 b1 n2.pos
  have m3 := m1.sub m2
  unfold crM crU
  have e : ((x * siM M P k - y * coM M P k : Int) : Rat) / (M : Rat) = (x : Rat) * ((siM M P k : Rat) / (M : Rat)) - (y : Rat) * ((coM M P k : Rat) / (M : Rat)) := by push_cast; grind
  rw [e]
  exact m3.le (by grind)
end
theorem mok192 : MOk m192 piA 18446744073709551616 := ⟨m192_pos, m192_fuel, by decide +kernel, piA_ok.1, piA_ok.2, piD_at, by decide⟩
def gU : Rat := 1 / 2305843009213693952
def FarU (R : Nat) : Prop := ∀ r : Nat, 1 ≤ r → r ≤ R → ∀ x y : Int, 0 ≤ x → x ≤ 2147483648 → 0 ≤ y → y ≤ 2147483648 → (x ≠ 0 ∨ y ≠ 0) → gU ≤ (x : Rat) * sinU r - (y : Rat) * cosU r ∨ (x : Rat) * sinU r - (y : Rat) * cosU r ≤ -gU
theorem far_cr {R : Nat} (h : FarU R) {k : Nat} (hk : (1 ≤ k ∧ k ≤ R ∧ k ≤ 2700000) ∨ (2700000 < k ∧ k < 5400000 ∧ 5400000 - k ≤ R)) {x y : Int} (x0 : 0 ≤ x) (x1 : x ≤ 2147483648) (y0 : 0 ≤ y) (y1 : y ≤ 2147483648) (hxy : x ≠ 0 ∨ y ≠ 0) : gU ≤ crU k x y ∨ crU k x y ≤ -gU := by
  unfold crU sU cU
  rcases hk with ⟨h1, h2, h3⟩ | ⟨h1, h2, h3⟩
  · rw [if_neg (by omega), if_neg (by omega)]
    exact h k h1 h2 x y x0 x1 y0 y1 hxy
  · rw [if_pos h1, if_pos h1]
    have := h (5400000 - k) (by omega) h3 y x y0 y1 x0 x1 (by omega)
    generalize sinU (5400000 - k) = s at *
    generalize cosU (5400000 - k) = c at *
    grind
def t100 : Nat := 1267650600228229401496703205376
theorem t100_ok : 1 / 1152921504606846976 ≤ (t100 : Rat) * (1 / (k160 : Rat)) := by decide +kernel
theorem e62_ok : 4294967296 * (64 * 2700000 * (1 / (k160 : Rat))) ≤ 1 / 4611686018427387904 := by decide +kernel
theorem far_of_rot {R : Nat} (hR : R ≤ 2700000) {s c : Nat} (h : FarTo c1U s1U k160 2147483648 1267650600228229401496703205376 (R + 1) s c) : FarU R := by
  intro r h1 h2 x y x0 x1 y0 y1 hxy
  have hf : (t100 : Int) ≤ x * ((rotV c1U s1U k160 r).1 : Int) - y * ((rotV c1U s1U k160 r).2 : Int) ∨ x * ((rotV c1U s1U k160 r).1 : Int) - y * ((rotV c1U s1U k160 r).2 : Int) ≤ -(t100 : Int) := h.2 r h1 (by omega) x y x0 (by omega) hxy
  obtain ⟨n1, n2⟩ := rotU_near (r := r) (by omega)
  change Nr (((rotV c1U s1U k160 r).1 : Rat) / _) _ _ at n1
  change Nr (((rotV c1U s1U k160 r).2 : Rat) / _) _ _ at n2
  have a0 : (0 : Rat) ≤ (x : Rat) := by exact_mod_cast x0
  have a1 : (x : Rat) ≤ 2147483648 := icast x1
  have b0 : (0 : Rat) ≤ (y : Rat) := by exact_mod_cast y0
  have b1 : (y : Rat) ≤ 2147483648 := icast y1
  have m1 := n1.mulc a0 a1 n1.pos
  have m2 := n2.mulc b0 b1 n2.pos
  have m3 := m1.sub m2
  have hr : (r : Rat) ≤ 2700000 := by exact_mod_cast (show r ≤ 2700000 by omega)
  have hr0 : (0 : Rat) ≤ (r : Rat) := by exact_mod_cast Nat.zero_le r
  have hk := k160_rat
  have ht := t100_ok
  have he := e62_ok
  generalize (rotV c1U s1U k160 r).1 = S at *
  generalize (rotV c1U s1U k160 r).2 = C at *
  have e : (x : Rat) * ((S : Rat) / (k160 : Rat)) - (y : Rat) * ((C : Rat) / (k160 : Rat)) = ((x * (S : Int) - y * (C : Int) : Int) : Rat) * (1 / (k160 : Rat)) := by push_cast; grind
  have e2 : 64 * (r : Rat) / (k160 : Rat) = 64 * (r : Rat) * (1 / (k160 : Rat)) := by grind
  rw [e, e2] at m3
  have hp : 0 < 1 / (k160 : Rat) := by rw [Rat.div_def, Rat.one_mul]; exact Rat.inv_pos.2 hk
  generalize 1 / (k160 : Rat) = i at *
  clear e e2 n1 n2 m1 m2 hk
  have er := Rat.mul_le_mul_of_nonneg_right hr (Rat.le_of_lt hp)
  generalize x * (S : Int) - y * (C : Int) = D at *
  obtain ⟨m4, m5⟩ := m3
  unfold gU
  generalize sinU r = su at *
  generalize cosU r = cu at *
  rcases hf with hf | hf
  · left
    have := Rat.mul_le_mul_of_nonneg_right (icastN hf) (Rat.le_of_lt hp)
    generalize (t100 : Rat) = t at *
    grind
  · right
    have := Rat.mul_le_mul_of_nonneg_right (icastM hf) (Rat.le_of_lt hp)
    generalize (t100 : Rat) = t at *
    grind
theorem m192_40 : 1 / (m192 : Rat) ≤ 1 / 100000000000000000000000000000000000000000 := m192_big
theorem cr_prog {k : Nat} (hk : k ≤ 5400000) {x y : Int} (x0 : 0 ≤ x) (x1 : x ≤ 2147483648) (y0 : 0 ≤ y) (y1 : y ≤ 2147483648) (h : gU ≤ crU k x y ∨ crU k x y ≤ -gU) : siA k * x ≤ coA k * y ↔ crU k x y < 0 := by
  obtain ⟨n1, n2⟩ := crM_near mok192 hk x0 x1 y0 y1
  have hb := m192_40
  have e : siA k * x ≤ coA k * y ↔ crM m192 piA k x y ≤ 0 := by
    unfold crM
    rw [(siM_A k).1, (siM_A k).2, Int.mul_comm x, Int.mul_comm y]
    omega
  rw [e]
  have hM := m192_rat
  have hq : (crM m192 piA k x y : Rat) / (m192 : Rat) * (m192 : Rat) = (crM m192 piA k x y : Rat) := Rat.div_mul_cancel (by grind)
  have e620 : 620 / (m192 : Rat) = 620 * (1 / (m192 : Rat)) := by grind
  rw [e620] at n1 n2
  unfold gU at h
  unfold tl50 at n1 n2
  constructor
  · intro hc
    have hc2 : (crM m192 piA k x y : Rat) ≤ 0 := by exact_mod_cast hc
    rcases h with h | h
    · exfalso
      have hp : 0 < (crM m192 piA k x y : Rat) / (m192 : Rat) := by
        generalize (crM m192 piA k x y : Rat) / (m192 : Rat) = z at *
        generalize 1 / (m192 : Rat) = i at *
        grind
      have := Rat.mul_pos hp hM
      rw [hq] at this
      grind
    · grind
  · intro hc
    rcases h with h | h
    · grind
    · have hp : (crM m192 piA k x y : Rat) / (m192 : Rat) ≤ 0 := by
        generalize (crM m192 piA k x y : Rat) / (m192 : Rat) = z at *
        generalize 1 / (m192 : Rat) = i at *
        grind
      have := Rat.mul_le_mul_of_nonneg_right hp (Rat.le_of_lt hM)
      rw [hq, Rat.zero_mul] at this
      exact_mod_cast this
end Go.Proofs.YtkhhdpndcidmgaaGreat
