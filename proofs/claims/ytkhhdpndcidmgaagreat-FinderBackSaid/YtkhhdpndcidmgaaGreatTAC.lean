/- Contracts and plain laws, several texts in one: TgR; CiP -/
import GoSem.Core.Next
import Derived.Test.YtkhhdpndcidmgaaGreatTAA
import Derived.Test.YtkhhdpndcidmgaaGreatTAB
/- The rotation keeps near to the sine and the cosine. No program in sight. -/
namespace Go.Proofs.YtkhhdpndcidmgaaGreat

theorem nfl {a K : Nat} (hK : 0 < K) : Nr (((a / K : Nat) : Rat)) ((a : Rat) / (K : Rat)) 1 := by
  have h1 := Nat.div_add_mod a K
  have h2 := Nat.mod_lt a hK
  have hK2 : (0 : Rat) < (K : Rat) := by exact_mod_cast hK
  have e1 : (a : Rat) = (K : Rat) * ((a / K : Nat) : Rat) + ((a % K : Nat) : Rat) := by exact_mod_cast h1.symm
  have e2 : ((a % K : Nat) : Rat) ≤ (K : Rat) := by exact_mod_cast Nat.le_of_lt h2
  have e3 : (0 : Rat) ≤ ((a % K : Nat) : Rat) := by exact_mod_cast Nat.zero_le _
  have e4 : (a : Rat) / (K : Rat) = ((a / K : Nat) : Rat) + ((a % K : Nat) : Rat) / (K : Rat) := by rw [e1]; grind
  have e5 : (0 : Rat) ≤ ((a % K : Nat) : Rat) / (K : Rat) := by rw [Rat.div_def]; exact rmul0 e3 (Rat.le_of_lt (Rat.inv_pos.2 hK2))
  have e6 : ((a % K : Nat) : Rat) / (K : Rat) ≤ 1 := by
    refine Rat.le_of_mul_le_mul_right (c := (K : Rat)) ?_ hK2
    rw [Rat.div_mul_cancel (by grind)]
    grind
  rw [e4]
  constructor <;> grind
theorem xi_in {n : Nat} (h : n ≤ 2700001) : 0 ≤ xi n ∧ xi n ≤ 4 / 5 := by
  have h1 : (piN : Rat) * 3437000 ≤ (piD : Rat) := by exact_mod_cast (show piN * 3437000 ≤ piD by decide +kernel)
  have hd : (0 : Rat) < (piD : Rat) := by exact_mod_cast (show 0 < piD by decide +kernel)
  have h2 : (0 : Rat) ≤ (piN : Rat) := by exact_mod_cast Nat.zero_le _
  have q0 : (0 : Rat) ≤ (piN : Rat) / (piD : Rat) := by rw [Rat.div_def]; exact rmul0 h2 (Rat.le_of_lt (Rat.inv_pos.2 hd))
  have q1 : (piN : Rat) / (piD : Rat) ≤ 1 / 3437000 := by
    refine Rat.le_of_mul_le_mul_right (c := (piD : Rat)) ?_ hd
    rw [Rat.div_mul_cancel (by grind)]
    grind
  have hn : (n : Rat) ≤ 2700001 := by exact_mod_cast h
  have hn0 : (0 : Rat) ≤ (n : Rat) := by exact_mod_cast Nat.zero_le _
  unfold xi
  refine ⟨rmul0 hn0 q0, ?_⟩
  have := rmul hn0 hn q0 q1
  grind
theorem xi_one : 0 ≤ xi 1 ∧ xi 1 ≤ 1 / 3437000 := by
  have h1 : (piN : Rat) * 3437000 ≤ (piD : Rat) := by exact_mod_cast (show piN * 3437000 ≤ piD by decide +kernel)
  have hd : (0 : Rat) < (piD : Rat) := by exact_mod_cast (show 0 < piD by decide +kernel)
  refine ⟨(xi_in (by decide)).1, ?_⟩
  unfold xi
  refine Rat.le_of_mul_le_mul_right (c := (piD : Rat)) ?_ hd
  have : ((1 : Nat) : Rat) * ((piN : Rat) / (piD : Rat)) * (piD : Rat) = (piN : Rat) := by
    rw [Rat.mul_assoc, Rat.div_mul_cancel (by grind)]
    simp
  rw [this]
  grind
theorem sq_in {x : Rat} (h : 0 ≤ x ∧ x ≤ 4 / 5) : 0 ≤ x * x ∧ x * x ≤ 16 / 25 := by
  refine ⟨rmul0 h.1 h.1, ?_⟩
  have := rmul h.1 h.2 h.1 h.2
  grind
theorem cos_in {n : Nat} (h : n ≤ 2700001) : 17 / 25 ≤ cosT n ∧ cosT n ≤ 1 := by
  have hq := sq_in (xi_in h)
  obtain ⟨a, b⟩ := tay_in hq.1 (by grind) (m := 14) (d := 1) (by decide)
  unfold cosT
  constructor <;> grind
theorem sin_in {n : Nat} (h : n ≤ 2700001) : 0 ≤ sinT n ∧ sinT n ≤ xi n := by
  have hx := xi_in h
  have hq := sq_in hx
  obtain ⟨a, b⟩ := tay_in hq.1 (by grind) (m := 14) (d := 2) (by decide)
  unfold sinT
  generalize tay (xi n * xi n) 2 14 = t at *
  have h1 := rmul0 hx.1 (show 0 ≤ 1 - t by grind)
  have h2 := rmul0 hx.1 a
  constructor <;> grind
def k96 : Rat := 79228162514264337593543950336
theorem one_ab : (evI lisS 1 * 79228162514264337593543950336 - 23046538269650701392778 * (facW : Int)).natAbs ≤ facW ∧ (evI lisC 1 * 79228162514264337593543950336 - 79228162514260985610427347966 * (facW : Int)).natAbs ≤ facW := by decide +kernel
theorem one_near : Nr (23046538269650701392778 / k96) (sinT 1) (1 / k96) ∧ Nr (79228162514260985610427347966 / k96) (cosT 1) (1 / k96) := by
  have h2 := lisS_ok 1
  have h3 := lisC_ok 1
  have hW := facW_rat
  have hk : (0 : Rat) < k96 := by decide +kernel
  have hM : (facW : Rat) ≤ 1 / k96 * ((facW : Rat) * k96) := by
    have : 1 / k96 * ((facW : Rat) * k96) = (facW : Rat) := by grind
    rw [this]; exact Rat.le_refl
  have hp : (0 : Rat) < (facW : Rat) * k96 := Rat.mul_pos hW hk
  constructor
  · refine (nr_of_int (W := (facW : Rat) * k96) (x := evI lisS 1 * 79228162514264337593543950336 - 23046538269650701392778 * (facW : Int)) hp ?_ one_ab.1 hM).symm
    push_cast at h2 ⊢
    rw [← h2]
    unfold k96
    grind
  · refine (nr_of_int (W := (facW : Rat) * k96) (x := evI lisC 1 * 79228162514264337593543950336 - 79228162514260985610427347966 * (facW : Int)) hp ?_ one_ab.2 hM).symm
    push_cast at h3 ⊢
    rw [← h3]
    unfold k96
    grind
theorem rot_step {K s c s1 c1 : Nat} {k S C S1 C1 e ep S' C' : Rat} (hK : 0 < K) (hk : k = (K : Rat)) (hs : Nr ((s : Rat) / k) S e) (hc : Nr ((c : Rat) / k) C e)
    (hs1 : Nr ((s1 : Rat) / k) S1 (1 / k)) (hc1 : Nr ((c1 : Rat) / k) C1 (1 / k)) (SS : S ≤ 4 / 5) (C0 : 17 / 25 ≤ C) (CC : C ≤ 1)
    (a0 : 0 ≤ S1) (a1 : S1 ≤ 1 / 3437000) (b0 : 17 / 25 ≤ C1) (b1 : C1 ≤ 1) (he : e ≤ 1 / 100) (hk1 : 1 / k ≤ 1 / 100)
    (hS' : Nr S' (S * C1 + C * S1) ep) (hC' : Nr C' (C * C1 - S * S1) ep) :
    Nr (((s * c1 + c * s1) / K : Nat) / k) S' (e + e / 3437000 + 4 / k + ep) ∧ Nr (((c * c1 - s * s1) / K : Nat) / k) C' (e + e / 3437000 + 4 / k + ep) := by
  have hk0 : (0 : Rat) < k := by rw [hk]; exact_mod_cast hK
  have hi : 0 < 1 / k := by rw [Rat.div_def, Rat.one_mul]; exact Rat.inv_pos.2 hk0
  have e0 := hs.pos
  have nn : ∀ a : Nat, (0 : Rat) ≤ (a : Rat) / k := fun a => by
    rw [Rat.div_def]; exact rmul0 (by exact_mod_cast Nat.zero_le _) (Rat.le_of_lt (Rat.inv_pos.2 hk0))
  have s0 := nn s
  have c0 := nn c
  have s10 := nn s1
  have sm : (s : Rat) / k ≤ 1 := by obtain ⟨h1, h2⟩ := hs; grind
  have cm : (c : Rat) / k ≤ 2 := by obtain ⟨h1, h2⟩ := hc; grind
  have cl : 1 / 2 ≤ (c : Rat) / k := by obtain ⟨h1, h2⟩ := hc; grind
  have c1l : 1 / 2 ≤ (c1 : Rat) / k := by obtain ⟨h1, h2⟩ := hc1; grind
  have s1m : (s1 : Rat) / k ≤ 1 / 50 := by obtain ⟨h1, h2⟩ := hs1; grind
  -- products
  have p1 := hs.mul hc1 s0 sm (show 0 ≤ C1 by grind) b1
  have p2 := hc.mul hs1 c0 cm a0 a1
  have p3 := hc.mul hc1 c0 cm (show 0 ≤ C1 by grind) b1
  have p4 := hs.mul hs1 s0 sm a0 a1
  have q1 := (p1.add p2)
  have q2 := (p3.sub p4)
  have fin : ∀ {x : Nat} {A B E : Rat}, (x : Rat) / k / k = A → Nr A B E → Nr (((x / K : Nat) : Rat) / k) B (1 / k + E) := fun {x A B E} h1 h2 => by
    have h3 := nfl (a := x) hK
    rw [← hk] at h3
    have h4 := h3.mulc (c := 1 / k) (m := 1 / k) (Rat.le_of_lt hi) (by grind) (by grind)
    have h5 : Nr (((x / K : Nat) : Rat) / k) A (1 / k) := by
      rw [← h1]
      have e1 : 1 / k * ((x / K : Nat) : Rat) = ((x / K : Nat) : Rat) / k := by grind
      have e2 : 1 / k * ((x : Rat) / k) = (x : Rat) / k / k := by grind
      rw [e1, e2] at h4
      exact h4.le (by grind)
    exact h5.trans h2
  constructor
  · have := (fin (x := s * c1 + c * s1) (by push_cast; grind) q1).trans hS'.symm
    refine this.le ?_
    grind
  · have hle : s * s1 ≤ c * c1 := by
      have h1 := rmul s0 sm s10 s1m
      have h2 := rmul (show (0 : Rat) ≤ 1 / 2 by grind) cl (show (0 : Rat) ≤ 1 / 2 by grind) c1l
      have h3 : (s : Rat) / k * ((s1 : Rat) / k) ≤ (c : Rat) / k * ((c1 : Rat) / k) := by grind
      have h4 := Rat.mul_le_mul_of_nonneg_right h3 (Rat.le_of_lt (Rat.mul_pos hk0 hk0))
      have h5 : (s : Rat) * (s1 : Rat) ≤ (c : Rat) * (c1 : Rat) := by
        have x1 : (s : Rat) / k * ((s1 : Rat) / k) * (k * k) = (s : Rat) * (s1 : Rat) := by grind
        have x2 : (c : Rat) / k * ((c1 : Rat) / k) * (k * k) = (c : Rat) * (c1 : Rat) := by grind
        rw [x1, x2] at h4; exact h4
      exact_mod_cast h5
    have hsub : ((c * c1 - s * s1 : Nat) : Rat) = (c : Rat) * c1 - (s : Rat) * s1 := by
      have h1 : c * c1 - s * s1 + s * s1 = c * c1 := Nat.sub_add_cancel hle
      have h2 : ((c * c1 - s * s1 : Nat) : Rat) + (s : Rat) * s1 = (c : Rat) * c1 := by exact_mod_cast h1
      grind
    have := (fin (x := c * c1 - s * s1) (by rw [hsub]; grind) q2).trans hC'.symm
    refine this.le ?_
    grind
theorem tay_zero : ∀ {m d : Nat}, tay 0 d m = 0
  | 0, _ => rfl
  | m + 1, d => by
    simp only [tay]
    rw [Rat.div_def, Rat.zero_mul, Rat.zero_mul]
theorem sin_zero : sinT 0 = 0 := by unfold sinT xi; grind
theorem cos_zero : cosT 0 = 1 := by
  have : xi 0 * xi 0 = 0 := by unfold xi; grind
  unfold cosT
  rw [this, tay_zero]
  grind
theorem rotN_succ (r : Nat) : rotN (r + 1) = (((rotN r).1 * 79228162514260985610427347966 + (rotN r).2 * 23046538269650701392778) / 79228162514264337593543950336, ((rotN r).2 * 79228162514260985610427347966 - (rotN r).1 * 23046538269650701392778) / 79228162514264337593543950336) := rfl
theorem rot_near : ∀ {r : Nat}, r ≤ 2700000 → Nr (((rotN r).1 : Rat) / k96) (sinT r) (64 * (r : Rat) / k96) ∧ Nr (((rotN r).2 : Rat) / k96) (cosT r) (64 * (r : Rat) / k96)
  | 0, _ => by
    rw [sin_zero, cos_zero, show rotN 0 = (0, 79228162514264337593543950336) from rfl]
    have hk : k96 / k96 = 1 := by unfold k96; grind
    constructor
    · constructor <;> grind
    · have : ((79228162514264337593543950336 : Nat) : Rat) / k96 = 1 := hk
      rw [this]
      constructor <;> grind
  | r + 1, h => by
    obtain ⟨h1, h2⟩ := rot_near (r := r) (by omega)
    obtain ⟨h3, h4⟩ := one_near
    have hx := xi_in (n := r) (by omega)
    have hs := sin_in (n := r) (by omega)
    have hc := cos_in (n := r) (by omega)
    have hs1 := sin_in (n := 1) (by omega)
    have hc1 := cos_in (n := 1) (by omega)
    have hx1 := xi_one
    have hr : (r : Rat) ≤ 2700000 := by exact_mod_cast (show r ≤ 2700000 by omega)
    have hr0 : (0 : Rat) ≤ (r : Rat) := by exact_mod_cast Nat.zero_le r
    have hki : 1 / k96 * k96 = 1 := by unfold k96; grind
    have hk : 0 < 1 / k96 ∧ 1 / k96 ≤ 1 / 10000000000000000000000000000 := by
      unfold k96
      constructor <;> grind
    have he : eps ≤ 1 / k96 := by unfold eps k96; grind
    have g1 : 64 * (r : Rat) / k96 ≤ 1 / 100 := by
      have := rmul hr0 hr (Rat.le_of_lt hk.1) hk.2
      grind
    have st := rot_step (K := 79228162514264337593543950336) (k := k96) (s1 := 23046538269650701392778) (c1 := 79228162514260985610427347966) (by decide) rfl h1 h2 h3 h4 (by grind) hc.1 hc.2 hs1.1 (by grind) hc1.1 hc1.2 g1 (by grind) (sin_step (n := r) (by omega)) (cos_step (n := r) (by omega))
    rw [rotN_succ]
    have e1 : 64 * (r : Rat) / k96 + 64 * (r : Rat) / k96 / 3437000 + 4 / k96 + eps ≤ 64 * ((r + 1 : Nat) : Rat) / k96 := by
      have h5 := rmul hr0 hr (Rat.le_of_lt hk.1) (show 1 / k96 ≤ 1 / k96 by exact Rat.le_refl)
      push_cast
      grind
    exact ⟨st.1.le e1, st.2.le e1⟩
def Bt (f : Nat) (v : Rat) : Prop := (f : Rat) / 1073741824 + 1000 / 4611686018427387904 ≤ v ∧ v ≤ ((f : Rat) + 1) / 1073741824 - 1000 / 4611686018427387904
theorem gap_ok {G M x : Nat} (hG : 2 * G < M) (h : gapV G (2 * G) M x) : x / M * M + G ≤ x ∧ x + G ≤ (x / M + 1) * M := by
  unfold gapV at h
  have hM : 0 < M := by omega
  have h1 := Nat.div_add_mod x M
  have h2 := Nat.mod_lt x hM
  rw [Nat.add_mod, Nat.mod_eq_of_lt (show G < M by omega)] at h
  rw [Nat.add_mul, Nat.one_mul, Nat.mul_comm]
  generalize x % M = y at *
  generalize M * (x / M) = z at *
  have h4 : G ≤ y ∧ y + G ≤ M := by
    by_cases h3 : y + G < M
    · rw [Nat.mod_eq_of_lt h3] at h; omega
    · rw [Nat.mod_eq_sub_mod (by omega), Nat.mod_eq_of_lt (by omega)] at h; omega
  omega
theorem bt_of {x r : Nat} {v : Rat} (hr : r ≤ 2700000) (h : gapN x) (hn : Nr ((x : Rat) / k96) v (64 * (r : Rat) / k96)) : Bt (x / 73786976294838206464) v := by
  obtain ⟨h1, h2⟩ := gap_ok (G := 17592186044416) (M := 73786976294838206464) (by decide) h
  generalize x / 73786976294838206464 = f at *
  have e1 : (f : Rat) * 73786976294838206464 + 17592186044416 ≤ (x : Rat) := by exact_mod_cast h1
  have e2 : (x : Rat) + 17592186044416 ≤ ((f : Rat) + 1) * 73786976294838206464 := by exact_mod_cast h2
  have hr2 : (r : Rat) ≤ 2700000 := by exact_mod_cast hr
  have hk : (0 : Rat) ≤ 1 / k96 := by unfold k96; grind
  obtain ⟨h3, h4⟩ := hn
  have e3 := Rat.mul_le_mul_of_nonneg_right e1 hk
  have e4 := Rat.mul_le_mul_of_nonneg_right e2 hk
  have e5 := Rat.mul_le_mul_of_nonneg_right hr2 hk
  unfold Bt
  unfold k96 at *
  constructor <;> grind
end Go.Proofs.YtkhhdpndcidmgaaGreat
/- A rotation of the plane by exact rationals, by about a unit of angle: sums of angles are exact, and each sine lies in the cell that the program finds. No program in sight. -/
namespace Go.Proofs.YtkhhdpndcidmgaaGreat

theorem rabs {x y m f : Rat} (h1 : -m ≤ x) (h2 : x ≤ m) (h3 : -f ≤ y) (h4 : y ≤ f) : -(m * f) ≤ x * y ∧ x * y ≤ m * f := by
  have a1 := rmul0 (show 0 ≤ m - x by grind) (show 0 ≤ f + y by grind)
  have a2 := rmul0 (show 0 ≤ m + x by grind) (show 0 ≤ f - y by grind)
  have a3 := rmul0 (show 0 ≤ m - x by grind) (show 0 ≤ f - y by grind)
  have a4 := rmul0 (show 0 ≤ m + x by grind) (show 0 ≤ f + y by grind)
  constructor <;> grind
theorem sq_one {x y : Rat} (h : x * x + y * y = 1) : -1 ≤ x ∧ x ≤ 1 := by
  have hy : 0 ≤ y * y := by
    rcases (Rat.le_total : (0 : Rat) ≤ y ∨ y ≤ 0) with g | g
    · exact rmul0 g g
    · have := rmul0 (show 0 ≤ -y by grind) (show 0 ≤ -y by grind); grind
  constructor
  · rcases (Rat.le_total : ((-1) : Rat) ≤ x ∨ x ≤ (-1)) with g | g
    · exact g
    · have a := rmul0 (show 0 ≤ -1 - x by grind) (show 0 ≤ -1 - x by grind)
      grind
  · rcases (Rat.le_total : (x : Rat) ≤ 1 ∨ 1 ≤ x) with g | g
    · exact g
    · have a := rmul0 (show 0 ≤ x - 1 by grind) (show 0 ≤ x - 1 by grind)
      grind
theorem Nr.prod {a b c d e f m n : Rat} (h : Nr a b e) (g : Nr c d f) (a0 : -m ≤ a) (a1 : a ≤ m) (d0 : -n ≤ d) (d1 : d ≤ n) : Nr (a * c) (b * d) (m * f + n * e) := by
  obtain ⟨h1, h2⟩ := h
  obtain ⟨g1, g2⟩ := g
  obtain ⟨p1, p2⟩ := rabs a0 a1 (show -f ≤ c - d by grind) (show c - d ≤ f by grind)
  obtain ⟨q1, q2⟩ := rabs d0 d1 (show -e ≤ a - b by grind) (show a - b ≤ e by grind)
  constructor <;> grind
def c1R : Rat := (340282366920938463463374607431768211456 * 340282366920938463463374607431768211456 - 49492064077082142867227310776778 * 49492064077082142867227310776778) / (340282366920938463463374607431768211456 * 340282366920938463463374607431768211456 + 49492064077082142867227310776778 * 49492064077082142867227310776778)
def s1R : Rat := 2 * 49492064077082142867227310776778 * 340282366920938463463374607431768211456 / (340282366920938463463374607431768211456 * 340282366920938463463374607431768211456 + 49492064077082142867227310776778 * 49492064077082142867227310776778)
theorem unit1 : c1R * c1R + s1R * s1R = 1 := by decide +kernel
theorem unit_near : Nr s1R (23046538269650701392778 / k96) (1 / k96) ∧ Nr c1R (79228162514260985610427347966 / k96) (1 / k96) := by
  unfold Nr
  exact ⟨⟨by decide +kernel, by decide +kernel⟩, ⟨by decide +kernel, by decide +kernel⟩⟩
def zsc : Nat → Rat × Rat
  | 0 => (0, 1)
  | n + 1 => ((zsc n).1 * c1R + (zsc n).2 * s1R, (zsc n).2 * c1R - (zsc n).1 * s1R)
def zs (n : Nat) : Rat := (zsc n).1
def zc (n : Nat) : Rat := (zsc n).2
theorem zs_0 : zs 0 = 0 := rfl
theorem zc_0 : zc 0 = 1 := rfl
theorem zs_s (n : Nat) : zs (n + 1) = zs n * c1R + zc n * s1R := rfl
theorem zc_s (n : Nat) : zc (n + 1) = zc n * c1R - zs n * s1R := rfl
theorem z_unit : ∀ n, zs n * zs n + zc n * zc n = 1
  | 0 => by rw [zs_0, zc_0]; grind
  | n + 1 => by
    have h := z_unit n
    have u := unit1
    rw [zs_s, zc_s]
    generalize zs n = a at *
    generalize zc n = b at *
    grind
theorem z_add (a : Nat) : ∀ b, zs (a + b) = zs a * zc b + zc a * zs b ∧ zc (a + b) = zc a * zc b - zs a * zs b
  | 0 => by rw [Nat.add_zero, zs_0, zc_0]; constructor <;> grind
  | b + 1 => by
    obtain ⟨h1, h2⟩ := z_add a b
    rw [← Nat.add_assoc, zs_s, zc_s, zs_s, zc_s, h1, h2]
    constructor <;> grind
theorem z_sub {a b : Nat} (h : b ≤ a) : zs (a - b) = zs a * zc b - zc a * zs b ∧ zc (a - b) = zc a * zc b + zs a * zs b := by
  obtain ⟨h1, h2⟩ := z_add (a - b) b
  rw [Nat.sub_add_cancel h] at h1 h2
  have u := z_unit b
  rw [h1, h2]
  generalize zs (a - b) = x at *
  generalize zc (a - b) = y at *
  generalize zs b = p at *
  generalize zc b = q at *
  constructor <;> grind
def zS (n : Int) : Rat := if 0 ≤ n then zs n.toNat else -(zs (-n).toNat)
def zC (n : Int) : Rat := if 0 ≤ n then zc n.toNat else zc (-n).toNat
theorem zS_nat (n : Nat) : zS (n : Int) = zs n := by unfold zS; rw [if_pos (by omega)]; rfl
theorem zC_nat (n : Nat) : zC (n : Int) = zc n := by unfold zC; rw [if_pos (by omega)]; rfl
theorem zS_neg (n : Int) : zS (-n) = -(zS n) := by
  unfold zS
  rcases Int.lt_trichotomy n 0 with h | h | h
  · rw [if_pos (by omega), if_neg (by omega)]; grind
  · subst h
    simp only [Int.neg_zero, Int.le_refl, if_true]
    show zs 0 = -(zs 0)
    rw [zs_0]; grind
  · rw [if_neg (by omega), if_pos (by omega), Int.neg_neg]
theorem zC_neg (n : Int) : zC (-n) = zC n := by
  unfold zC
  rcases Int.lt_trichotomy n 0 with h | h | h
  · rw [if_pos (by omega), if_neg (by omega)]
  · subst h; rfl
  · rw [if_neg (by omega), if_pos (by omega), Int.neg_neg]
theorem Z_unit (n : Int) : zS n * zS n + zC n * zC n = 1 := by
  unfold zS zC
  split
  · exact z_unit _
  · have := z_unit (-n).toNat
    grind
theorem Z_addN (a b : Nat) : zS ((a : Int) - (b : Int)) = zs a * zc b - zc a * zs b ∧ zC ((a : Int) - (b : Int)) = zc a * zc b + zs a * zs b := by
  by_cases h : b ≤ a
  · rw [show (a : Int) - (b : Int) = ((a - b : Nat) : Int) by omega, zS_nat, zC_nat]
    exact z_sub h
  · obtain ⟨h1, h2⟩ := z_sub (a := b) (b := a) (by omega)
    rw [show (a : Int) - (b : Int) = -((b - a : Nat) : Int) by omega, zS_neg, zC_neg, zS_nat, zC_nat, h1, h2]
    constructor <;> grind
theorem Z_add (a b : Int) : zS (a + b) = zS a * zC b + zC a * zS b ∧ zC (a + b) = zC a * zC b - zS a * zS b := by
  have ha : ∃ m : Nat, a = (m : Int) ∨ a = -(m : Int) := ⟨a.natAbs, by omega⟩
  have hb : ∃ m : Nat, b = (m : Int) ∨ b = -(m : Int) := ⟨b.natAbs, by omega⟩
  obtain ⟨m, hm⟩ := ha
  obtain ⟨n, hn⟩ := hb
  rcases hm with rfl | rfl <;> rcases hn with rfl | rfl
  · obtain ⟨h1, h2⟩ := z_add m n
    rw [show (m : Int) + (n : Int) = ((m + n : Nat) : Int) by omega]
    simp only [zS_nat, zC_nat]
    exact ⟨h1, h2⟩
  · obtain ⟨h1, h2⟩ := Z_addN m n
    rw [show (m : Int) + -(n : Int) = (m : Int) - (n : Int) by omega, h1, h2]
    simp only [zS_nat, zC_nat, zS_neg, zC_neg]
    constructor <;> grind
  · obtain ⟨h1, h2⟩ := Z_addN n m
    rw [show -(m : Int) + (n : Int) = (n : Int) - (m : Int) by omega, h1, h2]
    simp only [zS_nat, zC_nat, zS_neg, zC_neg]
    constructor <;> grind
  · obtain ⟨h1, h2⟩ := z_add m n
    rw [show -(m : Int) + -(n : Int) = -((m + n : Nat) : Int) by omega]
    simp only [zS_nat, zC_nat, zS_neg, zC_neg]
    rw [h1, h2]
    constructor <;> grind
theorem Z_sub (a b : Int) : zS (a - b) = zS a * zC b - zC a * zS b ∧ zC (a - b) = zC a * zC b + zS a * zS b := by
  obtain ⟨h1, h2⟩ := Z_add a (-b)
  rw [Int.sub_eq_add_neg, h1, h2, zS_neg, zC_neg]
  constructor <;> grind
theorem Z_in (n : Int) : (-1 ≤ zS n ∧ zS n ≤ 1) ∧ -1 ≤ zC n ∧ zC n ≤ 1 := ⟨sq_one (Z_unit n), sq_one (y := zS n) (by have := Z_unit n; grind)⟩
theorem z_near : ∀ {r : Nat}, r ≤ 2700000 → Nr (zs r) (sinT r) (64 * (r : Rat) / k96) ∧ Nr (zc r) (cosT r) (64 * (r : Rat) / k96)
  | 0, _ => by
    rw [sin_zero, cos_zero, zs_0, zc_0]
    constructor
    · constructor <;> grind
    · constructor <;> grind
  | r + 1, h => by
    obtain ⟨h1, h2⟩ := z_near (r := r) (by omega)
    obtain ⟨h3, h4⟩ := one_near
    obtain ⟨u1, u2⟩ := unit_near
    have v1 := u1.trans h3
    have v2 := u2.trans h4
    have hs := sin_in (n := r) (by omega)
    have hx := xi_in (n := r) (by omega)
    have hc := cos_in (n := r) (by omega)
    have hs1 := sin_in (n := 1) (by omega)
    have hc1 := cos_in (n := 1) (by omega)
    have hx1 := xi_one
    have zu := z_unit r
    obtain ⟨z1, z2⟩ := sq_one zu
    obtain ⟨z3, z4⟩ := sq_one (x := zc r) (y := zs r) (by grind)
    have hr0 : (0 : Rat) ≤ (r : Rat) := by exact_mod_cast Nat.zero_le r
    have hr : (r : Rat) ≤ 2700000 := by exact_mod_cast (show r ≤ 2700000 by omega)
    have hk : 0 < 1 / k96 := by unfold k96; grind
    have he : eps ≤ 1 / k96 := by unfold eps k96; grind
    have p1 := h1.prod v2 z1 z2 (show -1 ≤ cosT 1 by grind) hc1.2
    have p2 := h2.prod v1 z3 z4 (show -(1 / 3437000) ≤ sinT 1 by grind) (show sinT 1 ≤ 1 / 3437000 by grind)
    have p3 := h2.prod v2 z3 z4 (show -1 ≤ cosT 1 by grind) hc1.2
    have p4 := h1.prod v1 z1 z2 (show -(1 / 3437000) ≤ sinT 1 by grind) (show sinT 1 ≤ 1 / 3437000 by grind)
    have q1 := (p1.add p2).trans (sin_step (n := r) (by omega)).symm
    have q2 := (p3.sub p4).trans (cos_step (n := r) (by omega)).symm
    rw [zs_s, zc_s]
    have e1 : 1 * (1 / k96 + 1 / k96) + 1 * (64 * (r : Rat) / k96) + (1 * (1 / k96 + 1 / k96) + 1 / 3437000 * (64 * (r : Rat) / k96)) + eps ≤ 64 * ((r + 1 : Nat) : Rat) / k96 := by
      have h5 := rmul hr0 hr (Rat.le_of_lt hk) (show 1 / k96 ≤ 1 / k96 by exact Rat.le_refl)
      push_cast
      grind
    exact ⟨q1.le e1, q2.le e1⟩
end Go.Proofs.YtkhhdpndcidmgaaGreat
