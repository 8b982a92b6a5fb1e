/- Contracts and plain laws, several texts in one: TgR; TgQ; Nm5; TgK; TgS; TgB; TgM; AsP; AmP -/
import GoSem.Core.Next
import Derived.Test.YtnnmfdeeicpdlaaGreatProg
import Derived.WalkKit
import Derived.WalkSpells
import Derived.WalkLawsBesides
import Derived.Lib.Hide
import Derived.BigQuiet
import Derived.Test.YtnnmfdeeicpdlaaGreatPAA
import Derived.Test.YtnnmfdeeicpdlaaGreatPAB
import Derived.Test.YtnnmfdeeicpdlaaGreatPAC
/- The rotation keeps near to the sine and the cosine. No program in sight. -/
namespace Go.Proofs.YtnnmfdeeicpdlaaGreat

theorem nfl {a K : Nat} (hK : 0 < K) : Nr (((a / K : Nat) : Rat)) ((a : Rat) / (K : Rat)) 1 := by
  have h1 := Nat.div_add_mod a K
  have h2 := Nat.mod_lt a hK
  have hK2 : (0 : Rat) < (K : Rat) := by exact_mod_cast hK
  have e1 : (a : Rat) = (K : Rat) * ((a / K : Nat) : Rat) + ((a % K : Nat) : Rat) := by exact_mod_cast h1.symm
  have e2 : ((a % K : Nat) : Rat) ≤ (K : Rat) := by exact_mod_cast Nat.le_of_lt h2
  have e3 : (0 : Rat) ≤ ((a % K : Nat) : Rat) := by exact_mod_cast Nat.zero_le _
  have e4 : (a : Rat) / (K : Rat) = ((a / K : Nat) : Rat) + ((a % K : Nat) : Rat) / (K : Rat) := by rw [e1]; grind
  have e5 : (0 : Rat) ≤ ((a % K : Nat) : Rat) / (K : Rat) := by rw [Rat.div_def]; exact rmul0 e3 (Rat.le_of_lt (Rat.inv_pos.2 hK2))
  have e6 : ((a % K : Nat) : Rat) / (K : Rat) ≤ 1 := by
    refine Rat.le_of_mul_le_mul_right (c := (K : Rat)) ?_ hK2
    rw [Rat.div_mul_cancel (by grind)]
    grind
  rw [e4]
  constructor <;> grind
theorem xi_in {n : Nat} (h : n ≤ 2700001) : 0 ≤ xi n ∧ xi n ≤ 4 / 5 := by
  have h1 : (piN : Rat) * 3437000 ≤ (piD : Rat) := by exact_mod_cast (show piN * 3437000 ≤ piD by decide +kernel)
  have hd : (0 : Rat) < (piD : Rat) := by exact_mod_cast (show 0 < piD by decide +kernel)
  have h2 : (0 : Rat) ≤ (piN : Rat) := by exact_mod_cast Nat.zero_le _
  have q0 : (0 : Rat) ≤ (piN : Rat) / (piD : Rat) := by rw [Rat.div_def]; exact rmul0 h2 (Rat.le_of_lt (Rat.inv_pos.2 hd))
  have q1 : (piN : Rat) / (piD : Rat) ≤ 1 / 3437000 := by
    refine Rat.le_of_mul_le_mul_right (c := (piD : Rat)) ?_ hd
    rw [Rat.div_mul_cancel (by grind)]
    grind
  have hn : (n : Rat) ≤ 2700001 := by exact_mod_cast h
  have hn0 : (0 : Rat) ≤ (n : Rat) := by exact_mod_cast Nat.zero_le _
  unfold xi
  refine ⟨rmul0 hn0 q0, ?_⟩
  have := rmul hn0 hn q0 q1
  grind
theorem xi_one : 0 ≤ xi 1 ∧ xi 1 ≤ 1 / 3437000 := by
  have h1 : (piN : Rat) * 3437000 ≤ (piD : Rat) := by exact_mod_cast (show piN * 3437000 ≤ piD by decide +kernel)
  have hd : (0 : Rat) < (piD : Rat) := by exact_mod_cast (show 0 < piD by decide +kernel)
  refine ⟨(xi_in (by decide)).1, ?_⟩
  unfold xi
  refine Rat.le_of_mul_le_mul_right (c := (piD : Rat)) ?_ hd
  have : ((1 : Nat) : Rat) * ((piN : Rat) / (piD : Rat)) * (piD : Rat) = (piN : Rat) := by
    rw [Rat.mul_assoc, Rat.div_mul_cancel (by grind)]
    simp
  rw [this]
  grind
theorem sq_in {x : Rat} (h : 0 ≤ x ∧ x ≤ 4 / 5) : 0 ≤ x * x ∧ x * x ≤ 16 / 25 := by
  refine ⟨rmul0 h.1 h.1, ?_⟩
  have := rmul h.1 h.2 h.1 h.2
  grind
theorem cos_in {n : Nat} (h : n ≤ 2700001) : 17 / 25 ≤ cosT n ∧ cosT n ≤ 1 := by
  have hq := sq_in (xi_in h)
  obtain ⟨a, b⟩ := tay_in hq.1 (by grind) (m := 14) (d := 1) (by decide)
  unfold cosT
  constructor <;> grind
theorem sin_in {n : Nat} (h : n ≤ 2700001) : 0 ≤ sinT n ∧ sinT n ≤ xi n := by
  have hx := xi_in h
  have hq := sq_in hx
  obtain ⟨a, b⟩ := tay_in hq.1 (by grind) (m := 14) (d := 2) (by decide)
  unfold sinT
  generalize tay (xi n * xi n) 2 14 = t at *
  have h1 := rmul0 hx.1 (show 0 ≤ 1 - t by grind)
  have h2 := rmul0 hx.1 a
  constructor <;> grind
def k96 : Rat := 79228162514264337593543950336
theorem one_ab : (evI lisS 1 * 79228162514264337593543950336 - 23046538269650701392778 * (facW : Int)).natAbs ≤ facW ∧ (evI lisC 1 * 79228162514264337593543950336 - 79228162514260985610427347966 * (facW : Int)).natAbs ≤ facW := by decide +kernel
theorem one_near : Nr (23046538269650701392778 / k96) (sinT 1) (1 / k96) ∧ Nr (79228162514260985610427347966 / k96) (cosT 1) (1 / k96) := by
  have h2 := lisS_ok 1
  have h3 := lisC_ok 1
  have hW := facW_rat
  have hk : (0 : Rat) < k96 := by decide +kernel
  have hM : (facW : Rat) ≤ 1 / k96 * ((facW : Rat) * k96) := by
    have : 1 / k96 * ((facW : Rat) * k96) = (facW : Rat) := by grind
    rw [this]; exact Rat.le_refl
  have hp : (0 : Rat) < (facW : Rat) * k96 := Rat.mul_pos hW hk
  constructor
  · refine (nr_of_int (W := (facW : Rat) * k96) (x := evI lisS 1 * 79228162514264337593543950336 - 23046538269650701392778 * (facW : Int)) hp ?_ one_ab.1 hM).symm
    push_cast at h2 ⊢
    rw [← h2]
    unfold k96
    grind
  · refine (nr_of_int (W := (facW : Rat) * k96) (x := evI lisC 1 * 79228162514264337593543950336 - 79228162514260985610427347966 * (facW : Int)) hp ?_ one_ab.2 hM).symm
    push_cast at h3 ⊢
    rw [← h3]
    unfold k96
    grind
theorem rot_step {K s c s1 c1 : Nat} {k S C S1 C1 e ep S' C' : Rat} (hK : 0 < K) (hk : k = (K : Rat)) (hs : Nr ((s : Rat) / k) S e) (hc : Nr ((c : Rat) / k) C e)
    (hs1 : Nr ((s1 : Rat) / k) S1 (1 / k)) (hc1 : Nr ((c1 : Rat) / k) C1 (1 / k)) (SS : S ≤ 4 / 5) (C0 : 17 / 25 ≤ C) (CC : C ≤ 1)
    (a0 : 0 ≤ S1) (a1 : S1 ≤ 1 / 3437000) (b0 : 17 / 25 ≤ C1) (b1 : C1 ≤ 1) (he : e ≤ 1 / 100) (hk1 : 1 / k ≤ 1 / 100)
    (hS' : Nr S' (S * C1 + C * S1) ep) (hC' : Nr C' (C * C1 - S * S1) ep) :
    Nr (((s * c1 + c * s1) / K : Nat) / k) S' (e + e / 3437000 + 4 / k + ep) ∧ Nr (((c * c1 - s * s1) / K : Nat) / k) C' (e + e / 3437000 + 4 / k + ep) := by
  have hk0 : (0 : Rat) < k := by rw [hk]; exact_mod_cast hK
  have hi : 0 < 1 / k := by rw [Rat.div_def, Rat.one_mul]; exact Rat.inv_pos.2 hk0
  have e0 := hs.pos
  have nn : ∀ a : Nat, (0 : Rat) ≤ (a : Rat) / k := fun a => by
    rw [Rat.div_def]; exact rmul0 (by exact_mod_cast Nat.zero_le _) (Rat.le_of_lt (Rat.inv_pos.2 hk0))
  have s0 := nn s
  have c0 := nn c
  have s10 := nn s1
  have sm : (s : Rat) / k ≤ 1 := by obtain ⟨h1, h2⟩ := hs; grind
  have cm : (c : Rat) / k ≤ 2 := by obtain ⟨h1, h2⟩ := hc; grind
  have cl : 1 / 2 ≤ (c : Rat) / k := by obtain ⟨h1, h2⟩ := hc; grind
  have c1l : 1 / 2 ≤ (c1 : Rat) / k := by obtain ⟨h1, h2⟩ := hc1; grind
  have s1m : (s1 : Rat) / k ≤ 1 / 50 := by obtain ⟨h1, h2⟩ := hs1; grind
  -- products
  have p1 := hs.mul hc1 s0 sm (show 0 ≤ C1 by grind) b1
  have p2 := hc.mul hs1 c0 cm a0 a1
  have p3 := hc.mul hc1 c0 cm (show 0 ≤ C1 by grind) b1
  have p4 := hs.mul hs1 s0 sm a0 a1
  have q1 := (p1.add p2)
  have q2 := (p3.sub p4)
  have fin : ∀ {x : Nat} {A B E : Rat}, (x : Rat) / k / k = A → Nr A B E → Nr (((x / K : Nat) : Rat) / k) B (1 / k + E) := fun {x A B E} h1 h2 => by
    have h3 := nfl (a := x) hK
    rw [← hk] at h3
    have h4 := h3.mulc (c := 1 / k) (m := 1 / k) (Rat.le_of_lt hi) (by grind) (by grind)
    have h5 : Nr (((x / K : Nat) : Rat) / k) A (1 / k) := by
      rw [← h1]
      have e1 : 1 / k * ((x / K : Nat) : Rat) = ((x / K : Nat) : Rat) / k := by grind
      have e2 : 1 / k * ((x : Rat) / k) = (x : Rat) / k / k := by grind
      rw [e1, e2] at h4
      exact h4.le (by grind)
    exact h5.trans h2
  constructor
  · have := (fin (x := s * c1 + c * s1) (by push_cast; grind) q1).trans hS'.symm
    refine this.le ?_
    grind
  · have hle : s * s1 ≤ c * c1 := by
      have h1 := rmul s0 sm s10 s1m
      have h2 := rmul (show (0 : Rat) ≤ 1 / 2 by grind) cl (show (0 : Rat) ≤ 1 / 2 by grind) c1l
      have h3 : (s : Rat) / k * ((s1 : Rat) / k) ≤ (c : Rat) / k * ((c1 : Rat) / k) := by grind
      have h4 := Rat.mul_le_mul_of_nonneg_right h3 (Rat.le_of_lt (Rat.mul_pos hk0 hk0))
      have h5 : (s : Rat) * (s1 : Rat) ≤ (c : Rat) * (c1 : Rat) := by
        have x1 : (s : Rat) / k * ((s1 : Rat) / k) * (k * k) = (s : Rat) * (s1 : Rat) := by grind
        have x2 : (c : Rat) / k * ((c1 : Rat) / k) * (k * k) = (c : Rat) * (c1 : Rat) := by grind
        rw [x1, x2] at h4; exact h4
      exact_mod_cast h5
    have hsub : ((c * c1 - s * s1 : Nat) : Rat) = (c : Rat) * c1 - (s : Rat) * s1 := by
      have h1 : c * c1 - s * s1 + s * s1 = c * c1 := Nat.sub_add_cancel hle
      have h2 : ((c * c1 - s * s1 : Nat) : Rat) + (s : Rat) * s1 = (c : Rat) * c1 := by exact_mod_cast h1
      grind
    have := (fin (x := c * c1 - s * s1) (by rw [hsub]; grind) q2).trans hC'.symm
    refine this.le ?_
    grind
theorem tay_zero : ∀ {m d : Nat}, tay 0 d m = 0
  | 0, _ => rfl
  | m + 1, d => by
    simp only [tay]
    rw [Rat.div_def, Rat.zero_mul, Rat.zero_mul]
theorem sin_zero : sinT 0 = 0 := by unfold sinT xi; grind
theorem cos_zero : cosT 0 = 1 := by
  have : xi 0 * xi 0 = 0 := by unfold xi; grind
  unfold cosT
  rw [this, tay_zero]
  grind
theorem rotN_succ (r : Nat) : rotN (r + 1) = (((rotN r).1 * 79228162514260985610427347966 + (rotN r).2 * 23046538269650701392778) / 79228162514264337593543950336, ((rotN r).2 * 79228162514260985610427347966 - (rotN r).1 * 23046538269650701392778) / 79228162514264337593543950336) := rfl
theorem rot_near : ∀ {r : Nat}, r ≤ 2700000 → Nr (((rotN r).1 : Rat) / k96) (sinT r) (64 * (r : Rat) / k96) ∧ Nr (((rotN r).2 : Rat) / k96) (cosT r) (64 * (r : Rat) / k96)
  | 0, _ => by
    rw [sin_zero, cos_zero, show rotN 0 = (0, 79228162514264337593543950336) from rfl]
    have hk : k96 / k96 = 1 := by unfold k96; grind
    constructor
    · constructor <;> grind
    · have : ((79228162514264337593543950336 : Nat) : Rat) / k96 = 1 := hk
      rw [this]
      constructor <;> grind
  | r + 1, h => by
    obtain ⟨h1, h2⟩ := rot_near (r := r) (by omega)
    obtain ⟨h3, h4⟩ := one_near
    have hx := xi_in (n := r) (by omega)
    have hs := sin_in (n := r) (by omega)
    have hc := cos_in (n := r) (by omega)
    have hs1 := sin_in (n := 1) (by omega)
    have hc1 := cos_in (n := 1) (by omega)
    have hx1 := xi_one
    have hr : (r : Rat) ≤ 2700000 := by exact_mod_cast (show r ≤ 2700000 by omega)
    have hr0 : (0 : Rat) ≤ (r : Rat) := by exact_mod_cast Nat.zero_le r
    have hki : 1 / k96 * k96 = 1 := by unfold k96; grind
    have hk : 0 < 1 / k96 ∧ 1 / k96 ≤ 1 / 10000000000000000000000000000 := by
      unfold k96
      constructor <;> grind
    have he : eps ≤ 1 / k96 := by unfold eps k96; grind
    have g1 : 64 * (r : Rat) / k96 ≤ 1 / 100 := by
      have := rmul hr0 hr (Rat.le_of_lt hk.1) hk.2
      grind
    have st := rot_step (K := 79228162514264337593543950336) (k := k96) (s1 := 23046538269650701392778) (c1 := 79228162514260985610427347966) (by decide) rfl h1 h2 h3 h4 (by grind) hc.1 hc.2 hs1.1 (by grind) hc1.1 hc1.2 g1 (by grind) (sin_step (n := r) (by omega)) (cos_step (n := r) (by omega))
    rw [rotN_succ]
    have e1 : 64 * (r : Rat) / k96 + 64 * (r : Rat) / k96 / 3437000 + 4 / k96 + eps ≤ 64 * ((r + 1 : Nat) : Rat) / k96 := by
      have h5 := rmul hr0 hr (Rat.le_of_lt hk.1) (show 1 / k96 ≤ 1 / k96 by exact Rat.le_refl)
      push_cast
      grind
    exact ⟨st.1.le e1, st.2.le e1⟩
def Bt (f : Nat) (v : Rat) : Prop := (f : Rat) / 1073741824 + 1000 / 4611686018427387904 ≤ v ∧ v ≤ ((f : Rat) + 1) / 1073741824 - 1000 / 4611686018427387904
theorem gap_ok {G M x : Nat} (hG : 2 * G < M) (h : gapV G (2 * G) M x) : x / M * M + G ≤ x ∧ x + G ≤ (x / M + 1) * M := by
  unfold gapV at h
  have hM : 0 < M := by omega
  have h1 := Nat.div_add_mod x M
  have h2 := Nat.mod_lt x hM
  rw [Nat.add_mod, Nat.mod_eq_of_lt (show G < M by omega)] at h
  rw [Nat.add_mul, Nat.one_mul, Nat.mul_comm]
  generalize x % M = y at *
  generalize M * (x / M) = z at *
  have h4 : G ≤ y ∧ y + G ≤ M := by
    by_cases h3 : y + G < M
    · rw [Nat.mod_eq_of_lt h3] at h; omega
    · rw [Nat.mod_eq_sub_mod (by omega), Nat.mod_eq_of_lt (by omega)] at h; omega
  omega
theorem bt_of {x r : Nat} {v : Rat} (hr : r ≤ 2700000) (h : gapN x) (hn : Nr ((x : Rat) / k96) v (64 * (r : Rat) / k96)) : Bt (x / 73786976294838206464) v := by
  obtain ⟨h1, h2⟩ := gap_ok (G := 17592186044416) (M := 73786976294838206464) (by decide) h
  generalize x / 73786976294838206464 = f at *
  have e1 : (f : Rat) * 73786976294838206464 + 17592186044416 ≤ (x : Rat) := by exact_mod_cast h1
  have e2 : (x : Rat) + 17592186044416 ≤ ((f : Rat) + 1) * 73786976294838206464 := by exact_mod_cast h2
  have hr2 : (r : Rat) ≤ 2700000 := by exact_mod_cast hr
  have hk : (0 : Rat) ≤ 1 / k96 := by unfold k96; grind
  obtain ⟨h3, h4⟩ := hn
  have e3 := Rat.mul_le_mul_of_nonneg_right e1 hk
  have e4 := Rat.mul_le_mul_of_nonneg_right e2 hk
  have e5 := Rat.mul_le_mul_of_nonneg_right hr2 hk
  unfold Bt
  unfold k96 at *
  constructor <;> grind
end Go.Proofs.YtnnmfdeeicpdlaaGreat
/- Rounded sums that are near to the sine and the cosine: with 256 binary digits, and with 62. No program in sight. -/
namespace Go.Proofs.YtnnmfdeeicpdlaaGreat

section
variable {B y : Nat}
def ChainN (B y : Nat) : Nat → Nat → Nat → Prop
  | _, 0, u => u = 0
  | d, m + 1, u => ∃ u' p, ChainN B y (d + 2) m u' ∧ p * B ≤ y / (d * (d + 1)) * u' ∧ y / (d * (d + 1)) * u' ≤ (p + 2) * B ∧ u + p = y / (d * (d + 1))
theorem dd_ge {d : Nat} (h : 1 ≤ d) : 2 ≤ d * (d + 1) := Nat.mul_le_mul h (show 2 ≤ d + 1 by omega)
theorem natB {a b B : Nat} (hB : 0 < B) (h : a ≤ b) : (a : Rat) / (B : Rat) ≤ (b : Rat) / (B : Rat) := by
  rw [Rat.div_def, Rat.div_def]
  exact Rat.mul_le_mul_of_nonneg_right (by exact_mod_cast h) (Rat.le_of_lt (Rat.inv_pos.2 (by exact_mod_cast hB)))
theorem nat0 {a B : Nat} (hB : 0 < B) : (0 : Rat) ≤ (a : Rat) / (B : Rat) := by
  rw [Rat.div_def]
  exact rmul0 (by exact_mod_cast Nat.zero_le a) (Rat.le_of_lt (Rat.inv_pos.2 (by exact_mod_cast hB)))
theorem nr_mul {a b p k B : Nat} (hB : 0 < B) (h1 : p * B ≤ a * b) (h2 : a * b ≤ (p + k) * B) : Nr ((p : Rat) / (B : Rat)) ((a : Rat) / (B : Rat) * ((b : Rat) / (B : Rat))) ((k : Rat) / (B : Rat)) := by
  have hB2 : (0 : Rat) < (B : Rat) := by exact_mod_cast hB
  have e1 : (p : Rat) * (B : Rat) ≤ (a : Rat) * (b : Rat) := by exact_mod_cast h1
  have e2 : (a : Rat) * (b : Rat) ≤ ((p : Rat) + (k : Rat)) * (B : Rat) := by exact_mod_cast h2
  have hBB := Rat.mul_pos hB2 hB2
  have x1 : (a : Rat) / (B : Rat) * ((b : Rat) / (B : Rat)) * ((B : Rat) * (B : Rat)) = (a : Rat) * (b : Rat) := by grind
  have x2 : (p : Rat) / (B : Rat) * ((B : Rat) * (B : Rat)) = (p : Rat) * (B : Rat) := by grind
  have x3 : (k : Rat) / (B : Rat) * ((B : Rat) * (B : Rat)) = (k : Rat) * (B : Rat) := by grind
  have k0 : (0 : Rat) ≤ (k : Rat) * (B : Rat) := rmul0 (by exact_mod_cast Nat.zero_le k) (Rat.le_of_lt hB2)
  constructor
  · refine Rat.le_of_mul_le_mul_right (c := (B : Rat) * (B : Rat)) ?_ hBB
    rw [Rat.add_mul, x1, x2, x3]
    grind
  · refine Rat.le_of_mul_le_mul_right (c := (B : Rat) * (B : Rat)) ?_ hBB
    rw [Rat.add_mul, x1, x2, x3]
    grind
theorem nr_div {y k B : Nat} (hB : 0 < B) (hk : 0 < k) : Nr (((y / k : Nat) : Rat) / (B : Rat)) ((y : Rat) / (B : Rat) / (k : Rat)) (1 / (B : Rat)) := by
  have h := nfl (a := y) hk
  have hB2 : (0 : Rat) < (B : Rat) := by exact_mod_cast hB
  have := h.mulc (c := 1 / (B : Rat)) (m := 1 / (B : Rat)) (by rw [Rat.div_def, Rat.one_mul]; exact Rat.le_of_lt (Rat.inv_pos.2 hB2)) Rat.le_refl (by grind)
  have e1 : 1 / (B : Rat) * ((y / k : Nat) : Rat) = ((y / k : Nat) : Rat) / (B : Rat) := by grind
  have e2 : 1 / (B : Rat) * ((y : Rat) / (k : Rat)) = (y : Rat) / (B : Rat) / (k : Rat) := by grind
  rw [e1, e2] at this
  exact this.le (by grind)
theorem chain_ok (hB : 0 < B) (hy : y ≤ B) : ∀ {m d u : Nat}, 1 ≤ d → ChainN B y d m u → u ≤ y / (d * (d + 1)) ∧ Nr ((u : Rat) / (B : Rat)) (tay ((y : Rat) / (B : Rat)) d m) (6 / (B : Rat))
  | 0, d, u, hd, h => by
    have hu : u = 0 := h
    subst hu
    have hB2 : (0 : Rat) < (B : Rat) := by exact_mod_cast hB
    have : (0 : Rat) ≤ 6 / (B : Rat) := by
      rw [Rat.div_def]; exact rmul0 (by grind) (Rat.le_of_lt (Rat.inv_pos.2 hB2))
    refine ⟨Nat.zero_le _, ?_⟩
    have e : ((0 : Nat) : Rat) / (B : Rat) = 0 := by simp [Rat.div_def]
    rw [e]
    unfold tay
    constructor <;> grind
  | m + 1, d, u, hd, ⟨u', p, hc, h1, h2, h3⟩ => by
    obtain ⟨hu, ih⟩ := chain_ok hB hy (m := m) (d := d + 2) (by omega) hc
    refine ⟨by omega, ?_⟩
    have hB2 : (0 : Rat) < (B : Rat) := by exact_mod_cast hB
    have hdd := dd_ge hd
    have hy1 : (y : Rat) / (B : Rat) ≤ 1 := by
      have := natB hB hy
      rwa [show (B : Rat) / (B : Rat) = 1 by grind] at this
    have hy0 := nat0 (a := y) hB
    have hq := nr_div (y := y) hB (show 0 < d * (d + 1) by omega)
    have hm := nr_mul hB h1 h2
    generalize hqq : y / (d * (d + 1)) = q at *
    have hq0 := nat0 (a := q) hB
    have hq1 : (q : Rat) / (B : Rat) ≤ 1 / 2 := by
      have h5 : q * 2 ≤ B := by
        rw [← hqq]
        have := Nat.div_mul_le_self y (d * (d + 1))
        have := Nat.mul_le_mul_left (y / (d * (d + 1))) hdd
        omega
      have h6 : (q : Rat) * 2 ≤ (B : Rat) := by exact_mod_cast h5
      refine Rat.le_of_mul_le_mul_right (c := (B : Rat)) ?_ hB2
      rw [Rat.div_mul_cancel (by grind)]
      grind
    obtain ⟨t0, t1⟩ := tay_in hy0 hy1 (m := m) (d := d + 2) (by omega)
    have hu2 : (u : Rat) / (B : Rat) = (q : Rat) / (B : Rat) - (p : Rat) / (B : Rat) := by
      have : (u : Rat) + (p : Rat) = (q : Rat) := by exact_mod_cast h3
      rw [← this]
      grind
    have hone := ((Nr.refl 1).sub ih)
    have hp := hq.mul hone hq0 hq1 (show 0 ≤ 1 - tay ((y : Rat) / (B : Rat)) (d + 2) m by grind) (show 1 - tay ((y : Rat) / (B : Rat)) (d + 2) m ≤ 1 by grind)
    rw [hu2]
    have e1 : (q : Rat) / (B : Rat) * (1 - (u' : Rat) / (B : Rat)) = (q : Rat) / (B : Rat) - (q : Rat) / (B : Rat) * ((u' : Rat) / (B : Rat)) := by grind
    rw [e1] at hp
    have hs := ((Nr.refl ((q : Rat) / (B : Rat))).sub hm).trans hp
    have e2 : tay ((y : Rat) / (B : Rat)) d (m + 1) = (y : Rat) / (B : Rat) / ((d * (d + 1) : Nat) : Rat) * (1 - tay ((y : Rat) / (B : Rat)) (d + 2) m) := by
      simp only [tay]
      push_cast
      rfl
    rw [e2]
    refine hs.le ?_
    have e3 : ((2 : Nat) : Rat) / (B : Rat) = 2 * (1 / (B : Rat)) := by push_cast; grind
    have e4 : (6 : Rat) / (B : Rat) = 6 * (1 / (B : Rat)) := by grind
    rw [e3, e4]
    grind
end
def b256 : Nat := 115792089237316195423570985008687907853269984665640564039457584007913129639936
theorem b256_pos : 0 < b256 := by decide +kernel
theorem b256_rat : (0 : Rat) < (b256 : Rat) := by exact_mod_cast b256_pos
def sml : Rat := 1 / 1000000000000000000000000000
theorem b256_sml : 20 / (b256 : Rat) ≤ sml / 2 := by
  have h : 40 * 1000000000000000000000000000 ≤ b256 := by decide +kernel
  have h2 : (40 : Rat) * 1000000000000000000000000000 ≤ (b256 : Rat) := by exact_mod_cast h
  refine Rat.le_of_mul_le_mul_right (c := (b256 : Rat)) ?_ b256_rat
  rw [Rat.div_mul_cancel (by have := b256_rat; grind)]
  unfold sml
  grind
theorem facT_sml {d : Nat} (h : 304888344611713860501504000000 ≤ facT d 14) : 1 / (2 * (facT d 14 : Rat)) ≤ sml / 2 := by
  have h2 : (304888344611713860501504000000 : Rat) ≤ (facT d 14 : Rat) := by exact_mod_cast h
  have h0 : (0 : Rat) < 2 * (facT d 14 : Rat) := by grind
  refine Rat.le_of_mul_le_mul_right (c := 2 * (facT d 14 : Rat)) ?_ h0
  rw [Rat.div_mul_cancel (by grind)]
  unfold sml
  grind
theorem xi_near (r : Nat) : Nr (((r * piN / 10800000 : Nat) : Rat) / (b256 : Rat)) (xi r) (1 / (b256 : Rat)) := by
  have h := nr_div (y := r * piN) (k := 10800000) b256_pos (by decide)
  have e : ((r * piN : Nat) : Rat) / (b256 : Rat) / ((10800000 : Nat) : Rat) = xi r := by
    have h0 : piD = b256 * 10800000 := by decide +kernel
    have hb := b256_rat
    unfold xi
    rw [h0]
    generalize (10800000 : Nat) = k
    push_cast
    grind
  rw [e] at h
  exact h
theorem sq_near {r x y : Nat} (hr : r ≤ 2700000) (hx : x = r * piN / 10800000) (h1 : y * b256 ≤ x * x) (h2 : x * x ≤ (y + 2) * b256) : y ≤ b256 ∧ Nr ((x : Rat) / (b256 : Rat)) (xi r) (1 / (b256 : Rat)) ∧ Nr ((y : Rat) / (b256 : Rat)) (xi r * xi r) (4 / (b256 : Rat)) ∧ (x : Rat) / (b256 : Rat) ≤ 1 := by
  have hn := xi_near r
  rw [← hx] at hn
  have hx4 := xi_in (n := r) (by omega)
  have hb := b256_sml
  have hsm : sml ≤ 1 / 100 := by unfold sml; grind
  have hb1 : 0 ≤ 1 / (b256 : Rat) := hn.pos
  have e20 : 20 / (b256 : Rat) = 20 * (1 / (b256 : Rat)) := by grind
  rw [e20] at hb
  have hx1 : (x : Rat) / (b256 : Rat) ≤ 1 := by
    obtain ⟨a, b⟩ := hn; grind
  have hx0 := nat0 (a := x) b256_pos
  have hm := nr_mul b256_pos h1 h2
  have hp := hn.mul hn hx0 hx1 hx4.1 (show xi r ≤ 1 by grind)
  have ht := hm.trans hp
  have e2 : ((2 : Nat) : Rat) / (b256 : Rat) = 2 * (1 / (b256 : Rat)) := by push_cast; grind
  have e4 : (4 : Rat) / (b256 : Rat) = 4 * (1 / (b256 : Rat)) := by grind
  refine ⟨?_, hn, ht.le (by rw [e2, e4]; grind), hx1⟩
  have hq := sq_in hx4
  have hy1 : (y : Rat) / (b256 : Rat) ≤ 1 := by
    have := ht.1
    rw [e2] at this
    grind
  have := Rat.mul_le_mul_of_nonneg_right hy1 (Rat.le_of_lt b256_rat)
  rw [Rat.div_mul_cancel (by have := b256_rat; grind), Rat.one_mul] at this
  exact_mod_cast this
theorem chain_near {r y u d : Nat} (hr : r ≤ 2700000) (hy : y ≤ b256) (hn : Nr ((y : Rat) / (b256 : Rat)) (xi r * xi r) (4 / (b256 : Rat))) (hd : 1 ≤ d) (hf : 304888344611713860501504000000 ≤ facT d 14) (hc : ChainN b256 y d 34 u) : Nr ((u : Rat) / (b256 : Rat)) (tay (xi r * xi r) d 14) (10 / (b256 : Rat) + sml / 2) := by
  have h1 := (chain_ok b256_pos hy hd hc).2
  have hq := sq_in (xi_in (n := r) (by omega))
  have hy0 := nat0 (a := y) b256_pos
  have hy1 : (y : Rat) / (b256 : Rat) ≤ 1 := by
    have := natB b256_pos hy
    rwa [show (b256 : Rat) / (b256 : Rat) = 1 by have := b256_rat; grind] at this
  have h2 := tay_arg hy0 hy1 hq.1 (by grind) hn (m := 34) hd
  have h3 := tay_more hq.1 (by grind) 20 (m := 14) hd
  exact ((h1.trans h2).trans h3).le (by have := facT_sml hf; grind)
theorem ser_sin {r x y u p s : Nat} (hr : r ≤ 2700000) (hx : x = r * piN / 10800000) (h1 : y * b256 ≤ x * x) (h2 : x * x ≤ (y + 2) * b256) (hc : ChainN b256 y 2 34 u) (h3 : p * b256 ≤ x * u) (h4 : x * u ≤ (p + 2) * b256) (hs : s + p = x) : Nr ((s : Rat) / (b256 : Rat)) (sinT r) sml := by
  obtain ⟨hy, hn, hq, hx1⟩ := sq_near hr hx h1 h2
  have hu := chain_near hr hy hq (by decide) (by decide +kernel) hc
  have hm := nr_mul b256_pos h3 h4
  have hx0 := nat0 (a := x) b256_pos
  have hx4 := xi_in (n := r) (by omega)
  obtain ⟨t0, t1⟩ := tay_in (sq_in hx4).1 (by have := (sq_in hx4).2; grind) (m := 14) (d := 2) (by decide)
  have hp := hn.mul ((Nr.refl 1).sub hu) hx0 hx1 (show 0 ≤ 1 - tay (xi r * xi r) 2 14 by have := (sq_in hx4).2; grind) (show 1 - tay (xi r * xi r) 2 14 ≤ 1 by grind)
  have hs2 : (s : Rat) / (b256 : Rat) = (x : Rat) / (b256 : Rat) - (p : Rat) / (b256 : Rat) := by
    have : (s : Rat) + (p : Rat) = (x : Rat) := by exact_mod_cast hs
    have hb := b256_rat
    rw [← this]
    grind
  have e1 : (x : Rat) / (b256 : Rat) * (1 - (u : Rat) / (b256 : Rat)) = (x : Rat) / (b256 : Rat) - (x : Rat) / (b256 : Rat) * ((u : Rat) / (b256 : Rat)) := by grind
  rw [e1] at hp
  have hf := ((Nr.refl ((x : Rat) / (b256 : Rat))).sub hm).trans hp
  rw [hs2]
  unfold sinT
  refine hf.le ?_
  have hb := b256_sml
  have e2 : ((2 : Nat) : Rat) / (b256 : Rat) = 2 * (1 / (b256 : Rat)) := by push_cast; grind
  have e20 : 20 / (b256 : Rat) = 20 * (1 / (b256 : Rat)) := by grind
  have e10 : 10 / (b256 : Rat) = 10 * (1 / (b256 : Rat)) := by grind
  have hb1 := hn.pos
  rw [e20] at hb
  rw [e2, e10]
  grind
theorem ser_cos {r x y u : Nat} (hr : r ≤ 2700000) (hx : x = r * piN / 10800000) (h1 : y * b256 ≤ x * x) (h2 : x * x ≤ (y + 2) * b256) (hc : ChainN b256 y 1 34 u) : Nr (1 - (u : Rat) / (b256 : Rat)) (cosT r) sml := by
  obtain ⟨hy, hn, hq, -⟩ := sq_near hr hx h1 h2
  have hu := chain_near hr hy hq (by decide) (by decide +kernel) hc
  have hp := (Nr.refl 1).sub hu
  unfold cosT
  refine hp.le ?_
  have hb := b256_sml
  have e20 : 20 / (b256 : Rat) = 20 * (1 / (b256 : Rat)) := by grind
  have e10 : 10 / (b256 : Rat) = 10 * (1 / (b256 : Rat)) := by grind
  have hb1 := hn.pos
  rw [e20] at hb
  rw [e10]
  grind
theorem cell_of {s f : Nat} {V : Rat} (h : Nr ((s : Rat) / (b256 : Rat)) V sml) (hb : Bt f V) : s / 107839786668602559178668060348078522694548577690162289924414440996864 = f := by
  obtain ⟨h1, h2⟩ := h
  obtain ⟨b1, b2⟩ := hb
  have hb := b256_rat
  have e : (b256 : Rat) = ((107839786668602559178668060348078522694548577690162289924414440996864 : Nat) : Rat) * ((1073741824 : Nat) : Rat) := by
    rw [show b256 = 107839786668602559178668060348078522694548577690162289924414440996864 * 1073741824 by decide +kernel]
    exact Rat.natCast_mul _ _
  have hs : sml ≤ 1 / 4611686018427387904 := by unfold sml; grind
  have l1 : (f : Rat) / 1073741824 ≤ (s : Rat) / (b256 : Rat) := by grind
  have l2 : (s : Rat) / (b256 : Rat) ≤ ((f : Rat) + 1) / 1073741824 - 1 / 4611686018427387904 := by grind
  have m1 := Rat.mul_le_mul_of_nonneg_right l1 (Rat.le_of_lt hb)
  have m2 := Rat.mul_le_mul_of_nonneg_right l2 (Rat.le_of_lt hb)
  rw [Rat.div_mul_cancel (by grind), e] at m1 m2
  generalize hU : (107839786668602559178668060348078522694548577690162289924414440996864 : Nat) = U at *
  have hU0 : 0 < U := by rw [← hU]; decide +kernel
  have hk : ((1073741824 : Nat) : Rat) = 1073741824 := rfl
  rw [hk] at m1 m2
  have hUp : (0 : Rat) < (U : Rat) := by exact_mod_cast hU0
  have n1 : (f : Rat) * (U : Rat) ≤ (s : Rat) := by grind
  have n2 : (s : Rat) < ((f : Rat) + 1) * (U : Rat) := by grind
  have n1' : f * U ≤ s := by exact_mod_cast n1
  have n2' : s < (f + 1) * U := by exact_mod_cast n2
  exact Nat.div_eq_of_lt_le n1' n2'
end Go.Proofs.YtnnmfdeeicpdlaaGreat
/- What is missing from 1: the sums in nested form. -/
namespace Go.Proofs.YtnnmfdeeicpdlaaGreat
open Go.RowKit

theorem b256_pow : 18446744073709551616 ^ 4 = b256 := by decide +kernel
theorem chain_next {y d m q u p r c : Nat} (hc : ChainN b256 y (d + 2) m u) (hu : u < b256) (hq : q = y / (d * (d + 1))) (h1 : p * b256 ≤ q * u) (h2 : q * u ≤ (p + 2) * b256) (hr : r < b256) (h3 : r + p = q + c * b256) (hc1 : c ≤ 1) : ChainN b256 y d (m + 1) r := by
  refine ⟨u, p, hc, by rw [← hq]; exact h1, by rw [← hq]; exact h2, ?_⟩
  have hp : p ≤ q := by
    have h4 : p * b256 ≤ q * b256 := Nat.le_trans h1 (Nat.mul_le_mul_left q (Nat.le_of_lt hu))
    exact Nat.le_of_mul_le_mul_right h4 b256_pos
  rw [← hq]
  have hc2 : c = 0 ∨ c = 1 := by omega
  rcases hc2 with rfl | rfl
  · omega
  · omega
set_option maxHeartbeats 4000000 in
set_option maxRecDepth 100000 in
theorem tr_less (x : List Nat) (odd : Nat) (hx : Wd 4 x) (ho : odd ≤ 1) (w : World) :
    Calls Tryz.prog 282 #[nuV x, .int .u64 (odd : Int)] w fun e w' => ∃ r d, e = .returned (nuV r) ∧ w' = bw w d ∧ Wd 4 r ∧ ∃ y, y * b256 ≤ val4 x * val4 x ∧ val4 x * val4 x ≤ (y + 2) * b256 ∧ ChainN b256 y (1 + odd) 34 (val4 r) := by
  refine lay_start ?_
  have HMx := Lib.hid (fun W => nm_mul x x hx hx W)
  unfold nuV at HMx ⊢
  go_enter Tryz.func282, Tryz.ntmps282
  go_wp2_with (go_at_call 281; refine (HMx.out _).mono ?_; rintro e w' ⟨y, d1, rfl, rfl, hy, hy1, hy2⟩)
  rw [b256_pow] at hy1 hy2
  have HY := Lib.hid (And.intro hy (And.intro hy1 hy2))
  clear hy hy1 hy2 HMx
  go_loopw [7, 8] (fun v7 _ wr => ∃ (k : Nat) (u : List Nat) (dd : Ext), k ≤ 34 ∧ v7 = .int .u64 (k : Int) ∧ wr = lay w [.inr dd, .inl (.cells #[.int .u64 (nt u 0 : Int), .int .u64 (nt u 1 : Int), .int .u64 (nt u 2 : Int), .int .u64 (nt u 3 : Int)] 265 (0, 0)), .inl (.cells #[.int .u64 (nt y 0 : Int), .int .u64 (nt y 1 : Int), .int .u64 (nt y 2 : Int), .int .u64 (nt y 3 : Int)] 265 (0, 0)), .inr d1, .inl (.cells #[.int .u64 0, .int .u64 0, .int .u64 0, .int .u64 0] 265 (0, 0)), .inl (.cells #[.int .u64 (nt x 0 : Int), .int .u64 (nt x 1 : Int), .int .u64 (nt x 2 : Int), .int .u64 (nt x 3 : Int)] 265 (0, 0))] ∧ Wd 4 u ∧ ChainN b256 (val4 y) (2 * k + 1 + odd) (34 - k) (val4 u)) (fun v7 _ _ => (intOf v7).toNat)
  case atStart => exact ⟨34, [0, 0, 0, 0], noExt _, Nat.le_refl _, rfl, (bw_noExt _).symm, ⟨rfl, fun i => by
    unfold nt
    match i with
    | 0 => decide
    | 1 => decide
    | 2 => decide
    | 3 => decide
    | i + 4 => simp⟩, by show val4 _ = 0; decide +kernel⟩
  case round =>
    obtain ⟨k, u, dd, hk, rfl, rfl, hu, hC⟩ := hrel
    have HC := Lib.hid (And.intro hu hC)
    clear hu hC
    by_cases hk0 : k = 0
    · subst hk0
      go_wp2_with fail
      obtain ⟨dz, ez⟩ := lay_all w [.inr dd, .inl (.cells #[.int .u64 (nt u 0 : Int), .int .u64 (nt u 1 : Int), .int .u64 (nt u 2 : Int), .int .u64 (nt u 3 : Int)] 265 (0, 0)), .inl (.cells #[.int .u64 (nt y 0 : Int), .int .u64 (nt y 1 : Int), .int .u64 (nt y 2 : Int), .int .u64 (nt y 3 : Int)] 265 (0, 0)), .inr d1, .inl (.cells #[.int .u64 (nt u 0 : Int), .int .u64 (nt u 1 : Int), .int .u64 (nt u 2 : Int), .int .u64 (nt u 3 : Int)] 265 (0, 0)), .inl (.cells #[.int .u64 (nt x 0 : Int), .int .u64 (nt x 1 : Int), .int .u64 (nt x 2 : Int), .int .u64 (nt x 3 : Int)] 265 (0, 0))]
      exact bodyPost_ret (v := .agg #[.int .u64 (nt u 0 : Int), .int .u64 (nt u 1 : Int), .int .u64 (nt u 2 : Int), .int .u64 (nt u 3 : Int)]) (by simp [results, Tryz.results282, go_sem]) rfl ⟨u, dz, rfl, ez, HC.out.1, val4 y, HY.out.2.1, HY.out.2.2, by have := HC.out.2; rwa [show 2 * 0 + 1 + odd = 1 + odd by omega] at this⟩
    · obtain ⟨j, hj⟩ : ∃ j, k = j + 1 := ⟨k - 1, by omega⟩
      obtain ⟨DV, hDV⟩ : ∃ DV : Nat, (2 * j + 1 + odd) * (2 * j + 1 + odd + 1) = DV := ⟨_, rfl⟩
      have hDVb : 2 ≤ DV ∧ DV ≤ 5000 := by
        rw [← hDV]
        constructor
        · exact dd_ge (by omega)
        · exact Nat.le_trans (Nat.mul_le_mul (show 2 * j + 1 + odd ≤ 68 by omega) (show 2 * j + 1 + odd + 1 ≤ 69 by omega)) (by decide)
      have hk1 : (0 : Int) < (k : Int) := by omega
      have hkj : (k : Int) - 1 = (j : Int) := by omega
      have kj : IntKind.u64.wrap (j : Int) = (j : Int) := IntWalk.u64_in _ (by omega)
      obtain ⟨A, hA⟩ : ∃ A : Int, 2 * (k : Int) = A := ⟨_, rfl⟩
      obtain ⟨A1, hA1⟩ : ∃ A1 : Int, A - 1 = A1 := ⟨_, rfl⟩
      obtain ⟨A2, hA2⟩ : ∃ A2 : Int, A1 + (odd : Int) = A2 := ⟨_, rfl⟩
      obtain ⟨A3, hA3⟩ : ∃ A3 : Int, A + (odd : Int) = A3 := ⟨_, rfl⟩
      have hA4 : A2 * A3 = (DV : Int) := by
        rw [← hDV, show A2 = ((2 * j + 1 + odd : Nat) : Int) by omega, show A3 = ((2 * j + 1 + odd + 1 : Nat) : Int) by omega]
        exact (Int.natCast_mul _ _).symm
      have kA : IntKind.u64.wrap A = A := IntWalk.u64_in _ (by omega)
      have kA1 : IntKind.u64.wrap A1 = A1 := IntWalk.u64_in _ (by omega)
      have kA2 : IntKind.u64.wrap A2 = A2 := IntWalk.u64_in _ (by omega)
      have kA3 : IntKind.u64.wrap A3 = A3 := IntWalk.u64_in _ (by omega)
      have kDV : IntKind.u64.wrap (DV : Int) = (DV : Int) := IntWalk.u64_in _ (by omega)
      have HD := Lib.hid (fun W => nm_div y 0 DV HY.out.1 (by omega) (by omega) W)
      unfold nuV at HD
      rw [show ((0 : Nat) : Int) = 0 from rfl] at HD
      have HJ := Lib.hid (And.intro hj hDV)
      clear hj hDV
      go_wp2_with (go_at_call 321; refine (HD.out _).mono ?_; rintro e w' ⟨q, dq, rfl, rfl, hq, hq2⟩)
      have HQ := Lib.hid (And.intro hq hq2)
      clear hq hq2 HD
      have HM := Lib.hid (fun W => nm_mul q u HQ.out.1 HC.out.1 W)
      unfold nuV at HM
      refine region_mixS 5 [(0, 0), (1, 0), (2, 0), (3, 1), (4, 1), (5, 3)] (by kernel_rfl) (by kernel_rfl) (by kernel_rfl) rfl ?_
      repeat (first | (refine wpMS_pure rfl (fun K hK => ?_); go_simp; refine hK _ ?_; clear hK K) | (refine wpMS_quiet rfl (fun K hK => ?_); go_simp; first | (refine hK _ ?_; clear hK K) | (apply Exists.intro; refine ⟨fun _ => ?_, hK _ ?_⟩; (first | fail); clear hK K)))
      refine wpMS_special rfl (fun K hK e1 => ?_)
      rw [lay_bw]
      go_simp
      refine (HM.out _).mono ?_
      rintro e w' ⟨p, dp, rfl, rfl, hp, hp1, hp2⟩
      rw [b256_pow] at hp1 hp2
      have HP := Lib.hid (And.intro hp (And.intro hp1 hp2))
      clear hp hp1 hp2 HM
      refine ⟨_, rfl, hK _ _ (lay_in w [.inr dp, .inr e1] _) ?_⟩
      clear hK K
      have HS := Lib.hid (fun W => nm_sub q p HQ.out.1 HP.out.1 W)
      unfold nuV at HS
      refine wpMS_special rfl (fun K hK e2 => ?_)
      rw [lay_bw, lay_bw]
      go_simp
      refine (HS.out _).mono ?_
      rintro e w' ⟨r, dr, rfl, rfl, hr, c, hc1, hr2⟩
      rw [b256_pow] at hr2
      have HR := Lib.hid (And.intro hr (And.intro hc1 hr2))
      clear hr hr2 HS hc1
      refine ⟨_, rfl, hK _ _ (lay_in w [.inr dr, .inr e2, .inr dp, .inr e1] _) ?_⟩
      clear hK K
      refine wpMS_store rfl (fun K hK e3 => ?_)
      rw [lay_bw, lay_bw]
      go_simp
      refine hK _ _ ?_
      clear hK K
      refine wpMS_nil (fun e4 => ?_)
      rw [lay_bw]
      obtain ⟨d9, e9⟩ := lay_fold w [.inr e4, .inr e3, .inr dr, .inr e2, .inr dp, .inr e1, .inl (.cells #[.int .u64 (nt q 0 : Int), .int .u64 (nt q 1 : Int), .int .u64 (nt q 2 : Int), .int .u64 (nt q 3 : Int)] 265 (0, 0)), .inr dq, .inr dd] [.inl (.cells #[.int .u64 (nt r 0 : Int), .int .u64 (nt r 1 : Int), .int .u64 (nt r 2 : Int), .int .u64 (nt r 3 : Int)] 265 (0, 0)), .inl (.cells #[.int .u64 (nt y 0 : Int), .int .u64 (nt y 1 : Int), .int .u64 (nt y 2 : Int), .int .u64 (nt y 3 : Int)] 265 (0, 0)), .inr d1, .inl (.cells #[.int .u64 0, .int .u64 0, .int .u64 0, .int .u64 0] 265 (0, 0)), .inl (.cells #[.int .u64 (nt x 0 : Int), .int .u64 (nt x 1 : Int), .int .u64 (nt x 2 : Int), .int .u64 (nt x 3 : Int)] 265 (0, 0))]
      change lay w [.inr e4, .inr e3, .inr dr, .inr e2, .inr dp, .inr e1, .inl (.cells #[.int .u64 (nt q 0 : Int), .int .u64 (nt q 1 : Int), .int .u64 (nt q 2 : Int), .int .u64 (nt q 3 : Int)] 265 (0, 0)), .inr dq, .inr dd, .inl (.cells #[.int .u64 (nt r 0 : Int), .int .u64 (nt r 1 : Int), .int .u64 (nt r 2 : Int), .int .u64 (nt r 3 : Int)] 265 (0, 0)), .inl (.cells #[.int .u64 (nt y 0 : Int), .int .u64 (nt y 1 : Int), .int .u64 (nt y 2 : Int), .int .u64 (nt y 3 : Int)] 265 (0, 0)), .inr d1, .inl (.cells #[.int .u64 0, .int .u64 0, .int .u64 0, .int .u64 0] 265 (0, 0)), .inl (.cells #[.int .u64 (nt x 0 : Int), .int .u64 (nt x 1 : Int), .int .u64 (nt x 2 : Int), .int .u64 (nt x 3 : Int)] 265 (0, 0))] = _ at e9
      rw [e9]
      clear e9
      have HF : Hid (Wd 4 r ∧ ChainN b256 (val4 y) (2 * j + 1 + odd) (34 - j) (val4 r)) := by
        refine Lib.hid ⟨HR.out.1, ?_⟩
        have hcc := HC.out.2
        have hq2 := HQ.out.2
        rw [HJ.out.1] at hcc hk
        rw [Nat.zero_mul, Nat.zero_add, ← HJ.out.2] at hq2
        have := chain_next (d := 2 * j + 1 + odd) (by rw [show 2 * j + 1 + odd + 2 = 2 * (j + 1) + 1 + odd by omega]; exact hcc) (by rw [← b256_pow]; exact val4_lt HC.out.1) hq2 HP.out.2.1 HP.out.2.2 (by rw [← b256_pow]; exact val4_lt HR.out.1) HR.out.2.2 HR.out.2.1
        rwa [show 34 - (j + 1) + 1 = 34 - j by omega] at this
      have HJ2 := Lib.hid (show j ≤ 34 by have := HJ.out.1; omega)
      have HJ3 := HJ.out.1
      go_wp2_with fail
      go_roundw
      case rel => exact ⟨j, r, d9, HJ2.out, rfl, rfl, HF.out.1, HF.out.2⟩
      case measure => simp [intOf]; omega
end Go.Proofs.YtnnmfdeeicpdlaaGreat
/- The quick sums of 62 binary digits are near to the sine and the cosine. No program in sight. -/
namespace Go.Proofs.YtnnmfdeeicpdlaaGreat

def higN (h a b : Nat) : Nat := a / h * (b / h) + a / h * (b % h) / h + a % h * (b / h) / h
theorem hig_ok {h a b : Nat} (hh : 0 < h) : higN h a b * (h * h) ≤ a * b ∧ a * b ≤ (higN h a b + 3) * (h * h) := by
  have ea := Nat.div_add_mod a h
  have eb := Nat.div_add_mod b h
  have la := Nat.mod_lt a hh
  have lb := Nat.mod_lt b hh
  unfold higN
  generalize a / h = a1 at *
  generalize a % h = a0 at *
  generalize b / h = b1 at *
  generalize b % h = b0 at *
  have e1 := Nat.div_add_mod (a1 * b0) h
  have e2 := Nat.div_add_mod (a0 * b1) h
  have l1 := Nat.mod_lt (a1 * b0) hh
  have l2 := Nat.mod_lt (a0 * b1) hh
  generalize a1 * b0 / h = p at *
  generalize a1 * b0 % h = q at *
  generalize a0 * b1 / h = r at *
  generalize a0 * b1 % h = t at *
  have hab : a * b = a1 * b1 * (h * h) + (p + r) * (h * h) + (q * h + t * h + a0 * b0) := by
    rw [← ea, ← eb]
    have x1 : h * p * h + q * h = a1 * b0 * h := by rw [← Nat.add_mul, e1]
    have x2 : h * r * h + t * h = a0 * b1 * h := by rw [← Nat.add_mul, e2]
    have y1 : (h * a1 + a0) * (h * b1 + b0) = a1 * b1 * (h * h) + a1 * b0 * h + a0 * b1 * h + a0 * b0 := by grind
    rw [y1, ← x1, ← x2]
    grind
  have m1 : q * h ≤ h * h := Nat.mul_le_mul_right h (Nat.le_of_lt l1)
  have m2 : t * h ≤ h * h := Nat.mul_le_mul_right h (Nat.le_of_lt l2)
  have m3 : a0 * b0 ≤ h * h := Nat.mul_le_mul (Nat.le_of_lt la) (Nat.le_of_lt lb)
  rw [hab]
  constructor
  · have : (a1 * b1 + p + r) * (h * h) = a1 * b1 * (h * h) + (p + r) * (h * h) := by grind
    rw [this]; exact Nat.le_add_right _ _
  · have : (a1 * b1 + p + r + 3) * (h * h) = a1 * b1 * (h * h) + (p + r) * (h * h) + (h * h + h * h + h * h) := by grind
    rw [this]
    generalize h * h = H at *
    omega
def nexT (h sq t d : Nat) : Nat := higN h t sq / (d * (d + 1))
def altS (h sq : Nat) : Nat → Nat → Nat → Int
  | 0, _, _ => 0
  | f + 1, t, d => (t : Int) - altS h sq f (nexT h sq t d) (d + 2)
theorem nr_hig {h a b : Nat} (hh : 0 < h) : Nr ((higN h a b : Rat) / ((h * h : Nat) : Rat)) ((a : Rat) / ((h * h : Nat) : Rat) * ((b : Rat) / ((h * h : Nat) : Rat))) (3 / ((h * h : Nat) : Rat)) := by
  obtain ⟨h1, h2⟩ := hig_ok (a := a) (b := b) hh
  exact nr_mul (Nat.mul_pos hh hh) h1 h2
theorem higN_le {h a b : Nat} (hh : 0 < h) (hb : b ≤ h * h) : higN h a b ≤ a := by
  obtain ⟨h1, -⟩ := hig_ok (a := a) (b := b) hh
  have := Nat.le_trans h1 (Nat.mul_le_mul_left a hb)
  exact Nat.le_of_mul_le_mul_right this (Nat.mul_pos hh hh)
theorem nexT_le {h sq t d : Nat} (hh : 0 < h) (hsq : sq ≤ h * h) (hd : 1 ≤ d) : nexT h sq t d * 2 ≤ t := by
  unfold nexT
  have h1 := higN_le (a := t) hh hsq
  have h2 := Nat.div_mul_le_self (higN h t sq) (d * (d + 1))
  have h3 := Nat.mul_le_mul_left (higN h t sq / (d * (d + 1))) (dd_ge hd)
  omega
theorem altS_zero {h sq : Nat} : ∀ {f d : Nat}, altS h sq f 0 d = 0
  | 0, _ => rfl
  | f + 1, d => by
    have : nexT h sq 0 d = 0 := by unfold nexT higN; simp
    unfold altS
    rw [this, altS_zero]
    rfl
theorem altS_ok {h sq : Nat} (hh : 0 < h) (hsq : sq ≤ h * h) : ∀ {f t d : Nat}, 1 ≤ d → t ≤ 2 ^ f → Nr ((altS h sq f t d : Rat) / ((h * h : Nat) : Rat)) ((t : Rat) / ((h * h : Nat) : Rat) * (1 - tay ((sq : Rat) / ((h * h : Nat) : Rat)) d f)) ((1 + 3 * (f : Rat)) * (1 / ((h * h : Nat) : Rat)))
  | 0, t, d, hd, ht => by
    have hM : 0 < h * h := Nat.mul_pos hh hh
    generalize h * h = M at *
    have hM2 : (0 : Rat) < (M : Rat) := by exact_mod_cast hM
    have hi : 0 ≤ 1 / (M : Rat) := by rw [Rat.div_def, Rat.one_mul]; exact Rat.le_of_lt (Rat.inv_pos.2 hM2)
    have h1 : (t : Rat) ≤ 1 := by exact_mod_cast ht
    have h0 : (0 : Rat) ≤ (t : Rat) := by exact_mod_cast Nat.zero_le t
    have h2 := rmul h0 h1 hi Rat.le_refl
    have h3 := rmul0 h0 hi
    unfold altS tay
    have e0 : (((0 : Int) : Rat)) = 0 := rfl
    have e1 : (((0 : Nat) : Rat)) = 0 := rfl
    rw [e0, e1]
    constructor <;> grind
  | f + 1, t, d, hd, ht => by
    have hM : 0 < h * h := Nat.mul_pos hh hh
    have hn := nexT_le (t := t) hh hsq hd
    have ih := altS_ok hh hsq (f := f) (t := nexT h sq t d) (d := d + 2) (by omega) (by rw [Nat.pow_succ] at ht; omega)
    have hg := nr_hig (a := t) (b := sq) hh
    have hdd := dd_ge hd
    have hq := nr_div (y := higN h t sq) hM (show 0 < d * (d + 1) by omega)
    simp only [altS, tay]
    unfold nexT at *
    generalize h * h = M at *
    have hM2 : (0 : Rat) < (M : Rat) := by exact_mod_cast hM
    have hi : 0 ≤ 1 / (M : Rat) := by rw [Rat.div_def, Rat.one_mul]; exact Rat.le_of_lt (Rat.inv_pos.2 hM2)
    have hy1 : (sq : Rat) / (M : Rat) ≤ 1 := by
      have := natB hM hsq
      rwa [show (M : Rat) / (M : Rat) = 1 by grind] at this
    have hy0 := nat0 (a := sq) hM
    obtain ⟨t0, t1⟩ := tay_in hy0 hy1 (m := f) (d := d + 2) (by omega)
    have h2 := two_le hd
    obtain ⟨r0, r1, r2⟩ := div_ge (show (0 : Rat) ≤ 1 by decide) h2
    have e1 : ((d * (d + 1) : Nat) : Rat) = (d : Rat) * ((d : Rat) + 1) := by push_cast; rfl
    rw [e1] at hq
    generalize higN h t sq / (d * (d + 1)) = n1 at *
    generalize (higN h t sq : Rat) / (M : Rat) = H at *
    generalize hk : (d : Rat) * ((d : Rat) + 1) = k at *
    generalize hT : tay ((sq : Rat) / (M : Rat)) (d + 2) f = T at *
    generalize (sq : Rat) / (M : Rat) = Y at *
    generalize altS h sq f n1 (d + 2) = A at *
    have hg2 := hg.mulc r0 r1 hg.pos
    have e2 : 1 / k * H = H / k := by grind
    have e3 : 1 / k * ((t : Rat) / (M : Rat) * Y) = (t : Rat) / (M : Rat) * Y / k := by grind
    rw [e2, e3] at hg2
    have h5 := hq.trans hg2
    have h6 := h5.mulc (c := 1 - T) (m := 1) (by grind) (by grind) h5.pos
    have h7 := ih.trans (by rw [Rat.mul_comm]; exact h6)
    have h8 := (Nr.refl ((t : Rat) / (M : Rat))).sub h7
    have e4 : (((t : Int) - A : Int) : Rat) / (M : Rat) = (t : Rat) / (M : Rat) - (A : Rat) / (M : Rat) := by push_cast; grind
    have e5 : (t : Rat) / (M : Rat) * (1 - Y / k * (1 - T)) = (t : Rat) / (M : Rat) - (1 - T) * ((t : Rat) / (M : Rat) * Y / k) := by grind
    rw [e4, e5]
    refine h8.le ?_
    push_cast
    grind
def quiX (r : Nat) : Nat := r * 2620088056 * 512 + r * 658911831 / 4194304
def h31 : Nat := 2147483648
def m62 : Rat := 4611686018427387904
theorem h31_pos : 0 < h31 := by decide
theorem h31_sq : ((h31 * h31 : Nat) : Rat) = m62 := rfl
theorem unit_ok : (2620088056 * 2147483648 + 658911831) * piD ≤ piN * 19342813113834066795298816 ∧ piN * 19342813113834066795298816 ≤ (2620088056 * 2147483648 + 658911831 + 1) * piD := by decide +kernel
theorem quiX_near {r : Nat} (hr : r ≤ 2700000) : Nr ((quiX r : Rat) / m62) (xi r) (2 / m62) := by
  have hx : quiX r = r * (2620088056 * 2147483648 + 658911831) / 4194304 := by
    unfold quiX
    have gen : ∀ a b c k : Nat, b = k * 512 → r * (a * b + c) = r * c + k * (r * a * 512) := fun a b c k h => by subst h; grind
    rw [gen 2620088056 2147483648 658911831 4194304 (by decide), Nat.add_mul_div_left _ _ (by decide), Nat.add_comm]
  obtain ⟨u1, u2⟩ := unit_ok
  generalize 2620088056 * 2147483648 + 658911831 = U at *
  have h1 := nfl (a := r * U) (K := 4194304) (by decide)
  rw [← hx] at h1
  have hk4 : ((4194304 : Nat) : Rat) = 4194304 := rfl
  rw [hk4] at h1
  have hp : (0 : Rat) < (piD : Rat) := by exact_mod_cast (show 0 < piD by decide +kernel)
  have hr2 : (r : Rat) ≤ 2700000 := by exact_mod_cast hr
  have hr0 : (0 : Rat) ≤ (r : Rat) := by exact_mod_cast Nat.zero_le r
  have v1 : (U : Rat) * (piD : Rat) ≤ (piN : Rat) * 19342813113834066795298816 := by
    have : ((U * piD : Nat) : Rat) ≤ ((piN * 19342813113834066795298816 : Nat) : Rat) := Rat.natCast_le_natCast.2 u1
    rw [Rat.natCast_mul, Rat.natCast_mul] at this
    exact this
  have v2 : (piN : Rat) * 19342813113834066795298816 ≤ ((U : Rat) + 1) * (piD : Rat) := by
    have : ((piN * 19342813113834066795298816 : Nat) : Rat) ≤ (((U + 1) * piD : Nat) : Rat) := Rat.natCast_le_natCast.2 u2
    rw [Rat.natCast_mul, Rat.natCast_mul, Rat.natCast_add] at this
    exact this
  have w1 : (U : Rat) ≤ (piN : Rat) / (piD : Rat) * 19342813113834066795298816 := by
    refine Rat.le_of_mul_le_mul_right (c := (piD : Rat)) ?_ hp
    have : (piN : Rat) / (piD : Rat) * 19342813113834066795298816 * (piD : Rat) = (piN : Rat) * 19342813113834066795298816 := by grind
    rw [this]; exact v1
  have w2 : (piN : Rat) / (piD : Rat) * 19342813113834066795298816 ≤ (U : Rat) + 1 := by
    refine Rat.le_of_mul_le_mul_right (c := (piD : Rat)) ?_ hp
    have : (piN : Rat) / (piD : Rat) * 19342813113834066795298816 * (piD : Rat) = (piN : Rat) * 19342813113834066795298816 := by grind
    rw [this]; exact v2
  unfold xi m62
  generalize (piN : Rat) / (piD : Rat) = P at *
  have y1 := Rat.mul_le_mul_of_nonneg_left w1 hr0
  have y2 := Rat.mul_le_mul_of_nonneg_left w2 hr0
  push_cast at h1
  obtain ⟨a1, a2⟩ := h1
  have z1 : (r : Rat) * U / 4194304 = (r : Rat) * U * (1 / 4194304) := by grind
  rw [z1] at a1 a2
  constructor <;> grind
theorem quiSq {r : Nat} (hr : r ≤ 2700000) : higN h31 (quiX r) (quiX r) ≤ h31 * h31 ∧ quiX r ≤ h31 * h31 ∧ Nr ((higN h31 (quiX r) (quiX r) : Rat) / m62) (xi r * xi r) (7 / m62) ∧ (quiX r : Rat) / m62 ≤ 1 := by
  have hn := quiX_near hr
  have hx4 := xi_in (n := r) (by omega)
  have hx1 : (quiX r : Rat) / m62 ≤ 1 := by
    have : 2 / m62 ≤ 1 / 5 := by unfold m62; grind
    obtain ⟨a, b⟩ := hn; grind
  have hx2 : quiX r ≤ h31 * h31 := by
    have h0 : (0 : Rat) < m62 := by unfold m62; grind
    have := Rat.mul_le_mul_of_nonneg_right hx1 (Rat.le_of_lt h0)
    rw [Rat.div_mul_cancel (by grind), Rat.one_mul, ← h31_sq] at this
    exact_mod_cast this
  have hg := nr_hig (a := quiX r) (b := quiX r) h31_pos
  rw [h31_sq] at hg
  have hx0 : 0 ≤ (quiX r : Rat) / m62 := by rw [← h31_sq]; exact nat0 (by decide)
  have hp := hn.mul hn hx0 hx1 hx4.1 (show xi r ≤ 1 by grind)
  refine ⟨Nat.le_trans (higN_le h31_pos hx2) hx2, hx2, (hg.trans hp).le (by grind), hx1⟩
theorem quick_sin {r : Nat} (hr : r ≤ 2700000) : Nr ((altS h31 (higN h31 (quiX r) (quiX r)) 64 (quiX r) 2 : Rat) / m62) (sinT r) (210 / m62) := by
  obtain ⟨h1, h2, h3, h4⟩ := quiSq hr
  have hx4 := xi_in (n := r) (by omega)
  have hq := sq_in hx4
  have ha := altS_ok h31_pos h1 (f := 64) (t := quiX r) (d := 2) (by decide) (Nat.le_trans h2 (by decide))
  rw [h31_sq] at ha
  have hy0 : 0 ≤ (higN h31 (quiX r) (quiX r) : Rat) / m62 := by rw [← h31_sq]; exact nat0 (by decide)
  have hy1 : (higN h31 (quiX r) (quiX r) : Rat) / m62 ≤ 1 := by
    have : 7 / m62 ≤ 1 / 5 := by unfold m62; grind
    obtain ⟨a, b⟩ := h3; grind
  have hx0 : 0 ≤ (quiX r : Rat) / m62 := by rw [← h31_sq]; exact nat0 (by decide)
  have g1 := tay_arg hy0 hy1 hq.1 (by grind) h3 (m := 64) (d := 2) (by decide)
  have g2 := tay_more hq.1 (by grind) 50 (m := 14) (d := 2) (by decide)
  have g3 := (Nr.refl 1).sub (g1.trans g2)
  obtain ⟨t0, t1⟩ := tay_in hq.1 (by grind) (m := 14) (d := 2) (by decide)
  have g4 := (quiX_near hr).mul g3 hx0 h4 (show 0 ≤ 1 - tay (xi r * xi r) 2 14 by grind) (show 1 - tay (xi r * xi r) 2 14 ≤ 1 by grind)
  have hf := facT_sml (d := 2) (by decide +kernel)
  have hs : sml ≤ 1 / m62 := by unfold sml m62; grind
  have hm : 0 ≤ 1 / m62 := by unfold m62; grind
  unfold sinT
  refine (ha.trans g4).le ?_
  have e64 : ((64 : Nat) : Rat) = 64 := rfl
  rw [e64]
  grind
theorem quick_cos {r : Nat} (hr : r ≤ 2700000) : Nr ((altS h31 (higN h31 (quiX r) (quiX r)) 64 (h31 * h31) 1 : Rat) / m62) (cosT r) (210 / m62) := by
  obtain ⟨h1, h2, h3, h4⟩ := quiSq hr
  have hx4 := xi_in (n := r) (by omega)
  have hq := sq_in hx4
  have ha := altS_ok h31_pos h1 (f := 64) (t := h31 * h31) (d := 1) (by decide) (by decide)
  rw [h31_sq] at ha
  have hy0 : 0 ≤ (higN h31 (quiX r) (quiX r) : Rat) / m62 := by rw [← h31_sq]; exact nat0 (by decide)
  have hy1 : (higN h31 (quiX r) (quiX r) : Rat) / m62 ≤ 1 := by
    have : 7 / m62 ≤ 1 / 5 := by unfold m62; grind
    obtain ⟨a, b⟩ := h3; grind
  have g1 := tay_arg hy0 hy1 hq.1 (by grind) h3 (m := 64) (d := 1) (by decide)
  have g2 := tay_more hq.1 (by grind) 50 (m := 14) (d := 1) (by decide)
  have g3 := (Nr.refl 1).sub (g1.trans g2)
  have hf := facT_sml (d := 1) (by decide +kernel)
  have hs : sml ≤ 1 / m62 := by unfold sml m62; grind
  have hm : 0 ≤ 1 / m62 := by unfold m62; grind
  have hmm : m62 / m62 = 1 := by unfold m62; grind
  unfold cosT
  rw [hmm, Rat.one_mul] at ha
  refine (ha.trans g3).le ?_
  have e64 : ((64 : Nat) : Rat) = 64 := rfl
  rw [e64]
  grind
theorem int_le {f v D G : Int} (h : (f : Rat) * (D : Rat) + (G : Rat) ≤ (v : Rat)) : f * D + G ≤ v := by
  have : ((f * D + G : Int) : Rat) ≤ (v : Rat) := by push_cast; exact h
  exact_mod_cast this
theorem int_ge {f v D G : Int} (h : (v : Rat) + (G : Rat) ≤ ((f : Rat) + 1) * (D : Rat)) : v + G ≤ (f + 1) * D := by
  have : ((v + G : Int) : Rat) ≤ (((f + 1) * D : Int) : Rat) := by push_cast; exact h
  exact_mod_cast this
theorem quick_cell {v : Int} {f : Nat} {V : Rat} (h : Nr ((v : Rat) / m62) V (210 / m62)) (hb : Bt f V) : (f : Int) * 4294967296 + 700 ≤ v ∧ v + 700 ≤ ((f : Int) + 1) * 4294967296 := by
  obtain ⟨h1, h2⟩ := h
  obtain ⟨b1, b2⟩ := hb
  unfold m62 at *
  have z1 : (v : Rat) / 4611686018427387904 = (v : Rat) * (1 / 4611686018427387904) := by grind
  rw [z1] at h1 h2
  have m1 : (f : Rat) * 4294967296 + 700 ≤ (v : Rat) := by grind
  have m2 : (v : Rat) + 700 ≤ ((f : Rat) + 1) * 4294967296 := by grind
  exact ⟨int_le (f := (f : Int)) m1, int_ge (f := (f : Int)) m2⟩
end Go.Proofs.YtnnmfdeeicpdlaaGreat
/- The sine of an angle of the first quadrant. -/
namespace Go.Proofs.YtnnmfdeeicpdlaaGreat
open Go.RowKit

def octS (r : Nat) : Nat := (rotN r).1 / 73786976294838206464
def octC (r : Nat) : Nat := (rotN r).2 / 73786976294838206464
theorem octS_bt {r : Nat} (h1 : 1 ≤ r) (h2 : r ≤ 2700000) (h3 : r ≠ 1800000) : Bt (octS r) (sinT r) := bt_of h2 ((rot_all h1 h2).1 h3) (rot_near h2).1
theorem octC_bt {r : Nat} (h1 : 1 ≤ r) (h2 : r ≤ 2700000) : Bt (octC r) (cosT r) := bt_of h2 (rot_all h1 h2).2 (rot_near h2).2
theorem bt_lt {f : Nat} {v : Rat} (h : Bt f v) (hv : v ≤ 1) : f < 1073741824 := by
  obtain ⟨b1, b2⟩ := h
  have : (f : Rat) < 1073741824 := by grind
  exact_mod_cast this
theorem octS_lt {r : Nat} (h1 : 1 ≤ r) (h2 : r ≤ 2700000) (h3 : r ≠ 1800000) : octS r < 1073741824 := by
  have h4 : r ≤ 2700001 := Nat.le_succ_of_le h2
  exact bt_lt (octS_bt h1 h2 h3) (Rat.le_trans (sin_in h4).2 (Rat.le_trans (xi_in h4).2 (by grind)))
theorem octC_lt {r : Nat} (h1 : 1 ≤ r) (h2 : r ≤ 2700000) : octC r < 1073741824 :=
  bt_lt (octC_bt h1 h2) (cos_in (Nat.le_succ_of_le h2)).2
attribute [irreducible] octS octC
def sinQ (n : Nat) : Nat := if n = 0 then 0 else if n = 1800000 then 536870912 else if n = 5400000 then 1073741824 else if 2 * n ≤ 5400000 then octS n else octC (5400000 - n)
def exaQ (n : Nat) : Bool := n == 0 || n == 1800000 || n == 5400000
theorem top34 {r : List Nat} (h : Wd 4 r) : val4 r / 107839786668602559178668060348078522694548577690162289924414440996864 = nt r 0 / 17179869184 := by
  have e := valB_drop (B := 18446744073709551616) (l := r) (i := 0) (by rw [h.len]; decide)
  rw [List.drop_zero, h.len] at e
  have hlt := valB_lt (B := 18446744073709551616) (by decide) (l := r.drop 1) (fun x hx => h.mem x (List.mem_of_mem_drop hx))
  rw [List.length_drop, h.len] at hlt
  unfold val4
  rw [e]
  rw [show (107839786668602559178668060348078522694548577690162289924414440996864 : Nat) = 18446744073709551616 ^ (4 - 0 - 1) * 17179869184 by decide +kernel, ← Nat.div_div_eq_div_mul]
  rw [show 4 - 1 = 4 - 0 - 1 by rfl] at hlt
  generalize 18446744073709551616 ^ (4 - 0 - 1) = P at *
  rw [Nat.add_comm, Nat.add_mul_div_right _ _ (by omega), Nat.div_eq_of_lt hlt, Nat.zero_add]
theorem sin_cell {r : Nat} {x u p s : List Nat} {y c : Nat} (h1 : 1 ≤ r) (h2 : r ≤ 2700000) (h3 : r ≠ 1800000) (hx : val4 x = r * piN / 10800000) (hu : Wd 4 u) (hs : Wd 4 s)
    (q1 : y * b256 ≤ val4 x * val4 x) (q2 : val4 x * val4 x ≤ (y + 2) * b256) (hc : ChainN b256 y 2 34 (val4 u))
    (p1 : val4 p * b256 ≤ val4 x * val4 u) (p2 : val4 x * val4 u ≤ (val4 p + 2) * b256) (c1 : c ≤ 1) (e : val4 s + val4 p = val4 x + c * b256) : nt s 0 / 17179869184 = octS r := by
  have hul : val4 u < b256 := by rw [← b256_pow]; exact val4_lt hu
  have hsl : val4 s < b256 := by rw [← b256_pow]; exact val4_lt hs
  have hp : val4 p ≤ val4 x := by
    have h4 : val4 p * b256 ≤ val4 x * b256 := Nat.le_trans p1 (Nat.mul_le_mul_left _ (Nat.le_of_lt hul))
    exact Nat.le_of_mul_le_mul_right h4 b256_pos
  have hc2 : c = 0 := by
    have : c = 0 ∨ c = 1 := by omega
    rcases this with rfl | rfl
    · rfl
    · omega
  subst hc2
  rw [← top34 hs]
  exact cell_of (ser_sin h2 hx q1 q2 hc p1 p2 (by omega)) (octS_bt h1 h2 h3)
theorem one_out {f : Nat} {v : Rat} (hf : f < 1073741824) (hb : Bt f v) (hn : Nr (1 - ((0 : Nat) : Rat) / (b256 : Rat)) v sml) : False := by
  have h6 : (f : Rat) + 1 ≤ 1073741824 := by exact_mod_cast hf
  have h7 := hn.1
  have h8 : ((0 : Nat) : Rat) / (b256 : Rat) = 0 := by simp [Rat.div_def]
  rw [h8] at h7
  have h9 := hb.2
  unfold sml at h7
  grind
theorem cos_cell {r : Nat} {x u z s : List Nat} {y c : Nat} (h1 : 1 ≤ r) (h2 : r ≤ 2700000) (hx : val4 x = r * piN / 10800000) (hu : Wd 4 u) (hs : Wd 4 s)
    (q1 : y * b256 ≤ val4 x * val4 x) (q2 : val4 x * val4 x ≤ (y + 2) * b256) (hc : ChainN b256 y 1 34 (val4 u)) (hz : val4 z = 0) (c1 : c ≤ 1) (e : val4 s + val4 u = val4 z + c * b256) : nt s 0 / 17179869184 = octC r := by
  have hul : val4 u < b256 := by rw [← b256_pow]; exact val4_lt hu
  have hn := ser_cos h2 hx q1 q2 hc
  have hb := octC_bt h1 h2
  rw [← top34 hs]
  rw [hz, Nat.zero_add] at e
  have hu0 : val4 u ≠ 0 := fun h0 => by
    rw [h0] at hn
    exact one_out (octC_lt h1 h2) hb hn
  have hc2 : c = 1 := by
    have : c = 0 ∨ c = 1 := by omega
    rcases this with rfl | rfl
    · omega
    · rfl
  subst hc2
  have e2 : (val4 s : Rat) / (b256 : Rat) = 1 - (val4 u : Rat) / (b256 : Rat) := by
    have h5 : (val4 s : Rat) + (val4 u : Rat) = (b256 : Rat) := by exact_mod_cast (show val4 s + val4 u = b256 by omega)
    have hb := b256_rat
    rw [show (val4 s : Rat) = (b256 : Rat) - (val4 u : Rat) by grind]
    grind
  exact cell_of (by rw [e2]; exact hn) hb

theorem sin_wrap {a c : Nat} (h : a / 17179869184 = c) (hc : c < 1073741824) : wrap64 ((a : Int) / 17179869184) = (c : Int) := by
  have e : (a : Int) / 17179869184 = (c : Int) := by omega
  rw [e]
  unfold wrap64
  omega
theorem zero4 : Wd 4 [0, 0, 0, 0] ∧ val4 [0, 0, 0, 0] = 0 := ⟨⟨rfl, fun i => by
  unfold nt
  match i with
  | 0 => decide
  | 1 => decide
  | 2 => decide
  | 3 => decide
  | i + 4 => simp⟩, by decide +kernel⟩
set_option maxHeartbeats 4000000 in
set_option maxRecDepth 100000 in
theorem tg_sine (n : Nat) (hn : n ≤ 5400000) (w : World) :
    Calls Tryz.prog 235 #[.int .i64 (n : Int)] w fun e w' => e = .returned (.tuple #[.int .i64 (sinQ n : Int), .bool (exaQ n)]) ∧ ∃ d, w' = bw w d := by
  refine lay_start ?_
  by_cases c0 : n = 0
  · subst c0
    go_enter Tryz.func235, Tryz.ntmps235
    go_wp2_with fail
    exact bodyPost_ret (v := .tuple #[.int .i64 0, .bool true]) (by simp [results, Tryz.results235, go_sem]) rfl ⟨rfl, lay_ex _ _⟩
  by_cases c1 : n = 1800000
  · subst c1
    go_enter Tryz.func235, Tryz.ntmps235
    go_wp2_with fail
    exact bodyPost_ret (v := .tuple #[.int .i64 536870912, .bool true]) (by simp [results, Tryz.results235, go_sem]) rfl ⟨rfl, lay_ex _ _⟩
  by_cases c2 : n = 5400000
  · subst c2
    go_enter Tryz.func235, Tryz.ntmps235
    go_wp2_with fail
    exact bodyPost_ret (v := .tuple #[.int .i64 1073741824, .bool true]) (by simp [results, Tryz.results235, go_sem]) rfl ⟨rfl, lay_ex _ _⟩
  have b0 : ((n : Int) == 0) = false := beq_eq_false_iff_ne.2 (by omega)
  have b1 : ((n : Int) == 1800000) = false := beq_eq_false_iff_ne.2 (by omega)
  have b2 : ((n : Int) == 5400000) = false := beq_eq_false_iff_ne.2 (by omega)
  have b3 : exaQ n = false := by unfold exaQ; simp [c0, c1, c2]
  rw [b3]
  obtain ⟨N2, hN2⟩ : ∃ N2 : Int, 2 * (n : Int) = N2 := ⟨_, rfl⟩
  have kN2 : IntKind.i64.wrap N2 = N2 := IntWalk.i64_in _ (by omega)
  by_cases c3 : 2 * n ≤ 5400000
  · have b4 : N2 ≤ 5400000 := by omega
    rw [show sinQ n = octS n by unfold sinQ; rw [if_neg c0, if_neg c1, if_neg c2, if_pos c3]]
    have HR := Lib.hid (fun W => tr_radians n (by omega) W)
    unfold nuV at HR
    go_enter Tryz.func235, Tryz.ntmps235
    go_wp2_with (go_at_call 279; refine (HR.out _).mono ?_; rintro e w' ⟨x, dx, rfl, rfl, hx, hx2⟩)
    have HX := Lib.hid (And.intro hx hx2)
    clear hx hx2 HR
    have HL := Lib.hid (fun W => tr_less x 1 HX.out.1 (by decide) W)
    unfold nuV at HL
    rw [show ((1 : Nat) : Int) = 1 from rfl] at HL
    go_wp2_with fail
    refine region_mixS 6 [(0, 0), (1, 0), (2, 0), (3, 1), (4, 1), (5, 1), (6, 3)] (by kernel_rfl) (by kernel_rfl) (by kernel_rfl) rfl ?_
    repeat (first | (refine wpMS_pure rfl (fun K hK => ?_); go_simp; refine hK _ ?_; clear hK K) | (refine wpMS_quiet rfl (fun K hK => ?_); go_simp; first | (refine hK _ ?_; clear hK K) | (apply Exists.intro; refine ⟨fun _ => ?_, hK _ ?_⟩; (first | fail); clear hK K)))
    refine wpMS_special rfl (fun K hK e1 => ?_)
    rw [lay_bw]
    go_simp
    refine (HL.out _).mono ?_
    rintro e w' ⟨u, du, rfl, rfl, hu, y, hy1, hy2, hcn⟩
    have HU := Lib.hid (And.intro hu (And.intro hy1 (And.intro hy2 hcn)))
    clear hu hy1 hy2 hcn HL
    refine ⟨_, rfl, hK _ _ (lay_in w [.inr du, .inr e1] _) ?_⟩
    clear hK K
    have HM := Lib.hid (fun W => nm_mul x u HX.out.1 HU.out.1 W)
    unfold nuV at HM
    refine wpMS_special rfl (fun K hK e2 => ?_)
    rw [lay_bw, lay_bw]
    go_simp
    refine (HM.out _).mono ?_
    rintro e w' ⟨p, dp, rfl, rfl, hp, hp1, hp2⟩
    rw [b256_pow] at hp1 hp2
    have HP := Lib.hid (And.intro hp (And.intro hp1 hp2))
    clear hp hp1 hp2 HM
    refine ⟨_, rfl, hK _ _ (lay_in w [.inr dp, .inr e2, .inr du, .inr e1] _) ?_⟩
    clear hK K
    have HS := Lib.hid (fun W => nm_sub x p HX.out.1 HP.out.1 W)
    unfold nuV at HS
    refine wpMS_special rfl (fun K hK e3 => ?_)
    rw [lay_bw, lay_bw]
    go_simp
    refine (HS.out _).mono ?_
    rintro e w' ⟨r, dr, rfl, rfl, hr, c, hc1, hr2⟩
    rw [b256_pow] at hr2
    have HE := Lib.hid (sin_cell (by omega) (by omega) c1 HX.out.2 HU.out.1 hr HU.out.2.1 HU.out.2.2.1 HU.out.2.2.2 HP.out.2.1 HP.out.2.2 hc1 hr2)
    have HB := Lib.hid (octS_lt (r := n) (by omega) (by omega) c1)
    clear hr hr2 HS hc1
    refine ⟨_, rfl, hK _ _ (lay_in w [.inr dr, .inr e3, .inr dp, .inr e2, .inr du, .inr e1] _) ?_⟩
    clear hK K
    refine wpMS_store rfl (fun K hK e4 => ?_)
    rw [lay_bw, lay_bw]
    go_simp
    refine hK _ _ ?_
    clear hK K
    refine wpMS_nil (fun e5 => ?_)
    rw [lay_bw]
    go_wp2_with fail
    rw [sin_wrap HE.out HB.out]
    exact bodyPost_ret (v := .tuple #[.int .i64 (octS n : Int), .bool false]) (by simp [results, Tryz.results235, go_sem]) rfl ⟨rfl, lay_ex _ _⟩
  · have b4 : ¬ N2 ≤ 5400000 := by omega
    rw [show sinQ n = octC (5400000 - n) by unfold sinQ; rw [if_neg c0, if_neg c1, if_neg c2, if_neg c3]]
    obtain ⟨m, hm⟩ : ∃ m, 5400000 - n = m := ⟨_, rfl⟩
    rw [hm]
    have hm2 : (5400000 : Int) - (n : Int) = (m : Int) := by omega
    have km : IntKind.i64.wrap (m : Int) = (m : Int) := IntWalk.i64_in _ (by omega)
    have HR := Lib.hid (fun W => tr_radians m (by omega) W)
    unfold nuV at HR
    go_enter Tryz.func235, Tryz.ntmps235
    go_wp2_with (go_at_call 279; refine (HR.out _).mono ?_; rintro e w' ⟨x, dx, rfl, rfl, hx, hx2⟩)
    have HX := Lib.hid (And.intro hx hx2)
    clear hx hx2 HR
    have HL := Lib.hid (fun W => tr_less x 0 HX.out.1 (by decide) W)
    unfold nuV at HL
    rw [show ((0 : Nat) : Int) = 0 from rfl] at HL
    go_wp2_with fail
    refine (HL.out _).mono ?_
    rintro e w' ⟨u, du, rfl, rfl, hu, y, hy1, hy2, hcn⟩
    have HU := Lib.hid (And.intro hu (And.intro hy1 (And.intro hy2 hcn)))
    clear hu hy1 hy2 hcn HL
    have HS := Lib.hid (fun W => nm_sub [0, 0, 0, 0] u zero4.1 HU.out.1 W)
    unfold nuV at HS
    change Hid (∀ W, Calls Tryz.prog 280 #[.agg #[.int .u64 0, .int .u64 0, .int .u64 0, .int .u64 0], _] W _) at HS
    go_wp2_with fail
    refine (HS.out _).mono ?_
    rintro e w' ⟨r, dr, rfl, rfl, hr, c, hc1, hr2⟩
    rw [b256_pow] at hr2
    have HE := Lib.hid (cos_cell (by omega) (by omega) HX.out.2 HU.out.1 hr HU.out.2.1 HU.out.2.2.1 HU.out.2.2.2 zero4.2 hc1 hr2)
    have HB := Lib.hid (octC_lt (r := m) (by omega) (by omega))
    clear hr hr2 HS hc1
    go_wp2_with fail
    rw [sin_wrap HE.out HB.out]
    exact bodyPost_ret (v := .tuple #[.int .i64 (octC m : Int), .bool false]) (by simp [results, Tryz.results235, go_sem]) rfl ⟨rfl, lay_ex _ _⟩
attribute [irreducible] sinQ
end Go.Proofs.YtnnmfdeeicpdlaaGreat
/- Sines and cosines over arcs: what the program returns. -/
namespace Go.Proofs.YtnnmfdeeicpdlaaGreat
set_option maxHeartbeats 1000000
set_option maxRecDepth 100000
open Go.RowKit

theorem sinQ_le {n : Nat} (h : n ≤ 5400000) : sinQ n ≤ 1073741824 := by
  unfold sinQ
  split
  · omega
  · split
    · omega
    · split
      · omega
      · split
        · exact Nat.le_of_lt (octS_lt (by omega) (by omega) (by omega))
        · exact Nat.le_of_lt (octC_lt (by omega) (by omega))
def foldT (n : Int) : Nat := if 10800000 < n % 21600000 then (if 16200000 < n % 21600000 then (21600000 - n % 21600000).toNat else (n % 21600000 - 10800000).toNat) else (if 5400000 < n % 21600000 then (10800000 - n % 21600000).toNat else (n % 21600000).toNat)
def souB (n : Int) : Bool := decide (10800000 < n % 21600000)
def oneQ (n : Nat) : Int := if exaQ n then 0 else 1
def bLo (n : Int) : Int := if souB n then -((sinQ (foldT n) : Int) + oneQ (foldT n)) else (sinQ (foldT n) : Int)
def bHi (n : Int) : Int := if souB n then -(sinQ (foldT n) : Int) else (sinQ (foldT n) : Int) + oneQ (foldT n)
theorem foldT_le (n : Int) : foldT n ≤ 5400000 := by
  unfold foldT
  split <;> split <;> omega
theorem oneQ_in (n : Nat) : 0 ≤ oneQ n ∧ oneQ n ≤ 1 := by unfold oneQ; split <;> omega
theorem bLo_in (n : Int) : -1073741825 ≤ bLo n ∧ bLo n ≤ 1073741824 := by
  have h := sinQ_le (foldT_le n)
  have h1 := oneQ_in (foldT n)
  unfold bLo
  split <;> omega
theorem tmod_turn (n : Int) : n.tmod 21600000 = n % 21600000 ∨ (n.tmod 21600000 < 0 ∧ n.tmod 21600000 + 21600000 = n % 21600000) := by
  by_cases h : 0 ≤ n
  · left; exact Int.tmod_eq_emod_of_nonneg h
  · have h1 : n.tmod 21600000 = -((-n) % 21600000) := by
      have := Int.neg_tmod (a := -n) (b := 21600000)
      rw [Int.neg_neg] at this
      rw [this, Int.tmod_eq_emod_of_nonneg (by omega)]
    rw [h1]
    omega
theorem tg_turned (n : Int) (w : World) :
    Calls Tryz.prog 234 #[.int .i64 n] w fun e w' => e = .returned (.int .i64 (n % 21600000)) ∧ w' = w := by
  obtain ⟨r, hr⟩ : ∃ r, n.tmod 21600000 = r := ⟨_, rfl⟩
  obtain ⟨q, hq⟩ : ∃ q, n % 21600000 = q := ⟨_, rfl⟩
  have hc := tmod_turn n
  rw [hr, hq] at hc
  have hq2 : 0 ≤ q ∧ q < 21600000 := by omega
  rw [hq]
  have k1 : IntKind.i64.wrap r = r := IntWalk.i64_in _ (by omega)
  rcases hc with hc | ⟨hc, hc2⟩
  · subst hc
    have h0 : ¬ r < 0 := by omega
    go_enter Tryz.func234, Tryz.ntmps234
    go_wp2_with fail
    go_ret
    exact ⟨rfl, rfl⟩
  · have k2 : IntKind.i64.wrap q = q := IntWalk.i64_in _ (by omega)
    go_enter Tryz.func234, Tryz.ntmps234
    go_wp2_with fail
    go_ret
    exact ⟨rfl, rfl⟩
theorem tg_bounds (n : Int) (w : World) :
    Calls Tryz.prog 180 #[.int .i64 n] w fun e w' => e = .returned (.tuple #[.int .i64 (bLo n), .int .i64 (bHi n)]) ∧ ∃ d, w' = bw w d := by
  refine lay_start ?_
  have HT := Lib.hid (fun W => tg_turned n W)
  have hf := foldT_le n
  have hs := sinQ_le hf
  have HS := Lib.hid (fun W => tg_sine (foldT n) hf W)
  have h1 : bLo n = if souB n then -((sinQ (foldT n) : Int) + oneQ (foldT n)) else (sinQ (foldT n) : Int) := rfl
  have h2 : bHi n = if souB n then -(sinQ (foldT n) : Int) else (sinQ (foldT n) : Int) + oneQ (foldT n) := rfl
  have h3 : foldT n = if 10800000 < n % 21600000 then (if 16200000 < n % 21600000 then (21600000 - n % 21600000).toNat else (n % 21600000 - 10800000).toNat) else (if 5400000 < n % 21600000 then (10800000 - n % 21600000).toNat else (n % 21600000).toNat) := rfl
  have h4 : souB n = decide (10800000 < n % 21600000) := rfl
  have h5 : oneQ (foldT n) = if exaQ (foldT n) then 0 else 1 := rfl
  obtain ⟨q, hq⟩ : ∃ q, n % 21600000 = q := ⟨_, rfl⟩
  have hq2 : 0 ≤ q ∧ q < 21600000 := by omega
  rw [hq] at HT h3 h4
  clear hq
  generalize foldT n = f at *
  generalize sinQ f = s at *
  generalize exaQ f = x at *
  rw [h1, h2]
  clear h1 h2
  rw [h4]
  have ks : IntKind.i64.wrap (s : Int) = (s : Int) := IntWalk.i64_in _ (by omega)
  obtain ⟨s1, hs1⟩ : ∃ s1 : Int, (s : Int) + 1 = s1 := ⟨_, rfl⟩
  have ks1 : IntKind.i64.wrap s1 = s1 := IntWalk.i64_in _ (by omega)
  obtain ⟨m1, hm1⟩ : ∃ m1 : Int, -s1 = m1 := ⟨_, rfl⟩
  have km1 : IntKind.i64.wrap m1 = m1 := IntWalk.i64_in _ (by omega)
  obtain ⟨m0, hm0⟩ : ∃ m0 : Int, -(s : Int) = m0 := ⟨_, rfl⟩
  have km0 : IntKind.i64.wrap m0 = m0 := IntWalk.i64_in _ (by omega)
  by_cases c1 : 10800000 < q
  · have e1 : decide (10800000 < q) = true := decide_eq_true c1
    obtain ⟨p, hp⟩ : ∃ p : Int, q - 10800000 = p := ⟨_, rfl⟩
    have kp : IntKind.i64.wrap p = p := IntWalk.i64_in _ (by omega)
    rw [if_pos c1] at h3
    by_cases c2 : 5400000 < p
    · obtain ⟨g, hg⟩ : ∃ g : Int, 10800000 - p = g := ⟨_, rfl⟩
      have kg : IntKind.i64.wrap g = g := IntWalk.i64_in _ (by omega)
      have hfg : (f : Int) = g := by rw [h3, if_pos (by omega)]; omega
      rw [hfg] at HS
      clear h3 hf
      cases x
      · rw [e1, show oneQ f = 1 from h5]
        clear h5 h4
        first | simp only [if_true] | simp only [Bool.false_eq_true, if_false]
        first | rw [hs1] | skip
        first | rw [hm1] | skip
        first | rw [hm0] | skip
        go_enter Tryz.func180, Tryz.ntmps180
        go_wp2_with (first | (go_at_call 234; refine (HT.out _).mono ?_; rintro e w' ⟨rfl, hw⟩; rw [hw]) | (go_at_call 235; refine (HS.out _).mono ?_; rintro e w' ⟨rfl, d, rfl⟩))
        refine bodyPost_ret (v := .tuple #[.int .i64 m1, .int .i64 m0]) (by simp [results, Tryz.results180, go_sem]) rfl ⟨?_, lay_ex _ _⟩
        first | rfl | (simp; omega) | simp
      · rw [e1, show oneQ f = 0 from h5]
        clear h5 h4
        first | simp only [if_true] | simp only [Bool.false_eq_true, if_false]
        first | rw [hs1] | skip
        first | rw [hm1] | skip
        first | rw [hm0] | skip
        go_enter Tryz.func180, Tryz.ntmps180
        go_wp2_with (first | (go_at_call 234; refine (HT.out _).mono ?_; rintro e w' ⟨rfl, hw⟩; rw [hw]) | (go_at_call 235; refine (HS.out _).mono ?_; rintro e w' ⟨rfl, d, rfl⟩))
        refine bodyPost_ret (v := .tuple #[.int .i64 m0, .int .i64 m0]) (by simp [results, Tryz.results180, go_sem]) rfl ⟨?_, lay_ex _ _⟩
        first | rfl | (simp; omega) | simp
    · have hfg : (f : Int) = p := by rw [h3, if_neg (by omega)]; omega
      rw [hfg] at HS
      clear h3 hf
      cases x
      · rw [e1, show oneQ f = 1 from h5]
        clear h5 h4
        first | simp only [if_true] | simp only [Bool.false_eq_true, if_false]
        first | rw [hs1] | skip
        first | rw [hm1] | skip
        first | rw [hm0] | skip
        go_enter Tryz.func180, Tryz.ntmps180
        go_wp2_with (first | (go_at_call 234; refine (HT.out _).mono ?_; rintro e w' ⟨rfl, hw⟩; rw [hw]) | (go_at_call 235; refine (HS.out _).mono ?_; rintro e w' ⟨rfl, d, rfl⟩))
        refine bodyPost_ret (v := .tuple #[.int .i64 m1, .int .i64 m0]) (by simp [results, Tryz.results180, go_sem]) rfl ⟨?_, lay_ex _ _⟩
        first | rfl | (simp; omega) | simp
      · rw [e1, show oneQ f = 0 from h5]
        clear h5 h4
        first | simp only [if_true] | simp only [Bool.false_eq_true, if_false]
        first | rw [hs1] | skip
        first | rw [hm1] | skip
        first | rw [hm0] | skip
        go_enter Tryz.func180, Tryz.ntmps180
        go_wp2_with (first | (go_at_call 234; refine (HT.out _).mono ?_; rintro e w' ⟨rfl, hw⟩; rw [hw]) | (go_at_call 235; refine (HS.out _).mono ?_; rintro e w' ⟨rfl, d, rfl⟩))
        refine bodyPost_ret (v := .tuple #[.int .i64 m0, .int .i64 m0]) (by simp [results, Tryz.results180, go_sem]) rfl ⟨?_, lay_ex _ _⟩
        first | rfl | (simp; omega) | simp
  · have e1 : decide (10800000 < q) = false := decide_eq_false c1
    rw [if_neg c1] at h3
    by_cases c2 : 5400000 < q
    · obtain ⟨g, hg⟩ : ∃ g : Int, 10800000 - q = g := ⟨_, rfl⟩
      have kg : IntKind.i64.wrap g = g := IntWalk.i64_in _ (by omega)
      have hfg : (f : Int) = g := by rw [h3, if_pos (by omega)]; omega
      rw [hfg] at HS
      clear h3 hf
      cases x
      · rw [e1, show oneQ f = 1 from h5]
        clear h5 h4
        first | simp only [if_true] | simp only [Bool.false_eq_true, if_false]
        first | rw [hs1] | skip
        first | rw [hm1] | skip
        first | rw [hm0] | skip
        go_enter Tryz.func180, Tryz.ntmps180
        go_wp2_with (first | (go_at_call 234; refine (HT.out _).mono ?_; rintro e w' ⟨rfl, hw⟩; rw [hw]) | (go_at_call 235; refine (HS.out _).mono ?_; rintro e w' ⟨rfl, d, rfl⟩))
        refine bodyPost_ret (v := .tuple #[.int .i64 (s : Int), .int .i64 s1]) (by simp [results, Tryz.results180, go_sem]) rfl ⟨?_, lay_ex _ _⟩
        first | rfl | (simp; omega) | simp
      · rw [e1, show oneQ f = 0 from h5]
        clear h5 h4
        first | simp only [if_true] | simp only [Bool.false_eq_true, if_false]
        first | rw [hs1] | skip
        first | rw [hm1] | skip
        first | rw [hm0] | skip
        go_enter Tryz.func180, Tryz.ntmps180
        go_wp2_with (first | (go_at_call 234; refine (HT.out _).mono ?_; rintro e w' ⟨rfl, hw⟩; rw [hw]) | (go_at_call 235; refine (HS.out _).mono ?_; rintro e w' ⟨rfl, d, rfl⟩))
        refine bodyPost_ret (v := .tuple #[.int .i64 (s : Int), .int .i64 (s : Int)]) (by simp [results, Tryz.results180, go_sem]) rfl ⟨?_, lay_ex _ _⟩
        first | rfl | (simp; omega) | simp
    · have hfg : (f : Int) = q := by rw [h3, if_neg (by omega)]; omega
      rw [hfg] at HS
      clear h3 hf
      cases x
      · rw [e1, show oneQ f = 1 from h5]
        clear h5 h4
        first | simp only [if_true] | simp only [Bool.false_eq_true, if_false]
        first | rw [hs1] | skip
        first | rw [hm1] | skip
        first | rw [hm0] | skip
        go_enter Tryz.func180, Tryz.ntmps180
        go_wp2_with (first | (go_at_call 234; refine (HT.out _).mono ?_; rintro e w' ⟨rfl, hw⟩; rw [hw]) | (go_at_call 235; refine (HS.out _).mono ?_; rintro e w' ⟨rfl, d, rfl⟩))
        refine bodyPost_ret (v := .tuple #[.int .i64 (s : Int), .int .i64 s1]) (by simp [results, Tryz.results180, go_sem]) rfl ⟨?_, lay_ex _ _⟩
        first | rfl | (simp; omega) | simp
      · rw [e1, show oneQ f = 0 from h5]
        clear h5 h4
        first | simp only [if_true] | simp only [Bool.false_eq_true, if_false]
        first | rw [hs1] | skip
        first | rw [hm1] | skip
        first | rw [hm0] | skip
        go_enter Tryz.func180, Tryz.ntmps180
        go_wp2_with (first | (go_at_call 234; refine (HT.out _).mono ?_; rintro e w' ⟨rfl, hw⟩; rw [hw]) | (go_at_call 235; refine (HS.out _).mono ?_; rintro e w' ⟨rfl, d, rfl⟩))
        refine bodyPost_ret (v := .tuple #[.int .i64 (s : Int), .int .i64 (s : Int)]) (by simp [results, Tryz.results180, go_sem]) rfl ⟨?_, lay_ex _ _⟩
        first | rfl | (simp; omega) | simp
def metB (lo hi n : Int) : Bool := decide ((n - lo) % 21600000 ≤ hi - lo)
theorem tg_meets (lo hi n : Int) (h1 : -2199023255552 ≤ lo) (h2 : lo ≤ hi) (h3 : hi ≤ 2199023255552) (h4 : 0 ≤ n) (h5 : n ≤ 21600000) (w : World) :
    Calls Tryz.prog 181 #[(.agg #[.int .i64 (lo), .int .i64 (hi)]), .int .i64 n] w fun e w' => e = .returned (.bool (metB lo hi n)) ∧ ∃ d, w' = bw w d := by
  refine lay_start ?_
  obtain ⟨D, hD⟩ : ∃ D : Int, n - lo = D := ⟨_, rfl⟩
  obtain ⟨E, hE⟩ : ∃ E : Int, hi - lo = E := ⟨_, rfl⟩
  have HT := Lib.hid (fun W => tg_turned D W)
  obtain ⟨q, hq⟩ : ∃ q, D % 21600000 = q := ⟨_, rfl⟩
  rw [show metB lo hi n = decide (q ≤ E) by unfold metB; rw [hD, hE, hq]]
  rw [hq] at HT
  have kD : IntKind.i64.wrap D = D := IntWalk.i64_in _ (by omega)
  have kE : IntKind.i64.wrap E = E := IntWalk.i64_in _ (by omega)
  clear hq
  go_enter Tryz.func181, Tryz.ntmps181
  go_wp2_with fail
  refine region_bw (by kernel_rfl) (by kernel_rfl) ?_
  repeat (go_big_quiet_step ((first | (go_at_call 234; exact bqs (HT.out _) ⟨_, rfl⟩))))
  refine wpQuiet_nil ?_
  rintro w' ⟨d, rfl⟩
  rw [lay_bw]
  go_wp2_with fail
  go_ret
  exact ⟨rfl, lay_ex _ _⟩
theorem tg_further (lo hi : Int) (h1 : -2199023255552 ≤ lo) (h2 : lo ≤ hi) (h3 : hi ≤ 2199023255552) (w : World) :
    Calls Tryz.prog 100 #[(.agg #[.int .i64 (lo), .int .i64 (hi)])] w fun e w' => e = .returned (.agg #[.int .i64 (lo + 5400000), .int .i64 (hi + 5400000)]) ∧ ∃ d, w' = bw w d := by
  refine lay_start ?_
  have k1 : IntKind.i64.wrap (lo + 5400000) = lo + 5400000 := IntWalk.i64_in _ (by omega)
  have k2 : IntKind.i64.wrap (hi + 5400000) = hi + 5400000 := IntWalk.i64_in _ (by omega)
  go_enter Tryz.func100, Tryz.ntmps100
  go_wp2_with fail
  exact bodyPost_ret (v := (.agg #[.int .i64 (lo + 5400000), .int .i64 (hi + 5400000)])) (by simp [results, Tryz.results100, go_sem]) rfl ⟨rfl, lay_ex _ _⟩
theorem tg_valid (lo hi : Int) (w : World) :
    Calls Tryz.prog 98 #[(.agg #[.int .i64 (lo), .int .i64 (hi)])] w fun e w' => e = .returned (.bool (validB lo hi)) ∧ ∃ d, w' = bw w d := by
  refine lay_start ?_
  go_enter Tryz.func98, Tryz.ntmps98
  go_wp2
  all_goals go_ret
  all_goals exact ⟨ret_bool (by rw [Bool.eq_iff_iff]; simp [validB]; omega), lay_ex _ _⟩
def encL (lo hi : Int) : Int := if metB lo hi 16200000 then -1073741824 else mn (bLo lo) (bLo hi)
def encH (lo hi : Int) : Int := if metB lo hi 5400000 then 1073741824 else mx (bHi lo) (bHi hi)
theorem tg_enclosure (lo hi : Int) (h1 : -2199023255552 ≤ lo) (h2 : lo ≤ hi) (h3 : hi ≤ 2199023255552) (w : World) :
    Calls Tryz.prog 99 #[(.agg #[.int .i64 (lo), .int .i64 (hi)])] w fun e w' => e = .returned (.agg #[.int .i64 (encL lo hi), .int .i64 (encH lo hi)]) ∧ ∃ d, w' = bw w d := by
  refine lay_start ?_
  have HB1 := Lib.hid (fun W => tg_bounds lo W)
  have HB2 := Lib.hid (fun W => tg_bounds hi W)
  have HM1 := Lib.hid (fun W => tg_meets lo hi 5400000 h1 h2 h3 (by decide) (by decide) W)
  have HM2 := Lib.hid (fun W => tg_meets lo hi 16200000 h1 h2 h3 (by decide) (by decide) W)
  have e1 : encL lo hi = if metB lo hi 16200000 then -1073741824 else mn (bLo lo) (bLo hi) := rfl
  have e2 : encH lo hi = if metB lo hi 5400000 then 1073741824 else mx (bHi lo) (bHi hi) := rfl
  rw [e1, e2]
  clear e1 e2
  generalize bLo lo = p at *
  generalize bLo hi = q at *
  generalize bHi lo = r at *
  generalize bHi hi = s at *
  cases hm1 : metB lo hi 5400000 <;> cases hm2 : metB lo hi 16200000
  all_goals
    rw [hm1] at HM1
    rw [hm2] at HM2
    clear hm1 hm2
    go_enter Tryz.func99, Tryz.ntmps99
    go_wp2_with (first | (go_at_call 180; first | (with_reducible refine (HB1.out _).mono ?_; rintro e w' ⟨rfl, d, rfl⟩) | (with_reducible refine (HB2.out _).mono ?_; rintro e w' ⟨rfl, d', rfl⟩)) | (go_at_call 181; first | (with_reducible refine (HM1.out _).mono ?_; rintro e w' ⟨rfl, d, rfl⟩) | (with_reducible refine (HM2.out _).mono ?_; rintro e w' ⟨rfl, d', rfl⟩)))
  · exact bodyPost_ret (v := (.agg #[.int .i64 (mn p q), .int .i64 (mx r s)])) (by simp [results, Tryz.results99, go_sem]) rfl ⟨rfl, lay_ex _ _⟩
  · exact bodyPost_ret (v := (.agg #[.int .i64 (-1073741824), .int .i64 (mx r s)])) (by simp [results, Tryz.results99, go_sem]) rfl ⟨rfl, lay_ex _ _⟩
  · exact bodyPost_ret (v := (.agg #[.int .i64 (mn p q), .int .i64 (1073741824)])) (by simp [results, Tryz.results99, go_sem]) rfl ⟨rfl, lay_ex _ _⟩
  · exact bodyPost_ret (v := (.agg #[.int .i64 (-1073741824), .int .i64 (1073741824)])) (by simp [results, Tryz.results99, go_sem]) rfl ⟨rfl, lay_ex _ _⟩
attribute [irreducible] encL encH bLo bHi
theorem tg_Sin (lo hi : Int) (hv : validB lo hi = true) (w : World) :
    Calls Tryz.prog 26 #[(.agg #[.int .i64 (lo), .int .i64 (hi)])] w fun e w' => e = .returned (.tuple #[(.agg #[.int .i64 (encL lo hi), .int .i64 (encH lo hi)]), .int .i64 0]) ∧ ∃ d, w' = bw w d := by
  refine lay_start ?_
  have h := validB_iff.1 hv
  have HV := Lib.hid (fun W => tg_valid lo hi W)
  rw [hv] at HV
  have HE := Lib.hid (fun W => tg_enclosure lo hi (by omega) h.1 (by omega) W)
  clear h hv
  generalize encL lo hi = p at *
  generalize encH lo hi = q at *
  go_enter Tryz.func26, Tryz.ntmps26
  go_wp2_with (first | (go_at_call 98; refine (HV.out _).mono ?_; rintro e w' ⟨rfl, d, rfl⟩) | (go_at_call 99; refine (HE.out _).mono ?_; rintro e w' ⟨rfl, d, rfl⟩))
  exact bodyPost_ret (v := .tuple #[(.agg #[.int .i64 (p), .int .i64 (q)]), .int .i64 0]) (by simp [results, Tryz.results26, go_sem]) rfl ⟨rfl, lay_ex _ _⟩
theorem tg_Cos (lo hi : Int) (hv : validB lo hi = true) (w : World) :
    Calls Tryz.prog 27 #[(.agg #[.int .i64 (lo), .int .i64 (hi)])] w fun e w' => e = .returned (.tuple #[(.agg #[.int .i64 (encL (lo + 5400000) (hi + 5400000)), .int .i64 (encH (lo + 5400000) (hi + 5400000))]), .int .i64 0]) ∧ ∃ d, w' = bw w d := by
  refine lay_start ?_
  have h := validB_iff.1 hv
  have HV := Lib.hid (fun W => tg_valid lo hi W)
  rw [hv] at HV
  have HF := Lib.hid (fun W => tg_further lo hi (by omega) h.1 (by omega) W)
  have HE := Lib.hid (fun W => tg_enclosure (lo + 5400000) (hi + 5400000) (by omega) (by omega) (by omega) W)
  clear h hv
  generalize encL (lo + 5400000) (hi + 5400000) = p at *
  generalize encH (lo + 5400000) (hi + 5400000) = q at *
  go_enter Tryz.func27, Tryz.ntmps27
  go_wp2_with (first | (go_at_call 98; refine (HV.out _).mono ?_; rintro e w' ⟨rfl, d, rfl⟩) | (go_at_call 100; refine (HF.out _).mono ?_; rintro e w' ⟨rfl, d, rfl⟩) | (go_at_call 99; refine (HE.out _).mono ?_; rintro e w' ⟨rfl, d, rfl⟩))
  exact bodyPost_ret (v := .tuple #[(.agg #[.int .i64 (p), .int .i64 (q)]), .int .i64 0]) (by simp [results, Tryz.results27, go_sem]) rfl ⟨rfl, lay_ex _ _⟩
end Go.Proofs.YtnnmfdeeicpdlaaGreat
/- Sines grow over the first quadrant; enclosures over parts of arcs. Plain laws, no walk. -/
namespace Go.Proofs.YtnnmfdeeicpdlaaGreat

theorem nr_up {a b e : Rat} (h : Nr a b e) (h1 : b ≤ 4 / 5) (h2 : e ≤ 1 / 100) : a ≤ 1 := by obtain ⟨h3, h4⟩ := h; grind
theorem nr_dn {a b e : Rat} (h : Nr a b e) (h1 : 17 / 25 ≤ b) (h2 : e ≤ 1 / 100) : 1 / 2 ≤ a := by obtain ⟨h3, h4⟩ := h; grind
theorem nat_up {s K : Nat} (hK : 0 < K) (h : (s : Rat) / (K : Rat) ≤ 1) : s ≤ K := by
  have k0 : (0 : Rat) < (K : Rat) := by exact_mod_cast hK
  have b1 := Rat.mul_le_mul_of_nonneg_right h (Rat.le_of_lt k0)
  rw [Rat.div_mul_cancel (Rat.ne_of_gt k0), Rat.one_mul] at b1
  exact_mod_cast b1
theorem nat_dn {s K : Nat} (hK : 0 < K) (h : 1 / 2 ≤ (s : Rat) / (K : Rat)) : K ≤ 2 * s := by
  have k0 : (0 : Rat) < (K : Rat) := by exact_mod_cast hK
  have b1 := Rat.mul_le_mul_of_nonneg_right h (Rat.le_of_lt k0)
  rw [Rat.div_mul_cancel (Rat.ne_of_gt k0)] at b1
  have b2 : (K : Rat) ≤ 2 * (s : Rat) := by grind
  exact_mod_cast b2
theorem k96_nat : k96 = ((79228162514264337593543950336 : Nat) : Rat) := rfl
theorem rot_bd {r : Nat} (h : r ≤ 2700000) : (rotN r).1 ≤ 79228162514264337593543950336 ∧ 79228162514264337593543950336 ≤ 2 * (rotN r).2 := by
  obtain ⟨h1, h2⟩ := rot_near h
  have hs := sin_in (n := r) (Nat.le_succ_of_le h)
  have hx := xi_in (n := r) (Nat.le_succ_of_le h)
  have hc := cos_in (n := r) (Nat.le_succ_of_le h)
  have g1 : 64 * (r : Rat) / k96 ≤ 1 / 100 := by
    have hr : (r : Rat) ≤ 2700000 := by exact_mod_cast h
    have hr0 : (0 : Rat) ≤ (r : Rat) := by exact_mod_cast Nat.zero_le r
    have hk : 0 ≤ 1 / k96 ∧ 1 / k96 ≤ 1 / 100000000000000000000 := by unfold k96; constructor <;> grind
    have := rmul hr0 hr hk.1 hk.2
    generalize (r : Rat) = q at *
    grind
  rw [k96_nat] at h1 h2 g1
  exact ⟨nat_up (by decide) (nr_up h1 (Rat.le_trans hs.2 hx.2) g1), nat_dn (by decide) (nr_dn h2 hc.1 g1)⟩
theorem rot_gen {K c1 s1 s c : Nat} (hK : 0 < K) (h1 : c1 ≤ K) (h2 : 2 * (K - c1) ≤ s1) (hs : s ≤ K) (hc : K ≤ 2 * c) : s ≤ (s * c1 + c * s1) / K ∧ (c * c1 - s * s1) / K ≤ c := by
  constructor
  · rw [Nat.le_div_iff_mul_le hK]
    obtain ⟨d, rfl⟩ : ∃ d, K = c1 + d := ⟨K - c1, by omega⟩
    rw [Nat.add_sub_cancel_left] at h2
    have e1 : s * d ≤ (c1 + d) * d := Nat.mul_le_mul_right d hs
    have e2 : (c1 + d) * d ≤ 2 * c * d := Nat.mul_le_mul_right d hc
    have e3 : c * (2 * d) ≤ c * s1 := Nat.mul_le_mul_left c h2
    have e4 : 2 * c * d = c * (2 * d) := by rw [Nat.mul_comm 2 c, Nat.mul_assoc]
    rw [Nat.mul_add]
    omega
  · refine Nat.div_le_of_le_mul ?_
    refine Nat.le_trans (Nat.sub_le _ _) ?_
    rw [Nat.mul_comm]
    exact Nat.mul_le_mul_right c h1
theorem rot_grow {r : Nat} (h : r ≤ 2700000) : (rotN r).1 ≤ (rotN (r + 1)).1 ∧ (rotN (r + 1)).2 ≤ (rotN r).2 := by
  obtain ⟨h1, h2⟩ := rot_bd h
  rw [rotN_succ]
  exact rot_gen (by decide) (by decide) (by decide) h1 h2
theorem rot_mono {a : Nat} : ∀ {k : Nat}, a + k ≤ 2700001 → (rotN a).1 ≤ (rotN (a + k)).1 ∧ (rotN (a + k)).2 ≤ (rotN a).2
  | 0, _ => ⟨Nat.le_refl _, Nat.le_refl _⟩
  | k + 1, h => by
    obtain ⟨h1, h2⟩ := rot_mono (a := a) (k := k) (by omega)
    obtain ⟨h3, h4⟩ := rot_grow (r := a + k) (by omega)
    exact ⟨Nat.le_trans h1 h3, Nat.le_trans h4 h2⟩
theorem octS_mono {a b : Nat} (h : a ≤ b) (hb : b ≤ 2700001) : octS a ≤ octS b := by
  obtain ⟨k, rfl⟩ : ∃ k, b = a + k := ⟨b - a, by omega⟩
  unfold octS
  exact Nat.div_le_div_right (rot_mono hb).1
theorem octC_anti {a b : Nat} (h : a ≤ b) (hb : b ≤ 2700001) : octC b ≤ octC a := by
  obtain ⟨k, rfl⟩ : ∃ k, b = a + k := ⟨b - a, by omega⟩
  unfold octC
  exact Nat.div_le_div_right (rot_mono hb).2
theorem oct_of {r x y : Nat} (h : RotN r x y) : octS r = x / 73786976294838206464 ∧ octC r = y / 73786976294838206464 := by
  have e : rotN r = (x, y) := h.1
  unfold octS octC
  rw [e]
  exact ⟨rfl, rfl⟩
theorem oct_mid : octS 2700000 = octC 2700000 := by
  have h := oct_of rot_2700000
  rw [h.1, h.2]
theorem octS_half : octS 1800000 < 536870912 ∧ 536870912 ≤ octS 1800001 := by
  have h := oct_of rot_1800000
  have g := oct_of rot_1800001
  rw [h.1, g.1]
  decide +kernel
theorem sinQ_at (n : Nat) : sinQ n = if n = 0 then 0 else if n = 1800000 then 536870912 else if n = 5400000 then 1073741824 else if 2 * n ≤ 5400000 then octS n else octC (5400000 - n) := by unfold sinQ; rfl
theorem sinQ_0 : sinQ 0 = 0 := by rw [sinQ_at, if_pos rfl]
theorem sinQ_h : sinQ 1800000 = 536870912 := by rw [sinQ_at, if_neg (by decide), if_pos rfl]
theorem sinQ_q : sinQ 5400000 = 1073741824 := by rw [sinQ_at, if_neg (by decide), if_neg (by decide), if_pos rfl]
theorem sinQ_s {n : Nat} (h0 : n ≠ 0) (h1 : n ≠ 1800000) (h2 : n ≤ 2700000) : sinQ n = octS n := by rw [sinQ_at, if_neg h0, if_neg h1, if_neg (by omega), if_pos (by omega)]
theorem sinQ_c {n : Nat} (h2 : 2700000 < n) (h3 : n < 5400000) : sinQ n = octC (5400000 - n) := by rw [sinQ_at, if_neg (by omega), if_neg (by omega), if_neg (by omega), if_neg (by omega)]
theorem sinQ_low {n : Nat} (h : n < 1800000) : sinQ n < 536870912 := by
  by_cases h0 : n = 0
  · subst h0; rw [sinQ_0]; decide
  · rw [sinQ_s h0 (by omega) (by omega)]
    exact Nat.lt_of_le_of_lt (octS_mono (show n ≤ 1800000 by omega) (by omega)) octS_half.1
theorem sinQ_lt {n : Nat} (h : n < 5400000) : sinQ n < 1073741824 := by
  by_cases h0 : n < 1800000
  · have := sinQ_low h0; omega
  · by_cases h1 : n = 1800000
    · subst h1; rw [sinQ_h]; decide
    · by_cases h2 : n ≤ 2700000
      · rw [sinQ_s (by omega) h1 h2]; exact octS_lt (by omega) h2 h1
      · rw [sinQ_c (by omega) h]; exact octC_lt (by omega) (by omega)
theorem sinQ_gt {n : Nat} (h : 1800000 < n) (h2 : n < 5400000) : 536870912 ≤ sinQ n := by
  by_cases h1 : n ≤ 2700000
  · rw [sinQ_s (by omega) (by omega) h1]
    exact Nat.le_trans octS_half.2 (octS_mono (by omega) (by omega))
  · rw [sinQ_c (by omega) h2]
    exact Nat.le_trans octS_half.2 (Nat.le_trans (octS_mono (b := 2700000) (by decide) (by decide)) (Nat.le_trans (Nat.le_of_eq oct_mid) (octC_anti (by omega) (by decide))))
theorem sinQ_mono {a b : Nat} (h : a ≤ b) (hb : b ≤ 5400000) : sinQ a ≤ sinQ b := by
  by_cases hq : b = 5400000
  · subst hq; rw [sinQ_q]
    exact sinQ_le h
  by_cases a0 : a = 0
  · subst a0; rw [sinQ_0]; exact Nat.zero_le _
  by_cases ab : a = b
  · subst ab; exact Nat.le_refl _
  by_cases a1 : a < 1800000
  · have h1 := sinQ_low a1
    by_cases b1 : b < 1800000
    · rw [sinQ_s a0 (by omega) (by omega), sinQ_s (by omega) (by omega) (by omega)]
      exact octS_mono h (by omega)
    · by_cases b2 : b = 1800000
      · subst b2; rw [sinQ_h]; omega
      · have := sinQ_gt (n := b) (by omega) (by omega); omega
  · by_cases a2 : a = 1800000
    · subst a2; rw [sinQ_h]; exact sinQ_gt (by omega) (by omega)
    · by_cases a3 : a ≤ 2700000
      · rw [sinQ_s a0 a2 a3]
        by_cases b3 : b ≤ 2700000
        · rw [sinQ_s (by omega) (by omega) b3]; exact octS_mono h (by omega)
        · rw [sinQ_c (by omega) (by omega)]
          exact Nat.le_trans (octS_mono a3 (by decide)) (Nat.le_trans (Nat.le_of_eq oct_mid) (octC_anti (by omega) (by decide)))
      · rw [sinQ_c (by omega) (by omega), sinQ_c (by omega) (by omega)]
        exact octC_anti (by omega) (by omega)
def hiQ (n : Nat) : Int := (sinQ n : Int) + oneQ n
theorem oneQ_at (n : Nat) : oneQ n = if n = 0 ∨ n = 1800000 ∨ n = 5400000 then 0 else 1 := by
  unfold oneQ exaQ
  by_cases h : n = 0 ∨ n = 1800000 ∨ n = 5400000
  · rw [if_pos h, if_pos (by simp; omega)]
  · rw [if_neg h, if_neg (by simp; omega)]
theorem hiQ_mono {a b : Nat} (h : a ≤ b) (hb : b ≤ 5400000) : hiQ a ≤ hiQ b := by
  have hm := sinQ_mono h hb
  unfold hiQ
  rw [oneQ_at, oneQ_at]
  by_cases hb0 : b = 0
  · have : a = 0 := by omega
    subst this; subst hb0; exact Int.le_refl _
  by_cases hb1 : b = 1800000
  · by_cases ha : a = 1800000
    · subst ha; subst hb1; exact Int.le_refl _
    · have := sinQ_low (n := a) (by omega)
      subst hb1
      rw [sinQ_h]
      split <;> simp <;> omega
  by_cases hb2 : b = 5400000
  · by_cases ha : a = 5400000
    · subst ha; subst hb2; exact Int.le_refl _
    · have := sinQ_lt (n := a) (by omega)
      subst hb2
      rw [sinQ_q]
      split <;> simp <;> omega
  rw [if_neg (c := b = 0 ∨ _) (by omega)]
  split <;> omega
theorem hiQ_in {n : Nat} (h : n ≤ 5400000) : 0 ≤ hiQ n ∧ hiQ n ≤ 1073741824 ∧ (sinQ n : Int) ≤ hiQ n := by
  have h1 := hiQ_mono h (Nat.le_refl _)
  have h2 : hiQ 5400000 = 1073741824 := by unfold hiQ; rw [sinQ_q, oneQ_at, if_pos (by decide)]; rfl
  have h3 := (oneQ_in n).1
  rw [h2] at h1
  unfold hiQ at *
  omega
theorem bLo_at (n : Int) : bLo n = if souB n then -(hiQ (foldT n)) else (sinQ (foldT n) : Int) := by unfold bLo hiQ; rfl
theorem bHi_at (n : Int) : bHi n = if souB n then -(sinQ (foldT n) : Int) else hiQ (foldT n) := by unfold bHi hiQ; rfl
theorem fold_shift (n k : Int) : foldT (n + 21600000 * k) = foldT n ∧ souB (n + 21600000 * k) = souB n := by
  have h : (n + 21600000 * k) % 21600000 = n % 21600000 := by omega
  unfold foldT souB
  rw [h]
  exact ⟨rfl, rfl⟩
theorem b_shift (n k : Int) : bLo (n + 21600000 * k) = bLo n ∧ bHi (n + 21600000 * k) = bHi n := by
  obtain ⟨h1, h2⟩ := fold_shift n k
  rw [bLo_at, bLo_at, bHi_at, bHi_at, h1, h2]
  exact ⟨rfl, rfl⟩
theorem bb_le (n : Int) : bLo n ≤ bHi n ∧ -1073741824 ≤ bLo n ∧ bHi n ≤ 1073741824 := by
  have h := hiQ_in (foldT_le n)
  rw [bLo_at, bHi_at]
  split <;> omega
theorem b_one {n : Int} (h0 : 0 ≤ n) (h1 : n ≤ 5400000) : bLo n = (sinQ n.toNat : Int) ∧ bHi n = hiQ n.toNat := by
  have e : n % 21600000 = n := by omega
  rw [bLo_at, bHi_at]
  unfold souB foldT
  rw [e, decide_eq_false (show ¬ 10800000 < n by omega), if_neg (show ¬ (false = true) by decide), if_neg (show ¬ (false = true) by decide), if_neg (show ¬ 10800000 < n by omega), if_neg (show ¬ 5400000 < n by omega)]
  exact ⟨rfl, rfl⟩
theorem b_two {n : Int} (h0 : 5400000 ≤ n) (h1 : n ≤ 10800000) : bLo n = (sinQ (10800000 - n).toNat : Int) ∧ bHi n = hiQ (10800000 - n).toNat := by
  by_cases h2 : n = 5400000
  · subst h2; exact b_one (by decide) (by decide)
  have e : n % 21600000 = n := by omega
  rw [bLo_at, bHi_at]
  unfold souB foldT
  rw [e, decide_eq_false (show ¬ 10800000 < n by omega), if_neg (show ¬ (false = true) by decide), if_neg (show ¬ (false = true) by decide), if_neg (show ¬ 10800000 < n by omega), if_pos (show 5400000 < n by omega)]
  exact ⟨rfl, rfl⟩
theorem b_three {n : Int} (h0 : 10800000 ≤ n) (h1 : n ≤ 16200000) : bLo n = -hiQ (n - 10800000).toNat ∧ bHi n = -(sinQ (n - 10800000).toNat : Int) := by
  by_cases h2 : n = 10800000
  · subst h2
    have h3 := b_two (n := 10800000) (by decide) (by decide)
    rw [h3.1, h3.2]
    have h4 : hiQ 0 = 0 := by unfold hiQ; rw [sinQ_0, oneQ_at, if_pos (by decide)]; rfl
    show ((sinQ 0 : Nat) : Int) = - hiQ 0 ∧ hiQ 0 = -((sinQ 0 : Nat) : Int)
    rw [h4, sinQ_0]
    decide
  have e : n % 21600000 = n := by omega
  rw [bLo_at, bHi_at]
  unfold souB foldT
  rw [e, decide_eq_true (show 10800000 < n by omega), if_pos rfl, if_pos rfl, if_pos (show 10800000 < n by omega), if_neg (show ¬ 16200000 < n by omega)]
  exact ⟨rfl, rfl⟩
theorem b_four {n : Int} (h0 : -5400000 ≤ n) (h1 : n ≤ 0) : bLo n = -hiQ (-n).toNat ∧ bHi n = -(sinQ (-n).toNat : Int) := by
  have hs := b_shift n 1
  rw [← hs.1, ← hs.2]
  by_cases h2 : n = 0
  · subst h2
    have h3 := b_one (n := 0) (by decide) (by decide)
    have h5 := b_shift 0 1
    rw [h5.1, h5.2, h3.1, h3.2]
    have h4 : hiQ 0 = 0 := by unfold hiQ; rw [sinQ_0, oneQ_at, if_pos (by decide)]; rfl
    show ((sinQ 0 : Nat) : Int) = - hiQ 0 ∧ hiQ 0 = -((sinQ 0 : Nat) : Int)
    rw [h4, sinQ_0]
    decide
  by_cases h3 : n = -5400000
  · subst h3
    have := b_three (n := 16200000) (by decide) (by decide)
    exact this
  have e : (n + 21600000 * 1) % 21600000 = n + 21600000 := by omega
  rw [bLo_at, bHi_at]
  unfold souB foldT
  rw [e, decide_eq_true (by omega), if_pos rfl, if_pos rfl, if_pos (by omega), if_pos (by omega)]
  rw [show (21600000 - (n + 21600000)).toNat = (-n).toNat by omega]
  exact ⟨rfl, rfl⟩
theorem b_up {a b : Int} (h0 : -5400000 ≤ a) (h : a ≤ b) (h1 : b ≤ 5400000) : bLo a ≤ bLo b ∧ bHi a ≤ bHi b := by
  by_cases ha : 0 ≤ a
  · have e1 := b_one ha (by omega)
    have e2 := b_one (n := b) (by omega) h1
    rw [e1.1, e1.2, e2.1, e2.2]
    have m1 := sinQ_mono (a := a.toNat) (b := b.toNat) (by omega) (by omega)
    have m2 := hiQ_mono (a := a.toNat) (b := b.toNat) (by omega) (by omega)
    omega
  · have e1 := b_four h0 (by omega)
    have p1 := hiQ_in (n := (-a).toNat) (by omega)
    by_cases hb : 0 ≤ b
    · have e2 := b_one hb h1
      have p2 := hiQ_in (n := b.toNat) (by omega)
      rw [e1.1, e1.2, e2.1, e2.2]
      omega
    · have e2 := b_four (n := b) (by omega) (by omega)
      rw [e1.1, e1.2, e2.1, e2.2]
      have m1 := sinQ_mono (a := (-b).toNat) (b := (-a).toNat) (by omega) (by omega)
      have m2 := hiQ_mono (a := (-b).toNat) (b := (-a).toNat) (by omega) (by omega)
      omega
theorem b_down {a b : Int} (h0 : 5400000 ≤ a) (h : a ≤ b) (h1 : b ≤ 16200000) : bLo b ≤ bLo a ∧ bHi b ≤ bHi a := by
  by_cases hb : b ≤ 10800000
  · have e1 := b_two h0 (by omega)
    have e2 := b_two (n := b) (by omega) hb
    rw [e1.1, e1.2, e2.1, e2.2]
    have m1 := sinQ_mono (a := (10800000 - b).toNat) (b := (10800000 - a).toNat) (by omega) (by omega)
    have m2 := hiQ_mono (a := (10800000 - b).toNat) (b := (10800000 - a).toNat) (by omega) (by omega)
    omega
  · have e2 := b_three (n := b) (by omega) h1
    have p1 := hiQ_in (n := (b - 10800000).toNat) (by omega)
    by_cases ha : a ≤ 10800000
    · have e1 := b_two h0 ha
      have p2 := hiQ_in (n := (10800000 - a).toNat) (by omega)
      rw [e1.1, e1.2, e2.1, e2.2]
      omega
    · have e1 := b_three (n := a) (by omega) (by omega)
      rw [e1.1, e1.2, e2.1, e2.2]
      have m1 := sinQ_mono (a := (a - 10800000).toNat) (b := (b - 10800000).toNat) (by omega) (by omega)
      have m2 := hiQ_mono (a := (a - 10800000).toNat) (b := (b - 10800000).toNat) (by omega) (by omega)
      omega
theorem encL_at (lo hi : Int) : encL lo hi = if metB lo hi 16200000 then -1073741824 else mn (bLo lo) (bLo hi) := by unfold encL; rfl
theorem encH_at (lo hi : Int) : encH lo hi = if metB lo hi 5400000 then 1073741824 else mx (bHi lo) (bHi hi) := by unfold encH; rfl
theorem enc_in {lo hi : Int} : -1073741824 ≤ encL lo hi ∧ encL lo hi ≤ encH lo hi ∧ encH lo hi ≤ 1073741824 := by
  have h1 := bb_le lo
  have h2 := bb_le hi
  rw [encL_at, encH_at, mn_eq, mx_eq]
  split <;> split <;> omega
theorem bLo_pos {n : Int} (h0 : 0 ≤ n) (h1 : n ≤ 10800000) : 0 ≤ bLo n := by
  by_cases h : n ≤ 5400000
  · rw [(b_one h0 h).1]; omega
  · rw [(b_two (n := n) (by omega) h1).1]; omega
end Go.Proofs.YtnnmfdeeicpdlaaGreat
/- Arcsines: the greatest angle whose sine is at most a number. Plain laws, no walk. -/
namespace Go.Proofs.YtnnmfdeeicpdlaaGreat

def belI (n v : Int) : Int := if bHi n ≤ v ∧ bLo n < v then -1 else if v ≤ bLo n ∧ v < bHi n then 1 else if v = bLo n then 0 else if v < bLo n then 1 else -1
theorem bHi_one (n : Int) : bHi n ≤ bLo n + 1 := by
  have h := oneQ_in (foldT n)
  unfold bHi bLo
  split <;> omega
theorem belI_iff (n v : Int) : belI n v ≤ 0 ↔ bHi n ≤ v := by
  have h1 := (bb_le n).1
  have h2 := bHi_one n
  unfold belI
  split
  · omega
  · split
    · omega
    · split
      · omega
      · split <;> omega
theorem b_bot : bHi (-5400000) = -1073741824 := by
  have h := (b_four (n := -5400000) (by decide) (by decide)).2
  rw [h, show (-(-5400000 : Int)).toNat = 5400000 from rfl, sinQ_q]; rfl
structure IsAsn (v r : Int) : Prop where
  lo : -5400000 ≤ r
  hi : r ≤ 5400000
  le : bHi r ≤ v
  gt : r = 5400000 ∨ v < bHi (r + 1)
theorem IsAsn.uniq {v r s : Int} (h : IsAsn v r) (g : IsAsn v s) : r = s := by
  obtain ⟨a1, a2, a3, a4⟩ := h
  obtain ⟨b1, b2, b3, b4⟩ := g
  rcases Int.lt_trichotomy r s with h | h | h
  · have := (b_up (a := r + 1) (b := s) (by omega) (by omega) b2).2
    omega
  · exact h
  · have := (b_up (a := s + 1) (b := r) (by omega) (by omega) a2).2
    omega
theorem isAsn_ex {v : Int} (hv : -1073741824 ≤ v) : ∃ r, IsAsn v r := by
  have key : ∀ k : Nat, k ≤ 10800000 → (∃ r, IsAsn v r) ∨ bHi (-5400000 + k) ≤ v := by
    intro k
    induction k with
    | zero => intro _; right; rw [show (-5400000 : Int) + ((0 : Nat) : Int) = -5400000 from rfl, b_bot]; exact hv
    | succ k ih =>
      intro hk
      rcases ih (by omega) with h | h
      · exact .inl h
      · by_cases c : bHi (-5400000 + ((k + 1 : Nat) : Int)) ≤ v
        · exact .inr c
        · refine .inl ⟨-5400000 + (k : Int), by omega, by omega, h, .inr ?_⟩
          rw [show (-5400000 : Int) + (k : Int) + 1 = -5400000 + ((k + 1 : Nat) : Int) by omega]
          omega
  rcases key 10800000 (Nat.le_refl _) with h | h
  · exact h
  · exact ⟨5400000, by decide, by decide, h, .inl rfl⟩
noncomputable def asnI (v : Int) : Int := by
  classical
  exact if h : ∃ r, IsAsn v r then h.choose else 0
theorem asnI_is {v : Int} (hv : -1073741824 ≤ v) : IsAsn v (asnI v) := by
  have h := isAsn_ex hv
  unfold asnI
  rw [dif_pos h]
  exact h.choose_spec
theorem asnI_eq {v r : Int} (h : IsAsn v r) : asnI v = r := by
  have hv : -1073741824 ≤ v := by
    have h1 := (bb_le r).2.1
    have h2 := (bb_le r).1
    have := h.le
    omega
  exact (asnI_is hv).uniq h
theorem asnI_in {v : Int} (hv : -1073741824 ≤ v) : -5400000 ≤ asnI v ∧ asnI v ≤ 5400000 := ⟨(asnI_is hv).lo, (asnI_is hv).hi⟩
def asE (lo hi : Int) : Int := if (decide (lo ≤ hi ∧ -2147483648 ≤ lo ∧ hi ≤ 2147483648)) = false then 1 else if mn hi 1073741824 < mx lo (-1073741824) then 2 else 0
noncomputable def asL (lo hi : Int) : Int := if asE lo hi = 0 then asnI (mx lo (-1073741824)) else 0
noncomputable def asH (lo hi : Int) : Int := if asE lo hi = 0 then -(asnI (-(mn hi 1073741824))) else 0
end Go.Proofs.YtnnmfdeeicpdlaaGreat
/- Amplitudes: what compass.Amplitude computes, and its laws. No walk. -/
namespace Go.Proofs.YtnnmfdeeicpdlaaGreat

def divL (a0 b0 b1 : Int) : Int := mn (a0 * 1073741824 / b0) (a0 * 1073741824 / b1)
def divH (a1 b0 b1 : Int) : Int := mx (-((-(a1 * 1073741824)) / b0)) (-((-(a1 * 1073741824)) / b1))
theorem fl_le_ce {a b : Int} (hb : 0 < b) : a / b ≤ -((-a) / b) := by
  have h1 := Int.mul_ediv_self_le (x := a) (k := b) (by omega)
  have h2 := Int.mul_ediv_self_le (x := -a) (k := b) (by omega)
  have h3 : b * (a / b + (-a) / b) ≤ b * 0 := by rw [Int.mul_add]; omega
  have := Int.le_of_mul_le_mul_left h3 hb
  omega
theorem div_le {a0 a1 b0 b1 : Int} (h : a0 ≤ a1) (hb : 0 < b0) : divL a0 b0 b1 ≤ divH a1 b0 b1 := by
  have h1 := fl_le_ce (a := a0 * 1073741824) hb
  have h2 : (-(a1 * 1073741824)) / b0 ≤ (-(a0 * 1073741824)) / b0 := Int.ediv_le_ediv hb (by omega)
  unfold divL divH
  rw [mn_eq, mx_eq]; omega
theorem b_odd {n : Int} (h0 : -5400000 ≤ n) (h1 : n ≤ 5400000) : bLo (-n) = -(bHi n) ∧ bHi (-n) = -(bLo n) := by
  by_cases h : 0 ≤ n
  · have e1 := b_one h h1
    have e2 := b_four (n := -n) (by omega) (by omega)
    rw [Int.neg_neg] at e2
    rw [e1.1, e1.2, e2.1, e2.2]
    exact ⟨rfl, rfl⟩
  · have e1 := b_one (n := -n) (by omega) (by omega)
    have e2 := b_four (n := n) (by omega) (by omega)
    rw [e1.1, e1.2, e2.1, e2.2]
    omega
end Go.Proofs.YtnnmfdeeicpdlaaGreat
