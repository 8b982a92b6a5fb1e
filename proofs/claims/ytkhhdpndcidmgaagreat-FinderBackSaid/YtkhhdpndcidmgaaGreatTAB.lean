/- Contracts and plain laws, several texts in one: TgP; TgI -/
import GoSem.Core.Next
/- The Taylor series of the sine and the cosine in nested form, and sums that are rounded at every step. No program in sight. -/
namespace Go.Proofs.YtkhhdpndcidmgaaGreat

theorem rmul {a b c d : Rat} (h1 : 0 ≤ a) (h2 : a ≤ b) (h3 : 0 ≤ c) (h4 : c ≤ d) : a * c ≤ b * d :=
  Rat.le_trans (Rat.mul_le_mul_of_nonneg_left h4 h1) (Rat.mul_le_mul_of_nonneg_right h2 (Rat.le_trans h3 h4))
theorem rmul0 {a c : Rat} (h1 : 0 ≤ a) (h3 : 0 ≤ c) : 0 ≤ a * c := Rat.mul_nonneg h1 h3
def Nr (a b e : Rat) : Prop := a ≤ b + e ∧ b ≤ a + e
theorem Nr.symm {a b e : Rat} (h : Nr a b e) : Nr b a e := ⟨h.2, h.1⟩
theorem Nr.trans {a b c e f : Rat} (h : Nr a b e) (g : Nr b c f) : Nr a c (e + f) := by
  obtain ⟨h1, h2⟩ := h; obtain ⟨g1, g2⟩ := g; constructor <;> grind
theorem Nr.le {a b e f : Rat} (h : Nr a b e) (g : e ≤ f) : Nr a b f := by
  obtain ⟨h1, h2⟩ := h; constructor <;> grind
theorem Nr.add {a b c d e f : Rat} (h : Nr a b e) (g : Nr c d f) : Nr (a + c) (b + d) (e + f) := by
  obtain ⟨h1, h2⟩ := h; obtain ⟨g1, g2⟩ := g; constructor <;> grind
theorem Nr.sub {a b c d e f : Rat} (h : Nr a b e) (g : Nr c d f) : Nr (a - c) (b - d) (e + f) := by
  obtain ⟨h1, h2⟩ := h; obtain ⟨g1, g2⟩ := g; constructor <;> grind
theorem Nr.refl (a : Rat) : Nr a a 0 := by constructor <;> grind
theorem Nr.mulc {a b e c m : Rat} (h : Nr a b e) (h0 : 0 ≤ c) (h1 : c ≤ m) (he : 0 ≤ e) : Nr (c * a) (c * b) (m * e) := by
  obtain ⟨h2, h3⟩ := h
  have g1 := Rat.mul_le_mul_of_nonneg_left h2 h0
  have g2 := Rat.mul_le_mul_of_nonneg_left h3 h0
  have g3 := Rat.mul_le_mul_of_nonneg_right h1 he
  constructor <;> grind
theorem Nr.pos {a b e : Rat} (h : Nr a b e) : 0 ≤ e := by obtain ⟨h1, h2⟩ := h; grind
theorem Nr.mul {a b c d e f m n : Rat} (h : Nr a b e) (g : Nr c d f) (a0 : 0 ≤ a) (a1 : a ≤ m) (d0 : 0 ≤ d) (d1 : d ≤ n) : Nr (a * c) (b * d) (m * f + n * e) := by
  have h1 := (g.mulc a0 a1 g.pos)
  have h2 := (h.mulc d0 d1 h.pos)
  have := h1.trans (show Nr (a * d) (b * d) (n * e) by rw [Rat.mul_comm a, Rat.mul_comm b]; exact h2)
  exact this

def tay (y : Rat) : Nat → Nat → Rat
  | _, 0 => 0
  | d, m + 1 => y / ((d : Rat) * (d + 1)) * (1 - tay y (d + 2) m)
theorem two_le {d : Nat} (h : 1 ≤ d) : (2 : Rat) ≤ (d : Rat) * (d + 1) := by
  have h1 : (1 : Rat) ≤ (d : Rat) := by exact_mod_cast h
  have := rmul (show (0 : Rat) ≤ 1 by decide) h1 (show (0 : Rat) ≤ 2 by decide) (show (2 : Rat) ≤ (d : Rat) + 1 by grind)
  grind
theorem div_ge {y k : Rat} (h0 : 0 ≤ y) (hk : 2 ≤ k) : 0 ≤ y / k ∧ y / k ≤ y / 2 ∧ y / k * k = y := by
  have hk0 : (0 : Rat) < k := by grind
  have e : y / k * k = y := Rat.div_mul_cancel (by grind)
  have hn : 0 ≤ y / k := by
    rw [Rat.div_def]
    exact rmul0 h0 (Rat.le_of_lt (Rat.inv_pos.2 hk0))
  refine ⟨hn, ?_, e⟩
  have := Rat.mul_le_mul_of_nonneg_left hk hn
  grind
theorem tay_in {y : Rat} (h0 : 0 ≤ y) (h1 : y ≤ 1) : ∀ {m d : Nat}, 1 ≤ d → 0 ≤ tay y d m ∧ tay y d m ≤ y / 2
  | 0, d, hd => by unfold tay; constructor <;> grind
  | m + 1, d, hd => by
    obtain ⟨a, b⟩ := tay_in h0 h1 (m := m) (d := d + 2) (by omega)
    obtain ⟨q0, q1, -⟩ := div_ge h0 (two_le hd)
    unfold tay
    have h2 : (0 : Rat) ≤ 1 - tay y (d + 2) m := by grind
    refine ⟨rmul0 q0 h2, ?_⟩
    have := rmul q0 q1 h2 (show 1 - tay y (d + 2) m ≤ 1 by grind)
    grind
def facT : Nat → Nat → Nat
  | _, 0 => 1
  | d, m + 1 => d * (d + 1) * facT (d + 2) m
theorem facT_pos : ∀ {m d : Nat}, 1 ≤ d → 1 ≤ facT d m
  | 0, _, _ => Nat.le_refl _
  | m + 1, d, hd => by
    unfold facT
    have := facT_pos (m := m) (d := d + 2) (by omega)
    exact Nat.mul_pos (Nat.mul_pos (by omega) (by omega)) this
theorem tay_more {y : Rat} (h0 : 0 ≤ y) (h1 : y ≤ 1) (j : Nat) : ∀ {m d : Nat}, 1 ≤ d → Nr (tay y d (m + j)) (tay y d m) (1 / (2 * (facT d m : Rat)))
  | 0, d, hd => by
    obtain ⟨a, b⟩ := tay_in h0 h1 (m := j) hd
    rw [Nat.zero_add]
    show Nr _ 0 (1 / (2 * ((1 : Nat) : Rat)))
    have : (1 : Rat) / (2 * ((1 : Nat) : Rat)) = 1 / 2 := by simp
    rw [this]
    constructor <;> grind
  | m + 1, d, hd => by
    have ih := tay_more h0 h1 j (m := m) (d := d + 2) (by omega)
    obtain ⟨q0, q1, q2⟩ := div_ge h0 (two_le hd)
    have hf := facT_pos (m := m) (d := d + 2) (by omega)
    have hf2 : (1 : Rat) ≤ (facT (d + 2) m : Rat) := by exact_mod_cast hf
    obtain ⟨r0, r1, r2⟩ := div_ge (show (0 : Rat) ≤ 1 by decide) (two_le hd)
    rw [show m + 1 + j = m + j + 1 by omega]
    unfold tay facT
    have h2 : Nr (1 - tay y (d + 2) (m + j)) (1 - tay y (d + 2) m) (1 / (2 * (facT (d + 2) m : Rat))) := by
      have := (Nr.refl 1).sub ih
      exact this.le (by grind)
    have hy : y / ((d : Rat) * (d + 1)) ≤ 1 / ((d : Rat) * (d + 1)) := by
      rw [Rat.div_def, Rat.div_def]
      exact Rat.mul_le_mul_of_nonneg_right h1 (by rw [← Rat.one_mul (_)⁻¹, ← Rat.div_def]; exact r0)
    have h3 := h2.mulc q0 hy h2.pos
    refine h3.le ?_
    have e1 : ((d * (d + 1) * facT (d + 2) m : Nat) : Rat) = (d : Rat) * (d + 1) * (facT (d + 2) m : Rat) := by push_cast; rfl
    rw [e1]
    have := two_le hd
    grind
theorem tay_arg {y z e : Rat} (h0 : 0 ≤ y) (h1 : y ≤ 1) (z0 : 0 ≤ z) (z1 : z ≤ 1) (h : Nr y z e) : ∀ {m d : Nat}, 1 ≤ d → Nr (tay y d m) (tay z d m) e
  | 0, d, hd => by
    have := h.pos
    unfold tay; constructor <;> grind
  | m + 1, d, hd => by
    have ih := tay_arg h0 h1 z0 z1 h (m := m) (d := d + 2) (by omega)
    obtain ⟨a, b⟩ := tay_in z0 z1 (m := m) (d := d + 2) (by omega)
    obtain ⟨q0, q1, q2⟩ := div_ge h0 (two_le hd)
    obtain ⟨r0, r1, r2⟩ := div_ge (show (0 : Rat) ≤ 1 by decide) (two_le hd)
    have he := h.pos
    unfold tay
    have hq : Nr (y / ((d : Rat) * (d + 1))) (z / ((d : Rat) * (d + 1))) (e / 2) := by
      have := h.mulc r0 r1 he
      rw [Rat.div_def, Rat.div_def, Rat.mul_comm y, Rat.mul_comm z]
      rw [Rat.div_def, Rat.one_mul] at this
      exact this.le (by grind)
    have h2 : Nr (1 - tay y (d + 2) m) (1 - tay z (d + 2) m) e := ((Nr.refl 1).sub ih).le (by grind)
    have := hq.mul h2 q0 q1 (show 0 ≤ 1 - tay z (d + 2) m by grind) (show 1 - tay z (d + 2) m ≤ 1 by grind)
    refine this.le ?_
    have := Rat.mul_le_mul_of_nonneg_right h1 he
    grind
end Go.Proofs.YtkhhdpndcidmgaaGreat
/- The addition theorem for the step of one unit, by polynomials with integer coefficients. No program in sight. -/
namespace Go.Proofs.YtkhhdpndcidmgaaGreat

def evI : List Int → Int → Int
  | [], _ => 0
  | a :: l, x => a + x * evI l x
def scI (k : Int) : List Int → List Int
  | [] => []
  | a :: l => k * a :: scI k l
def adI : List Int → List Int → List Int
  | [], m => m
  | a :: l, [] => a :: l
  | a :: l, b :: m => (a + b) :: adI l m
def shI : List Int → List Int
  | [] => []
  | a :: l => adI (a :: shI l) (shI l)
def inI : List Int → List Int
  | [] => []
  | a :: l => a :: 0 :: inI l
def abI : List Int → Nat → Nat
  | [], _ => 0
  | a :: l, N => a.natAbs + N * abI l N
theorem evI_sc (k x : Int) : ∀ l, evI (scI k l) x = k * evI l x
  | [] => by simp [scI, evI]
  | a :: l => by
    have := evI_sc k x l
    simp only [scI, evI, this]; grind
theorem evI_ad (x : Int) : ∀ l m, evI (adI l m) x = evI l x + evI m x
  | [], m => by simp [adI, evI]
  | a :: l, [] => by simp [adI, evI]
  | a :: l, b :: m => by
    have := evI_ad x l m
    simp only [adI, evI, this]; grind
theorem evI_sh (x : Int) : ∀ l, evI (shI l) x = evI l (x + 1)
  | [] => by simp [shI, evI]
  | a :: l => by
    have := evI_sh x l
    simp only [shI, evI, evI_ad, this]; grind
theorem evI_in (x : Int) : ∀ l, evI (inI l) x = evI l (x * x)
  | [] => by simp [inI, evI]
  | a :: l => by
    have := evI_in x l
    simp only [inI, evI, this]; grind
theorem evI_ab {N : Nat} {x : Int} (h : x.natAbs ≤ N) : ∀ l, (evI l x).natAbs ≤ abI l N
  | [] => by simp [evI, abI]
  | a :: l => by
    have ih := evI_ab h l
    have h1 : (x * evI l x).natAbs ≤ N * abI l N := by rw [Int.natAbs_mul]; exact Nat.mul_le_mul h ih
    simp only [evI, abI]
    omega
def dnT (b : Nat) : Nat → Nat → Nat
  | _, 0 => 1
  | d, m + 1 => b * (d * (d + 1)) * dnT b (d + 2) m
def liT (a b : Nat) : Nat → Nat → List Int
  | _, 0 => []
  | d, m + 1 => 0 :: scI a (adI [(dnT b (d + 2) m : Int)] (scI (-1) (liT a b (d + 2) m)))
theorem liT_ok {a b : Nat} (hb : b ≠ 0) {z : Int} : ∀ {m d : Nat}, 1 ≤ d → tay ((z : Rat) * (a : Rat) / (b : Rat)) d m * (dnT b d m : Rat) = ((evI (liT a b d m) z : Int) : Rat)
  | 0, d, hd => by unfold tay liT; simp [evI]
  | m + 1, d, hd => by
    have ih := liT_ok (a := a) hb (z := z) (m := m) (d := d + 2) (by omega)
    have h2 := two_le hd
    have hb2 : (b : Rat) ≠ 0 := by exact_mod_cast hb
    simp only [tay, liT, dnT, evI, evI_sc, evI_ad]
    push_cast
    rw [← ih]
    generalize tay _ (d + 2) m = T
    generalize (dnT b (d + 2) m : Rat) = F
    grind
def piN : Nat := 363771576891766324280234942777729862653393377328392429958772151117938894466185
def piD : Nat := 115792089237316195423570985008687907853269984665640564039457584007913129639936 * 10800000
def xi (n : Nat) : Rat := (n : Rat) * ((piN : Rat) / (piD : Rat))
def sinT (n : Nat) : Rat := xi n * (1 - tay (xi n * xi n) 2 14)
def cosT (n : Nat) : Rat := 1 - tay (xi n * xi n) 1 14
def litA : List Int := adI [(dnT (piD * piD) 2 14 : Int)] (scI (-1) (liT (piN * piN) (piD * piD) 2 14))
def litB : List Int := adI [(dnT (piD * piD) 1 14 : Int)] (scI (-1) (liT (piN * piN) (piD * piD) 1 14))
def facW : Nat := piD * dnT (piD * piD) 2 14 * dnT (piD * piD) 1 14
def lisS : List Int := scI (dnT (piD * piD) 1 14 : Int) (0 :: inI (scI (piN : Int) litA))
def lisC : List Int := scI ((piD * dnT (piD * piD) 2 14 : Nat) : Int) (inI litB)
theorem piD_ne : piD ≠ 0 := by decide +kernel
section
variable {a b : Nat}
theorem xi_sq (hb : b ≠ 0) (n : Nat) : (n : Rat) * ((a : Rat) / (b : Rat)) * ((n : Rat) * ((a : Rat) / (b : Rat))) = (((n * n : Nat) : Int) : Rat) * ((a * a : Nat) : Rat) / ((b * b : Nat) : Rat) := by
  have hb2 : (b : Rat) ≠ 0 := by exact_mod_cast hb
  push_cast
  grind
theorem lis_ok (hb : b ≠ 0) (n d m : Nat) (hd : 1 ≤ d) : (1 - tay ((n : Rat) * ((a : Rat) / (b : Rat)) * ((n : Rat) * ((a : Rat) / (b : Rat)))) d m) * (dnT (b * b) d m : Rat) = ((evI (adI [(dnT (b * b) d m : Int)] (scI (-1) (liT (a * a) (b * b) d m))) ((n * n : Nat) : Int) : Int) : Rat) := by
  have h := liT_ok (a := a * a) (b := b * b) (Nat.mul_ne_zero hb hb) (z := ((n * n : Nat) : Int)) (m := m) hd
  rw [xi_sq hb n, evI_ad, evI_sc]
  generalize tay _ d m = T at *
  simp only [evI]
  push_cast at h ⊢
  rw [← h]
  grind
end
theorem lisS_ok (n : Nat) : sinT n * (facW : Rat) = ((evI lisS (n : Int) : Int) : Rat) := by
  have h := lis_ok (a := piN) piD_ne n 2 14 (by decide)
  have hp : (piD : Rat) ≠ 0 := by exact_mod_cast piD_ne
  unfold sinT lisS facW xi litA
  simp only [evI_sc, evI, evI_in]
  rw [show ((n : Int) * (n : Int)) = ((n * n : Nat) : Int) by push_cast; rfl]
  push_cast at h ⊢
  rw [← h]
  generalize tay _ 2 14 = T
  generalize (dnT _ 2 14 : Rat) = F
  generalize (dnT _ 1 14 : Rat) = G
  generalize (piN : Rat) = A at *
  generalize (piD : Rat) = B at *
  grind
theorem lisC_ok (n : Nat) : cosT n * (facW : Rat) = ((evI lisC (n : Int) : Int) : Rat) := by
  have h := lis_ok (a := piN) piD_ne n 1 14 (by decide)
  unfold cosT lisC facW xi litB
  simp only [evI_sc, evI_in]
  rw [show ((n : Int) * (n : Int)) = ((n * n : Nat) : Int) by push_cast; rfl]
  push_cast at h ⊢
  rw [← h]
  generalize tay _ 1 14 = T
  generalize (dnT _ 2 14 : Rat) = F
  generalize (dnT _ 1 14 : Rat) = G
  generalize (piD : Rat) = B at *
  grind
theorem nr_of_int {a b W E : Rat} (hW : 0 < W) {x : Int} {M : Nat} (h : (a - b) * W = (x : Rat)) (hx : x.natAbs ≤ M) (hM : (M : Rat) ≤ E * W) : Nr a b E := by
  have h1 : (x : Rat) ≤ (M : Rat) := by
    have : x ≤ (M : Int) := by omega
    exact_mod_cast this
  have h2 : -(x : Rat) ≤ (M : Rat) := by
    have : -x ≤ (M : Int) := by omega
    exact_mod_cast this
  constructor
  · refine Rat.le_of_mul_le_mul_right (c := W) ?_ hW
    grind
  · refine Rat.le_of_mul_le_mul_right (c := W) ?_ hW
    grind
def stpS : List Int := adI (scI (facW : Int) (shI lisS)) (adI (scI (-(evI lisC 1)) lisS) (scI (-(evI lisS 1)) lisC))
def stpC : List Int := adI (scI (facW : Int) (shI lisC)) (adI (scI (-(evI lisC 1)) lisC) (scI (evI lisS 1) lisS))
theorem stpS_ab : abI stpS 2700000 * 1267650600228229401496703205376 ≤ facW * facW := by decide +kernel
theorem stpC_ab : abI stpC 2700000 * 1267650600228229401496703205376 ≤ facW * facW := by decide +kernel
theorem facW_pos : 0 < facW := by decide +kernel
theorem midS_ab : (evI lisS 2700000 - evI lisC 2700000).natAbs * 1267650600228229401496703205376 ≤ facW := by decide +kernel
def eps : Rat := 1 / 1267650600228229401496703205376
theorem eps_of {M W : Nat} (h : M * 1267650600228229401496703205376 ≤ W) : (M : Rat) ≤ eps * (W : Rat) := by
  have : (M : Rat) * 1267650600228229401496703205376 ≤ (W : Rat) := by exact_mod_cast h
  unfold eps
  grind
theorem facW_rat : (0 : Rat) < (facW : Rat) := by exact_mod_cast facW_pos
theorem sin_step {n : Nat} (h : n ≤ 2700000) : Nr (sinT (n + 1)) (sinT n * cosT 1 + cosT n * sinT 1) eps := by
  have h1 := lisS_ok (n + 1)
  have h2 := lisS_ok n
  have h3 := lisC_ok n
  have h4 := lisS_ok 1
  have h5 := lisC_ok 1
  have hb := Nat.le_trans (Nat.mul_le_mul_right _ (evI_ab (x := (n : Int)) (N := 2700000) (by omega) stpS)) stpS_ab
  have hW := facW_rat
  refine nr_of_int (W := (facW : Rat) * facW) (x := evI stpS (n : Int)) (Rat.mul_pos hW hW) ?_ (Nat.le_refl _) (by have := eps_of hb; push_cast at this; exact this)
  unfold stpS
  simp only [evI_ad, evI_sc, evI_sh]
  push_cast at h1 h2 h3 h4 h5 ⊢
  rw [← h1, ← h2, ← h3, ← h4, ← h5]
  grind
theorem cos_step {n : Nat} (h : n ≤ 2700000) : Nr (cosT (n + 1)) (cosT n * cosT 1 - sinT n * sinT 1) eps := by
  have h1 := lisC_ok (n + 1)
  have h2 := lisS_ok n
  have h3 := lisC_ok n
  have h4 := lisS_ok 1
  have h5 := lisC_ok 1
  have hb := Nat.le_trans (Nat.mul_le_mul_right _ (evI_ab (x := (n : Int)) (N := 2700000) (by omega) stpC)) stpC_ab
  have hW := facW_rat
  refine nr_of_int (W := (facW : Rat) * facW) (x := evI stpC (n : Int)) (Rat.mul_pos hW hW) ?_ (Nat.le_refl _) (by have := eps_of hb; push_cast at this; exact this)
  unfold stpC
  simp only [evI_ad, evI_sc, evI_sh]
  push_cast at h1 h2 h3 h4 h5 ⊢
  rw [← h1, ← h2, ← h3, ← h4, ← h5]
  grind
theorem sin_mid : Nr (sinT 2700000) (cosT 2700000) eps := by
  have h2 : sinT 2700000 * (facW : Rat) = ((evI lisS 2700000 : Int) : Rat) := lisS_ok 2700000
  have h3 : cosT 2700000 * (facW : Rat) = ((evI lisC 2700000 : Int) : Rat) := lisC_ok 2700000
  refine nr_of_int (W := (facW : Rat)) (x := evI lisS 2700000 - evI lisC 2700000) facW_rat ?_ (Nat.le_refl _) (eps_of midS_ab)
  rw [show (sinT 2700000 - cosT 2700000) * (facW : Rat) = sinT 2700000 * (facW : Rat) - cosT 2700000 * (facW : Rat) by grind, h2, h3]
  generalize evI lisS 2700000 = u
  generalize evI lisC 2700000 = v
  push_cast
  rfl
end Go.Proofs.YtkhhdpndcidmgaaGreat
