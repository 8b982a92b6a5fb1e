/- Contracts and plain laws, several texts in one: TgP; TgI; Shelf -/
import GoSem.Core.Next
import Derived.Shelf.Small.Bits
import Derived.Shelf.Small.Wraps
import Derived.Shelf.Strconv.Itoa0
import Derived.Shelf.Sort.Plain
import Derived.Shelf.Bits.Mul64
import Derived.Shelf.Slices.Turned
import Derived.Ground.Names2Prog
import Derived.Shelf.Slices.Clone
import Derived.Shelf.Slices.CompactS
import Derived.Shelf.Slices.SearchI
import Derived.Shelf.Slices.Cells
import Derived.Shelf.Slices.In.SortNone
import Derived.Shelf.Slices.Empties
import Derived.Test.YtkhhdpndcidmgaaGreatProg
/- The Taylor series of the sine and the cosine in nested form, and sums that are rounded at every step. No program in sight. -/
namespace Go.Proofs.YtkhhdpndcidmgaaGreat

theorem rmul {a b c d : Rat} (h1 : 0 ≤ a) (h2 : a ≤ b) (h3 : 0 ≤ c) (h4 : c ≤ d) : a * c ≤ b * d :=
  Rat.le_trans (Rat.mul_le_mul_of_nonneg_left h4 h1) (Rat.mul_le_mul_of_nonneg_right h2 (Rat.le_trans h3 h4))
theorem rmul0 {a c : Rat} (h1 : 0 ≤ a) (h3 : 0 ≤ c) : 0 ≤ a * c := Rat.mul_nonneg h1 h3
def Nr (a b e : Rat) : Prop := a ≤ b + e ∧ b ≤ a + e
theorem Nr.symm {a b e : Rat} (h : Nr a b e) : Nr b a e := ⟨h.2, h.1⟩
theorem Nr.trans {a b c e f : Rat} (h : Nr a b e) (g : Nr b c f) : Nr a c (e + f) := by
  obtain ⟨h1, h2⟩ := h; obtain ⟨g1, g2⟩ := g; constructor <;> grind
theorem Nr.le {a b e f : Rat} (h : Nr a b e) (g : e ≤ f) : Nr a b f := by
  obtain ⟨h1, h2⟩ := h; constructor <;> grind
theorem Nr.add {a b c d e f : Rat} (h : Nr a b e) (g : Nr c d f) : Nr (a + c) (b + d) (e + f) := by
  obtain ⟨h1, h2⟩ := h; obtain ⟨g1, g2⟩ := g; constructor <;> grind
theorem Nr.sub {a b c d e f : Rat} (h : Nr a b e) (g : Nr c d f) : Nr (a - c) (b - d) (e + f) := by
  obtain ⟨h1, h2⟩ := h; obtain ⟨g1, g2⟩ := g; constructor <;> grind
theorem Nr.refl (a : Rat) : Nr a a 0 := by constructor <;> grind
theorem Nr.mulc {a b e c m : Rat} (h : Nr a b e) (h0 : 0 ≤ c) (h1 : c ≤ m) (he : 0 ≤ e) : Nr (c * a) (c * b) (m * e) := by
  obtain ⟨h2, h3⟩ := h
  have g1 := Rat.mul_le_mul_of_nonneg_left h2 h0
  have g2 := Rat.mul_le_mul_of_nonneg_left h3 h0
  have g3 := Rat.mul_le_mul_of_nonneg_right h1 he
  constructor <;> grind
theorem Nr.pos {a b e : Rat} (h : Nr a b e) : 0 ≤ e := by obtain ⟨h1, h2⟩ := h; grind
theorem Nr.mul {a b c d e f m n : Rat} (h : Nr a b e) (g : Nr c d f) (a0 : 0 ≤ a) (a1 : a ≤ m) (d0 : 0 ≤ d) (d1 : d ≤ n) : Nr (a * c) (b * d) (m * f + n * e) := by
  have h1 := (g.mulc a0 a1 g.pos)
  have h2 := (h.mulc d0 d1 h.pos)
  have := h1.trans (show Nr (a * d) (b * d) (n * e) by rw [Rat.mul_comm a, Rat.mul_comm b]; exact h2)
  exact this

def tay (y : Rat) : Nat → Nat → Rat
  | _, 0 => 0
  | d, m + 1 => y / ((d : Rat) * (d + 1)) * (1 - tay y (d + 2) m)
theorem two_le {d : Nat} (h : 1 ≤ d) : (2 : Rat) ≤ (d : Rat) * (d + 1) := by
  have h1 : (1 : Rat) ≤ (d : Rat) := by exact_mod_cast h
  have := rmul (show (0 : Rat) ≤ 1 by decide) h1 (show (0 : Rat) ≤ 2 by decide) (show (2 : Rat) ≤ (d : Rat) + 1 by grind)
  grind
theorem div_ge {y k : Rat} (h0 : 0 ≤ y) (hk : 2 ≤ k) : 0 ≤ y / k ∧ y / k ≤ y / 2 ∧ y / k * k = y := by
  have hk0 : (0 : Rat) < k := by grind
  have e : y / k * k = y := Rat.div_mul_cancel (by grind)
  have hn : 0 ≤ y / k := by
    rw [Rat.div_def]
    exact rmul0 h0 (Rat.le_of_lt (Rat.inv_pos.2 hk0))
  refine ⟨hn, ?_, e⟩
  have := Rat.mul_le_mul_of_nonneg_left hk hn
  grind
theorem tay_in {y : Rat} (h0 : 0 ≤ y) (h1 : y ≤ 1) : ∀ {m d : Nat}, 1 ≤ d → 0 ≤ tay y d m ∧ tay y d m ≤ y / 2
  | 0, d, hd => by unfold tay; constructor <;> grind
  | m + 1, d, hd => by
    obtain ⟨a, b⟩ := tay_in h0 h1 (m := m) (d := d + 2) (by omega)
    obtain ⟨q0, q1, -⟩ := div_ge h0 (two_le hd)
    unfold tay
    have h2 : (0 : Rat) ≤ 1 - tay y (d + 2) m := by grind
    refine ⟨rmul0 q0 h2, ?_⟩
    have := rmul q0 q1 h2 (show 1 - tay y (d + 2) m ≤ 1 by grind)
    grind
def facT : Nat → Nat → Nat
  | _, 0 => 1
  | d, m + 1 => d * (d + 1) * facT (d + 2) m
theorem facT_pos : ∀ {m d : Nat}, 1 ≤ d → 1 ≤ facT d m
  | 0, _, _ => Nat.le_refl _
  | m + 1, d, hd => by
    unfold facT
    have := facT_pos (m := m) (d := d + 2) (by omega)
    exact Nat.mul_pos (Nat.mul_pos (by omega) (by omega)) this
theorem tay_more {y : Rat} (h0 : 0 ≤ y) (h1 : y ≤ 1) (j : Nat) : ∀ {m d : Nat}, 1 ≤ d → Nr (tay y d (m + j)) (tay y d m) (1 / (2 * (facT d m : Rat)))
  | 0, d, hd => by
    obtain ⟨a, b⟩ := tay_in h0 h1 (m := j) hd
    rw [Nat.zero_add]
    show Nr _ 0 (1 / (2 * ((1 : Nat) : Rat)))
    have : (1 : Rat) / (2 * ((1 : Nat) : Rat)) = 1 / 2 := by simp
    rw [this]
    constructor <;> grind
  | m + 1, d, hd => by
    have ih := tay_more h0 h1 j (m := m) (d := d + 2) (by omega)
    obtain ⟨q0, q1, q2⟩ := div_ge h0 (two_le hd)
    have hf := facT_pos (m := m) (d := d + 2) (by omega)
    have hf2 : (1 : Rat) ≤ (facT (d + 2) m : Rat) := by exact_mod_cast hf
    obtain ⟨r0, r1, r2⟩ := div_ge (show (0 : Rat) ≤ 1 by decide) (two_le hd)
    rw [show m + 1 + j = m + j + 1 by omega]
    unfold tay facT
    have h2 : Nr (1 - tay y (d + 2) (m + j)) (1 - tay y (d + 2) m) (1 / (2 * (facT (d + 2) m : Rat))) := by
      have := (Nr.refl 1).sub ih
      exact this.le (by grind)
    have hy : y / ((d : Rat) * (d + 1)) ≤ 1 / ((d : Rat) * (d + 1)) := by
      rw [Rat.div_def, Rat.div_def]
      exact Rat.mul_le_mul_of_nonneg_right h1 (by rw [← Rat.one_mul (_)⁻¹, ← Rat.div_def]; exact r0)
    have h3 := h2.mulc q0 hy h2.pos
    refine h3.le ?_
    have e1 : ((d * (d + 1) * facT (d + 2) m : Nat) : Rat) = (d : Rat) * (d + 1) * (facT (d + 2) m : Rat) := by push_cast; rfl
    rw [e1]
    have := two_le hd
    grind
theorem tay_arg {y z e : Rat} (h0 : 0 ≤ y) (h1 : y ≤ 1) (z0 : 0 ≤ z) (z1 : z ≤ 1) (h : Nr y z e) : ∀ {m d : Nat}, 1 ≤ d → Nr (tay y d m) (tay z d m) e
  | 0, d, hd => by
    have := h.pos
    unfold tay; constructor <;> grind
  | m + 1, d, hd => by
    have ih := tay_arg h0 h1 z0 z1 h (m := m) (d := d + 2) (by omega)
    obtain ⟨a, b⟩ := tay_in z0 z1 (m := m) (d := d + 2) (by omega)
    obtain ⟨q0, q1, q2⟩ := div_ge h0 (two_le hd)
    obtain ⟨r0, r1, r2⟩ := div_ge (show (0 : Rat) ≤ 1 by decide) (two_le hd)
    have he := h.pos
    unfold tay
    have hq : Nr (y / ((d : Rat) * (d + 1))) (z / ((d : Rat) * (d + 1))) (e / 2) := by
      have := h.mulc r0 r1 he
      rw [Rat.div_def, Rat.div_def, Rat.mul_comm y, Rat.mul_comm z]
      rw [Rat.div_def, Rat.one_mul] at this
      exact this.le (by grind)
    have h2 : Nr (1 - tay y (d + 2) m) (1 - tay z (d + 2) m) e := ((Nr.refl 1).sub ih).le (by grind)
    have := hq.mul h2 q0 q1 (show 0 ≤ 1 - tay z (d + 2) m by grind) (show 1 - tay z (d + 2) m ≤ 1 by grind)
    refine this.le ?_
    have := Rat.mul_le_mul_of_nonneg_right h1 he
    grind
end Go.Proofs.YtkhhdpndcidmgaaGreat
/- The addition theorem for the step of one unit, by polynomials with integer coefficients. No program in sight. -/
namespace Go.Proofs.YtkhhdpndcidmgaaGreat

def evI : List Int → Int → Int
  | [], _ => 0
  | a :: l, x => a + x * evI l x
def scI (k : Int) : List Int → List Int
  | [] => []
  | a :: l => k * a :: scI k l
def adI : List Int → List Int → List Int
  | [], m => m
  | a :: l, [] => a :: l
  | a :: l, b :: m => (a + b) :: adI l m
def shI : List Int → List Int
  | [] => []
  | a :: l => adI (a :: shI l) (shI l)
def inI : List Int → List Int
  | [] => []
  | a :: l => a :: 0 :: inI l
def abI : List Int → Nat → Nat
  | [], _ => 0
  | a :: l, N => a.natAbs + N * abI l N
theorem evI_sc (k x : Int) : ∀ l, evI (scI k l) x = k * evI l x
  | [] => by simp [scI, evI]
  | a :: l => by
    have := evI_sc k x l
    simp only [scI, evI, this]; grind
theorem evI_ad (x : Int) : ∀ l m, evI (adI l m) x = evI l x + evI m x
  | [], m => by simp [adI, evI]
  | a :: l, [] => by simp [adI, evI]
  | a :: l, b :: m => by
    have := evI_ad x l m
    simp only [adI, evI, this]; grind
theorem evI_sh (x : Int) : ∀ l, evI (shI l) x = evI l (x + 1)
  | [] => by simp [shI, evI]
  | a :: l => by
    have := evI_sh x l
    simp only [shI, evI, evI_ad, this]; grind
theorem evI_in (x : Int) : ∀ l, evI (inI l) x = evI l (x * x)
  | [] => by simp [inI, evI]
  | a :: l => by
    have := evI_in x l
    simp only [inI, evI, this]; grind
theorem evI_ab {N : Nat} {x : Int} (h : x.natAbs ≤ N) : ∀ l, (evI l x).natAbs ≤ abI l N
  | [] => by simp [evI, abI]
  | a :: l => by
    have ih := evI_ab h l
    have h1 : (x * evI l x).natAbs ≤ N * abI l N := by rw [Int.natAbs_mul]; exact Nat.mul_le_mul h ih
    simp only [evI, abI]
    omega
def dnT (b : Nat) : Nat → Nat → Nat
  | _, 0 => 1
  | d, m + 1 => b * (d * (d + 1)) * dnT b (d + 2) m
def liT (a b : Nat) : Nat → Nat → List Int
  | _, 0 => []
  | d, m + 1 => 0 :: scI a (adI [(dnT b (d + 2) m : Int)] (scI (-1) (liT a b (d + 2) m)))
theorem liT_ok {a b : Nat} (hb : b ≠ 0) {z : Int} : ∀ {m d : Nat}, 1 ≤ d → tay ((z : Rat) * (a : Rat) / (b : Rat)) d m * (dnT b d m : Rat) = ((evI (liT a b d m) z : Int) : Rat)
  | 0, d, hd => by unfold tay liT; simp [evI]
  | m + 1, d, hd => by
    have ih := liT_ok (a := a) hb (z := z) (m := m) (d := d + 2) (by omega)
    have h2 := two_le hd
    have hb2 : (b : Rat) ≠ 0 := by exact_mod_cast hb
    simp only [tay, liT, dnT, evI, evI_sc, evI_ad]
    push_cast
    rw [← ih]
    generalize tay _ (d + 2) m = T
    generalize (dnT b (d + 2) m : Rat) = F
    grind
def piN : Nat := 363771576891766324280234942777729862653393377328392429958772151117938894466185
def piD : Nat := 115792089237316195423570985008687907853269984665640564039457584007913129639936 * 10800000
def xi (n : Nat) : Rat := (n : Rat) * ((piN : Rat) / (piD : Rat))
def sinT (n : Nat) : Rat := xi n * (1 - tay (xi n * xi n) 2 14)
def cosT (n : Nat) : Rat := 1 - tay (xi n * xi n) 1 14
def litA : List Int := adI [(dnT (piD * piD) 2 14 : Int)] (scI (-1) (liT (piN * piN) (piD * piD) 2 14))
def litB : List Int := adI [(dnT (piD * piD) 1 14 : Int)] (scI (-1) (liT (piN * piN) (piD * piD) 1 14))
def facW : Nat := piD * dnT (piD * piD) 2 14 * dnT (piD * piD) 1 14
def lisS : List Int := scI (dnT (piD * piD) 1 14 : Int) (0 :: inI (scI (piN : Int) litA))
def lisC : List Int := scI ((piD * dnT (piD * piD) 2 14 : Nat) : Int) (inI litB)
theorem piD_ne : piD ≠ 0 := by decide +kernel
section
variable {a b : Nat}
theorem xi_sq (hb : b ≠ 0) (n : Nat) : (n : Rat) * ((a : Rat) / (b : Rat)) * ((n : Rat) * ((a : Rat) / (b : Rat))) = (((n * n : Nat) : Int) : Rat) * ((a * a : Nat) : Rat) / ((b * b : Nat) : Rat) := by
  have hb2 : (b : Rat) ≠ 0 := by exact_mod_cast hb
  push_cast
  grind
theorem lis_ok (hb : b ≠ 0) (n d m : Nat) (hd : 1 ≤ d) : (1 - tay ((n : Rat) * ((a : Rat) / (b : Rat)) * ((n : Rat) * ((a : Rat) / (b : Rat)))) d m) * (dnT (b * b) d m : Rat) = ((evI (adI [(dnT (b * b) d m : Int)] (scI (-1) (liT (a * a) (b * b) d m))) ((n * n : Nat) : Int) : Int) : Rat) := by
  have h := liT_ok (a := a * a) (b := b * b) (Nat.mul_ne_zero hb hb) (z := ((n * n : Nat) : Int)) (m := m) hd
  rw [xi_sq hb n, evI_ad, evI_sc]
  generalize tay _ d m = T at *
  simp only [evI]
  push_cast at h ⊢
  rw [← h]
  grind
end
theorem lisS_ok (n : Nat) : sinT n * (facW : Rat) = ((evI lisS (n : Int) : Int) : Rat) := by
  have h := lis_ok (a := piN) piD_ne n 2 14 (by decide)
  have hp : (piD : Rat) ≠ 0 := by exact_mod_cast piD_ne
  unfold sinT lisS facW xi litA
  simp only [evI_sc, evI, evI_in]
  rw [show ((n : Int) * (n : Int)) = ((n * n : Nat) : Int) by push_cast; rfl]
  push_cast at h ⊢
  rw [← h]
  generalize tay _ 2 14 = T
  generalize (dnT _ 2 14 : Rat) = F
  generalize (dnT _ 1 14 : Rat) = G
  generalize (piN : Rat) = A at *
  generalize (piD : Rat) = B at *
  grind
theorem lisC_ok (n : Nat) : cosT n * (facW : Rat) = ((evI lisC (n : Int) : Int) : Rat) := by
  have h := lis_ok (a := piN) piD_ne n 1 14 (by decide)
  unfold cosT lisC facW xi litB
  simp only [evI_sc, evI_in]
  rw [show ((n : Int) * (n : Int)) = ((n * n : Nat) : Int) by push_cast; rfl]
  push_cast at h ⊢
  rw [← h]
  generalize tay _ 1 14 = T
  generalize (dnT _ 2 14 : Rat) = F
  generalize (dnT _ 1 14 : Rat) = G
  generalize (piD : Rat) = B at *
  grind
theorem nr_of_int {a b W E : Rat} (hW : 0 < W) {x : Int} {M : Nat} (h : (a - b) * W = (x : Rat)) (hx : x.natAbs ≤ M) (hM : (M : Rat) ≤ E * W) : Nr a b E := by
  have h1 : (x : Rat) ≤ (M : Rat) := by
    have : x ≤ (M : Int) := by omega
    exact_mod_cast this
  have h2 : -(x : Rat) ≤ (M : Rat) := by
    have : -x ≤ (M : Int) := by omega
    exact_mod_cast this
  constructor
  · refine Rat.le_of_mul_le_mul_right (c := W) ?_ hW
    grind
  · refine Rat.le_of_mul_le_mul_right (c := W) ?_ hW
    grind
def stpS : List Int := adI (scI (facW : Int) (shI lisS)) (adI (scI (-(evI lisC 1)) lisS) (scI (-(evI lisS 1)) lisC))
def stpC : List Int := adI (scI (facW : Int) (shI lisC)) (adI (scI (-(evI lisC 1)) lisC) (scI (evI lisS 1) lisS))
theorem stpS_ab : abI stpS 2700000 * 1267650600228229401496703205376 ≤ facW * facW := by decide +kernel
theorem stpC_ab : abI stpC 2700000 * 1267650600228229401496703205376 ≤ facW * facW := by decide +kernel
theorem facW_pos : 0 < facW := by decide +kernel
theorem midS_ab : (evI lisS 2700000 - evI lisC 2700000).natAbs * 1267650600228229401496703205376 ≤ facW := by decide +kernel
def eps : Rat := 1 / 1267650600228229401496703205376
theorem eps_of {M W : Nat} (h : M * 1267650600228229401496703205376 ≤ W) : (M : Rat) ≤ eps * (W : Rat) := by
  have : (M : Rat) * 1267650600228229401496703205376 ≤ (W : Rat) := by exact_mod_cast h
  unfold eps
  grind
theorem facW_rat : (0 : Rat) < (facW : Rat) := by exact_mod_cast facW_pos
theorem sin_step {n : Nat} (h : n ≤ 2700000) : Nr (sinT (n + 1)) (sinT n * cosT 1 + cosT n * sinT 1) eps := by
  have h1 := lisS_ok (n + 1)
  have h2 := lisS_ok n
  have h3 := lisC_ok n
  have h4 := lisS_ok 1
  have h5 := lisC_ok 1
  have hb := Nat.le_trans (Nat.mul_le_mul_right _ (evI_ab (x := (n : Int)) (N := 2700000) (by omega) stpS)) stpS_ab
  have hW := facW_rat
  refine nr_of_int (W := (facW : Rat) * facW) (x := evI stpS (n : Int)) (Rat.mul_pos hW hW) ?_ (Nat.le_refl _) (by have := eps_of hb; push_cast at this; exact this)
  unfold stpS
  simp only [evI_ad, evI_sc, evI_sh]
  push_cast at h1 h2 h3 h4 h5 ⊢
  rw [← h1, ← h2, ← h3, ← h4, ← h5]
  grind
theorem cos_step {n : Nat} (h : n ≤ 2700000) : Nr (cosT (n + 1)) (cosT n * cosT 1 - sinT n * sinT 1) eps := by
  have h1 := lisC_ok (n + 1)
  have h2 := lisS_ok n
  have h3 := lisC_ok n
  have h4 := lisS_ok 1
  have h5 := lisC_ok 1
  have hb := Nat.le_trans (Nat.mul_le_mul_right _ (evI_ab (x := (n : Int)) (N := 2700000) (by omega) stpC)) stpC_ab
  have hW := facW_rat
  refine nr_of_int (W := (facW : Rat) * facW) (x := evI stpC (n : Int)) (Rat.mul_pos hW hW) ?_ (Nat.le_refl _) (by have := eps_of hb; push_cast at this; exact this)
  unfold stpC
  simp only [evI_ad, evI_sc, evI_sh]
  push_cast at h1 h2 h3 h4 h5 ⊢
  rw [← h1, ← h2, ← h3, ← h4, ← h5]
  grind
theorem sin_mid : Nr (sinT 2700000) (cosT 2700000) eps := by
  have h2 : sinT 2700000 * (facW : Rat) = ((evI lisS 2700000 : Int) : Rat) := lisS_ok 2700000
  have h3 : cosT 2700000 * (facW : Rat) = ((evI lisC 2700000 : Int) : Rat) := lisC_ok 2700000
  refine nr_of_int (W := (facW : Rat)) (x := evI lisS 2700000 - evI lisC 2700000) facW_rat ?_ (Nat.le_refl _) (eps_of midS_ab)
  rw [show (sinT 2700000 - cosT 2700000) * (facW : Rat) = sinT 2700000 * (facW : Rat) - cosT 2700000 * (facW : Rat) by grind, h2, h3]
  generalize evI lisS 2700000 = u
  generalize evI lisC 2700000 = v
  push_cast
  rfl
end Go.Proofs.YtkhhdpndcidmgaaGreat
/- DERIVED: THE SHELF's CONTRACTS AT THIS DUMP, IN PLAIN WORDS (tools/lay-plain.mjs out of 'TryzShelf.lean', which tools/lay-shelf.mjs wrote): THE SAME DECLARATIONS UNDER THE SAME NAMES: 'import', 'namespace', 'open', 'def', 'theorem' AND NOTHING ELSE: no command of the shelf's: FOR A HAND-IN. Each laying: the table of numbers ('.._ren') and one theorem, a field a fact of the dump's own or the kernel's comparison; each contract: ONE APPLICATION. -/
namespace Go.Proofs
open Go.Shelf
def Tryz.lays134_ren : Go.Shelf.Ren := ⟨fun | 134 => 191 | 129 => 168 | n => n, fun | 53 => 164 | 3 => 3 | 4 => 4 | 46 => 159 | 5 => 5 | 9 => 9 | n => n, fun | n => n⟩
theorem Tryz.lays134 : Go.Proofs.Lays.n134 Tryz.prog Tryz.lays134_ren := {
  mixed := by kernel_rfl
  f129 := Tryz.func168.trans (congrArg some (by kernel_rfl))
  f134 := Tryz.func191.trans (congrArg some (by kernel_rfl))
  t3 := Tryz.underlying3
  a3 := Tryz.isAgg3
  z3 := Tryz.sizeOf3
  v3 := Tryz.zeroValue3
  t4 := Tryz.underlying4
  a4 := Tryz.isAgg4
  z4 := Tryz.sizeOf4
  v4 := Tryz.zeroValue4
  t5 := Tryz.underlying5
  a5 := Tryz.isAgg5
  z5 := Tryz.sizeOf5
  v5 := Tryz.zeroValue5
  t9 := Tryz.underlying9
  a9 := Tryz.isAgg9
  z9 := Tryz.sizeOf9
  v9 := Tryz.zeroValue9
  t46 := Tryz.underlying159
  a46 := Tryz.isAgg159
  z46 := Tryz.sizeOf159
  v46 := Tryz.zeroValue159
  t53 := Tryz.underlying164
  a53 := Tryz.isAgg164
  z53 := Tryz.sizeOf164
  v53 := Tryz.zeroValue164 }
theorem Tryz.bits_LeadingZeros64 (x : Int) (w : World) (h0 : 0 ≤ x) (h1 : x ≤ 18446744073709551615) :
    Calls Tryz.prog 191 #[.int .u64 x] w fun e w' => e = .returned (.int .i64 (64 - (Lib.bitLen x.toNat : Int))) ∧ w' = w := Any.bits_LeadingZeros64 Tryz.lays134 x w h0 h1
def Tryz.lays190_ren : Go.Shelf.Ren := ⟨fun | 190 => 94 | 125 => 128 | 258 => 127 | 128 => 167 | 129 => 168 | 302 => 158 | 303 => 159 | 304 => 160 | 305 => 161 | 306 => 162 | 307 => 163 | 308 => 164 | 309 => 165 | 310 => 166 | 333 => 185 | 329 => 186 | 330 => 187 | 334 => 188 | 335 => 189 | 336 => 190 | 344 => 204 | n => n, fun | 31 => 103 | 9 => 9 | 3 => 3 | 46 => 159 | 0 => 0 | 51 => 191 | 53 => 164 | 4 => 4 | 183 => 184 | 182 => 183 | 131 => 119 | 5 => 5 | 218 => 206 | 222 => 210 | 228 => 217 | 229 => 122 | n => n, fun | n => n⟩
theorem Tryz.lays190 : Go.Proofs.Lays.n190 Tryz.prog Tryz.lays190_ren := {
  mixed := by kernel_rfl
  f125 := Tryz.func128.trans (congrArg some (by kernel_rfl))
  f128 := Tryz.func167.trans (congrArg some (by kernel_rfl))
  f129 := Tryz.func168.trans (congrArg some (by kernel_rfl))
  f190 := Tryz.func94.trans (congrArg some (by kernel_rfl))
  f258 := Tryz.func127.trans (congrArg some (by kernel_rfl))
  f302 := Tryz.func158.trans (congrArg some (by kernel_rfl))
  f303 := Tryz.func159.trans (congrArg some (by kernel_rfl))
  f304 := Tryz.func160.trans (congrArg some (by kernel_rfl))
  f305 := Tryz.func161.trans (congrArg some (by kernel_rfl))
  f306 := Tryz.func162.trans (congrArg some (by kernel_rfl))
  f307 := Tryz.func163.trans (congrArg some (by kernel_rfl))
  f308 := Tryz.func164.trans (congrArg some (by kernel_rfl))
  f309 := Tryz.func165.trans (congrArg some (by kernel_rfl))
  f310 := Tryz.func166.trans (congrArg some (by kernel_rfl))
  f329 := Tryz.func186.trans (congrArg some (by kernel_rfl))
  f330 := Tryz.func187.trans (congrArg some (by kernel_rfl))
  f333 := Tryz.func185.trans (congrArg some (by kernel_rfl))
  f334 := Tryz.func188.trans (congrArg some (by kernel_rfl))
  f335 := Tryz.func189.trans (congrArg some (by kernel_rfl))
  f336 := Tryz.func190.trans (congrArg some (by kernel_rfl))
  f344 := Tryz.func204.trans (congrArg some (by kernel_rfl))
  t0 := Tryz.underlying0
  a0 := Tryz.isAgg0
  z0 := Tryz.sizeOf0
  v0 := Tryz.zeroValue0
  t3 := Tryz.underlying3
  a3 := Tryz.isAgg3
  z3 := Tryz.sizeOf3
  v3 := Tryz.zeroValue3
  t4 := Tryz.underlying4
  a4 := Tryz.isAgg4
  z4 := Tryz.sizeOf4
  v4 := Tryz.zeroValue4
  t5 := Tryz.underlying5
  a5 := Tryz.isAgg5
  z5 := Tryz.sizeOf5
  v5 := Tryz.zeroValue5
  t9 := Tryz.underlying9
  a9 := Tryz.isAgg9
  z9 := Tryz.sizeOf9
  v9 := Tryz.zeroValue9
  t31 := Tryz.underlying103
  a31 := Tryz.isAgg103
  z31 := Tryz.sizeOf103
  v31 := Tryz.zeroValue103
  t46 := Tryz.underlying159
  a46 := Tryz.isAgg159
  z46 := Tryz.sizeOf159
  v46 := Tryz.zeroValue159
  t51 := Tryz.underlying191
  a51 := Tryz.isAgg191
  z51 := Tryz.sizeOf191
  v51 := Tryz.zeroValue191
  t53 := Tryz.underlying164
  a53 := Tryz.isAgg164
  z53 := Tryz.sizeOf164
  v53 := Tryz.zeroValue164
  t131 := Tryz.underlying119
  a131 := Tryz.isAgg119
  z131 := Tryz.sizeOf119
  v131 := Tryz.zeroValue119
  t182 := Tryz.underlying183
  a182 := Tryz.isAgg183
  z182 := Tryz.sizeOf183
  v182 := Tryz.zeroValue183
  t183 := Tryz.underlying184
  a183 := Tryz.isAgg184
  z183 := Tryz.sizeOf184
  v183 := Tryz.zeroValue184
  t218 := Tryz.underlying206
  a218 := Tryz.isAgg206
  z218 := Tryz.sizeOf206
  v218 := Tryz.zeroValue206
  t222 := Tryz.underlying210
  a222 := Tryz.isAgg210
  z222 := Tryz.sizeOf210
  v222 := Tryz.zeroValue210
  t228 := Tryz.underlying217
  a228 := Tryz.isAgg217
  z228 := Tryz.sizeOf217
  v228 := Tryz.zeroValue217
  t229 := Tryz.underlying122
  a229 := Tryz.isAgg122
  z229 := Tryz.sizeOf122
  v229 := Tryz.zeroValue122 }
def Tryz.lays264_ren : Go.Shelf.Ren := ⟨fun | 264 => 169 | n => n, fun | 53 => 164 | 46 => 159 | n => n, fun | n => n⟩
theorem Tryz.lays264 : Go.Proofs.Lays.n264 Tryz.prog Tryz.lays264_ren := {
  mixed := by kernel_rfl
  f264 := Tryz.func169.trans (congrArg some (by kernel_rfl))
  t46 := Tryz.underlying159
  a46 := Tryz.isAgg159
  z46 := Tryz.sizeOf159
  v46 := Tryz.zeroValue159
  t53 := Tryz.underlying164
  a53 := Tryz.isAgg164
  z53 := Tryz.sizeOf164
  v53 := Tryz.zeroValue164 }
open Go.RowKit Go.Lib in
theorem Tryz.bits_Mul64 (x y : Nat) (hx : x < 18446744073709551616) (hy : y < 18446744073709551616) (w : World) :
    Calls Tryz.prog 169 #[.int .u64 x, .int .u64 y] w fun e w' => e = .returned (.tuple #[.int .u64 ((x * y / 18446744073709551616 : Nat) : Int), .int .u64 ((x * y % 18446744073709551616 : Nat) : Int)]) ∧ w' = w := Any.bits_Mul64 Tryz.lays264 x y hx hy w
def Tryz.lays110_ren : Go.Shelf.Ren := ⟨fun | 110 => 56 | 109 => 96 | n => n, fun | 31 => 103 | 9 => 9 | 4 => 4 | 3 => 3 | 0 => 0 | n => n, fun | n => n⟩
theorem Tryz.lays110 : Go.Proofs.Lays.n110 Tryz.prog Tryz.lays110_ren := {
  mixed := by kernel_rfl
  f109 := Tryz.func96.trans (congrArg some (by kernel_rfl))
  f110 := Tryz.func56.trans (congrArg some (by kernel_rfl))
  t0 := Tryz.underlying0
  a0 := Tryz.isAgg0
  z0 := Tryz.sizeOf0
  v0 := Tryz.zeroValue0
  t3 := Tryz.underlying3
  a3 := Tryz.isAgg3
  z3 := Tryz.sizeOf3
  v3 := Tryz.zeroValue3
  t4 := Tryz.underlying4
  a4 := Tryz.isAgg4
  z4 := Tryz.sizeOf4
  v4 := Tryz.zeroValue4
  t9 := Tryz.underlying9
  a9 := Tryz.isAgg9
  z9 := Tryz.sizeOf9
  v9 := Tryz.zeroValue9
  t31 := Tryz.underlying103
  a31 := Tryz.isAgg103
  z31 := Tryz.sizeOf103
  v31 := Tryz.zeroValue103 }
open Go.Lib in
theorem Tryz.slices_Contains_string_empty (a : Option Addr) (c : Nat) (x : ByteArray) (w : World) :
    Calls Tryz.prog 56 #[.slice a 0 c, .string x] w fun e w' => e = .returned (.bool false) ∧ w' = w := Any.slices_Contains_string_empty Tryz.lays110 a c x w
def Tryz.lays194_ren : Go.Shelf.Ren := ⟨fun | 194 => 95 | n => n, fun | 31 => 103 | 9 => 9 | 3 => 3 | 4 => 4 | 0 => 0 | n => n, fun | n => n⟩
theorem Tryz.lays194 : Go.Proofs.Lays.n194 Tryz.prog Tryz.lays194_ren := {
  mixed := by kernel_rfl
  f194 := Tryz.func95.trans (congrArg some (by kernel_rfl))
  t0 := Tryz.underlying0
  a0 := Tryz.isAgg0
  z0 := Tryz.sizeOf0
  v0 := Tryz.zeroValue0
  t3 := Tryz.underlying3
  a3 := Tryz.isAgg3
  z3 := Tryz.sizeOf3
  v3 := Tryz.zeroValue3
  t4 := Tryz.underlying4
  a4 := Tryz.isAgg4
  z4 := Tryz.sizeOf4
  v4 := Tryz.zeroValue4
  t9 := Tryz.underlying9
  a9 := Tryz.isAgg9
  z9 := Tryz.sizeOf9
  v9 := Tryz.zeroValue9
  t31 := Tryz.underlying103
  a31 := Tryz.isAgg103
  z31 := Tryz.sizeOf103
  v31 := Tryz.zeroValue103 }
open Go.RowKit Go.Lib Go.Sort in
theorem Tryz.slices_Compact_string_empty (a : Option Addr) (cap : Nat) (w : World) :
    Calls Tryz.prog 95 #[.slice a 0 cap] w fun e w' => e = .returned (.slice a 0 cap) ∧ w' = w := Any.slices_Compact_string_empty Tryz.lays194 a cap w
open Go.RowKit Go.Sort in
theorem Tryz.slices_Sort_string_none (p : Option Addr) (cap : Nat) (w : World) :
    Calls Tryz.prog 94 #[.slice p 0 cap] w fun e w' => e = .returned (.tuple #[]) ∧ w' = w := Any.slices_Sort_string_none Tryz.lays190 p cap w
end Go.Proofs
