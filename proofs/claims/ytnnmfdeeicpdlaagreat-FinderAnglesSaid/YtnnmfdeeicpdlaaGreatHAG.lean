/- Contracts and plain laws, several texts in one: Lb1; Lb2; Lb3 -/
import GoSem.Core.Next
import Derived.Test.YtnnmfdeeicpdlaaGreatHAB
import Derived.Test.YtnnmfdeeicpdlaaGreatHAE
/- Sines and cosines by 22 terms of their series, and a rotation of numbers of 160 bits that is near to them. No program in sight. -/
namespace Go.Proofs.YtnnmfdeeicpdlaaGreat

def sinU (n : Nat) : Rat := xi n * (1 - tay (xi n * xi n) 2 22)
def cosU (n : Nat) : Rat := 1 - tay (xi n * xi n) 1 22
def litAU : List Int := adI [(dnT (piD * piD) 2 22 : Int)] (scI (-1) (liT (piN * piN) (piD * piD) 2 22))
def litBU : List Int := adI [(dnT (piD * piD) 1 22 : Int)] (scI (-1) (liT (piN * piN) (piD * piD) 1 22))
def facU : Nat := piD * dnT (piD * piD) 2 22 * dnT (piD * piD) 1 22
def lisSU : List Int := scI (dnT (piD * piD) 1 22 : Int) (0 :: inI (scI (piN : Int) litAU))
def lisCU : List Int := scI ((piD * dnT (piD * piD) 2 22 : Nat) : Int) (inI litBU)
theorem lisSU_ok (n : Nat) : sinU n * (facU : Rat) = ((evI lisSU (n : Int) : Int) : Rat) := by
  have h := lis_ok (a := piN) piD_ne n 2 22 (by decide)
  have hp : (piD : Rat) ≠ 0 := by exact_mod_cast piD_ne
  unfold sinU lisSU facU xi litAU
  simp only [evI_sc, evI, evI_in]
  rw [show ((n : Int) * (n : Int)) = ((n * n : Nat) : Int) by push_cast; rfl]
  push_cast at h ⊢
  rw [← h]
  generalize tay _ 2 22 = T
  generalize (dnT _ 2 22 : Rat) = F
  generalize (dnT _ 1 22 : Rat) = G
  generalize (piN : Rat) = A at *
  generalize (piD : Rat) = B at *
  grind
theorem lisCU_ok (n : Nat) : cosU n * (facU : Rat) = ((evI lisCU (n : Int) : Int) : Rat) := by
  have h := lis_ok (a := piN) piD_ne n 1 22 (by decide)
  unfold cosU lisCU facU xi litBU
  simp only [evI_sc, evI_in]
  rw [show ((n : Int) * (n : Int)) = ((n * n : Nat) : Int) by push_cast; rfl]
  push_cast at h ⊢
  rw [← h]
  generalize tay _ 1 22 = T
  generalize (dnT _ 2 22 : Rat) = F
  generalize (dnT _ 1 22 : Rat) = G
  generalize (piD : Rat) = B at *
  grind
def stpSU : List Int := adI (scI (facU : Int) (shI lisSU)) (adI (scI (-(evI lisCU 1)) lisSU) (scI (-(evI lisSU 1)) lisCU))
def stpCU : List Int := adI (scI (facU : Int) (shI lisCU)) (adI (scI (-(evI lisCU 1)) lisCU) (scI (evI lisSU 1) lisSU))
def k160 : Nat := 1461501637330902918203684832716283019655932542976
theorem stpSU_ab : abI stpSU 2700000 * k160 ≤ facU * facU := by decide +kernel
theorem stpCU_ab : abI stpCU 2700000 * k160 ≤ facU * facU := by decide +kernel
theorem facU_pos : 0 < facU := by decide +kernel
theorem facU_rat : (0 : Rat) < (facU : Rat) := by exact_mod_cast facU_pos
theorem k160_rat : (0 : Rat) < (k160 : Rat) := by exact_mod_cast (show 0 < k160 by decide)
theorem eps_ofU {M W : Nat} (h : M * k160 ≤ W) : (M : Rat) ≤ 1 / (k160 : Rat) * (W : Rat) := by
  have h1 : (M : Rat) * (k160 : Rat) ≤ (W : Rat) := by exact_mod_cast h
  have h0 := k160_rat
  have hi : 0 < 1 / (k160 : Rat) := by rw [Rat.div_def, Rat.one_mul]; exact Rat.inv_pos.2 h0
  have h2 := Rat.mul_le_mul_of_nonneg_left h1 (Rat.le_of_lt hi)
  have h3 : 1 / (k160 : Rat) * (k160 : Rat) = 1 := by rw [Rat.div_mul_cancel (by grind)]
  generalize 1 / (k160 : Rat) = i at *
  generalize (k160 : Rat) = k at *
  have e : i * ((M : Rat) * k) = i * k * (M : Rat) := by grind
  rw [h3, Rat.one_mul] at e
  rw [e] at h2
  exact h2
theorem sinU_step {n : Nat} (h : n ≤ 2700000) : Nr (sinU (n + 1)) (sinU n * cosU 1 + cosU n * sinU 1) (1 / (k160 : Rat)) := by
  have h1 := lisSU_ok (n + 1)
  have h2 := lisSU_ok n
  have h3 := lisCU_ok n
  have h4 := lisSU_ok 1
  have h5 := lisCU_ok 1
  have hb := Nat.le_trans (Nat.mul_le_mul_right _ (evI_ab (x := (n : Int)) (N := 2700000) (by omega) stpSU)) stpSU_ab
  have hW := facU_rat
  refine nr_of_int (W := (facU : Rat) * facU) (x := evI stpSU (n : Int)) (Rat.mul_pos hW hW) ?_ (Nat.le_refl _) (by have := eps_ofU hb; rw [Rat.natCast_mul] at this; exact this)
  unfold stpSU
  simp only [evI_ad, evI_sc, evI_sh]
  push_cast at h1 h2 h3 h4 h5 ⊢
  rw [← h1, ← h2, ← h3, ← h4, ← h5]
  grind
theorem cosU_step {n : Nat} (h : n ≤ 2700000) : Nr (cosU (n + 1)) (cosU n * cosU 1 - sinU n * sinU 1) (1 / (k160 : Rat)) := by
  have h1 := lisCU_ok (n + 1)
  have h2 := lisSU_ok n
  have h3 := lisCU_ok n
  have h4 := lisSU_ok 1
  have h5 := lisCU_ok 1
  have hb := Nat.le_trans (Nat.mul_le_mul_right _ (evI_ab (x := (n : Int)) (N := 2700000) (by omega) stpCU)) stpCU_ab
  have hW := facU_rat
  refine nr_of_int (W := (facU : Rat) * facU) (x := evI stpCU (n : Int)) (Rat.mul_pos hW hW) ?_ (Nat.le_refl _) (by have := eps_ofU hb; rw [Rat.natCast_mul] at this; exact this)
  unfold stpCU
  simp only [evI_ad, evI_sc, evI_sh]
  push_cast at h1 h2 h3 h4 h5 ⊢
  rw [← h1, ← h2, ← h3, ← h4, ← h5]
  grind
theorem cosU_in {n : Nat} (h : n ≤ 2700001) : 17 / 25 ≤ cosU n ∧ cosU n ≤ 1 := by
  have hq := sq_in (xi_in h)
  obtain ⟨t0, t1⟩ := tay_in hq.1 (by grind) (m := 22) (d := 1) (by decide)
  unfold cosU
  constructor <;> grind
theorem sinU_in {n : Nat} (h : n ≤ 2700001) : 0 ≤ sinU n ∧ sinU n ≤ xi n := by
  have hx := xi_in h
  have hq := sq_in hx
  obtain ⟨t0, t1⟩ := tay_in hq.1 (by grind) (m := 22) (d := 2) (by decide)
  unfold sinU
  have h1 : (0 : Rat) ≤ 1 - tay (xi n * xi n) 2 22 := by grind
  have h2 := rmul0 hx.1 h1
  have h3 := Rat.mul_le_mul_of_nonneg_left (show 1 - tay (xi n * xi n) 2 22 ≤ 1 by grind) hx.1
  constructor <;> grind
def s1U : Nat := 425133593245199460169970897845407932666872
def c1U : Nat := 1461501637330841085028993473485354317854231948077
theorem oneU_ab : (evI lisSU 1 * k160 - s1U * (facU : Int)).natAbs ≤ facU ∧ (evI lisCU 1 * k160 - c1U * (facU : Int)).natAbs ≤ facU := by decide +kernel
theorem oneU_near : Nr ((s1U : Rat) / (k160 : Rat)) (sinU 1) (1 / (k160 : Rat)) ∧ Nr ((c1U : Rat) / (k160 : Rat)) (cosU 1) (1 / (k160 : Rat)) := by
  obtain ⟨h1, h2⟩ := oneU_ab
  have h3 := lisSU_ok 1
  have h4 := lisCU_ok 1
  have hW := facU_rat
  have hk := k160_rat
  have hM : ((facU : Nat) : Rat) ≤ 1 / (k160 : Rat) * ((k160 : Rat) * (facU : Rat)) := by
    have : 1 / (k160 : Rat) * (k160 : Rat) = 1 := by rw [Rat.div_mul_cancel (by grind)]
    rw [← Rat.mul_assoc, this, Rat.one_mul]
    exact Rat.le_refl
  have hks : (s1U : Rat) / (k160 : Rat) * (k160 : Rat) = (s1U : Rat) := Rat.div_mul_cancel (by grind)
  have hkc : (c1U : Rat) / (k160 : Rat) * (k160 : Rat) = (c1U : Rat) := Rat.div_mul_cancel (by grind)
  constructor
  · refine (nr_of_int (W := (k160 : Rat) * (facU : Rat)) (x := evI lisSU 1 * k160 - s1U * (facU : Int)) (Rat.mul_pos hk hW) ?_ h1 hM).symm
    push_cast at h3 ⊢
    rw [← h3]
    generalize (s1U : Rat) / (k160 : Rat) = q at *
    grind
  · refine (nr_of_int (W := (k160 : Rat) * (facU : Rat)) (x := evI lisCU 1 * k160 - c1U * (facU : Int)) (Rat.mul_pos hk hW) ?_ h2 hM).symm
    push_cast at h4 ⊢
    rw [← h4]
    generalize (c1U : Rat) / (k160 : Rat) = q at *
    grind
theorem sinU_zero : sinU 0 = 0 := by unfold sinU xi; grind
theorem cosU_zero : cosU 0 = 1 := by
  have : xi 0 * xi 0 = 0 := by unfold xi; grind
  unfold cosU
  rw [this, tay_zero]
  grind
def rotU : Nat → Nat × Nat := rotV c1U s1U k160
theorem rotU_succ (r : Nat) : rotU (r + 1) = (((rotU r).1 * c1U + (rotU r).2 * s1U) / k160, ((rotU r).2 * c1U - (rotU r).1 * s1U) / k160) := rfl
theorem rotU_near : ∀ {r : Nat}, r ≤ 2700000 → Nr (((rotU r).1 : Rat) / (k160 : Rat)) (sinU r) (64 * (r : Rat) / (k160 : Rat)) ∧ Nr (((rotU r).2 : Rat) / (k160 : Rat)) (cosU r) (64 * (r : Rat) / (k160 : Rat))
  | 0, _ => by
    rw [sinU_zero, cosU_zero, show rotU 0 = (0, k160) from rfl]
    have hk : (k160 : Rat) / (k160 : Rat) = 1 := by have := k160_rat; grind
    constructor
    · constructor <;> grind
    · dsimp only
      rw [hk]
      constructor <;> grind
  | r + 1, h => by
    obtain ⟨h1, h2⟩ := rotU_near (r := r) (by omega)
    obtain ⟨h3, h4⟩ := oneU_near
    have hx := xi_in (n := r) (by omega)
    have hs := sinU_in (n := r) (by omega)
    have hc := cosU_in (n := r) (by omega)
    have hs1 := sinU_in (n := 1) (by omega)
    have hc1 := cosU_in (n := 1) (by omega)
    have hx1 := xi_one
    have hr : (r : Rat) ≤ 2700000 := by exact_mod_cast (show r ≤ 2700000 by omega)
    have hr0 : (0 : Rat) ≤ (r : Rat) := by exact_mod_cast Nat.zero_le r
    have hk : 0 < 1 / (k160 : Rat) ∧ 1 / (k160 : Rat) ≤ 1 / 10000000000000000000000000000 := by
      rw [show (k160 : Rat) = 1461501637330902918203684832716283019655932542976 from rfl]
      constructor <;> grind
    have g1 : 64 * (r : Rat) / (k160 : Rat) ≤ 1 / 100 := by
      have := rmul hr0 hr (Rat.le_of_lt hk.1) hk.2
      grind
    have st := rot_step (K := k160) (k := (k160 : Rat)) (s1 := s1U) (c1 := c1U) (by decide) rfl h1 h2 h3 h4 (by grind) hc.1 hc.2 hs1.1 (by grind) hc1.1 hc1.2 g1 (by grind) (sinU_step (n := r) (by omega)) (cosU_step (n := r) (by omega))
    rw [rotU_succ]
    have e1 : 64 * (r : Rat) / (k160 : Rat) + 64 * (r : Rat) / (k160 : Rat) / 3437000 + 4 / (k160 : Rat) + 1 / (k160 : Rat) ≤ 64 * ((r + 1 : Nat) : Rat) / (k160 : Rat) := by
      have h5 := rmul hr0 hr (Rat.le_of_lt hk.1) (show 1 / (k160 : Rat) ≤ 1 / (k160 : Rat) by exact Rat.le_refl)
      push_cast
      generalize (k160 : Rat) = k at *
      grind
    exact ⟨st.1.le e1, st.2.le e1⟩
end Go.Proofs.YtnnmfdeeicpdlaaGreat
/- No small fraction is near to the quotient of two numbers: a check by Euclid's steps, and what it shows. No program in sight. -/
namespace Go.Proofs.YtnnmfdeeicpdlaaGreat

noncomputable def euS (B T : Nat) (f : Nat) : Nat → Nat → Nat → Nat → Bool :=
  Nat.rec (motive := fun _ => Nat → Nat → Nat → Nat → Bool) (fun _ _ _ _ => false)
    (fun _ ih xa ra xb rb => Bool.rec (motive := fun _ => Bool) (Nat.ble T ra) (ih (Nat.add xb (Nat.mul (Nat.div rb ra) xa)) (Nat.mod rb ra) xa ra) (Nat.ble (Nat.add xb (Nat.mul (Nat.div rb ra) xa)) B)) f
theorem euS_s {B T f xa ra xb rb : Nat} : euS B T (f + 1) xa ra xb rb = Bool.rec (motive := fun _ => Bool) (Nat.ble T ra) (euS B T f (xb + rb / ra * xa) (rb % ra) xa ra) (Nat.ble (xb + rb / ra * xa) B) := rfl
structure EuI (s c : Int) (xa ra xb rb : Nat) (ya yb g : Int) : Prop where
  g1 : g = 1 ∨ g = -1
  d : (xa : Int) * yb - (xb : Int) * ya = g
  a : (xa : Int) * s - ya * c = g * (ra : Int)
  b : (xb : Int) * s - yb * c = -(g * (rb : Int))
theorem EuI.step {s c : Int} {xa ra xb rb : Nat} {ya yb g : Int} (h : EuI s c xa ra xb rb ya yb g) : EuI s c (xb + rb / ra * xa) (rb % ra) xa ra (yb + ((rb / ra : Nat) : Int) * ya) ya (-g) := by
  obtain ⟨g1, d, a, b⟩ := h
  have hm := Nat.div_add_mod rb ra
  have e : ((rb % ra : Nat) : Int) = (rb : Int) - ((rb / ra : Nat) : Int) * (ra : Int) := by
    have : ((ra * (rb / ra) : Nat) : Int) = (ra : Int) * ((rb / ra : Nat) : Int) := Int.natCast_mul _ _
    have h2 : ((rb / ra : Nat) : Int) * (ra : Int) = (ra : Int) * ((rb / ra : Nat) : Int) := Int.mul_comm _ _
    omega
  generalize rb / ra = q at *
  refine ⟨by omega, ?_, ?_, ?_⟩
  · push_cast; grind
  · rw [e]; push_cast; grind
  · grind
theorem EuI.far {s c : Int} {xa ra xb rb B T : Nat} {ya yb g : Int} (h : EuI s c xb rb xa ra yb ya g) (hB : B + 1 ≤ xb) (ha : T ≤ ra) {x y : Int} (x0 : 0 ≤ x) (x1 : x ≤ B) (hxy : x ≠ 0 ∨ y ≠ 0) :
    (T : Int) ≤ x * s - y * c ∨ x * s - y * c ≤ -(T : Int) := by
  obtain ⟨g1, d, b, a⟩ := h
  obtain ⟨p, hp⟩ : ∃ p, g * (x * ya - y * xa) = p := ⟨_, rfl⟩
  obtain ⟨r, hr⟩ : ∃ r, g * (y * xb - x * yb) = r := ⟨_, rfl⟩
  have gg : g * g = 1 := by rcases g1 with rfl | rfl <;> rfl
  have ex : x = p * xb + r * xa := by
    have : p * xb + r * xa = g * (x * ((xb : Int) * ya - (xa : Int) * yb)) := by rw [← hp, ← hr]; grind
    rw [this, d]; grind
  have ey : y = p * yb + r * ya := by
    have : p * yb + r * ya = g * (y * ((xb : Int) * ya - (xa : Int) * yb)) := by rw [← hp, ← hr]; grind
    rw [this, d]; grind
  have eD : x * s - y * c = g * (p * (rb : Int) - r * (ra : Int)) := by
    have : x * s - y * c = p * ((xb : Int) * s - yb * c) + r * ((xa : Int) * s - ya * c) := by rw [ex, ey]; grind
    rw [this, a, b]; grind
  have xa0 : (0 : Int) ≤ (xa : Int) := by omega
  have xb0 : (0 : Int) ≤ (xb : Int) := by omega
  have hT : (T : Int) ≤ p * (rb : Int) - r * (ra : Int) ∨ p * (rb : Int) - r * (ra : Int) ≤ -(T : Int) := by
    rcases Int.lt_trichotomy p 0 with hp0 | hp0 | hp0
    · rcases Int.lt_trichotomy r 0 with hr0 | hr0 | hr0
      · have m1 := Int.mul_le_mul_of_nonneg_right (show p ≤ -1 by omega) xb0
        have m2 := Int.mul_le_mul_of_nonneg_right (show r ≤ -1 by omega) xa0
        omega
      · subst hr0
        have m1 := Int.mul_le_mul_of_nonneg_right (show p ≤ -1 by omega) xb0
        omega
      · have m1 := Int.mul_le_mul_of_nonneg_right (show p ≤ -1 by omega) (show (0 : Int) ≤ (rb : Int) by omega)
        have m2 := Int.mul_le_mul_of_nonneg_right (show 1 ≤ r by omega) (show (0 : Int) ≤ (ra : Int) by omega)
        right; omega
    · subst hp0
      rcases Int.lt_trichotomy r 0 with hr0 | hr0 | hr0
      · have m2 := Int.mul_le_mul_of_nonneg_right (show r ≤ -1 by omega) (show (0 : Int) ≤ (ra : Int) by omega)
        left; omega
      · subst hr0
        simp at ex ey
        omega
      · have m2 := Int.mul_le_mul_of_nonneg_right (show 1 ≤ r by omega) (show (0 : Int) ≤ (ra : Int) by omega)
        right; omega
    · rcases Int.lt_trichotomy r 0 with hr0 | hr0 | hr0
      · have m1 := Int.mul_nonneg (show 0 ≤ p by omega) (show (0 : Int) ≤ (rb : Int) by omega)
        have m2 := Int.mul_le_mul_of_nonneg_right (show r ≤ -1 by omega) (show (0 : Int) ≤ (ra : Int) by omega)
        left; omega
      · subst hr0
        have m1 := Int.mul_le_mul_of_nonneg_right (show 1 ≤ p by omega) xb0
        omega
      · have m1 := Int.mul_le_mul_of_nonneg_right (show 1 ≤ p by omega) xb0
        have m2 := Int.mul_le_mul_of_nonneg_right (show 1 ≤ r by omega) xa0
        omega
  rcases g1 with rfl | rfl <;> omega
theorem brec_and {b c : Bool} (h : (Bool.rec (motive := fun _ => Bool) false c b : Bool) = true) : b = true ∧ c = true := by
  cases b
  · cases h
  · exact ⟨rfl, h⟩
theorem euS_ok {s c : Int} {B T : Nat} : ∀ (f : Nat) {xa ra xb rb : Nat} {ya yb g : Int}, EuI s c xa ra xb rb ya yb g → euS B T f xa ra xb rb = true →
    ∀ x y : Int, 0 ≤ x → x ≤ B → (x ≠ 0 ∨ y ≠ 0) → (T : Int) ≤ x * s - y * c ∨ x * s - y * c ≤ -(T : Int)
  | 0, xa, ra, xb, rb, ya, yb, g, _, h => by cases h
  | f + 1, xa, ra, xb, rb, ya, yb, g, hI, h => by
    rw [euS_s] at h
    have hn := hI.step
    cases hb : Nat.ble (xb + rb / ra * xa) B
    · rw [hb] at h
      have hb' : ¬ xb + rb / ra * xa ≤ B := fun hh => by
        have := Nat.ble_eq_true_of_le hh
        rw [hb] at this
        cases this
      exact fun x y x0 x1 hxy => hn.far (by omega) (Nat.le_of_ble_eq_true h) x0 x1 hxy
    · rw [hb] at h
      exact euS_ok f hn h
def FarV (B T s c : Nat) : Prop := ∀ x y : Int, 0 ≤ x → x ≤ B → (x ≠ 0 ∨ y ≠ 0) → (T : Int) ≤ x * (s : Int) - y * (c : Int) ∨ x * (s : Int) - y * (c : Int) ≤ -(T : Int)
theorem far_of {B T f s c : Nat} (h : euS B T f 1 s 0 c = true) : FarV B T s c := euS_ok (s := s) (c := c) f (ya := 0) (yb := 1) (g := 1) ⟨.inl rfl, by simp, by simp, by simp⟩ h
noncomputable def rotF (c1 s1 K B T se ce n : Nat) : Nat → Nat → Bool :=
  Nat.rec (motive := fun _ => Nat → Nat → Bool) (fun s c => Bool.rec (motive := fun _ => Bool) false (Nat.beq c ce) (Nat.beq s se))
    (fun _ ih s c => Bool.rec (motive := fun _ => Bool) false (ih (Nat.div (Nat.add (Nat.mul s c1) (Nat.mul c s1)) K) (Nat.div (Nat.sub (Nat.mul c c1) (Nat.mul s s1)) K)) (euS B T 60 1 s 0 c)) n
section
variable {c1 s1 K B T : Nat}
theorem rotF_ok {se ce : Nat} : ∀ (n s c : Nat), rotF c1 s1 K B T se ce n s c = true → ∀ a, rotV c1 s1 K a = (s, c) → rotV c1 s1 K (a + n) = (se, ce) ∧ ∀ r, a ≤ r → r < a + n → FarV B T (rotV c1 s1 K r).1 (rotV c1 s1 K r).2
  | 0, s, c, h, a, ha => by
    obtain ⟨h1, h2⟩ := brec_and h
    rw [Nat.eq_of_beq_eq_true h1, Nat.eq_of_beq_eq_true h2] at ha
    exact ⟨ha, fun r h3 h4 => by omega⟩
  | n + 1, s, c, h, a, ha => by
    obtain ⟨h1, h3⟩ := brec_and h
    have ha1 : rotV c1 s1 K (a + 1) = (_, _) := rfl
    rw [ha] at ha1
    obtain ⟨e, g⟩ := rotF_ok n _ _ h3 (a + 1) ha1
    refine ⟨by rw [show a + (n + 1) = a + 1 + n by omega]; exact e, fun r h4 h5 => ?_⟩
    by_cases hr : r = a
    · subst hr
      rw [ha]
      exact far_of h1
    · exact g r (by omega) (by omega)
def FarTo (c1 s1 K B T a s c : Nat) : Prop := rotV c1 s1 K a = (s, c) ∧ ∀ r, 1 ≤ r → r < a → FarV B T (rotV c1 s1 K r).1 (rotV c1 s1 K r).2
theorem FarTo.next {a s c : Nat} (h : FarTo c1 s1 K B T a s c) (n se ce : Nat) (hb : rotF c1 s1 K B T se ce n s c = true) {b : Nat} (he : a + n = b) : FarTo c1 s1 K B T b se ce := by
  obtain ⟨e, g⟩ := rotF_ok n s c hb a h.1
  subst he
  refine ⟨e, fun r h1 h2 => ?_⟩
  by_cases h3 : r < a
  · exact h.2 r h1 h3
  · exact g r (by omega) h2
end
end Go.Proofs.YtnnmfdeeicpdlaaGreat
/- No whole point is near to the directions up to 190000 thousandths of a minute, by the kernel. No program in sight. -/
namespace Go.Proofs.YtnnmfdeeicpdlaaGreat
set_option maxRecDepth 100000

def FarN (a s c : Nat) : Prop := FarTo c1U s1U k160 2147483648 1267650600228229401496703205376 a s c
theorem far_1 : FarN 1 425133593245199460169970897845407932666872 1461501637330841085028993473485354317854231948077 := ⟨by decide +kernel, fun r h1 h2 => by omega⟩
theorem far_10000 : FarN 10000 4251329936940783775392260813667500399981857843 1461495454017793841685857527086231697413274335901 := far_1.next 9999 _ _ (by decide +kernel) rfl
theorem far_20000 : FarN 20000 8502623900874820732330221791291652617636133120 1461476904130787266489906083007572049443636236772 := far_10000.next 10000 _ _ (by decide +kernel) rfl
theorem far_30000 : FarN 30000 12753845919099752851535644502602646984011550463 1461445987826844712972547094162030713865379830791 := far_20000.next 10000 _ _ (by decide +kernel) rfl
theorem far_40000 : FarN 40000 17004960019521997136469490118363218055370463892 1461402705367567239345804880632027178477424460283 := far_30000.next 10000 _ _ (by decide +kernel) rfl
theorem far_50000 : FarN 50000 21255930230961126685691004962648781531689345911 1461347057119193228116367732382751977371441922224 := far_40000.next 10000 _ _ (by decide +kernel) rfl
theorem far_60000 : FarN 60000 25506720583454244038465211361374766791586027051 1461279043552595287126909031150840008655417152786 := far_50000.next 10000 _ _ (by decide +kernel) rfl
theorem far_70000 : FarN 70000 29757295108560344218136642322809387412552491956 1461198665243276265225595365493595948319558664347 := far_60000.next 10000 _ _ (by decide +kernel) rfl
theorem far_80000 : FarN 80000 34007617839664664897874331853920309501375769377 1461105922871364382597495406170949774830481647886 := far_70000.next 10000 _ _ (by decide +kernel) rfl
theorem far_90000 : FarN 90000 38257652812283021113502037918487565677369366191 1461000817221607475799094676178499077867166778390 := far_80000.next 10000 _ _ (by decide +kernel) rfl
theorem far_100000 : FarN 100000 42507364064366121948258431256953862795141050495 1460883349183366357544612368235261057425069679045 := far_90000.next 10000 _ _ (by decide +kernel) rfl
theorem far_110000 : FarN 110000 46756715636603866614484529407571797972305128016 1460753519750607291300306968968191106376482316119 := far_100000.next 10000 _ _ (by decide +kernel) rfl
theorem far_120000 : FarN 120000 51005671572729617357409990002762858499948146364 1460611330021893580750447580044693361503950831348 := far_110000.next 10000 _ _ (by decide +kernel) rfl
theorem far_130000 : FarN 130000 55254195919824446606405999288576561421485234595 1460456781200376274206117418705841243093634499907 := far_120000.next 10000 _ _ (by decide +kernel) rfl
theorem far_140000 : FarN 140000 59502252728621355799290399169226991096616149642 1460289874593783984035504970172991588579325798109 := far_130000.next 10000 _ _ (by decide +kernel) rfl
theorem far_150000 : FarN 150000 63749806053809463305510387069045841545139769039 1460110611614411821201826588870158741259683505377 := far_140000.next 10000 _ _ (by decide +kernel) rfl
theorem far_160000 : FarN 160000 67996819954338158874289595502659210747332138115 1459918993779109445002511940960790713535762143858 := far_150000.next 10000 _ _ (by decide +kernel) rfl
theorem far_170000 : FarN 170000 72243258493721222034109610238296156166245683059 1459715022709268228110770483983501903884519248423 := far_160000.next 10000 _ _ (by decide +kernel) rfl
theorem far_180000 : FarN 180000 76489085740340901870201014932108439244277254151 1459498700130807537028143127036613272561783872985 := far_170000.next 10000 _ _ (by decide +kernel) rfl
theorem far_190000 : FarN 190000 80734265767751955607045853522192981506880891910 1459270027874160128064128243663018747495825859769 := far_180000.next 10000 _ _ (by decide +kernel) rfl
end Go.Proofs.YtnnmfdeeicpdlaaGreat
