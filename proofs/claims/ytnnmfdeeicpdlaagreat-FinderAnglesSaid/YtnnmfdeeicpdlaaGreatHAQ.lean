/- Contracts and plain laws, several texts in one: TgQ; TgK -/
import GoSem.Core.Next
import Derived.Test.YtnnmfdeeicpdlaaGreatHAE
/- Rounded sums that are near to the sine and the cosine: with 256 binary digits, and with 62. No program in sight. -/
namespace Go.Proofs.YtnnmfdeeicpdlaaGreat

section
variable {B y : Nat}
def ChainN (B y : Nat) : Nat → Nat → Nat → Prop
  | _, 0, u => u = 0
  | d, m + 1, u => ∃ u' p, ChainN B y (d + 2) m u' ∧ p * B ≤ y / (d * (d + 1)) * u' ∧ y / (d * (d + 1)) * u' ≤ (p + 2) * B ∧ u + p = y / (d * (d + 1))
theorem dd_ge {d : Nat} (h : 1 ≤ d) : 2 ≤ d * (d + 1) := Nat.mul_le_mul h (show 2 ≤ d + 1 by omega)
theorem natB {a b B : Nat} (hB : 0 < B) (h : a ≤ b) : (a : Rat) / (B : Rat) ≤ (b : Rat) / (B : Rat) := by
  rw [Rat.div_def, Rat.div_def]
  exact Rat.mul_le_mul_of_nonneg_right (by exact_mod_cast h) (Rat.le_of_lt (Rat.inv_pos.2 (by exact_mod_cast hB)))
theorem nat0 {a B : Nat} (hB : 0 < B) : (0 : Rat) ≤ (a : Rat) / (B : Rat) := by
  rw [Rat.div_def]
  exact rmul0 (by exact_mod_cast Nat.zero_le a) (Rat.le_of_lt (Rat.inv_pos.2 (by exact_mod_cast hB)))
theorem nr_mul {a b p k B : Nat} (hB : 0 < B) (h1 : p * B ≤ a * b) (h2 : a * b ≤ (p + k) * B) : Nr ((p : Rat) / (B : Rat)) ((a : Rat) / (B : Rat) * ((b : Rat) / (B : Rat))) ((k : Rat) / (B : Rat)) := by
  have hB2 : (0 : Rat) < (B : Rat) := by exact_mod_cast hB
  have e1 : (p : Rat) * (B : Rat) ≤ (a : Rat) * (b : Rat) := by exact_mod_cast h1
  have e2 : (a : Rat) * (b : Rat) ≤ ((p : Rat) + (k : Rat)) * (B : Rat) := by exact_mod_cast h2
  have hBB := Rat.mul_pos hB2 hB2
  have x1 : (a : Rat) / (B : Rat) * ((b : Rat) / (B : Rat)) * ((B : Rat) * (B : Rat)) = (a : Rat) * (b : Rat) := by grind
  have x2 : (p : Rat) / (B : Rat) * ((B : Rat) * (B : Rat)) = (p : Rat) * (B : Rat) := by grind
  have x3 : (k : Rat) / (B : Rat) * ((B : Rat) * (B : Rat)) = (k : Rat) * (B : Rat) := by grind
  have k0 : (0 : Rat) ≤ (k : Rat) * (B : Rat) := rmul0 (by exact_mod_cast Nat.zero_le k) (Rat.le_of_lt hB2)
  constructor
  · refine Rat.le_of_mul_le_mul_right (c := (B : Rat) * (B : Rat)) ?_ hBB
    rw [Rat.add_mul, x1, x2, x3]
    grind
  · refine Rat.le_of_mul_le_mul_right (c := (B : Rat) * (B : Rat)) ?_ hBB
    rw [Rat.add_mul, x1, x2, x3]
    grind
theorem nr_div {y k B : Nat} (hB : 0 < B) (hk : 0 < k) : Nr (((y / k : Nat) : Rat) / (B : Rat)) ((y : Rat) / (B : Rat) / (k : Rat)) (1 / (B : Rat)) := by
  have h := nfl (a := y) hk
  have hB2 : (0 : Rat) < (B : Rat) := by exact_mod_cast hB
  have := h.mulc (c := 1 / (B : Rat)) (m := 1 / (B : Rat)) (by rw [Rat.div_def, Rat.one_mul]; exact Rat.le_of_lt (Rat.inv_pos.2 hB2)) Rat.le_refl (by grind)
  have e1 : 1 / (B : Rat) * ((y / k : Nat) : Rat) = ((y / k : Nat) : Rat) / (B : Rat) := by grind
  have e2 : 1 / (B : Rat) * ((y : Rat) / (k : Rat)) = (y : Rat) / (B : Rat) / (k : Rat) := by grind
  rw [e1, e2] at this
  exact this.le (by grind)
theorem chain_ok (hB : 0 < B) (hy : y ≤ B) : ∀ {m d u : Nat}, 1 ≤ d → ChainN B y d m u → u ≤ y / (d * (d + 1)) ∧ Nr ((u : Rat) / (B : Rat)) (tay ((y : Rat) / (B : Rat)) d m) (6 / (B : Rat))
  | 0, d, u, hd, h => by
    have hu : u = 0 := h
    subst hu
    have hB2 : (0 : Rat) < (B : Rat) := by exact_mod_cast hB
    have : (0 : Rat) ≤ 6 / (B : Rat) := by
      rw [Rat.div_def]; exact rmul0 (by grind) (Rat.le_of_lt (Rat.inv_pos.2 hB2))
    refine ⟨Nat.zero_le _, ?_⟩
    have e : ((0 : Nat) : Rat) / (B : Rat) = 0 := by simp [Rat.div_def]
    rw [e]
    unfold tay
    constructor <;> grind
  | m + 1, d, u, hd, ⟨u', p, hc, h1, h2, h3⟩ => by
    obtain ⟨hu, ih⟩ := chain_ok hB hy (m := m) (d := d + 2) (by omega) hc
    refine ⟨by omega, ?_⟩
    have hB2 : (0 : Rat) < (B : Rat) := by exact_mod_cast hB
    have hdd := dd_ge hd
    have hy1 : (y : Rat) / (B : Rat) ≤ 1 := by
      have := natB hB hy
      rwa [show (B : Rat) / (B : Rat) = 1 by grind] at this
    have hy0 := nat0 (a := y) hB
    have hq := nr_div (y := y) hB (show 0 < d * (d + 1) by omega)
    have hm := nr_mul hB h1 h2
    generalize hqq : y / (d * (d + 1)) = q at *
    have hq0 := nat0 (a := q) hB
    have hq1 : (q : Rat) / (B : Rat) ≤ 1 / 2 := by
      have h5 : q * 2 ≤ B := by
        rw [← hqq]
        have := Nat.div_mul_le_self y (d * (d + 1))
        have := Nat.mul_le_mul_left (y / (d * (d + 1))) hdd
        omega
      have h6 : (q : Rat) * 2 ≤ (B : Rat) := by exact_mod_cast h5
      refine Rat.le_of_mul_le_mul_right (c := (B : Rat)) ?_ hB2
      rw [Rat.div_mul_cancel (by grind)]
      grind
    obtain ⟨t0, t1⟩ := tay_in hy0 hy1 (m := m) (d := d + 2) (by omega)
    have hu2 : (u : Rat) / (B : Rat) = (q : Rat) / (B : Rat) - (p : Rat) / (B : Rat) := by
      have : (u : Rat) + (p : Rat) = (q : Rat) := by exact_mod_cast h3
      rw [← this]
      grind
    have hone := ((Nr.refl 1).sub ih)
    have hp := hq.mul hone hq0 hq1 (show 0 ≤ 1 - tay ((y : Rat) / (B : Rat)) (d + 2) m by grind) (show 1 - tay ((y : Rat) / (B : Rat)) (d + 2) m ≤ 1 by grind)
    rw [hu2]
    have e1 : (q : Rat) / (B : Rat) * (1 - (u' : Rat) / (B : Rat)) = (q : Rat) / (B : Rat) - (q : Rat) / (B : Rat) * ((u' : Rat) / (B : Rat)) := by grind
    rw [e1] at hp
    have hs := ((Nr.refl ((q : Rat) / (B : Rat))).sub hm).trans hp
    have e2 : tay ((y : Rat) / (B : Rat)) d (m + 1) = (y : Rat) / (B : Rat) / ((d * (d + 1) : Nat) : Rat) * (1 - tay ((y : Rat) / (B : Rat)) (d + 2) m) := by
      simp only [tay]
      push_cast
      rfl
    rw [e2]
    refine hs.le ?_
    have e3 : ((2 : Nat) : Rat) / (B : Rat) = 2 * (1 / (B : Rat)) := by push_cast; grind
    have e4 : (6 : Rat) / (B : Rat) = 6 * (1 / (B : Rat)) := by grind
    rw [e3, e4]
    grind
end
def b256 : Nat := 115792089237316195423570985008687907853269984665640564039457584007913129639936
theorem b256_pos : 0 < b256 := by decide +kernel
theorem b256_rat : (0 : Rat) < (b256 : Rat) := by exact_mod_cast b256_pos
def sml : Rat := 1 / 1000000000000000000000000000
theorem b256_sml : 20 / (b256 : Rat) ≤ sml / 2 := by
  have h : 40 * 1000000000000000000000000000 ≤ b256 := by decide +kernel
  have h2 : (40 : Rat) * 1000000000000000000000000000 ≤ (b256 : Rat) := by exact_mod_cast h
  refine Rat.le_of_mul_le_mul_right (c := (b256 : Rat)) ?_ b256_rat
  rw [Rat.div_mul_cancel (by have := b256_rat; grind)]
  unfold sml
  grind
theorem facT_sml {d : Nat} (h : 304888344611713860501504000000 ≤ facT d 14) : 1 / (2 * (facT d 14 : Rat)) ≤ sml / 2 := by
  have h2 : (304888344611713860501504000000 : Rat) ≤ (facT d 14 : Rat) := by exact_mod_cast h
  have h0 : (0 : Rat) < 2 * (facT d 14 : Rat) := by grind
  refine Rat.le_of_mul_le_mul_right (c := 2 * (facT d 14 : Rat)) ?_ h0
  rw [Rat.div_mul_cancel (by grind)]
  unfold sml
  grind
theorem xi_near (r : Nat) : Nr (((r * piN / 10800000 : Nat) : Rat) / (b256 : Rat)) (xi r) (1 / (b256 : Rat)) := by
  have h := nr_div (y := r * piN) (k := 10800000) b256_pos (by decide)
  have e : ((r * piN : Nat) : Rat) / (b256 : Rat) / ((10800000 : Nat) : Rat) = xi r := by
    have h0 : piD = b256 * 10800000 := by decide +kernel
    have hb := b256_rat
    unfold xi
    rw [h0]
    generalize (10800000 : Nat) = k
    push_cast
    grind
  rw [e] at h
  exact h
theorem sq_near {r x y : Nat} (hr : r ≤ 2700000) (hx : x = r * piN / 10800000) (h1 : y * b256 ≤ x * x) (h2 : x * x ≤ (y + 2) * b256) : y ≤ b256 ∧ Nr ((x : Rat) / (b256 : Rat)) (xi r) (1 / (b256 : Rat)) ∧ Nr ((y : Rat) / (b256 : Rat)) (xi r * xi r) (4 / (b256 : Rat)) ∧ (x : Rat) / (b256 : Rat) ≤ 1 := by
  have hn := xi_near r
  rw [← hx] at hn
  have hx4 := xi_in (n := r) (by omega)
  have hb := b256_sml
  have hsm : sml ≤ 1 / 100 := by unfold sml; grind
  have hb1 : 0 ≤ 1 / (b256 : Rat) := hn.pos
  have e20 : 20 / (b256 : Rat) = 20 * (1 / (b256 : Rat)) := by grind
  rw [e20] at hb
  have hx1 : (x : Rat) / (b256 : Rat) ≤ 1 := by
    obtain ⟨a, b⟩ := hn; grind
  have hx0 := nat0 (a := x) b256_pos
  have hm := nr_mul b256_pos h1 h2
  have hp := hn.mul hn hx0 hx1 hx4.1 (show xi r ≤ 1 by grind)
  have ht := hm.trans hp
  have e2 : ((2 : Nat) : Rat) / (b256 : Rat) = 2 * (1 / (b256 : Rat)) := by push_cast; grind
  have e4 : (4 : Rat) / (b256 : Rat) = 4 * (1 / (b256 : Rat)) := by grind
  refine ⟨?_, hn, ht.le (by rw [e2, e4]; grind), hx1⟩
  have hq := sq_in hx4
  have hy1 : (y : Rat) / (b256 : Rat) ≤ 1 := by
    have := ht.1
    rw [e2] at this
    grind
  have := Rat.mul_le_mul_of_nonneg_right hy1 (Rat.le_of_lt b256_rat)
  rw [Rat.div_mul_cancel (by have := b256_rat; grind), Rat.one_mul] at this
  exact_mod_cast this
theorem chain_near {r y u d : Nat} (hr : r ≤ 2700000) (hy : y ≤ b256) (hn : Nr ((y : Rat) / (b256 : Rat)) (xi r * xi r) (4 / (b256 : Rat))) (hd : 1 ≤ d) (hf : 304888344611713860501504000000 ≤ facT d 14) (hc : ChainN b256 y d 34 u) : Nr ((u : Rat) / (b256 : Rat)) (tay (xi r * xi r) d 14) (10 / (b256 : Rat) + sml / 2) := by
  have h1 := (chain_ok b256_pos hy hd hc).2
  have hq := sq_in (xi_in (n := r) (by omega))
  have hy0 := nat0 (a := y) b256_pos
  have hy1 : (y : Rat) / (b256 : Rat) ≤ 1 := by
    have := natB b256_pos hy
    rwa [show (b256 : Rat) / (b256 : Rat) = 1 by have := b256_rat; grind] at this
  have h2 := tay_arg hy0 hy1 hq.1 (by grind) hn (m := 34) hd
  have h3 := tay_more hq.1 (by grind) 20 (m := 14) hd
  exact ((h1.trans h2).trans h3).le (by have := facT_sml hf; grind)
theorem ser_sin {r x y u p s : Nat} (hr : r ≤ 2700000) (hx : x = r * piN / 10800000) (h1 : y * b256 ≤ x * x) (h2 : x * x ≤ (y + 2) * b256) (hc : ChainN b256 y 2 34 u) (h3 : p * b256 ≤ x * u) (h4 : x * u ≤ (p + 2) * b256) (hs : s + p = x) : Nr ((s : Rat) / (b256 : Rat)) (sinT r) sml := by
  obtain ⟨hy, hn, hq, hx1⟩ := sq_near hr hx h1 h2
  have hu := chain_near hr hy hq (by decide) (by decide +kernel) hc
  have hm := nr_mul b256_pos h3 h4
  have hx0 := nat0 (a := x) b256_pos
  have hx4 := xi_in (n := r) (by omega)
  obtain ⟨t0, t1⟩ := tay_in (sq_in hx4).1 (by have := (sq_in hx4).2; grind) (m := 14) (d := 2) (by decide)
  have hp := hn.mul ((Nr.refl 1).sub hu) hx0 hx1 (show 0 ≤ 1 - tay (xi r * xi r) 2 14 by have := (sq_in hx4).2; grind) (show 1 - tay (xi r * xi r) 2 14 ≤ 1 by grind)
  have hs2 : (s : Rat) / (b256 : Rat) = (x : Rat) / (b256 : Rat) - (p : Rat) / (b256 : Rat) := by
    have : (s : Rat) + (p : Rat) = (x : Rat) := by exact_mod_cast hs
    have hb := b256_rat
    rw [← this]
    grind
  have e1 : (x : Rat) / (b256 : Rat) * (1 - (u : Rat) / (b256 : Rat)) = (x : Rat) / (b256 : Rat) - (x : Rat) / (b256 : Rat) * ((u : Rat) / (b256 : Rat)) := by grind
  rw [e1] at hp
  have hf := ((Nr.refl ((x : Rat) / (b256 : Rat))).sub hm).trans hp
  rw [hs2]
  unfold sinT
  refine hf.le ?_
  have hb := b256_sml
  have e2 : ((2 : Nat) : Rat) / (b256 : Rat) = 2 * (1 / (b256 : Rat)) := by push_cast; grind
  have e20 : 20 / (b256 : Rat) = 20 * (1 / (b256 : Rat)) := by grind
  have e10 : 10 / (b256 : Rat) = 10 * (1 / (b256 : Rat)) := by grind
  have hb1 := hn.pos
  rw [e20] at hb
  rw [e2, e10]
  grind
theorem ser_cos {r x y u : Nat} (hr : r ≤ 2700000) (hx : x = r * piN / 10800000) (h1 : y * b256 ≤ x * x) (h2 : x * x ≤ (y + 2) * b256) (hc : ChainN b256 y 1 34 u) : Nr (1 - (u : Rat) / (b256 : Rat)) (cosT r) sml := by
  obtain ⟨hy, hn, hq, -⟩ := sq_near hr hx h1 h2
  have hu := chain_near hr hy hq (by decide) (by decide +kernel) hc
  have hp := (Nr.refl 1).sub hu
  unfold cosT
  refine hp.le ?_
  have hb := b256_sml
  have e20 : 20 / (b256 : Rat) = 20 * (1 / (b256 : Rat)) := by grind
  have e10 : 10 / (b256 : Rat) = 10 * (1 / (b256 : Rat)) := by grind
  have hb1 := hn.pos
  rw [e20] at hb
  rw [e10]
  grind
theorem cell_of {s f : Nat} {V : Rat} (h : Nr ((s : Rat) / (b256 : Rat)) V sml) (hb : Bt f V) : s / 107839786668602559178668060348078522694548577690162289924414440996864 = f := by
  obtain ⟨h1, h2⟩ := h
  obtain ⟨b1, b2⟩ := hb
  have hb := b256_rat
  have e : (b256 : Rat) = ((107839786668602559178668060348078522694548577690162289924414440996864 : Nat) : Rat) * ((1073741824 : Nat) : Rat) := by
    rw [show b256 = 107839786668602559178668060348078522694548577690162289924414440996864 * 1073741824 by decide +kernel]
    exact Rat.natCast_mul _ _
  have hs : sml ≤ 1 / 4611686018427387904 := by unfold sml; grind
  have l1 : (f : Rat) / 1073741824 ≤ (s : Rat) / (b256 : Rat) := by grind
  have l2 : (s : Rat) / (b256 : Rat) ≤ ((f : Rat) + 1) / 1073741824 - 1 / 4611686018427387904 := by grind
  have m1 := Rat.mul_le_mul_of_nonneg_right l1 (Rat.le_of_lt hb)
  have m2 := Rat.mul_le_mul_of_nonneg_right l2 (Rat.le_of_lt hb)
  rw [Rat.div_mul_cancel (by grind), e] at m1 m2
  generalize hU : (107839786668602559178668060348078522694548577690162289924414440996864 : Nat) = U at *
  have hU0 : 0 < U := by rw [← hU]; decide +kernel
  have hk : ((1073741824 : Nat) : Rat) = 1073741824 := rfl
  rw [hk] at m1 m2
  have hUp : (0 : Rat) < (U : Rat) := by exact_mod_cast hU0
  have n1 : (f : Rat) * (U : Rat) ≤ (s : Rat) := by grind
  have n2 : (s : Rat) < ((f : Rat) + 1) * (U : Rat) := by grind
  have n1' : f * U ≤ s := by exact_mod_cast n1
  have n2' : s < (f + 1) * U := by exact_mod_cast n2
  exact Nat.div_eq_of_lt_le n1' n2'
end Go.Proofs.YtnnmfdeeicpdlaaGreat
/- The quick sums of 62 binary digits are near to the sine and the cosine. No program in sight. -/
namespace Go.Proofs.YtnnmfdeeicpdlaaGreat

def higN (h a b : Nat) : Nat := a / h * (b / h) + a / h * (b % h) / h + a % h * (b / h) / h
theorem hig_ok {h a b : Nat} (hh : 0 < h) : higN h a b * (h * h) ≤ a * b ∧ a * b ≤ (higN h a b + 3) * (h * h) := by
  have ea := Nat.div_add_mod a h
  have eb := Nat.div_add_mod b h
  have la := Nat.mod_lt a hh
  have lb := Nat.mod_lt b hh
  unfold higN
  generalize a / h = a1 at *
  generalize a % h = a0 at *
  generalize b / h = b1 at *
  generalize b % h = b0 at *
  have e1 := Nat.div_add_mod (a1 * b0) h
  have e2 := Nat.div_add_mod (a0 * b1) h
  have l1 := Nat.mod_lt (a1 * b0) hh
  have l2 := Nat.mod_lt (a0 * b1) hh
  generalize a1 * b0 / h = p at *
  generalize a1 * b0 % h = q at *
  generalize a0 * b1 / h = r at *
  generalize a0 * b1 % h = t at *
  have hab : a * b = a1 * b1 * (h * h) + (p + r) * (h * h) + (q * h + t * h + a0 * b0) := by
    rw [← ea, ← eb]
    have x1 : h * p * h + q * h = a1 * b0 * h := by rw [← Nat.add_mul, e1]
    have x2 : h * r * h + t * h = a0 * b1 * h := by rw [← Nat.add_mul, e2]
    have y1 : (h * a1 + a0) * (h * b1 + b0) = a1 * b1 * (h * h) + a1 * b0 * h + a0 * b1 * h + a0 * b0 := by grind
    rw [y1, ← x1, ← x2]
    grind
  have m1 : q * h ≤ h * h := Nat.mul_le_mul_right h (Nat.le_of_lt l1)
  have m2 : t * h ≤ h * h := Nat.mul_le_mul_right h (Nat.le_of_lt l2)
  have m3 : a0 * b0 ≤ h * h := Nat.mul_le_mul (Nat.le_of_lt la) (Nat.le_of_lt lb)
  rw [hab]
  constructor
  · have : (a1 * b1 + p + r) * (h * h) = a1 * b1 * (h * h) + (p + r) * (h * h) := by grind
    rw [this]; exact Nat.le_add_right _ _
  · have : (a1 * b1 + p + r + 3) * (h * h) = a1 * b1 * (h * h) + (p + r) * (h * h) + (h * h + h * h + h * h) := by grind
    rw [this]
    generalize h * h = H at *
    omega
def nexT (h sq t d : Nat) : Nat := higN h t sq / (d * (d + 1))
def altS (h sq : Nat) : Nat → Nat → Nat → Int
  | 0, _, _ => 0
  | f + 1, t, d => (t : Int) - altS h sq f (nexT h sq t d) (d + 2)
theorem nr_hig {h a b : Nat} (hh : 0 < h) : Nr ((higN h a b : Rat) / ((h * h : Nat) : Rat)) ((a : Rat) / ((h * h : Nat) : Rat) * ((b : Rat) / ((h * h : Nat) : Rat))) (3 / ((h * h : Nat) : Rat)) := by
  obtain ⟨h1, h2⟩ := hig_ok (a := a) (b := b) hh
  exact nr_mul (Nat.mul_pos hh hh) h1 h2
theorem higN_le {h a b : Nat} (hh : 0 < h) (hb : b ≤ h * h) : higN h a b ≤ a := by
  obtain ⟨h1, -⟩ := hig_ok (a := a) (b := b) hh
  have := Nat.le_trans h1 (Nat.mul_le_mul_left a hb)
  exact Nat.le_of_mul_le_mul_right this (Nat.mul_pos hh hh)
theorem nexT_le {h sq t d : Nat} (hh : 0 < h) (hsq : sq ≤ h * h) (hd : 1 ≤ d) : nexT h sq t d * 2 ≤ t := by
  unfold nexT
  have h1 := higN_le (a := t) hh hsq
  have h2 := Nat.div_mul_le_self (higN h t sq) (d * (d + 1))
  have h3 := Nat.mul_le_mul_left (higN h t sq / (d * (d + 1))) (dd_ge hd)
  omega
theorem altS_zero {h sq : Nat} : ∀ {f d : Nat}, altS h sq f 0 d = 0
  | 0, _ => rfl
  | f + 1, d => by
    have : nexT h sq 0 d = 0 := by unfold nexT higN; simp
    unfold altS
    rw [this, altS_zero]
    rfl
theorem altS_ok {h sq : Nat} (hh : 0 < h) (hsq : sq ≤ h * h) : ∀ {f t d : Nat}, 1 ≤ d → t ≤ 2 ^ f → Nr ((altS h sq f t d : Rat) / ((h * h : Nat) : Rat)) ((t : Rat) / ((h * h : Nat) : Rat) * (1 - tay ((sq : Rat) / ((h * h : Nat) : Rat)) d f)) ((1 + 3 * (f : Rat)) * (1 / ((h * h : Nat) : Rat)))
  | 0, t, d, hd, ht => by
    have hM : 0 < h * h := Nat.mul_pos hh hh
    generalize h * h = M at *
    have hM2 : (0 : Rat) < (M : Rat) := by exact_mod_cast hM
    have hi : 0 ≤ 1 / (M : Rat) := by rw [Rat.div_def, Rat.one_mul]; exact Rat.le_of_lt (Rat.inv_pos.2 hM2)
    have h1 : (t : Rat) ≤ 1 := by exact_mod_cast ht
    have h0 : (0 : Rat) ≤ (t : Rat) := by exact_mod_cast Nat.zero_le t
    have h2 := rmul h0 h1 hi Rat.le_refl
    have h3 := rmul0 h0 hi
    unfold altS tay
    have e0 : (((0 : Int) : Rat)) = 0 := rfl
    have e1 : (((0 : Nat) : Rat)) = 0 := rfl
    rw [e0, e1]
    constructor <;> grind
  | f + 1, t, d, hd, ht => by
    have hM : 0 < h * h := Nat.mul_pos hh hh
    have hn := nexT_le (t := t) hh hsq hd
    have ih := altS_ok hh hsq (f := f) (t := nexT h sq t d) (d := d + 2) (by omega) (by rw [Nat.pow_succ] at ht; omega)
    have hg := nr_hig (a := t) (b := sq) hh
    have hdd := dd_ge hd
    have hq := nr_div (y := higN h t sq) hM (show 0 < d * (d + 1) by omega)
    simp only [altS, tay]
    unfold nexT at *
    generalize h * h = M at *
    have hM2 : (0 : Rat) < (M : Rat) := by exact_mod_cast hM
    have hi : 0 ≤ 1 / (M : Rat) := by rw [Rat.div_def, Rat.one_mul]; exact Rat.le_of_lt (Rat.inv_pos.2 hM2)
    have hy1 : (sq : Rat) / (M : Rat) ≤ 1 := by
      have := natB hM hsq
      rwa [show (M : Rat) / (M : Rat) = 1 by grind] at this
    have hy0 := nat0 (a := sq) hM
    obtain ⟨t0, t1⟩ := tay_in hy0 hy1 (m := f) (d := d + 2) (by omega)
    have h2 := two_le hd
    obtain ⟨r0, r1, r2⟩ := div_ge (show (0 : Rat) ≤ 1 by decide) h2
    have e1 : ((d * (d + 1) : Nat) : Rat) = (d : Rat) * ((d : Rat) + 1) := by push_cast; rfl
    rw [e1] at hq
    generalize higN h t sq / (d * (d + 1)) = n1 at *
    generalize (higN h t sq : Rat) / (M : Rat) = H at *
    generalize hk : (d : Rat) * ((d : Rat) + 1) = k at *
    generalize hT : tay ((sq : Rat) / (M : Rat)) (d + 2) f = T at *
    generalize (sq : Rat) / (M : Rat) = Y at *
    generalize altS h sq f n1 (d + 2) = A at *
    have hg2 := hg.mulc r0 r1 hg.pos
    have e2 : 1 / k * H = H / k := by grind
    have e3 : 1 / k * ((t : Rat) / (M : Rat) * Y) = (t : Rat) / (M : Rat) * Y / k := by grind
    rw [e2, e3] at hg2
    have h5 := hq.trans hg2
    have h6 := h5.mulc (c := 1 - T) (m := 1) (by grind) (by grind) h5.pos
    have h7 := ih.trans (by rw [Rat.mul_comm]; exact h6)
    have h8 := (Nr.refl ((t : Rat) / (M : Rat))).sub h7
    have e4 : (((t : Int) - A : Int) : Rat) / (M : Rat) = (t : Rat) / (M : Rat) - (A : Rat) / (M : Rat) := by push_cast; grind
    have e5 : (t : Rat) / (M : Rat) * (1 - Y / k * (1 - T)) = (t : Rat) / (M : Rat) - (1 - T) * ((t : Rat) / (M : Rat) * Y / k) := by grind
    rw [e4, e5]
    refine h8.le ?_
    push_cast
    grind
def quiX (r : Nat) : Nat := r * 2620088056 * 512 + r * 658911831 / 4194304
def h31 : Nat := 2147483648
def m62 : Rat := 4611686018427387904
theorem h31_pos : 0 < h31 := by decide
theorem h31_sq : ((h31 * h31 : Nat) : Rat) = m62 := rfl
theorem unit_ok : (2620088056 * 2147483648 + 658911831) * piD ≤ piN * 19342813113834066795298816 ∧ piN * 19342813113834066795298816 ≤ (2620088056 * 2147483648 + 658911831 + 1) * piD := by decide +kernel
theorem quiX_near {r : Nat} (hr : r ≤ 2700000) : Nr ((quiX r : Rat) / m62) (xi r) (2 / m62) := by
  have hx : quiX r = r * (2620088056 * 2147483648 + 658911831) / 4194304 := by
    unfold quiX
    have gen : ∀ a b c k : Nat, b = k * 512 → r * (a * b + c) = r * c + k * (r * a * 512) := fun a b c k h => by subst h; grind
    rw [gen 2620088056 2147483648 658911831 4194304 (by decide), Nat.add_mul_div_left _ _ (by decide), Nat.add_comm]
  obtain ⟨u1, u2⟩ := unit_ok
  generalize 2620088056 * 2147483648 + 658911831 = U at *
  have h1 := nfl (a := r * U) (K := 4194304) (by decide)
  rw [← hx] at h1
  have hk4 : ((4194304 : Nat) : Rat) = 4194304 := rfl
  rw [hk4] at h1
  have hp : (0 : Rat) < (piD : Rat) := by exact_mod_cast (show 0 < piD by decide +kernel)
  have hr2 : (r : Rat) ≤ 2700000 := by exact_mod_cast hr
  have hr0 : (0 : Rat) ≤ (r : Rat) := by exact_mod_cast Nat.zero_le r
  have v1 : (U : Rat) * (piD : Rat) ≤ (piN : Rat) * 19342813113834066795298816 := by
    have : ((U * piD : Nat) : Rat) ≤ ((piN * 19342813113834066795298816 : Nat) : Rat) := Rat.natCast_le_natCast.2 u1
    rw [Rat.natCast_mul, Rat.natCast_mul] at this
    exact this
  have v2 : (piN : Rat) * 19342813113834066795298816 ≤ ((U : Rat) + 1) * (piD : Rat) := by
    have : ((piN * 19342813113834066795298816 : Nat) : Rat) ≤ (((U + 1) * piD : Nat) : Rat) := Rat.natCast_le_natCast.2 u2
    rw [Rat.natCast_mul, Rat.natCast_mul, Rat.natCast_add] at this
    exact this
  have w1 : (U : Rat) ≤ (piN : Rat) / (piD : Rat) * 19342813113834066795298816 := by
    refine Rat.le_of_mul_le_mul_right (c := (piD : Rat)) ?_ hp
    have : (piN : Rat) / (piD : Rat) * 19342813113834066795298816 * (piD : Rat) = (piN : Rat) * 19342813113834066795298816 := by grind
    rw [this]; exact v1
  have w2 : (piN : Rat) / (piD : Rat) * 19342813113834066795298816 ≤ (U : Rat) + 1 := by
    refine Rat.le_of_mul_le_mul_right (c := (piD : Rat)) ?_ hp
    have : (piN : Rat) / (piD : Rat) * 19342813113834066795298816 * (piD : Rat) = (piN : Rat) * 19342813113834066795298816 := by grind
    rw [this]; exact v2
  unfold xi m62
  generalize (piN : Rat) / (piD : Rat) = P at *
  have y1 := Rat.mul_le_mul_of_nonneg_left w1 hr0
  have y2 := Rat.mul_le_mul_of_nonneg_left w2 hr0
  push_cast at h1
  obtain ⟨a1, a2⟩ := h1
  have z1 : (r : Rat) * U / 4194304 = (r : Rat) * U * (1 / 4194304) := by grind
  rw [z1] at a1 a2
  constructor <;> grind
theorem quiSq {r : Nat} (hr : r ≤ 2700000) : higN h31 (quiX r) (quiX r) ≤ h31 * h31 ∧ quiX r ≤ h31 * h31 ∧ Nr ((higN h31 (quiX r) (quiX r) : Rat) / m62) (xi r * xi r) (7 / m62) ∧ (quiX r : Rat) / m62 ≤ 1 := by
  have hn := quiX_near hr
  have hx4 := xi_in (n := r) (by omega)
  have hx1 : (quiX r : Rat) / m62 ≤ 1 := by
    have : 2 / m62 ≤ 1 / 5 := by unfold m62; grind
    obtain ⟨a, b⟩ := hn; grind
  have hx2 : quiX r ≤ h31 * h31 := by
    have h0 : (0 : Rat) < m62 := by unfold m62; grind
    have := Rat.mul_le_mul_of_nonneg_right hx1 (Rat.le_of_lt h0)
    rw [Rat.div_mul_cancel (by grind), Rat.one_mul, ← h31_sq] at this
    exact_mod_cast this
  have hg := nr_hig (a := quiX r) (b := quiX r) h31_pos
  rw [h31_sq] at hg
  have hx0 : 0 ≤ (quiX r : Rat) / m62 := by rw [← h31_sq]; exact nat0 (by decide)
  have hp := hn.mul hn hx0 hx1 hx4.1 (show xi r ≤ 1 by grind)
  refine ⟨Nat.le_trans (higN_le h31_pos hx2) hx2, hx2, (hg.trans hp).le (by grind), hx1⟩
theorem quick_sin {r : Nat} (hr : r ≤ 2700000) : Nr ((altS h31 (higN h31 (quiX r) (quiX r)) 64 (quiX r) 2 : Rat) / m62) (sinT r) (210 / m62) := by
  obtain ⟨h1, h2, h3, h4⟩ := quiSq hr
  have hx4 := xi_in (n := r) (by omega)
  have hq := sq_in hx4
  have ha := altS_ok h31_pos h1 (f := 64) (t := quiX r) (d := 2) (by decide) (Nat.le_trans h2 (by decide))
  rw [h31_sq] at ha
  have hy0 : 0 ≤ (higN h31 (quiX r) (quiX r) : Rat) / m62 := by rw [← h31_sq]; exact nat0 (by decide)
  have hy1 : (higN h31 (quiX r) (quiX r) : Rat) / m62 ≤ 1 := by
    have : 7 / m62 ≤ 1 / 5 := by unfold m62; grind
    obtain ⟨a, b⟩ := h3; grind
  have hx0 : 0 ≤ (quiX r : Rat) / m62 := by rw [← h31_sq]; exact nat0 (by decide)
  have g1 := tay_arg hy0 hy1 hq.1 (by grind) h3 (m := 64) (d := 2) (by decide)
  have g2 := tay_more hq.1 (by grind) 50 (m := 14) (d := 2) (by decide)
  have g3 := (Nr.refl 1).sub (g1.trans g2)
  obtain ⟨t0, t1⟩ := tay_in hq.1 (by grind) (m := 14) (d := 2) (by decide)
  have g4 := (quiX_near hr).mul g3 hx0 h4 (show 0 ≤ 1 - tay (xi r * xi r) 2 14 by grind) (show 1 - tay (xi r * xi r) 2 14 ≤ 1 by grind)
  have hf := facT_sml (d := 2) (by decide +kernel)
  have hs : sml ≤ 1 / m62 := by unfold sml m62; grind
  have hm : 0 ≤ 1 / m62 := by unfold m62; grind
  unfold sinT
  refine (ha.trans g4).le ?_
  have e64 : ((64 : Nat) : Rat) = 64 := rfl
  rw [e64]
  grind
theorem quick_cos {r : Nat} (hr : r ≤ 2700000) : Nr ((altS h31 (higN h31 (quiX r) (quiX r)) 64 (h31 * h31) 1 : Rat) / m62) (cosT r) (210 / m62) := by
  obtain ⟨h1, h2, h3, h4⟩ := quiSq hr
  have hx4 := xi_in (n := r) (by omega)
  have hq := sq_in hx4
  have ha := altS_ok h31_pos h1 (f := 64) (t := h31 * h31) (d := 1) (by decide) (by decide)
  rw [h31_sq] at ha
  have hy0 : 0 ≤ (higN h31 (quiX r) (quiX r) : Rat) / m62 := by rw [← h31_sq]; exact nat0 (by decide)
  have hy1 : (higN h31 (quiX r) (quiX r) : Rat) / m62 ≤ 1 := by
    have : 7 / m62 ≤ 1 / 5 := by unfold m62; grind
    obtain ⟨a, b⟩ := h3; grind
  have g1 := tay_arg hy0 hy1 hq.1 (by grind) h3 (m := 64) (d := 1) (by decide)
  have g2 := tay_more hq.1 (by grind) 50 (m := 14) (d := 1) (by decide)
  have g3 := (Nr.refl 1).sub (g1.trans g2)
  have hf := facT_sml (d := 1) (by decide +kernel)
  have hs : sml ≤ 1 / m62 := by unfold sml m62; grind
  have hm : 0 ≤ 1 / m62 := by unfold m62; grind
  have hmm : m62 / m62 = 1 := by unfold m62; grind
  unfold cosT
  rw [hmm, Rat.one_mul] at ha
  refine (ha.trans g3).le ?_
  have e64 : ((64 : Nat) : Rat) = 64 := rfl
  rw [e64]
  grind
theorem int_le {f v D G : Int} (h : (f : Rat) * (D : Rat) + (G : Rat) ≤ (v : Rat)) : f * D + G ≤ v := by
  have : ((f * D + G : Int) : Rat) ≤ (v : Rat) := by push_cast; exact h
  exact_mod_cast this
theorem int_ge {f v D G : Int} (h : (v : Rat) + (G : Rat) ≤ ((f : Rat) + 1) * (D : Rat)) : v + G ≤ (f + 1) * D := by
  have : ((v + G : Int) : Rat) ≤ (((f + 1) * D : Int) : Rat) := by push_cast; exact h
  exact_mod_cast this
theorem quick_cell {v : Int} {f : Nat} {V : Rat} (h : Nr ((v : Rat) / m62) V (210 / m62)) (hb : Bt f V) : (f : Int) * 4294967296 + 700 ≤ v ∧ v + 700 ≤ ((f : Int) + 1) * 4294967296 := by
  obtain ⟨h1, h2⟩ := h
  obtain ⟨b1, b2⟩ := hb
  unfold m62 at *
  have z1 : (v : Rat) / 4611686018427387904 = (v : Rat) * (1 / 4611686018427387904) := by grind
  rw [z1] at h1 h2
  have m1 : (f : Rat) * 4294967296 + 700 ≤ (v : Rat) := by grind
  have m2 : (v : Rat) + 700 ≤ ((f : Rat) + 1) * 4294967296 := by grind
  exact ⟨int_le (f := (f : Int)) m1, int_ge (f := (f : Int)) m2⟩
end Go.Proofs.YtnnmfdeeicpdlaaGreat
