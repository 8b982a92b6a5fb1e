/- Contracts and plain laws, several texts in one: TgQ; TgK; QnP; QnQ -/
import GoSem.Core.Next
import Derived.Test.YtkhhdpndcidmgaaGreatTAC
/- Rounded sums that are near to the sine and the cosine: with 256 binary digits, and with 62. No program in sight. -/
namespace Go.Proofs.YtkhhdpndcidmgaaGreat

section
variable {B y : Nat}
def ChainN (B y : Nat) : Nat → Nat → Nat → Prop
  | _, 0, u => u = 0
  | d, m + 1, u => ∃ u' p, ChainN B y (d + 2) m u' ∧ p * B ≤ y / (d * (d + 1)) * u' ∧ y / (d * (d + 1)) * u' ≤ (p + 2) * B ∧ u + p = y / (d * (d + 1))
theorem dd_ge {d : Nat} (h : 1 ≤ d) : 2 ≤ d * (d + 1) := Nat.mul_le_mul h (show 2 ≤ d + 1 by omega)
theorem natB {a b B : Nat} (hB : 0 < B) (h : a ≤ b) : (a : Rat) / (B : Rat) ≤ (b : Rat) / (B : Rat) := by
  rw [Rat.div_def, Rat.div_def]
  exact Rat.mul_le_mul_of_nonneg_right (by exact_mod_cast h) (Rat.le_of_lt (Rat.inv_pos.2 (by exact_mod_cast hB)))
theorem nat0 {a B : Nat} (hB : 0 < B) : (0 : Rat) ≤ (a : Rat) / (B : Rat) := by
  rw [Rat.div_def]
  exact rmul0 (by exact_mod_cast Nat.zero_le a) (Rat.le_of_lt (Rat.inv_pos.2 (by exact_mod_cast hB)))
theorem nr_mul {a b p k B : Nat} (hB : 0 < B) (h1 : p * B ≤ a * b) (h2 : a * b ≤ (p + k) * B) : Nr ((p : Rat) / (B : Rat)) ((a : Rat) / (B : Rat) * ((b : Rat) / (B : Rat))) ((k : Rat) / (B : Rat)) := by
  have hB2 : (0 : Rat) < (B : Rat) := by exact_mod_cast hB
  have e1 : (p : Rat) * (B : Rat) ≤ (a : Rat) * (b : Rat) := by exact_mod_cast h1
  have e2 : (a : Rat) * (b : Rat) ≤ ((p : Rat) + (k : Rat)) * (B : Rat) := by exact_mod_cast h2
  have hBB := Rat.mul_pos hB2 hB2
  have x1 : (a : Rat) / (B : Rat) * ((b : Rat) / (B : Rat)) * ((B : Rat) * (B : Rat)) = (a : Rat) * (b : Rat) := by grind
  have x2 : (p : Rat) / (B : Rat) * ((B : Rat) * (B : Rat)) = (p : Rat) * (B : Rat) := by grind
  have x3 : (k : Rat) / (B : Rat) * ((B : Rat) * (B : Rat)) = (k : Rat) * (B : Rat) := by grind
  have k0 : (0 : Rat) ≤ (k : Rat) * (B : Rat) := rmul0 (by exact_mod_cast Nat.zero_le k) (Rat.le_of_lt hB2)
  constructor
  · refine Rat.le_of_mul_le_mul_right (c := (B : Rat) * (B : Rat)) ?_ hBB
    rw [Rat.add_mul, x1, x2, x3]
    grind
  · refine Rat.le_of_mul_le_mul_right (c := (B : Rat) * (B : Rat)) ?_ hBB
    rw [Rat.add_mul, x1, x2, x3]
    grind
theorem nr_div {y k B : Nat} (hB : 0 < B) (hk : 0 < k) : Nr (((y / k : Nat) : Rat) / (B : Rat)) ((y : Rat) / (B : Rat) / (k : Rat)) (1 / (B : Rat)) := by
  have h := nfl (a := y) hk
  have hB2 : (0 : Rat) < (B : Rat) := by exact_mod_cast hB
  have := h.mulc (c := 1 / (B : Rat)) (m := 1 / (B : Rat)) (by rw [Rat.div_def, Rat.one_mul]; exact Rat.le_of_lt (Rat.inv_pos.2 hB2)) Rat.le_refl (by grind)
  have e1 : 1 / (B : Rat) * ((y / k : Nat) : Rat) = ((y / k : Nat) : Rat) / (B : Rat) := by grind
  have e2 : 1 / (B : Rat) * ((y : Rat) / (k : Rat)) = (y : Rat) / (B : Rat) / (k : Rat) := by grind
  rw [e1, e2] at this
  exact this.le (by grind)
theorem chain_ok (hB : 0 < B) (hy : y ≤ B) : ∀ {m d u : Nat}, 1 ≤ d → ChainN B y d m u → u ≤ y / (d * (d + 1)) ∧ Nr ((u : Rat) / (B : Rat)) (tay ((y : Rat) / (B : Rat)) d m) (6 / (B : Rat))
  | 0, d, u, hd, h => by
    have hu : u = 0 := h
    subst hu
    have hB2 : (0 : Rat) < (B : Rat) := by exact_mod_cast hB
    have : (0 : Rat) ≤ 6 / (B : Rat) := by
      rw [Rat.div_def]; exact rmul0 (by grind) (Rat.le_of_lt (Rat.inv_pos.2 hB2))
    refine ⟨Nat.zero_le _, ?_⟩
    have e : ((0 : Nat) : Rat) / (B : Rat) = 0 := by simp [Rat.div_def]
    rw [e]
    unfold tay
    constructor <;> grind
  | m + 1, d, u, hd, ⟨u', p, hc, h1, h2, h3⟩ => by
    obtain ⟨hu, ih⟩ := chain_ok hB hy (m := m) (d := d + 2) (by omega) hc
    refine ⟨by omega, ?_⟩
    have hB2 : (0 : Rat) < (B : Rat) := by exact_mod_cast hB
    have hdd := dd_ge hd
    have hy1 : (y : Rat) / (B : Rat) ≤ 1 := by
      have := natB hB hy
      rwa [show (B : Rat) / (B : Rat) = 1 by grind] at this
    have hy0 := nat0 (a := y) hB
    have hq := nr_div (y := y) hB (show 0 < d * (d + 1) by omega)
    have hm := nr_mul hB h1 h2
    generalize hqq : y / (d * (d + 1)) = q at *
    have hq0 := nat0 (a := q) hB
    have hq1 : (q : Rat) / (B : Rat) ≤ 1 / 2 := by
      have h5 : q * 2 ≤ B := by
        rw [← hqq]
        have := Nat.div_mul_le_self y (d * (d + 1))
        have := Nat.mul_le_mul_left (y / (d * (d + 1))) hdd
        omega
      have h6 : (q : Rat) * 2 ≤ (B : Rat) := by exact_mod_cast h5
      refine Rat.le_of_mul_le_mul_right (c := (B : Rat)) ?_ hB2
      rw [Rat.div_mul_cancel (by grind)]
      grind
    obtain ⟨t0, t1⟩ := tay_in hy0 hy1 (m := m) (d := d + 2) (by omega)
    have hu2 : (u : Rat) / (B : Rat) = (q : Rat) / (B : Rat) - (p : Rat) / (B : Rat) := by
      have : (u : Rat) + (p : Rat) = (q : Rat) := by exact_mod_cast h3
      rw [← this]
      grind
    have hone := ((Nr.refl 1).sub ih)
    have hp := hq.mul hone hq0 hq1 (show 0 ≤ 1 - tay ((y : Rat) / (B : Rat)) (d + 2) m by grind) (show 1 - tay ((y : Rat) / (B : Rat)) (d + 2) m ≤ 1 by grind)
    rw [hu2]
    have e1 : (q : Rat) / (B : Rat) * (1 - (u' : Rat) / (B : Rat)) = (q : Rat) / (B : Rat) - (q : Rat) / (B : Rat) * ((u' : Rat) / (B : Rat)) := by grind
    rw [e1] at hp
    have hs := ((Nr.refl ((q : Rat) / (B : Rat))).sub hm).trans hp
    have e2 : tay ((y : Rat) / (B : Rat)) d (m + 1) = (y : Rat) / (B : Rat) / ((d * (d + 1) : Nat) : Rat) * (1 - tay ((y : Rat) / (B : Rat)) (d + 2) m) := by
      simp only [tay]
      push_cast
      rfl
    rw [e2]
    refine hs.le ?_
    have e3 : ((2 : Nat) : Rat) / (B : Rat) = 2 * (1 / (B : Rat)) := by push_cast; grind
    have e4 : (6 : Rat) / (B : Rat) = 6 * (1 / (B : Rat)) := by grind
    rw [e3, e4]
    grind
end
def b256 : Nat := 115792089237316195423570985008687907853269984665640564039457584007913129639936
theorem b256_pos : 0 < b256 := by decide +kernel
theorem b256_rat : (0 : Rat) < (b256 : Rat) := by exact_mod_cast b256_pos
def sml : Rat := 1 / 1000000000000000000000000000
theorem b256_sml : 20 / (b256 : Rat) ≤ sml / 2 := by
  have h : 40 * 1000000000000000000000000000 ≤ b256 := by decide +kernel
  have h2 : (40 : Rat) * 1000000000000000000000000000 ≤ (b256 : Rat) := by exact_mod_cast h
  refine Rat.le_of_mul_le_mul_right (c := (b256 : Rat)) ?_ b256_rat
  rw [Rat.div_mul_cancel (by have := b256_rat; grind)]
  unfold sml
  grind
theorem facT_sml {d : Nat} (h : 304888344611713860501504000000 ≤ facT d 14) : 1 / (2 * (facT d 14 : Rat)) ≤ sml / 2 := by
  have h2 : (304888344611713860501504000000 : Rat) ≤ (facT d 14 : Rat) := by exact_mod_cast h
  have h0 : (0 : Rat) < 2 * (facT d 14 : Rat) := by grind
  refine Rat.le_of_mul_le_mul_right (c := 2 * (facT d 14 : Rat)) ?_ h0
  rw [Rat.div_mul_cancel (by grind)]
  unfold sml
  grind
theorem xi_near (r : Nat) : Nr (((r * piN / 10800000 : Nat) : Rat) / (b256 : Rat)) (xi r) (1 / (b256 : Rat)) := by
  have h := nr_div (y := r * piN) (k := 10800000) b256_pos (by decide)
  have e : ((r * piN : Nat) : Rat) / (b256 : Rat) / ((10800000 : Nat) : Rat) = xi r := by
    have h0 : piD = b256 * 10800000 := by decide +kernel
    have hb := b256_rat
    unfold xi
    rw [h0]
    generalize (10800000 : Nat) = k
    push_cast
    grind
  rw [e] at h
  exact h
theorem sq_near {r x y : Nat} (hr : r ≤ 2700000) (hx : x = r * piN / 10800000) (h1 : y * b256 ≤ x * x) (h2 : x * x ≤ (y + 2) * b256) : y ≤ b256 ∧ Nr ((x : Rat) / (b256 : Rat)) (xi r) (1 / (b256 : Rat)) ∧ Nr ((y : Rat) / (b256 : Rat)) (xi r * xi r) (4 / (b256 : Rat)) ∧ (x : Rat) / (b256 : Rat) ≤ 1 := by
  have hn := xi_near r
  rw [← hx] at hn
  have hx4 := xi_in (n := r) (by omega)
  have hb := b256_sml
  have hsm : sml ≤ 1 / 100 := by unfold sml; grind
  have hb1 : 0 ≤ 1 / (b256 : Rat) := hn.pos
  have e20 : 20 / (b256 : Rat) = 20 * (1 / (b256 : Rat)) := by grind
  rw [e20] at hb
  have hx1 : (x : Rat) / (b256 : Rat) ≤ 1 := by
    obtain ⟨a, b⟩ := hn; grind
  have hx0 := nat0 (a := x) b256_pos
  have hm := nr_mul b256_pos h1 h2
  have hp := hn.mul hn hx0 hx1 hx4.1 (show xi r ≤ 1 by grind)
  have ht := hm.trans hp
  have e2 : ((2 : Nat) : Rat) / (b256 : Rat) = 2 * (1 / (b256 : Rat)) := by push_cast; grind
  have e4 : (4 : Rat) / (b256 : Rat) = 4 * (1 / (b256 : Rat)) := by grind
  refine ⟨?_, hn, ht.le (by rw [e2, e4]; grind), hx1⟩
  have hq := sq_in hx4
  have hy1 : (y : Rat) / (b256 : Rat) ≤ 1 := by
    have := ht.1
    rw [e2] at this
    grind
  have := Rat.mul_le_mul_of_nonneg_right hy1 (Rat.le_of_lt b256_rat)
  rw [Rat.div_mul_cancel (by have := b256_rat; grind), Rat.one_mul] at this
  exact_mod_cast this
theorem chain_near {r y u d : Nat} (hr : r ≤ 2700000) (hy : y ≤ b256) (hn : Nr ((y : Rat) / (b256 : Rat)) (xi r * xi r) (4 / (b256 : Rat))) (hd : 1 ≤ d) (hf : 304888344611713860501504000000 ≤ facT d 14) (hc : ChainN b256 y d 34 u) : Nr ((u : Rat) / (b256 : Rat)) (tay (xi r * xi r) d 14) (10 / (b256 : Rat) + sml / 2) := by
  have h1 := (chain_ok b256_pos hy hd hc).2
  have hq := sq_in (xi_in (n := r) (by omega))
  have hy0 := nat0 (a := y) b256_pos
  have hy1 : (y : Rat) / (b256 : Rat) ≤ 1 := by
    have := natB b256_pos hy
    rwa [show (b256 : Rat) / (b256 : Rat) = 1 by have := b256_rat; grind] at this
  have h2 := tay_arg hy0 hy1 hq.1 (by grind) hn (m := 34) hd
  have h3 := tay_more hq.1 (by grind) 20 (m := 14) hd
  exact ((h1.trans h2).trans h3).le (by have := facT_sml hf; grind)
theorem ser_sin {r x y u p s : Nat} (hr : r ≤ 2700000) (hx : x = r * piN / 10800000) (h1 : y * b256 ≤ x * x) (h2 : x * x ≤ (y + 2) * b256) (hc : ChainN b256 y 2 34 u) (h3 : p * b256 ≤ x * u) (h4 : x * u ≤ (p + 2) * b256) (hs : s + p = x) : Nr ((s : Rat) / (b256 : Rat)) (sinT r) sml := by
  obtain ⟨hy, hn, hq, hx1⟩ := sq_near hr hx h1 h2
  have hu := chain_near hr hy hq (by decide) (by decide +kernel) hc
  have hm := nr_mul b256_pos h3 h4
  have hx0 := nat0 (a := x) b256_pos
  have hx4 := xi_in (n := r) (by omega)
  obtain ⟨t0, t1⟩ := tay_in (sq_in hx4).1 (by have := (sq_in hx4).2; grind) (m := 14) (d := 2) (by decide)
  have hp := hn.mul ((Nr.refl 1).sub hu) hx0 hx1 (show 0 ≤ 1 - tay (xi r * xi r) 2 14 by have := (sq_in hx4).2; grind) (show 1 - tay (xi r * xi r) 2 14 ≤ 1 by grind)
  have hs2 : (s : Rat) / (b256 : Rat) = (x : Rat) / (b256 : Rat) - (p : Rat) / (b256 : Rat) := by
    have : (s : Rat) + (p : Rat) = (x : Rat) := by exact_mod_cast hs
    have hb := b256_rat
    rw [← this]
    grind
  have e1 : (x : Rat) / (b256 : Rat) * (1 - (u : Rat) / (b256 : Rat)) = (x : Rat) / (b256 : Rat) - (x : Rat) / (b256 : Rat) * ((u : Rat) / (b256 : Rat)) := by grind
  rw [e1] at hp
  have hf := ((Nr.refl ((x : Rat) / (b256 : Rat))).sub hm).trans hp
  rw [hs2]
  unfold sinT
  refine hf.le ?_
  have hb := b256_sml
  have e2 : ((2 : Nat) : Rat) / (b256 : Rat) = 2 * (1 / (b256 : Rat)) := by push_cast; grind
  have e20 : 20 / (b256 : Rat) = 20 * (1 / (b256 : Rat)) := by grind
  have e10 : 10 / (b256 : Rat) = 10 * (1 / (b256 : Rat)) := by grind
  have hb1 := hn.pos
  rw [e20] at hb
  rw [e2, e10]
  grind
theorem ser_cos {r x y u : Nat} (hr : r ≤ 2700000) (hx : x = r * piN / 10800000) (h1 : y * b256 ≤ x * x) (h2 : x * x ≤ (y + 2) * b256) (hc : ChainN b256 y 1 34 u) : Nr (1 - (u : Rat) / (b256 : Rat)) (cosT r) sml := by
  obtain ⟨hy, hn, hq, -⟩ := sq_near hr hx h1 h2
  have hu := chain_near hr hy hq (by decide) (by decide +kernel) hc
  have hp := (Nr.refl 1).sub hu
  unfold cosT
  refine hp.le ?_
  have hb := b256_sml
  have e20 : 20 / (b256 : Rat) = 20 * (1 / (b256 : Rat)) := by grind
  have e10 : 10 / (b256 : Rat) = 10 * (1 / (b256 : Rat)) := by grind
  have hb1 := hn.pos
  rw [e20] at hb
  rw [e10]
  grind
theorem cell_of {s f : Nat} {V : Rat} (h : Nr ((s : Rat) / (b256 : Rat)) V sml) (hb : Bt f V) : s / 107839786668602559178668060348078522694548577690162289924414440996864 = f := by
  obtain ⟨h1, h2⟩ := h
  obtain ⟨b1, b2⟩ := hb
  have hb := b256_rat
  have e : (b256 : Rat) = ((107839786668602559178668060348078522694548577690162289924414440996864 : Nat) : Rat) * ((1073741824 : Nat) : Rat) := by
    rw [show b256 = 107839786668602559178668060348078522694548577690162289924414440996864 * 1073741824 by decide +kernel]
    exact Rat.natCast_mul _ _
  have hs : sml ≤ 1 / 4611686018427387904 := by unfold sml; grind
  have l1 : (f : Rat) / 1073741824 ≤ (s : Rat) / (b256 : Rat) := by grind
  have l2 : (s : Rat) / (b256 : Rat) ≤ ((f : Rat) + 1) / 1073741824 - 1 / 4611686018427387904 := by grind
  have m1 := Rat.mul_le_mul_of_nonneg_right l1 (Rat.le_of_lt hb)
  have m2 := Rat.mul_le_mul_of_nonneg_right l2 (Rat.le_of_lt hb)
  rw [Rat.div_mul_cancel (by grind), e] at m1 m2
  generalize hU : (107839786668602559178668060348078522694548577690162289924414440996864 : Nat) = U at *
  have hU0 : 0 < U := by rw [← hU]; decide +kernel
  have hk : ((1073741824 : Nat) : Rat) = 1073741824 := rfl
  rw [hk] at m1 m2
  have hUp : (0 : Rat) < (U : Rat) := by exact_mod_cast hU0
  have n1 : (f : Rat) * (U : Rat) ≤ (s : Rat) := by grind
  have n2 : (s : Rat) < ((f : Rat) + 1) * (U : Rat) := by grind
  have n1' : f * U ≤ s := by exact_mod_cast n1
  have n2' : s < (f + 1) * U := by exact_mod_cast n2
  exact Nat.div_eq_of_lt_le n1' n2'
end Go.Proofs.YtkhhdpndcidmgaaGreat
/- The quick sums of 62 binary digits are near to the sine and the cosine. No program in sight. -/
namespace Go.Proofs.YtkhhdpndcidmgaaGreat

def h31 : Nat := 2147483648
end Go.Proofs.YtkhhdpndcidmgaaGreat
/- Rounded sums of series with alternating signs, by products that are rounded down; a circle with 192 binary digits. No program in sight. -/
namespace Go.Proofs.YtkhhdpndcidmgaaGreat

def nexQ (M sq t d : Nat) : Nat := t * sq / M / (d * (d + 1))
def altQ (M sq : Nat) : Nat → Nat → Nat → Int
  | 0, _, _ => 0
  | f + 1, t, d => (t : Int) - altQ M sq f (nexQ M sq t d) (d + 2)
theorem nr_mulM {M a b : Nat} (hM : 0 < M) : Nr (((a * b / M : Nat) : Rat) / (M : Rat)) ((a : Rat) / (M : Rat) * ((b : Rat) / (M : Rat))) (3 / (M : Rat)) := by
  have h1 := Nat.div_mul_le_self (a * b) M
  have h2 : a * b < (a * b / M + 1) * M := Nat.lt_mul_of_div_lt (Nat.lt_succ_self _) hM
  have h3 : (a * b / M + 1) * M ≤ (a * b / M + 3) * M := Nat.mul_le_mul_right M (by omega)
  exact nr_mul (k := 3) hM h1 (Nat.le_trans (Nat.le_of_lt h2) h3)
theorem mulM_le {M a b : Nat} (hM : 0 < M) (hb : b ≤ M) : a * b / M ≤ a := by
  have := Nat.div_le_div_right (c := M) (Nat.mul_le_mul_left a hb)
  rwa [Nat.mul_div_cancel _ hM] at this
theorem nexQ_le {M sq t d : Nat} (hM : 0 < M) (hsq : sq ≤ M) (hd : 1 ≤ d) : nexQ M sq t d * 2 ≤ t := by
  unfold nexQ
  have h1 := mulM_le (a := t) hM hsq
  have h2 := Nat.div_mul_le_self (t * sq / M) (d * (d + 1))
  have h3 := Nat.mul_le_mul_left (t * sq / M / (d * (d + 1))) (dd_ge hd)
  omega
theorem altQ_zero {M sq : Nat} : ∀ {f d : Nat}, altQ M sq f 0 d = 0
  | 0, _ => rfl
  | f + 1, d => by
    have : nexQ M sq 0 d = 0 := by unfold nexQ; simp
    unfold altQ
    rw [this, altQ_zero]
    rfl
theorem altQ_more {M sq : Nat} (hM : 0 < M) (hsq : sq ≤ M) : ∀ {f t d : Nat}, 1 ≤ d → t < 2 ^ f → altQ M sq (f + 1) t d = altQ M sq f t d
  | 0, t, d, hd, ht => by
    obtain rfl : t = 0 := by omega
    rw [altQ_zero]; rfl
  | f + 1, t, d, hd, ht => by
    have hn := nexQ_le (t := t) hM hsq hd
    show (t : Int) - altQ M sq (f + 1) (nexQ M sq t d) (d + 2) = (t : Int) - altQ M sq f (nexQ M sq t d) (d + 2)
    rw [altQ_more hM hsq (f := f) (t := nexQ M sq t d) (d := d + 2) (by omega) (by rw [Nat.pow_succ] at ht; omega)]
theorem altQ_next {M sq f t d : Nat} (hM : 0 < M) (hsq : sq ≤ M) (hd : 1 ≤ d) (ht : t < 2 ^ f) : altQ M sq f t d = (t : Int) - altQ M sq f (nexQ M sq t d) (d + 2) := by
  have h := altQ_more hM hsq hd ht
  rw [← h]
  show (t : Int) - altQ M sq f (nexQ M sq t d) (d + 2) = _
  rfl
theorem altQ_ok {M sq : Nat} (hM : 0 < M) (hsq : sq ≤ M) : ∀ {f t d : Nat}, 1 ≤ d → t ≤ 2 ^ f → Nr ((altQ M sq f t d : Rat) / (M : Rat)) ((t : Rat) / (M : Rat) * (1 - tay ((sq : Rat) / (M : Rat)) d f)) ((1 + 3 * (f : Rat)) * (1 / (M : Rat)))
  | 0, t, d, hd, ht => by
    have hM2 : (0 : Rat) < (M : Rat) := by exact_mod_cast hM
    have hi : 0 ≤ 1 / (M : Rat) := by rw [Rat.div_def, Rat.one_mul]; exact Rat.le_of_lt (Rat.inv_pos.2 hM2)
    have h1 : (t : Rat) ≤ 1 := by exact_mod_cast ht
    have h0 : (0 : Rat) ≤ (t : Rat) := by exact_mod_cast Nat.zero_le t
    have h2 := rmul h0 h1 hi Rat.le_refl
    have h3 := rmul0 h0 hi
    unfold altQ tay
    have e0 : (((0 : Int) : Rat)) = 0 := rfl
    have e1 : (((0 : Nat) : Rat)) = 0 := rfl
    rw [e0, e1]
    constructor <;> grind
  | f + 1, t, d, hd, ht => by
    have hn := nexQ_le (t := t) hM hsq hd
    have ih := altQ_ok hM hsq (f := f) (t := nexQ M sq t d) (d := d + 2) (by omega) (by rw [Nat.pow_succ] at ht; omega)
    have hg := nr_mulM (a := t) (b := sq) hM
    have hdd := dd_ge hd
    have hq := nr_div (y := t * sq / M) hM (show 0 < d * (d + 1) by omega)
    simp only [altQ, tay]
    unfold nexQ at *
    have hM2 : (0 : Rat) < (M : Rat) := by exact_mod_cast hM
    have hi : 0 ≤ 1 / (M : Rat) := by rw [Rat.div_def, Rat.one_mul]; exact Rat.le_of_lt (Rat.inv_pos.2 hM2)
    have hy1 : (sq : Rat) / (M : Rat) ≤ 1 := by
      have := natB hM hsq
      rwa [show (M : Rat) / (M : Rat) = 1 by grind] at this
    have hy0 := nat0 (a := sq) hM
    obtain ⟨t0, t1⟩ := tay_in hy0 hy1 (m := f) (d := d + 2) (by omega)
    have h2 := two_le hd
    obtain ⟨r0, r1, r2⟩ := div_ge (show (0 : Rat) ≤ 1 by decide) h2
    have e1 : ((d * (d + 1) : Nat) : Rat) = (d : Rat) * ((d : Rat) + 1) := by push_cast; rfl
    rw [e1] at hq
    generalize t * sq / M / (d * (d + 1)) = n1 at *
    generalize ((t * sq / M : Nat) : Rat) / (M : Rat) = H at *
    generalize hk : (d : Rat) * ((d : Rat) + 1) = k at *
    generalize hT : tay ((sq : Rat) / (M : Rat)) (d + 2) f = T at *
    generalize (sq : Rat) / (M : Rat) = Y at *
    generalize altQ M sq f n1 (d + 2) = A at *
    have hg2 := hg.mulc r0 r1 hg.pos
    have e2 : 1 / k * H = H / k := by grind
    have e3 : 1 / k * ((t : Rat) / (M : Rat) * Y) = (t : Rat) / (M : Rat) * Y / k := by grind
    rw [e2, e3] at hg2
    have h5 := hq.trans hg2
    have h6 := h5.mulc (c := 1 - T) (m := 1) (by grind) (by grind) h5.pos
    have h7 := ih.trans (by rw [Rat.mul_comm]; exact h6)
    have h8 := (Nr.refl ((t : Rat) / (M : Rat))).sub h7
    have e4 : (((t : Int) - A : Int) : Rat) / (M : Rat) = (t : Rat) / (M : Rat) - (A : Rat) / (M : Rat) := by push_cast; grind
    have e5 : (t : Rat) / (M : Rat) * (1 - Y / k * (1 - T)) = (t : Rat) / (M : Rat) - (1 - T) * ((t : Rat) / (M : Rat) * Y / k) := by grind
    rw [e4, e5]
    refine h8.le ?_
    push_cast
    grind
def m192 : Nat := 6277101735386680763835789423207666416102355444464034512896
def piA : Nat := piN / 18446744073709551616
def tA (k : Nat) : Nat := k * piA / 10800000
def sqA (k : Nat) : Nat := tA k * tA k / m192
def sinA (k : Nat) : Int := altQ m192 (sqA k) 200 (tA k) 2
def cosA (k : Nat) : Int := altQ m192 (sqA k) 200 m192 1
theorem m192_pos : 0 < m192 := by decide +kernel
theorem m192_pow : m192 = 18446744073709551616 ^ 3 := by decide +kernel
end Go.Proofs.YtkhhdpndcidmgaaGreat
/- The circle with 192 binary digits is near to the exact rotation. No program in sight. -/
namespace Go.Proofs.YtkhhdpndcidmgaaGreat

theorem m192_rat : (0 : Rat) < (m192 : Rat) := by exact_mod_cast m192_pos
theorem m192_big : 1 / (m192 : Rat) ≤ 1 / 100000000000000000000000000000000000000000 := by
  have h : 100000000000000000000000000000000000000000 ≤ m192 := by decide +kernel
  have h2 : (100000000000000000000000000000000000000000 : Rat) ≤ (m192 : Rat) := by exact_mod_cast h
  refine Rat.le_of_mul_le_mul_right (c := (m192 : Rat)) ?_ m192_rat
  rw [Rat.div_mul_cancel (by have := m192_rat; grind)]
  grind
theorem piA_ok : piA * 18446744073709551616 ≤ piN ∧ piN ≤ (piA + 1) * 18446744073709551616 := by decide +kernel
theorem piD_at : piD = 18446744073709551616 * (m192 * 10800000) := by decide +kernel
theorem tA_near {k : Nat} (hk : k ≤ 2700000) : Nr ((tA k : Rat) / (m192 : Rat)) (xi k) (2 / (m192 : Rat)) := by
  obtain ⟨u1, u2⟩ := piA_ok
  have h1 := nfl (a := k * piA) (K := 10800000) (by decide)
  change Nr ((tA k : Nat) : Rat) _ _ at h1
  have hM := m192_rat
  have v1 : (piA : Rat) * 18446744073709551616 ≤ (piN : Rat) := by
    have := Rat.natCast_le_natCast.2 u1
    rw [Rat.natCast_mul] at this
    exact this
  have v2 : (piN : Rat) ≤ ((piA : Rat) + 1) * 18446744073709551616 := by
    have := Rat.natCast_le_natCast.2 u2
    rw [Rat.natCast_mul, Rat.natCast_add] at this
    exact this
  have hD : (piD : Rat) = 18446744073709551616 * ((m192 : Rat) * 10800000) := by
    have : ((piD : Nat) : Rat) = ((18446744073709551616 * (m192 * 10800000) : Nat) : Rat) := by rw [← piD_at]
    rw [this, Rat.natCast_mul, Rat.natCast_mul]
    rfl
  have hk2 : (k : Rat) ≤ 2700000 := by exact_mod_cast hk
  have hk0 : (0 : Rat) ≤ (k : Rat) := by exact_mod_cast Nat.zero_le k
  unfold xi
  rw [hD]
  rw [Rat.natCast_mul] at h1
  have hK : ((10800000 : Nat) : Rat) = 10800000 := rfl
  rw [hK] at h1
  generalize (piN : Rat) = N at *
  generalize (piA : Rat) = P at *
  generalize ((tA k : Nat) : Rat) = T at *
  generalize (m192 : Rat) = M at *
  obtain ⟨a1, a2⟩ := h1
  have hi : 0 < 1 / M := by rw [Rat.div_def, Rat.one_mul]; exact Rat.inv_pos.2 hM
  have y1 := Rat.mul_le_mul_of_nonneg_left v1 hk0
  have y2 := Rat.mul_le_mul_of_nonneg_left v2 hk0
  have e1 : (k : Rat) * (N / (18446744073709551616 * (M * 10800000))) = (k : Rat) * N / 18446744073709551616 / 10800000 * (1 / M) := by grind
  have e2 : T / M = T * (1 / M) := by grind
  have e3 : 2 / M = 2 * (1 / M) := by grind
  rw [e1, e2, e3]
  have b1 : T ≤ (k : Rat) * N / 18446744073709551616 / 10800000 + 2 := by grind
  have b2 : (k : Rat) * N / 18446744073709551616 / 10800000 ≤ T + 2 := by grind
  have c1 := Rat.mul_le_mul_of_nonneg_right b1 (Rat.le_of_lt hi)
  have c2 := Rat.mul_le_mul_of_nonneg_right b2 (Rat.le_of_lt hi)
  constructor <;> grind
theorem sqA_near {r : Nat} (hr : r ≤ 2700000) : sqA r ≤ m192 ∧ tA r ≤ m192 ∧ Nr ((sqA r : Rat) / (m192 : Rat)) (xi r * xi r) (7 / (m192 : Rat)) ∧ (tA r : Rat) / (m192 : Rat) ≤ 1 := by
  have hn := tA_near hr
  have hx4 := xi_in (n := r) (by omega)
  have hb := m192_big
  have hx1 : (tA r : Rat) / (m192 : Rat) ≤ 1 := by
    obtain ⟨a, b⟩ := hn; grind
  have hx2 : tA r ≤ m192 := by
    have h0 := m192_rat
    have := Rat.mul_le_mul_of_nonneg_right hx1 (Rat.le_of_lt h0)
    rw [Rat.div_mul_cancel (by grind), Rat.one_mul] at this
    exact_mod_cast this
  have hg := nr_mulM (a := tA r) (b := tA r) m192_pos
  have hx0 : 0 ≤ (tA r : Rat) / (m192 : Rat) := nat0 m192_pos
  have hp := hn.mul hn hx0 hx1 hx4.1 (show xi r ≤ 1 by grind)
  exact ⟨Nat.le_trans (mulM_le m192_pos hx2) hx2, hx2, (hg.trans hp).le (by grind), hx1⟩
theorem m192_fuel : m192 ≤ 2 ^ 200 := by decide +kernel
theorem sinA_near {r : Nat} (hr : r ≤ 2700000) : Nr ((sinA r : Rat) / (m192 : Rat)) (sinT r) sml := by
  obtain ⟨h1, h2, h3, h4⟩ := sqA_near hr
  have hx4 := xi_in (n := r) (by omega)
  have hq := sq_in hx4
  have ha := altQ_ok m192_pos h1 (f := 200) (t := tA r) (d := 2) (by decide) (Nat.le_trans h2 m192_fuel)
  have hb := m192_big
  have hy0 : 0 ≤ (sqA r : Rat) / (m192 : Rat) := nat0 m192_pos
  have hy1 : (sqA r : Rat) / (m192 : Rat) ≤ 1 := by obtain ⟨a, b⟩ := h3; grind
  have hx0 : 0 ≤ (tA r : Rat) / (m192 : Rat) := nat0 m192_pos
  have g1 := tay_arg hy0 hy1 hq.1 (by grind) h3 (m := 200) (d := 2) (by decide)
  have g2 := tay_more hq.1 (by grind) 186 (m := 14) (d := 2) (by decide)
  have g3 := (Nr.refl 1).sub (g1.trans g2)
  obtain ⟨t0, t1⟩ := tay_in hq.1 (by grind) (m := 14) (d := 2) (by decide)
  have g4 := (tA_near hr).mul g3 hx0 h4 (show 0 ≤ 1 - tay (xi r * xi r) 2 14 by grind) (show 1 - tay (xi r * xi r) 2 14 ≤ 1 by grind)
  have hf := facT_sml (d := 2) (by decide +kernel)
  have hm : 0 ≤ 1 / (m192 : Rat) := by rw [Rat.div_def, Rat.one_mul]; exact Rat.le_of_lt (Rat.inv_pos.2 m192_rat)
  unfold sinT sinA
  refine (ha.trans g4).le ?_
  have e64 : ((200 : Nat) : Rat) = 200 := rfl
  rw [e64]
  unfold sml at *
  generalize (m192 : Rat) = M at *
  grind
theorem cosA_near {r : Nat} (hr : r ≤ 2700000) : Nr ((cosA r : Rat) / (m192 : Rat)) (cosT r) sml := by
  obtain ⟨h1, h2, h3, h4⟩ := sqA_near hr
  have hx4 := xi_in (n := r) (by omega)
  have hq := sq_in hx4
  have ha := altQ_ok m192_pos h1 (f := 200) (t := m192) (d := 1) (by decide) m192_fuel
  have hb := m192_big
  have hy0 : 0 ≤ (sqA r : Rat) / (m192 : Rat) := nat0 m192_pos
  have hy1 : (sqA r : Rat) / (m192 : Rat) ≤ 1 := by obtain ⟨a, b⟩ := h3; grind
  have g1 := tay_arg hy0 hy1 hq.1 (by grind) h3 (m := 200) (d := 1) (by decide)
  have g2 := tay_more hq.1 (by grind) 186 (m := 14) (d := 1) (by decide)
  have g3 := (Nr.refl 1).sub (g1.trans g2)
  have hf := facT_sml (d := 1) (by decide +kernel)
  have hm : 0 ≤ 1 / (m192 : Rat) := by rw [Rat.div_def, Rat.one_mul]; exact Rat.le_of_lt (Rat.inv_pos.2 m192_rat)
  have hmm : (m192 : Rat) / (m192 : Rat) = 1 := by have := m192_rat; grind
  unfold cosT cosA
  rw [hmm, Rat.one_mul] at ha
  refine (ha.trans g3).le ?_
  have e64 : ((200 : Nat) : Rat) = 200 := rfl
  rw [e64]
  unfold sml at *
  generalize (m192 : Rat) = M at *
  grind
def siA (k : Nat) : Int := if 2700000 < k then cosA (5400000 - k) else sinA k
def coA (k : Nat) : Int := if 2700000 < k then sinA (5400000 - k) else cosA k
end Go.Proofs.YtkhhdpndcidmgaaGreat
