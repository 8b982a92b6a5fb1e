/- Contracts and plain laws, several texts in one: Ns1; Qn1 -/
import GoSem.Core.Next
import Derived.Test.YtnnmfdeeicpdlaaGreatProg
import Derived.WalkKit
import Derived.WalkSpells
import Derived.WalkLawsBesides
import Derived.Lib.Hide
import Derived.BigQuiet
import Derived.Test.YtnnmfdeeicpdlaaGreatHAC
import Derived.Test.YtnnmfdeeicpdlaaGreatHAD
import Derived.Test.YtnnmfdeeicpdlaaGreatHAE
import Derived.Test.YtnnmfdeeicpdlaaGreatHAG
import Derived.Test.YtnnmfdeeicpdlaaGreatHAR
import Derived.Test.YtnnmfdeeicpdlaaGreatHAS
import Derived.Test.YtnnmfdeeicpdlaaGreatHAT
/- Sines by floored series at any scale, near to those by 22 terms; the sign of a cross product by them. No program in sight. -/
namespace Go.Proofs.YtnnmfdeeicpdlaaGreat

theorem icast {a b : Int} (h : a ≤ b) : (a : Rat) ≤ (b : Rat) := by exact_mod_cast h
theorem icastN {n : Nat} {b : Int} (h : (n : Int) ≤ b) : (n : Rat) ≤ (b : Rat) := by exact_mod_cast h
theorem icastM {n : Nat} {b : Int} (h : b ≤ -(n : Int)) : (b : Rat) ≤ -(n : Rat) := by
  have := icast h
  rw [Rat.intCast_neg] at this
  exact this
structure MOk (M P Q : Nat) : Prop where
  pos : 0 < M
  fuel : M ≤ 2 ^ 200
  big : 1000000000000000000000 ≤ M
  p1 : P * Q ≤ piN
  p2 : piN ≤ (P + 1) * Q
  d : piD = Q * (M * 10800000)
  q : 0 < Q
def tM (P k : Nat) : Nat := k * P / 10800000
def sqM (M P k : Nat) : Nat := tM P k * tM P k / M
def sinM (M P k : Nat) : Int := altQ M (sqM M P k) 200 (tM P k) 2
def cosM (M P k : Nat) : Int := altQ M (sqM M P k) 200 M 1
section
variable {M P Q : Nat}
theorem MOk.rat (h : MOk M P Q) : (0 : Rat) < (M : Rat) := by exact_mod_cast h.pos
theorem MOk.inv (h : MOk M P Q) : 0 < 1 / (M : Rat) ∧ 1 / (M : Rat) ≤ 1 / 1000000000000000000000 := by
  have hM := h.rat
  have h2 : (1000000000000000000000 : Rat) ≤ (M : Rat) := by exact_mod_cast h.big
  have hi : 0 < 1 / (M : Rat) := by rw [Rat.div_def, Rat.one_mul]; exact Rat.inv_pos.2 hM
  refine ⟨hi, Rat.le_of_mul_le_mul_right (c := (M : Rat)) ?_ hM⟩
  rw [Rat.div_mul_cancel (by grind)]
  grind
theorem tM_near (h : MOk M P Q) {k : Nat} (hk : k ≤ 2700000) : Nr ((tM P k : Rat) / (M : Rat)) (xi k) (2 / (M : Rat)) := by
  have u1 := h.p1
  have u2 := h.p2
  have h1 := nfl (a := k * P) (K := 10800000) (by decide)
  change Nr ((tM P k : Nat) : Rat) _ _ at h1
  have hM := h.rat
  have hQ : (0 : Rat) < (Q : Rat) := by exact_mod_cast h.q
  have v1 : (P : Rat) * (Q : Rat) ≤ (piN : Rat) := by
    have := Rat.natCast_le_natCast.2 u1
    rw [Rat.natCast_mul] at this
    exact this
  have v2 : (piN : Rat) ≤ ((P : Rat) + 1) * (Q : Rat) := by
    have := Rat.natCast_le_natCast.2 u2
    rw [Rat.natCast_mul, Rat.natCast_add] at this
    exact this
  have hD : (piD : Rat) = (Q : Rat) * ((M : Rat) * 10800000) := by
    have : ((piD : Nat) : Rat) = ((Q * (M * 10800000) : Nat) : Rat) := by rw [← h.d]
    rw [this, Rat.natCast_mul, Rat.natCast_mul]
    rfl
  have hk2 : (k : Rat) ≤ 2700000 := by exact_mod_cast hk
  have hk0 : (0 : Rat) ≤ (k : Rat) := by exact_mod_cast Nat.zero_le k
  unfold xi
  rw [hD]
  rw [Rat.natCast_mul] at h1
  have hK : ((10800000 : Nat) : Rat) = 10800000 := rfl
  rw [hK] at h1
  have hN : ∃ t : Rat, (piN : Rat) = t * (Q : Rat) := ⟨(piN : Rat) / (Q : Rat), (Rat.div_mul_cancel (by grind)).symm⟩
  obtain ⟨N, hN⟩ := hN
  rw [hN] at v1 v2 ⊢
  have w1 : (P : Rat) ≤ N := Rat.le_of_mul_le_mul_right v1 hQ
  have w2 : N ≤ (P : Rat) + 1 := Rat.le_of_mul_le_mul_right v2 hQ
  clear v1 v2 u1 u2 hD hN
  generalize (P : Rat) = P' at *
  generalize ((tM P k : Nat) : Rat) = T at *
  generalize (M : Rat) = M' at *
  generalize (Q : Rat) = Q' at *
  obtain ⟨a1, a2⟩ := h1
  have hi : 0 < 1 / M' := by rw [Rat.div_def, Rat.one_mul]; exact Rat.inv_pos.2 hM
  have y1 := Rat.mul_le_mul_of_nonneg_left w1 hk0
  have y2 := Rat.mul_le_mul_of_nonneg_left w2 hk0
  have e1 : (k : Rat) * (N * Q' / (Q' * (M' * 10800000))) = (k : Rat) * N / 10800000 * (1 / M') := by grind
  have e2 : T / M' = T * (1 / M') := by grind
  have e3 : 2 / M' = 2 * (1 / M') := by grind
  rw [e1, e2, e3]
  have b1 : T ≤ (k : Rat) * N / 10800000 + 2 := by grind
  have b2 : (k : Rat) * N / 10800000 ≤ T + 2 := by grind
  have c1 := Rat.mul_le_mul_of_nonneg_right b1 (Rat.le_of_lt hi)
  have c2 := Rat.mul_le_mul_of_nonneg_right b2 (Rat.le_of_lt hi)
  constructor <;> grind
theorem sqM_near (h : MOk M P Q) {r : Nat} (hr : r ≤ 2700000) : sqM M P r ≤ M ∧ tM P r ≤ M ∧ Nr ((sqM M P r : Rat) / (M : Rat)) (xi r * xi r) (7 / (M : Rat)) ∧ (tM P r : Rat) / (M : Rat) ≤ 1 := by
  have hn := tM_near h hr
  have hx4 := xi_in (n := r) (by omega)
  obtain ⟨i0, i1⟩ := h.inv
  have hx1 : (tM P r : Rat) / (M : Rat) ≤ 1 := by
    obtain ⟨a, b⟩ := hn; grind
  have hx2 : tM P r ≤ M := by
    have h0 := h.rat
    have := Rat.mul_le_mul_of_nonneg_right hx1 (Rat.le_of_lt h0)
    rw [Rat.div_mul_cancel (by grind), Rat.one_mul] at this
    exact_mod_cast this
  have hg := nr_mulM (a := tM P r) (b := tM P r) h.pos
  have hx0 : 0 ≤ (tM P r : Rat) / (M : Rat) := nat0 h.pos
  have hp := hn.mul hn hx0 hx1 hx4.1 (show xi r ≤ 1 by grind)
  exact ⟨Nat.le_trans (mulM_le h.pos hx2) hx2, hx2, (hg.trans hp).le (by grind), hx1⟩
def tl50 : Rat := 1 / 100000000000000000000000000000000000000000000000000
theorem facU_tl {d : Nat} (h : 100000000000000000000000000000000000000000000000000 ≤ facT d 22) : 1 / (2 * (facT d 22 : Rat)) ≤ tl50 := by
  have h2 : (100000000000000000000000000000000000000000000000000 : Rat) ≤ (facT d 22 : Rat) := by exact_mod_cast h
  have h3 : (0 : Rat) < 2 * (facT d 22 : Rat) := by grind
  refine Rat.le_of_mul_le_mul_right (c := 2 * (facT d 22 : Rat)) ?_ h3
  rw [Rat.div_mul_cancel (by grind)]
  unfold tl50
  grind
theorem sinM_near (h : MOk M P Q) {r : Nat} (hr : r ≤ 2700000) : Nr ((sinM M P r : Rat) / (M : Rat)) (sinU r) (620 / (M : Rat) + tl50) := by
  obtain ⟨h1, h2, h3, h4⟩ := sqM_near h hr
  have hx4 := xi_in (n := r) (by omega)
  have hq := sq_in hx4
  have ha := altQ_ok h.pos h1 (f := 200) (t := tM P r) (d := 2) (by decide) (Nat.le_trans h2 h.fuel)
  obtain ⟨i0, i1⟩ := h.inv
  have hy0 : 0 ≤ (sqM M P r : Rat) / (M : Rat) := nat0 h.pos
  have hy1 : (sqM M P r : Rat) / (M : Rat) ≤ 1 := by obtain ⟨a, b⟩ := h3; grind
  have hx0 : 0 ≤ (tM P r : Rat) / (M : Rat) := nat0 h.pos
  have g1 := tay_arg hy0 hy1 hq.1 (by grind) h3 (m := 200) (d := 2) (by decide)
  have g2 := tay_more hq.1 (by grind) 178 (m := 22) (d := 2) (by decide)
  have g3 := (Nr.refl 1).sub (g1.trans g2)
  obtain ⟨t0, t1⟩ := tay_in hq.1 (by grind) (m := 22) (d := 2) (by decide)
  have g4 := (tM_near h hr).mul g3 hx0 h4 (show 0 ≤ 1 - tay (xi r * xi r) 2 22 by grind) (show 1 - tay (xi r * xi r) 2 22 ≤ 1 by grind)
  have hf := facU_tl (d := 2) (by decide +kernel)
  unfold sinU sinM
  refine (ha.trans g4).le ?_
  have e64 : ((200 : Nat) : Rat) = 200 := rfl
  rw [e64]
  unfold tl50 at *
  generalize (M : Rat) = M' at *
  grind
theorem cosM_near (h : MOk M P Q) {r : Nat} (hr : r ≤ 2700000) : Nr ((cosM M P r : Rat) / (M : Rat)) (cosU r) (620 / (M : Rat) + tl50) := by
  obtain ⟨h1, h2, h3, h4⟩ := sqM_near h hr
  have hx4 := xi_in (n := r) (by omega)
  have hq := sq_in hx4
  have ha := altQ_ok h.pos h1 (f := 200) (t := M) (d := 1) (by decide) h.fuel
  obtain ⟨i0, i1⟩ := h.inv
  have hy0 : 0 ≤ (sqM M P r : Rat) / (M : Rat) := nat0 h.pos
  have hy1 : (sqM M P r : Rat) / (M : Rat) ≤ 1 := by obtain ⟨a, b⟩ := h3; grind
  have g1 := tay_arg hy0 hy1 hq.1 (by grind) h3 (m := 200) (d := 1) (by decide)
  have g2 := tay_more hq.1 (by grind) 178 (m := 22) (d := 1) (by decide)
  have g3 := (Nr.refl 1).sub (g1.trans g2)
  have hf := facU_tl (d := 1) (by decide +kernel)
  have hmm : (M : Rat) / (M : Rat) = 1 := by have := h.rat; grind
  unfold cosU cosM
  rw [hmm, Rat.one_mul] at ha
  refine (ha.trans g3).le ?_
  have e64 : ((200 : Nat) : Rat) = 200 := rfl
  rw [e64]
  unfold tl50 at *
  generalize (M : Rat) = M' at *
  grind
def siM (M P k : Nat) : Int := if 2700000 < k then cosM M P (5400000 - k) else sinM M P k
def coM (M P k : Nat) : Int := if 2700000 < k then sinM M P (5400000 - k) else cosM M P k
def sU (k : Nat) : Rat := if 2700000 < k then cosU (5400000 - k) else sinU k
def cU (k : Nat) : Rat := if 2700000 < k then sinU (5400000 - k) else cosU k
theorem siM_A (k : Nat) : siM m192 piA k = siA k ∧ coM m192 piA k = coA k := ⟨rfl, rfl⟩
theorem siM_near (h : MOk M P Q) {k : Nat} (hk : k ≤ 5400000) : Nr ((siM M P k : Rat) / (M : Rat)) (sU k) (620 / (M : Rat) + tl50) ∧ Nr ((coM M P k : Rat) / (M : Rat)) (cU k) (620 / (M : Rat) + tl50) := by
  unfold siM coM sU cU
  by_cases c : 2700000 < k
  · rw [if_pos c, if_pos c, if_pos c, if_pos c]
    exact ⟨cosM_near h (by omega), sinM_near h (by omega)⟩
  · rw [if_neg c, if_neg c, if_neg c, if_neg c]
    exact ⟨sinM_near h (by omega), cosM_near h (by omega)⟩
def crM (M P k : Nat) (x y : Int) : Int := x * siM M P k - y * coM M P k
def crU (k : Nat) (x y : Int) : Rat := (x : Rat) * sU k - (y : Rat) * cU k
theorem crM_near (h : MOk M P Q) {k : Nat} (hk : k ≤ 5400000) {x y : Int} (x0 : 0 ≤ x) (x1 : x ≤ 2147483648) (y0 : 0 ≤ y) (y1 : y ≤ 2147483648) : Nr ((crM M P k x y : Rat) / (M : Rat)) (crU k x y) (4294967296 * (620 / (M : Rat) + tl50)) := by
  obtain ⟨n1, n2⟩ := siM_near h hk
  have a0 : (0 : Rat) ≤ (x : Rat) := by exact_mod_cast x0
  have a1 : (x : Rat) ≤ 2147483648 := icast x1
  have b0 : (0 : Rat) ≤ (y : Rat) := by exact_mod_cast y0
  have b1 : (y : Rat) ≤ 2147483648 := icast y1
  have m1 := n1.mulc a0 a1 n1.pos
  have m2 := n2.mulc b0 b1 n2.pos
  have m3 := m1.sub m2
  unfold crM crU
  have e : ((x * siM M P k - y * coM M P k : Int) : Rat) / (M : Rat) = (x : Rat) * ((siM M P k : Rat) / (M : Rat)) - (y : Rat) * ((coM M P k : Rat) / (M : Rat)) := by push_cast; grind
  rw [e]
  exact m3.le (by grind)
end
theorem mok192 : MOk m192 piA 18446744073709551616 := ⟨m192_pos, m192_fuel, by decide +kernel, piA_ok.1, piA_ok.2, piD_at, by decide⟩
def m84 : Nat := 19342813113834066795298816
def m112 : Nat := 5192296858534827628530496329220096
def q84 : Nat := b256 / m84
def q112 : Nat := b256 / m112
def pi84 : Nat := piN / q84
def pi112 : Nat := piN / q112
theorem mok84 : MOk m84 pi84 q84 := ⟨by decide, by decide +kernel, by decide, by decide +kernel, by decide +kernel, by decide +kernel, by decide +kernel⟩
theorem mok112 : MOk m112 pi112 q112 := ⟨by decide, by decide +kernel, by decide, by decide +kernel, by decide +kernel, by decide +kernel, by decide +kernel⟩
def gU : Rat := 1 / 2305843009213693952
def FarU (R : Nat) : Prop := ∀ r : Nat, 1 ≤ r → r ≤ R → ∀ x y : Int, 0 ≤ x → x ≤ 2147483648 → 0 ≤ y → y ≤ 2147483648 → (x ≠ 0 ∨ y ≠ 0) → gU ≤ (x : Rat) * sinU r - (y : Rat) * cosU r ∨ (x : Rat) * sinU r - (y : Rat) * cosU r ≤ -gU
theorem far_cr {R : Nat} (h : FarU R) {k : Nat} (hk : (1 ≤ k ∧ k ≤ R ∧ k ≤ 2700000) ∨ (2700000 < k ∧ k < 5400000 ∧ 5400000 - k ≤ R)) {x y : Int} (x0 : 0 ≤ x) (x1 : x ≤ 2147483648) (y0 : 0 ≤ y) (y1 : y ≤ 2147483648) (hxy : x ≠ 0 ∨ y ≠ 0) : gU ≤ crU k x y ∨ crU k x y ≤ -gU := by
  unfold crU sU cU
  rcases hk with ⟨h1, h2, h3⟩ | ⟨h1, h2, h3⟩
  · rw [if_neg (by omega), if_neg (by omega)]
    exact h k h1 h2 x y x0 x1 y0 y1 hxy
  · rw [if_pos h1, if_pos h1]
    have := h (5400000 - k) (by omega) h3 y x y0 y1 x0 x1 (by omega)
    generalize sinU (5400000 - k) = s at *
    generalize cosU (5400000 - k) = c at *
    grind
def t100 : Nat := 1267650600228229401496703205376
theorem t100_ok : 1 / 1152921504606846976 ≤ (t100 : Rat) * (1 / (k160 : Rat)) := by decide +kernel
theorem e62_ok : 4294967296 * (64 * 2700000 * (1 / (k160 : Rat))) ≤ 1 / 4611686018427387904 := by decide +kernel
theorem far_of_rot {R : Nat} (hR : R ≤ 2700000) {s c : Nat} (h : FarTo c1U s1U k160 2147483648 1267650600228229401496703205376 (R + 1) s c) : FarU R := by
  intro r h1 h2 x y x0 x1 y0 y1 hxy
  have hf : (t100 : Int) ≤ x * ((rotV c1U s1U k160 r).1 : Int) - y * ((rotV c1U s1U k160 r).2 : Int) ∨ x * ((rotV c1U s1U k160 r).1 : Int) - y * ((rotV c1U s1U k160 r).2 : Int) ≤ -(t100 : Int) := h.2 r h1 (by omega) x y x0 (by omega) hxy
  obtain ⟨n1, n2⟩ := rotU_near (r := r) (by omega)
  change Nr (((rotV c1U s1U k160 r).1 : Rat) / _) _ _ at n1
  change Nr (((rotV c1U s1U k160 r).2 : Rat) / _) _ _ at n2
  have a0 : (0 : Rat) ≤ (x : Rat) := by exact_mod_cast x0
  have a1 : (x : Rat) ≤ 2147483648 := icast x1
  have b0 : (0 : Rat) ≤ (y : Rat) := by exact_mod_cast y0
  have b1 : (y : Rat) ≤ 2147483648 := icast y1
  have m1 := n1.mulc a0 a1 n1.pos
  have m2 := n2.mulc b0 b1 n2.pos
  have m3 := m1.sub m2
  have hr : (r : Rat) ≤ 2700000 := by exact_mod_cast (show r ≤ 2700000 by omega)
  have hr0 : (0 : Rat) ≤ (r : Rat) := by exact_mod_cast Nat.zero_le r
  have hk := k160_rat
  have ht := t100_ok
  have he := e62_ok
  generalize (rotV c1U s1U k160 r).1 = S at *
  generalize (rotV c1U s1U k160 r).2 = C at *
  have e : (x : Rat) * ((S : Rat) / (k160 : Rat)) - (y : Rat) * ((C : Rat) / (k160 : Rat)) = ((x * (S : Int) - y * (C : Int) : Int) : Rat) * (1 / (k160 : Rat)) := by push_cast; grind
  have e2 : 64 * (r : Rat) / (k160 : Rat) = 64 * (r : Rat) * (1 / (k160 : Rat)) := by grind
  rw [e, e2] at m3
  have hp : 0 < 1 / (k160 : Rat) := by rw [Rat.div_def, Rat.one_mul]; exact Rat.inv_pos.2 hk
  generalize 1 / (k160 : Rat) = i at *
  clear e e2 n1 n2 m1 m2 hk
  have er := Rat.mul_le_mul_of_nonneg_right hr (Rat.le_of_lt hp)
  generalize x * (S : Int) - y * (C : Int) = D at *
  obtain ⟨m4, m5⟩ := m3
  unfold gU
  generalize sinU r = su at *
  generalize cosU r = cu at *
  rcases hf with hf | hf
  · left
    have := Rat.mul_le_mul_of_nonneg_right (icastN hf) (Rat.le_of_lt hp)
    generalize (t100 : Rat) = t at *
    grind
  · right
    have := Rat.mul_le_mul_of_nonneg_right (icastM hf) (Rat.le_of_lt hp)
    generalize (t100 : Rat) = t at *
    grind
theorem m192_40 : 1 / (m192 : Rat) ≤ 1 / 100000000000000000000000000000000000000000 := m192_big
theorem cr_prog {k : Nat} (hk : k ≤ 5400000) {x y : Int} (x0 : 0 ≤ x) (x1 : x ≤ 2147483648) (y0 : 0 ≤ y) (y1 : y ≤ 2147483648) (h : gU ≤ crU k x y ∨ crU k x y ≤ -gU) : siA k * x ≤ coA k * y ↔ crU k x y < 0 := by
  obtain ⟨n1, n2⟩ := crM_near mok192 hk x0 x1 y0 y1
  have hb := m192_40
  have e : siA k * x ≤ coA k * y ↔ crM m192 piA k x y ≤ 0 := by
    unfold crM
    rw [(siM_A k).1, (siM_A k).2, Int.mul_comm x, Int.mul_comm y]
    omega
  rw [e]
  have hM := m192_rat
  have hq : (crM m192 piA k x y : Rat) / (m192 : Rat) * (m192 : Rat) = (crM m192 piA k x y : Rat) := Rat.div_mul_cancel (by grind)
  have e620 : 620 / (m192 : Rat) = 620 * (1 / (m192 : Rat)) := by grind
  rw [e620] at n1 n2
  unfold gU at h
  unfold tl50 at n1 n2
  constructor
  · intro hc
    have hc2 : (crM m192 piA k x y : Rat) ≤ 0 := by exact_mod_cast hc
    rcases h with h | h
    · exfalso
      have hp : 0 < (crM m192 piA k x y : Rat) / (m192 : Rat) := by
        generalize (crM m192 piA k x y : Rat) / (m192 : Rat) = z at *
        generalize 1 / (m192 : Rat) = i at *
        grind
      have := Rat.mul_pos hp hM
      rw [hq] at this
      grind
    · grind
  · intro hc
    rcases h with h | h
    · grind
    · have hp : (crM m192 piA k x y : Rat) / (m192 : Rat) ≤ 0 := by
        generalize (crM m192 piA k x y : Rat) / (m192 : Rat) = z at *
        generalize 1 / (m192 : Rat) = i at *
        grind
      have := Rat.mul_le_mul_of_nonneg_right hp (Rat.le_of_lt hM)
      rw [hq, Rat.zero_mul] at this
      exact_mod_cast this
def e42 : Nat := 4398046511104
theorem i112_ok : 4294967296 * (620 * (1 / (m112 : Rat)) + tl50) < (e42 : Rat) * (1 / (m112 : Rat)) ∧ (e42 : Rat) * (1 / (m112 : Rat)) + 4294967296 * (620 * (1 / (m112 : Rat)) + tl50) < gU := by decide +kernel
theorem i84_ok : 4294967296 * (620 * (1 / (m84 : Rat)) + tl50) < (e42 : Rat) * (1 / (m84 : Rat)) := by decide +kernel
theorem cr_limbs {M P Q : Nat} (hM : MOk M P Q) (hb : 4294967296 * (620 * (1 / (M : Rat)) + tl50) < (e42 : Rat) * (1 / (M : Rat))) {k : Nat} (hk : k ≤ 5400000) {x y : Int} (x0 : 0 ≤ x) (x1 : x ≤ 2147483648) (y0 : 0 ≤ y) (y1 : y ≤ 2147483648) : ((e42 : Int) < crM M P k x y → 0 < crU k x y) ∧ (crM M P k x y < -(e42 : Int) → crU k x y < 0) := by
  obtain ⟨n1, n2⟩ := crM_near hM hk x0 x1 y0 y1
  obtain ⟨i0, i1⟩ := hM.inv
  have hq : (crM M P k x y : Rat) / (M : Rat) = (crM M P k x y : Rat) * (1 / (M : Rat)) := by grind
  have e620 : 620 / (M : Rat) = 620 * (1 / (M : Rat)) := by grind
  rw [hq, e620] at n1 n2
  clear hq e620 i1 hM
  generalize crM M P k x y = D at *
  generalize 1 / (M : Rat) = i at *
  generalize crU k x y = cu at *
  constructor
  · intro h
    have := Rat.mul_le_mul_of_nonneg_right (icastN (Int.le_of_lt h)) (Rat.le_of_lt i0)
    generalize (e42 : Rat) = t at *
    generalize tl50 = u at *
    grind
  · intro h
    have := Rat.mul_le_mul_of_nonneg_right (icastM (Int.le_of_lt h)) (Rat.le_of_lt i0)
    generalize (e42 : Rat) = t at *
    generalize tl50 = u at *
    grind
theorem cr_four {k : Nat} (hk : k ≤ 5400000) {x y : Int} (x0 : 0 ≤ x) (x1 : x ≤ 2147483648) (y0 : 0 ≤ y) (y1 : y ≤ 2147483648) (h : gU ≤ crU k x y ∨ crU k x y ≤ -gU) : (e42 : Int) < crM m112 pi112 k x y ∨ crM m112 pi112 k x y < -(e42 : Int) := by
  obtain ⟨n1, n2⟩ := crM_near mok112 hk x0 x1 y0 y1
  obtain ⟨i0, i1⟩ := mok112.inv
  have hq : (crM m112 pi112 k x y : Rat) / (m112 : Rat) = (crM m112 pi112 k x y : Rat) * (1 / (m112 : Rat)) := by grind
  have e620 : 620 / (m112 : Rat) = 620 * (1 / (m112 : Rat)) := by grind
  rw [hq, e620] at n1 n2
  have hb := i112_ok.2
  clear hq e620 i1
  generalize crM m112 pi112 k x y = D at *
  generalize 1 / (m112 : Rat) = i at *
  generalize crU k x y = cu at *
  by_cases c1 : (e42 : Int) < D
  · exact .inl c1
  · by_cases c2 : D < -(e42 : Int)
    · exact .inr c2
    · exfalso
      have d1 : (D : Rat) ≤ (e42 : Rat) := by
        have := icast (show D ≤ (e42 : Int) by omega)
        exact this
      have d2 : -(e42 : Rat) ≤ (D : Rat) := by
        have := icast (show -(e42 : Int) ≤ D by omega)
        rw [Rat.intCast_neg] at this
        exact this
      have m1 := Rat.mul_le_mul_of_nonneg_right d1 (Rat.le_of_lt i0)
      have m2 := Rat.mul_le_mul_of_nonneg_right d2 (Rat.le_of_lt i0)
      generalize (e42 : Rat) = t at *
      generalize tl50 = u at *
      generalize gU = g at *
      grind
end Go.Proofs.YtnnmfdeeicpdlaaGreat
/- Numbers of an integral part and three words of the fraction: sums, differences, parts, multiples, comparison. -/
namespace Go.Proofs.YtnnmfdeeicpdlaaGreat
set_option maxHeartbeats 4000000
set_option maxRecDepth 100000
open Go.RowKit

def LowA (B : Nat) (a b r : List Nat) (k c : Nat) : Prop := valB B (r.drop k) + c * B ^ (4 - k) = valB B (a.drop k) + valB B (b.drop k)
theorem lowA_step {B : Nat} {a b r : List Nat} {i c d c' : Nat} (ha : a.length = 4) (hb : b.length = 4) (hr : r.length = 4) (hi : i < 4) (h : LowA B a b r (i + 1) c) (e : d + c' * B = nt a i + nt b i + c) : LowA B a b (r.set i d) i c' := by
  unfold LowA at *
  rw [valB_drop (l := r.set i d) (by rw [List.length_set, hr]; exact hi), valB_drop (l := b) (by rw [hb]; exact hi), valB_drop (l := a) (by rw [ha]; exact hi), drop_set, nt_set (by rw [hr]; exact hi), if_pos rfl, List.length_set, ha, hb, hr]
  have hp : B ^ (4 - i) = B ^ (4 - i - 1) * B := by rw [← Nat.pow_succ]; congr 1; omega
  rw [hp]
  rw [show 4 - (i + 1) = 4 - i - 1 by omega] at h
  generalize B ^ (4 - i - 1) = P at *
  have e2 : (d + c' * B) * P = (nt a i + nt b i + c) * P := by rw [e]
  grind
structure AddI (a b r : List Nat) (k c : Nat) : Prop where
  wd : Wd 4 r
  old : ∀ j, j < k → nt r j = nt a j
  c1 : c ≤ 1
  low : LowA 18446744073709551616 a b r k c
theorem AddI.start {a b : List Nat} (ha : Wd 4 a) (hb : Wd 4 b) : AddI a b a 4 0 := ⟨ha, fun _ _ => rfl, by omega, by
  unfold LowA
  rw [List.drop_eq_nil_of_le (by rw [ha.len]; exact Nat.le_refl 4), List.drop_eq_nil_of_le (by rw [hb.len]; exact Nat.le_refl 4)]
  simp [valB]⟩
theorem AddI.step {a b r : List Nat} {i c d c' : Nat} (h : AddI a b r (i + 1) c) (ha : Wd 4 a) (hb : Wd 4 b) (hi : i < 4) (hd : d < 18446744073709551616) (hc : c' ≤ 1) (e : d + c' * 18446744073709551616 = nt r i + nt b i + c) : AddI a b (r.set i d) i c' :=
  ⟨h.wd.set hi hd, fun j hj => by rw [nt_set (by rw [h.wd.len]; exact hi), if_neg (by omega)]; exact h.old j (by omega), hc, lowA_step ha.len hb.len h.wd.len hi h.low (by rw [← h.old i (by omega)]; exact e)⟩
theorem AddI.done {a b r : List Nat} {c : Nat} (h : AddI a b r 0 c) : c ≤ 1 ∧ val4 r + c * 18446744073709551616 ^ 4 = val4 a + val4 b := ⟨h.c1, by have := h.low; unfold LowA at this; simpa [val4] using this⟩
theorem qn_sub (a b : List Nat) (ha : Wd 4 a) (hb : Wd 4 b) (w : World) :
    Calls Tryz.prog 332 #[nuV a, nuV b] w fun e w' => ∃ r d, e = .returned (nuV r) ∧ w' = bw w d ∧ Wd 4 r ∧ ∃ c, c ≤ 1 ∧ val4 r + val4 b = val4 a + c * 18446744073709551616 ^ 4 := by
  refine lay_start ?_
  unfold nuV
  go_enter Tryz.func332, Tryz.ntmps332
  go_wp2_with fail
  rw [← nuA_four ha.len, ← nuA_four hb.len]
  go_loopw [5, 6] (fun v5 v6 wr => ∃ (k c : Nat) (r : List Nat) (d : Ext), k ≤ 4 ∧ v5 = .int .u64 (c : Int) ∧ v6 = .int .i64 ((k : Int) - 1) ∧ wr = lay w [.inr d, .inl (.cells #[.int .u64 0, .int .u64 0, .int .u64 0, .int .u64 0] 241 (0, 0)), .inl (.cells (nuA b) 241 (0, 0)), .inl (.cells (nuA r) 241 (0, 0))] ∧ SubI a b r k c) (fun _ v6 _ => (intOf v6 + 1).toNat)
  case atStart => exact ⟨4, 0, a, noExt _, Nat.le_refl _, rfl, rfl, (bw_noExt _).symm, SubI.start ha hb⟩
  case round =>
    obtain ⟨k, c, r, d, hk, rfl, rfl, rfl, hS⟩ := hrel
    have HS := Lib.hid hS
    rcases k with _ | i
    · rw [show ((0 : Nat) : Int) - 1 = -1 from rfl]
      have g0 := nuA_get (l := r) (i := 0) (by rw [hS.wd.len]; decide)
      have g1 := nuA_get (l := r) (i := 1) (by rw [hS.wd.len]; decide)
      have g2 := nuA_get (l := r) (i := 2) (by rw [hS.wd.len]; decide)
      have g3 := nuA_get (l := r) (i := 3) (by rw [hS.wd.len]; decide)
      clear hS
      go_wp2_with fail
      obtain ⟨dz, ez⟩ := lay_all w [.inr d, .inl (.cells #[.int .u64 (nt r 0 : Int), .int .u64 (nt r 1 : Int), .int .u64 (nt r 2 : Int), .int .u64 (nt r 3 : Int)] 241 (0, 0)), .inl (.cells (nuA b) 241 (0, 0)), .inl (.cells (nuA r) 241 (0, 0))]
      exact bodyPost_ret (v := .agg #[.int .u64 (nt r 0 : Int), .int .u64 (nt r 1 : Int), .int .u64 (nt r 2 : Int), .int .u64 (nt r 3 : Int)]) (by simp [results, Tryz.results332, go_sem]) rfl ⟨r, dz, rfl, ez, HS.out.wd, c, HS.out.done⟩
    · rw [show ((i + 1 : Nat) : Int) - 1 = (i : Int) by omega]
      have hi : i < 4 := by omega
      have x0 : (0 : Int) ≤ (i : Int) := by omega
      have x1 : (i : Int) < 4 := by omega
      have x2 : (i : Int).toNat = i := by omega
      obtain ⟨X, hX⟩ : ∃ X, nt r i = X := ⟨_, rfl⟩
      obtain ⟨Y, hY⟩ : ∃ Y, nt b i = Y := ⟨_, rfl⟩
      have g0 := nuA_get (l := r) (i := i) (by rw [hS.wd.len]; exact hi)
      have g1 := nuA_get (l := b) (i := i) (by rw [hb.len]; exact hi)
      rw [hX] at g0
      rw [hY] at g1
      obtain ⟨D, c', hD, hc', e1, e2, e3⟩ := sub_word (x := X) (y := Y) (b := c) (B := 18446744073709551616) (by rw [← hX]; exact hS.wd.lt i) (by rw [← hY]; exact hb.lt i) hS.c1
      have hcall := fun W => sub64 X Y c hS.c1 W
      rw [e1, e2] at hcall
      have HN := Lib.hid (hS.step ha hb hi hD hc' (by rw [hX, hY]; exact e3))
      clear hS e1 e2 e3
      have hz : c ≤ 1 := HS.out.c1
      go_wp2_with fail
      refine region_mixS 13 [(0, 2), (1, 2), (2, 2), (3, 0), (4, 2), (5, 2), (6, 0), (7, 2), (8, 2), (9, 2), (10, 2), (11, 2), (12, 2), (13, 3), (14, 2)] (by kernel_rfl) (by kernel_rfl) (by kernel_rfl) rfl ?_
      repeat (first | (refine wpMS_pure rfl (fun K hK => ?_); go_simp; refine hK _ ?_; clear hK K) | (refine wpMS_quiet rfl (fun K hK => ?_); go_simp; first | (refine hK _ ?_; clear hK K) | (apply Exists.intro; refine ⟨fun _ => ?_, hK _ ?_⟩; (first | fail); clear hK K)))
      refine wpMS_store rfl (fun K hK e1 => ?_)
      rw [lay_bw]
      go_simp
      refine hK _ _ ?_
      clear hK K
      rw [nuA_set]
      repeat (first | (refine wpMS_pure rfl (fun K hK => ?_); go_simp; refine hK _ ?_; clear hK K) | (refine wpMS_quiet rfl (fun K hK => ?_); go_simp; first | (refine hK _ ?_; clear hK K) | (apply Exists.intro; refine ⟨fun _ => ?_, hK _ ?_⟩; (first | fail); clear hK K)))
      refine wpMS_nil (fun e2 => ?_)
      rw [lay_bw]
      obtain ⟨d3, e3⟩ := lay_fold w [.inr e2, .inr e1, .inr d] [.inl (.cells #[.int .u64 0, .int .u64 0, .int .u64 0, .int .u64 0] 241 (0, 0)), .inl (.cells (nuA b) 241 (0, 0)), .inl (.cells (nuA (r.set i D)) 241 (0, 0))]
      change lay w [.inr e2, .inr e1, .inr d, .inl (.cells #[.int .u64 0, .int .u64 0, .int .u64 0, .int .u64 0] 241 (0, 0)), .inl (.cells (nuA b) 241 (0, 0)), .inl (.cells (nuA (r.set i D)) 241 (0, 0))] = _ at e3
      rw [e3]
      clear e3
      go_wp2_with fail
      go_roundw
      case rel => exact ⟨i, c', r.set i D, d3, by omega, rfl, rfl, rfl, HN.out⟩
      case measure => simp [intOf]
theorem qn_add (a b : List Nat) (ha : Wd 4 a) (hb : Wd 4 b) (w : World) :
    Calls Tryz.prog 333 #[nuV a, nuV b] w fun e w' => ∃ r d, e = .returned (nuV r) ∧ w' = bw w d ∧ Wd 4 r ∧ ∃ c, c ≤ 1 ∧ val4 r + c * 18446744073709551616 ^ 4 = val4 a + val4 b := by
  refine lay_start ?_
  unfold nuV
  go_enter Tryz.func333, Tryz.ntmps333
  go_wp2_with fail
  rw [← nuA_four ha.len, ← nuA_four hb.len]
  go_loopw [5, 6] (fun v5 v6 wr => ∃ (k c : Nat) (r : List Nat) (d : Ext), k ≤ 4 ∧ v5 = .int .u64 (c : Int) ∧ v6 = .int .i64 ((k : Int) - 1) ∧ wr = lay w [.inr d, .inl (.cells #[.int .u64 0, .int .u64 0, .int .u64 0, .int .u64 0] 241 (0, 0)), .inl (.cells (nuA b) 241 (0, 0)), .inl (.cells (nuA r) 241 (0, 0))] ∧ AddI a b r k c) (fun _ v6 _ => (intOf v6 + 1).toNat)
  case atStart => exact ⟨4, 0, a, noExt _, Nat.le_refl _, rfl, rfl, (bw_noExt _).symm, AddI.start ha hb⟩
  case round =>
    obtain ⟨k, c, r, d, hk, rfl, rfl, rfl, hS⟩ := hrel
    have HS := Lib.hid hS
    rcases k with _ | i
    · rw [show ((0 : Nat) : Int) - 1 = -1 from rfl]
      have g0 := nuA_get (l := r) (i := 0) (by rw [hS.wd.len]; decide)
      have g1 := nuA_get (l := r) (i := 1) (by rw [hS.wd.len]; decide)
      have g2 := nuA_get (l := r) (i := 2) (by rw [hS.wd.len]; decide)
      have g3 := nuA_get (l := r) (i := 3) (by rw [hS.wd.len]; decide)
      clear hS
      go_wp2_with fail
      obtain ⟨dz, ez⟩ := lay_all w [.inr d, .inl (.cells #[.int .u64 (nt r 0 : Int), .int .u64 (nt r 1 : Int), .int .u64 (nt r 2 : Int), .int .u64 (nt r 3 : Int)] 241 (0, 0)), .inl (.cells (nuA b) 241 (0, 0)), .inl (.cells (nuA r) 241 (0, 0))]
      exact bodyPost_ret (v := .agg #[.int .u64 (nt r 0 : Int), .int .u64 (nt r 1 : Int), .int .u64 (nt r 2 : Int), .int .u64 (nt r 3 : Int)]) (by simp [results, Tryz.results333, go_sem]) rfl ⟨r, dz, rfl, ez, HS.out.wd, c, HS.out.done⟩
    · rw [show ((i + 1 : Nat) : Int) - 1 = (i : Int) by omega]
      have hi : i < 4 := by omega
      have x0 : (0 : Int) ≤ (i : Int) := by omega
      have x1 : (i : Int) < 4 := by omega
      have x2 : (i : Int).toNat = i := by omega
      obtain ⟨X, hX⟩ : ∃ X, nt r i = X := ⟨_, rfl⟩
      obtain ⟨Y, hY⟩ : ∃ Y, nt b i = Y := ⟨_, rfl⟩
      have g0 := nuA_get (l := r) (i := i) (by rw [hS.wd.len]; exact hi)
      have g1 := nuA_get (l := b) (i := i) (by rw [hb.len]; exact hi)
      rw [hX] at g0
      rw [hY] at g1
      obtain ⟨D, c', hD, hc', e1, e2, e3⟩ := add_word (x := X) (y := Y) (c := c) (B := 18446744073709551616) (by rw [← hX]; exact hS.wd.lt i) (by rw [← hY]; exact hb.lt i) hS.c1
      have hcall := fun W => add64 X Y c hS.c1 W
      rw [e1, e2] at hcall
      have HN := Lib.hid (hS.step ha hb hi hD hc' (by rw [hX, hY]; exact e3))
      clear hS e1 e2 e3
      have hz : c ≤ 1 := HS.out.c1
      go_wp2_with fail
      refine region_mixS 13 [(0, 2), (1, 2), (2, 2), (3, 0), (4, 2), (5, 2), (6, 0), (7, 2), (8, 2), (9, 2), (10, 2), (11, 2), (12, 2), (13, 3), (14, 2)] (by kernel_rfl) (by kernel_rfl) (by kernel_rfl) rfl ?_
      repeat (first | (refine wpMS_pure rfl (fun K hK => ?_); go_simp; refine hK _ ?_; clear hK K) | (refine wpMS_quiet rfl (fun K hK => ?_); go_simp; first | (refine hK _ ?_; clear hK K) | (apply Exists.intro; refine ⟨fun _ => ?_, hK _ ?_⟩; (first | fail); clear hK K)))
      refine wpMS_store rfl (fun K hK e1 => ?_)
      rw [lay_bw]
      go_simp
      refine hK _ _ ?_
      clear hK K
      rw [nuA_set]
      repeat (first | (refine wpMS_pure rfl (fun K hK => ?_); go_simp; refine hK _ ?_; clear hK K) | (refine wpMS_quiet rfl (fun K hK => ?_); go_simp; first | (refine hK _ ?_; clear hK K) | (apply Exists.intro; refine ⟨fun _ => ?_, hK _ ?_⟩; (first | fail); clear hK K)))
      refine wpMS_nil (fun e2 => ?_)
      rw [lay_bw]
      obtain ⟨d3, e3⟩ := lay_fold w [.inr e2, .inr e1, .inr d] [.inl (.cells #[.int .u64 0, .int .u64 0, .int .u64 0, .int .u64 0] 241 (0, 0)), .inl (.cells (nuA b) 241 (0, 0)), .inl (.cells (nuA (r.set i D)) 241 (0, 0))]
      change lay w [.inr e2, .inr e1, .inr d, .inl (.cells #[.int .u64 0, .int .u64 0, .int .u64 0, .int .u64 0] 241 (0, 0)), .inl (.cells (nuA b) 241 (0, 0)), .inl (.cells (nuA (r.set i D)) 241 (0, 0))] = _ at e3
      rw [e3]
      clear e3
      go_wp2_with fail
      go_roundw
      case rel => exact ⟨i, c', r.set i D, d3, by omega, rfl, rfl, rfl, HN.out⟩
      case measure => simp [intOf]
theorem qn_over (a : List Nat) (dv : Nat) (ha : Wd 4 a) (ht : 0 < dv) (hd : dv < 18446744073709551616) (w : World) :
    Calls Tryz.prog 288 #[nuV a, .int .u64 (dv : Int)] w fun e w' => ∃ r d, e = .returned (nuV r) ∧ w' = bw w d ∧ Wd 4 r ∧ val4 r = val4 a / dv := by
  refine lay_start ?_
  unfold nuV
  go_enter Tryz.func288, Tryz.ntmps288
  go_wp2_with fail
  rw [← nuA_four ha.len]
  go_loopw [5, 7] (fun v1 v8 wr => ∃ (k t : Nat) (r : List Nat) (d : Ext), k ≤ 4 ∧ v1 = .int .u64 (t : Int) ∧ v8 = .int .i64 (k : Int) ∧ wr = lay w [.inr d, .inl (.cells #[.int .u64 0, .int .u64 0, .int .u64 0, .int .u64 0] 241 (0, 0)), .inl (.cells (nuA r) 241 (0, 0))] ∧ DivI a 0 dv r k t) (fun _ v8 _ => 4 - (intOf v8).toNat)
  case atStart => exact ⟨0, 0, a, noExt _, by omega, rfl, rfl, (bw_noExt _).symm, DivI.start ha ht⟩
  case round =>
    obtain ⟨k, t, r, d, hk, rfl, rfl, rfl, hS⟩ := hrel
    have HS := Lib.hid hS
    by_cases hk4 : k = 4
    · subst hk4
      have g0 := nuA_get (l := r) (i := 0) (by rw [hS.wd.len]; decide)
      have g1 := nuA_get (l := r) (i := 1) (by rw [hS.wd.len]; decide)
      have g2 := nuA_get (l := r) (i := 2) (by rw [hS.wd.len]; decide)
      have g3 := nuA_get (l := r) (i := 3) (by rw [hS.wd.len]; decide)
      clear hS
      go_wp2_with fail
      obtain ⟨dz, ez⟩ := lay_all w [.inr d, .inl (.cells #[.int .u64 (nt r 0 : Int), .int .u64 (nt r 1 : Int), .int .u64 (nt r 2 : Int), .int .u64 (nt r 3 : Int)] 241 (0, 0)), .inl (.cells (nuA r) 241 (0, 0))]
      exact bodyPost_ret (v := .agg #[.int .u64 (nt r 0 : Int), .int .u64 (nt r 1 : Int), .int .u64 (nt r 2 : Int), .int .u64 (nt r 3 : Int)]) (by simp [results, Tryz.results288, go_sem]) rfl ⟨r, dz, rfl, ez, HS.out.wd, by have := HS.out.done ha; rw [Nat.zero_mul, Nat.zero_add] at this; exact this⟩
    · have hi : k < 4 := by omega
      have x0 : (0 : Int) ≤ (k : Int) := by omega
      have x1 : (k : Int) < 4 := by omega
      have x2 : (k : Int).toNat = k := by omega
      obtain ⟨hq, hN⟩ := hS.step ha hi
      obtain ⟨X, hX⟩ : ∃ X, nt r k = X := ⟨_, rfl⟩
      have g0 := nuA_get (l := r) (i := k) (by rw [hS.wd.len]; exact hi)
      have HC := Lib.hid (fun W => div64 t X dv hS.td (by rw [← hX]; exact hS.wd.lt k) hd W)
      rw [hX] at g0 hN hq
      obtain ⟨Q, hQ⟩ : ∃ Q, (t * 18446744073709551616 + X) / dv = Q := ⟨_, rfl⟩
      obtain ⟨T, hT⟩ : ∃ T, (t * 18446744073709551616 + X) % dv = T := ⟨_, rfl⟩
      rw [hQ, hT] at hN HC
      have HN := Lib.hid hN
      clear hS hN hQ hT hX hq
      go_wp2_with (go_at_call 80; refine (HC.out _).mono ?_; rintro e w' ⟨rfl, d1, rfl⟩)
      rw [nuA_set]
      obtain ⟨d3, e3⟩ := lay_fold w [.inr d1, .inr d] [.inl (.cells #[.int .u64 0, .int .u64 0, .int .u64 0, .int .u64 0] 241 (0, 0)), .inl (.cells (nuA (r.set k Q)) 241 (0, 0))]
      change lay w [.inr d1, .inr d, .inl (.cells #[.int .u64 0, .int .u64 0, .int .u64 0, .int .u64 0] 241 (0, 0)), .inl (.cells (nuA (r.set k Q)) 241 (0, 0))] = _ at e3
      rw [e3]
      clear e3
      go_roundw
      case rel => exact ⟨k + 1, T, r.set k Q, d3, by omega, rfl, by first | rfl | exact congrArg (Value.int .i64) (by omega), rfl, HN.out⟩
      case measure => simp [intOf]; omega
end Go.Proofs.YtnnmfdeeicpdlaaGreat
