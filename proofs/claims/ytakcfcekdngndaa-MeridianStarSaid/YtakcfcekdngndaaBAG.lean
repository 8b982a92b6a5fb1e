/- Contracts and plain laws, several texts in one: TgM; AsP; HvP; AsW1; RtP; FxM; AsW2; AmP -/
import Derived.Test.YtakcfcekdngndaaProg
import Derived.WalkKit
import Derived.WalkSpells
import Derived.WalkLawsBesides
import Derived.Lib.Hide
import Derived.BigQuiet
import Derived.Test.YtakcfcekdngndaaBAA
import Derived.Test.YtakcfcekdngndaaBAF
/- Sines grow over the first quadrant; enclosures over parts of arcs. Plain laws, no walk. -/
namespace Go.Proofs.Ytakcfcekdngndaa

theorem nr_up {a b e : Rat} (h : Nr a b e) (h1 : b ≤ 4 / 5) (h2 : e ≤ 1 / 100) : a ≤ 1 := by obtain ⟨h3, h4⟩ := h; grind
theorem nr_dn {a b e : Rat} (h : Nr a b e) (h1 : 17 / 25 ≤ b) (h2 : e ≤ 1 / 100) : 1 / 2 ≤ a := by obtain ⟨h3, h4⟩ := h; grind
theorem nat_up {s K : Nat} (hK : 0 < K) (h : (s : Rat) / (K : Rat) ≤ 1) : s ≤ K := by
  have k0 : (0 : Rat) < (K : Rat) := by exact_mod_cast hK
  have b1 := Rat.mul_le_mul_of_nonneg_right h (Rat.le_of_lt k0)
  rw [Rat.div_mul_cancel (Rat.ne_of_gt k0), Rat.one_mul] at b1
  exact_mod_cast b1
theorem nat_dn {s K : Nat} (hK : 0 < K) (h : 1 / 2 ≤ (s : Rat) / (K : Rat)) : K ≤ 2 * s := by
  have k0 : (0 : Rat) < (K : Rat) := by exact_mod_cast hK
  have b1 := Rat.mul_le_mul_of_nonneg_right h (Rat.le_of_lt k0)
  rw [Rat.div_mul_cancel (Rat.ne_of_gt k0)] at b1
  have b2 : (K : Rat) ≤ 2 * (s : Rat) := by grind
  exact_mod_cast b2
theorem k96_nat : k96 = ((79228162514264337593543950336 : Nat) : Rat) := rfl
theorem rot_bd {r : Nat} (h : r ≤ 2700000) : (rotN r).1 ≤ 79228162514264337593543950336 ∧ 79228162514264337593543950336 ≤ 2 * (rotN r).2 := by
  obtain ⟨h1, h2⟩ := rot_near h
  have hs := sin_in (n := r) (Nat.le_succ_of_le h)
  have hx := xi_in (n := r) (Nat.le_succ_of_le h)
  have hc := cos_in (n := r) (Nat.le_succ_of_le h)
  have g1 : 64 * (r : Rat) / k96 ≤ 1 / 100 := by
    have hr : (r : Rat) ≤ 2700000 := by exact_mod_cast h
    have hr0 : (0 : Rat) ≤ (r : Rat) := by exact_mod_cast Nat.zero_le r
    have hk : 0 ≤ 1 / k96 ∧ 1 / k96 ≤ 1 / 100000000000000000000 := by unfold k96; constructor <;> grind
    have := rmul hr0 hr hk.1 hk.2
    generalize (r : Rat) = q at *
    grind
  rw [k96_nat] at h1 h2 g1
  exact ⟨nat_up (by decide) (nr_up h1 (Rat.le_trans hs.2 hx.2) g1), nat_dn (by decide) (nr_dn h2 hc.1 g1)⟩
theorem rot_gen {K c1 s1 s c : Nat} (hK : 0 < K) (h1 : c1 ≤ K) (h2 : 2 * (K - c1) ≤ s1) (hs : s ≤ K) (hc : K ≤ 2 * c) : s ≤ (s * c1 + c * s1) / K ∧ (c * c1 - s * s1) / K ≤ c := by
  constructor
  · rw [Nat.le_div_iff_mul_le hK]
    obtain ⟨d, rfl⟩ : ∃ d, K = c1 + d := ⟨K - c1, by omega⟩
    rw [Nat.add_sub_cancel_left] at h2
    have e1 : s * d ≤ (c1 + d) * d := Nat.mul_le_mul_right d hs
    have e2 : (c1 + d) * d ≤ 2 * c * d := Nat.mul_le_mul_right d hc
    have e3 : c * (2 * d) ≤ c * s1 := Nat.mul_le_mul_left c h2
    have e4 : 2 * c * d = c * (2 * d) := by rw [Nat.mul_comm 2 c, Nat.mul_assoc]
    rw [Nat.mul_add]
    omega
  · refine Nat.div_le_of_le_mul ?_
    refine Nat.le_trans (Nat.sub_le _ _) ?_
    rw [Nat.mul_comm]
    exact Nat.mul_le_mul_right c h1
theorem rot_grow {r : Nat} (h : r ≤ 2700000) : (rotN r).1 ≤ (rotN (r + 1)).1 ∧ (rotN (r + 1)).2 ≤ (rotN r).2 := by
  obtain ⟨h1, h2⟩ := rot_bd h
  rw [rotN_succ]
  exact rot_gen (by decide) (by decide) (by decide) h1 h2
theorem rot_mono {a : Nat} : ∀ {k : Nat}, a + k ≤ 2700001 → (rotN a).1 ≤ (rotN (a + k)).1 ∧ (rotN (a + k)).2 ≤ (rotN a).2
  | 0, _ => ⟨Nat.le_refl _, Nat.le_refl _⟩
  | k + 1, h => by
    obtain ⟨h1, h2⟩ := rot_mono (a := a) (k := k) (by omega)
    obtain ⟨h3, h4⟩ := rot_grow (r := a + k) (by omega)
    exact ⟨Nat.le_trans h1 h3, Nat.le_trans h4 h2⟩
theorem octS_mono {a b : Nat} (h : a ≤ b) (hb : b ≤ 2700001) : octS a ≤ octS b := by
  obtain ⟨k, rfl⟩ : ∃ k, b = a + k := ⟨b - a, by omega⟩
  unfold octS
  exact Nat.div_le_div_right (rot_mono hb).1
theorem octC_anti {a b : Nat} (h : a ≤ b) (hb : b ≤ 2700001) : octC b ≤ octC a := by
  obtain ⟨k, rfl⟩ : ∃ k, b = a + k := ⟨b - a, by omega⟩
  unfold octC
  exact Nat.div_le_div_right (rot_mono hb).2
theorem rotN_at (r : Nat) : rotN r = rotV 79228162514260985610427347966 23046538269650701392778 79228162514264337593543950336 r := rfl
theorem oct_of {r x y : Nat} (h : RotN r x y) : octS r = x / 73786976294838206464 ∧ octC r = y / 73786976294838206464 := by
  have e : rotN r = (x, y) := h.1
  unfold octS octC
  rw [e]
  exact ⟨rfl, rfl⟩
theorem oct_mid : octS 2700000 = octC 2700000 := by
  have h := oct_of rot_2700000
  rw [h.1, h.2]
theorem octS_half : octS 1800000 < 536870912 ∧ 536870912 ≤ octS 1800001 := by
  have h := oct_of rot_1800000
  have g := oct_of rot_1800001
  rw [h.1, g.1]
  decide +kernel
theorem sinQ_at (n : Nat) : sinQ n = if n = 0 then 0 else if n = 1800000 then 536870912 else if n = 5400000 then 1073741824 else if 2 * n ≤ 5400000 then octS n else octC (5400000 - n) := by unfold sinQ; rfl
theorem sinQ_0 : sinQ 0 = 0 := by rw [sinQ_at, if_pos rfl]
theorem sinQ_h : sinQ 1800000 = 536870912 := by rw [sinQ_at, if_neg (by decide), if_pos rfl]
theorem sinQ_q : sinQ 5400000 = 1073741824 := by rw [sinQ_at, if_neg (by decide), if_neg (by decide), if_pos rfl]
theorem sinQ_s {n : Nat} (h0 : n ≠ 0) (h1 : n ≠ 1800000) (h2 : n ≤ 2700000) : sinQ n = octS n := by rw [sinQ_at, if_neg h0, if_neg h1, if_neg (by omega), if_pos (by omega)]
theorem sinQ_c {n : Nat} (h2 : 2700000 < n) (h3 : n < 5400000) : sinQ n = octC (5400000 - n) := by rw [sinQ_at, if_neg (by omega), if_neg (by omega), if_neg (by omega), if_neg (by omega)]
theorem sinQ_low {n : Nat} (h : n < 1800000) : sinQ n < 536870912 := by
  by_cases h0 : n = 0
  · subst h0; rw [sinQ_0]; decide
  · rw [sinQ_s h0 (by omega) (by omega)]
    exact Nat.lt_of_le_of_lt (octS_mono (show n ≤ 1800000 by omega) (by omega)) octS_half.1
theorem sinQ_lt {n : Nat} (h : n < 5400000) : sinQ n < 1073741824 := by
  by_cases h0 : n < 1800000
  · have := sinQ_low h0; omega
  · by_cases h1 : n = 1800000
    · subst h1; rw [sinQ_h]; decide
    · by_cases h2 : n ≤ 2700000
      · rw [sinQ_s (by omega) h1 h2]; exact octS_lt (by omega) h2 h1
      · rw [sinQ_c (by omega) h]; exact octC_lt (by omega) (by omega)
theorem sinQ_gt {n : Nat} (h : 1800000 < n) (h2 : n < 5400000) : 536870912 ≤ sinQ n := by
  by_cases h1 : n ≤ 2700000
  · rw [sinQ_s (by omega) (by omega) h1]
    exact Nat.le_trans octS_half.2 (octS_mono (by omega) (by omega))
  · rw [sinQ_c (by omega) h2]
    exact Nat.le_trans octS_half.2 (Nat.le_trans (octS_mono (b := 2700000) (by decide) (by decide)) (Nat.le_trans (Nat.le_of_eq oct_mid) (octC_anti (by omega) (by decide))))
theorem sinQ_mono {a b : Nat} (h : a ≤ b) (hb : b ≤ 5400000) : sinQ a ≤ sinQ b := by
  by_cases hq : b = 5400000
  · subst hq; rw [sinQ_q]
    exact sinQ_le h
  by_cases a0 : a = 0
  · subst a0; rw [sinQ_0]; exact Nat.zero_le _
  by_cases ab : a = b
  · subst ab; exact Nat.le_refl _
  by_cases a1 : a < 1800000
  · have h1 := sinQ_low a1
    by_cases b1 : b < 1800000
    · rw [sinQ_s a0 (by omega) (by omega), sinQ_s (by omega) (by omega) (by omega)]
      exact octS_mono h (by omega)
    · by_cases b2 : b = 1800000
      · subst b2; rw [sinQ_h]; omega
      · have := sinQ_gt (n := b) (by omega) (by omega); omega
  · by_cases a2 : a = 1800000
    · subst a2; rw [sinQ_h]; exact sinQ_gt (by omega) (by omega)
    · by_cases a3 : a ≤ 2700000
      · rw [sinQ_s a0 a2 a3]
        by_cases b3 : b ≤ 2700000
        · rw [sinQ_s (by omega) (by omega) b3]; exact octS_mono h (by omega)
        · rw [sinQ_c (by omega) (by omega)]
          exact Nat.le_trans (octS_mono a3 (by decide)) (Nat.le_trans (Nat.le_of_eq oct_mid) (octC_anti (by omega) (by decide)))
      · rw [sinQ_c (by omega) (by omega), sinQ_c (by omega) (by omega)]
        exact octC_anti (by omega) (by omega)
/-- Rounded up. -/
def hiQ (n : Nat) : Int := (sinQ n : Int) + oneQ n
theorem oneQ_at (n : Nat) : oneQ n = if n = 0 ∨ n = 1800000 ∨ n = 5400000 then 0 else 1 := by
  unfold oneQ exaQ
  by_cases h : n = 0 ∨ n = 1800000 ∨ n = 5400000
  · rw [if_pos h, if_pos (by simp; omega)]
  · rw [if_neg h, if_neg (by simp; omega)]
theorem hiQ_mono {a b : Nat} (h : a ≤ b) (hb : b ≤ 5400000) : hiQ a ≤ hiQ b := by
  have hm := sinQ_mono h hb
  unfold hiQ
  rw [oneQ_at, oneQ_at]
  by_cases hb0 : b = 0
  · have : a = 0 := by omega
    subst this; subst hb0; exact Int.le_refl _
  by_cases hb1 : b = 1800000
  · by_cases ha : a = 1800000
    · subst ha; subst hb1; exact Int.le_refl _
    · have := sinQ_low (n := a) (by omega)
      subst hb1
      rw [sinQ_h]
      split <;> simp <;> omega
  by_cases hb2 : b = 5400000
  · by_cases ha : a = 5400000
    · subst ha; subst hb2; exact Int.le_refl _
    · have := sinQ_lt (n := a) (by omega)
      subst hb2
      rw [sinQ_q]
      split <;> simp <;> omega
  rw [if_neg (c := b = 0 ∨ _) (by omega)]
  split <;> omega
theorem hiQ_in {n : Nat} (h : n ≤ 5400000) : 0 ≤ hiQ n ∧ hiQ n ≤ 1073741824 ∧ (sinQ n : Int) ≤ hiQ n := by
  have h1 := hiQ_mono h (Nat.le_refl _)
  have h2 : hiQ 5400000 = 1073741824 := by unfold hiQ; rw [sinQ_q, oneQ_at, if_pos (by decide)]; rfl
  have h3 := (oneQ_in n).1
  rw [h2] at h1
  unfold hiQ at *
  omega
theorem bLo_at (n : Int) : bLo n = if souB n then -(hiQ (foldT n)) else (sinQ (foldT n) : Int) := by unfold bLo hiQ; rfl
theorem bHi_at (n : Int) : bHi n = if souB n then -(sinQ (foldT n) : Int) else hiQ (foldT n) := by unfold bHi hiQ; rfl
theorem fold_shift (n k : Int) : foldT (n + 21600000 * k) = foldT n ∧ souB (n + 21600000 * k) = souB n := by
  have h : (n + 21600000 * k) % 21600000 = n % 21600000 := by omega
  unfold foldT souB
  rw [h]
  exact ⟨rfl, rfl⟩
theorem b_shift (n k : Int) : bLo (n + 21600000 * k) = bLo n ∧ bHi (n + 21600000 * k) = bHi n := by
  obtain ⟨h1, h2⟩ := fold_shift n k
  rw [bLo_at, bLo_at, bHi_at, bHi_at, h1, h2]
  exact ⟨rfl, rfl⟩
theorem bb_le (n : Int) : bLo n ≤ bHi n ∧ -1073741824 ≤ bLo n ∧ bHi n ≤ 1073741824 := by
  have h := hiQ_in (foldT_le n)
  rw [bLo_at, bHi_at]
  split <;> omega
/-- The four quadrants. -/
theorem b_one {n : Int} (h0 : 0 ≤ n) (h1 : n ≤ 5400000) : bLo n = (sinQ n.toNat : Int) ∧ bHi n = hiQ n.toNat := by
  have e : n % 21600000 = n := by omega
  rw [bLo_at, bHi_at]
  unfold souB foldT
  rw [e, decide_eq_false (show ¬ 10800000 < n by omega), if_neg (show ¬ (false = true) by decide), if_neg (show ¬ (false = true) by decide), if_neg (show ¬ 10800000 < n by omega), if_neg (show ¬ 5400000 < n by omega)]
  exact ⟨rfl, rfl⟩
theorem b_two {n : Int} (h0 : 5400000 ≤ n) (h1 : n ≤ 10800000) : bLo n = (sinQ (10800000 - n).toNat : Int) ∧ bHi n = hiQ (10800000 - n).toNat := by
  by_cases h2 : n = 5400000
  · subst h2; exact b_one (by decide) (by decide)
  have e : n % 21600000 = n := by omega
  rw [bLo_at, bHi_at]
  unfold souB foldT
  rw [e, decide_eq_false (show ¬ 10800000 < n by omega), if_neg (show ¬ (false = true) by decide), if_neg (show ¬ (false = true) by decide), if_neg (show ¬ 10800000 < n by omega), if_pos (show 5400000 < n by omega)]
  exact ⟨rfl, rfl⟩
theorem b_three {n : Int} (h0 : 10800000 ≤ n) (h1 : n ≤ 16200000) : bLo n = -hiQ (n - 10800000).toNat ∧ bHi n = -(sinQ (n - 10800000).toNat : Int) := by
  by_cases h2 : n = 10800000
  · subst h2
    have h3 := b_two (n := 10800000) (by decide) (by decide)
    rw [h3.1, h3.2]
    have h4 : hiQ 0 = 0 := by unfold hiQ; rw [sinQ_0, oneQ_at, if_pos (by decide)]; rfl
    show ((sinQ 0 : Nat) : Int) = - hiQ 0 ∧ hiQ 0 = -((sinQ 0 : Nat) : Int)
    rw [h4, sinQ_0]
    decide
  have e : n % 21600000 = n := by omega
  rw [bLo_at, bHi_at]
  unfold souB foldT
  rw [e, decide_eq_true (show 10800000 < n by omega), if_pos rfl, if_pos rfl, if_pos (show 10800000 < n by omega), if_neg (show ¬ 16200000 < n by omega)]
  exact ⟨rfl, rfl⟩
theorem b_four {n : Int} (h0 : -5400000 ≤ n) (h1 : n ≤ 0) : bLo n = -hiQ (-n).toNat ∧ bHi n = -(sinQ (-n).toNat : Int) := by
  have hs := b_shift n 1
  rw [← hs.1, ← hs.2]
  by_cases h2 : n = 0
  · subst h2
    have h3 := b_one (n := 0) (by decide) (by decide)
    have h5 := b_shift 0 1
    rw [h5.1, h5.2, h3.1, h3.2]
    have h4 : hiQ 0 = 0 := by unfold hiQ; rw [sinQ_0, oneQ_at, if_pos (by decide)]; rfl
    show ((sinQ 0 : Nat) : Int) = - hiQ 0 ∧ hiQ 0 = -((sinQ 0 : Nat) : Int)
    rw [h4, sinQ_0]
    decide
  by_cases h3 : n = -5400000
  · subst h3
    have := b_three (n := 16200000) (by decide) (by decide)
    exact this
  have e : (n + 21600000 * 1) % 21600000 = n + 21600000 := by omega
  rw [bLo_at, bHi_at]
  unfold souB foldT
  rw [e, decide_eq_true (by omega), if_pos rfl, if_pos rfl, if_pos (by omega), if_pos (by omega)]
  rw [show (21600000 - (n + 21600000)).toNat = (-n).toNat by omega]
  exact ⟨rfl, rfl⟩
theorem b_up {a b : Int} (h0 : -5400000 ≤ a) (h : a ≤ b) (h1 : b ≤ 5400000) : bLo a ≤ bLo b ∧ bHi a ≤ bHi b := by
  by_cases ha : 0 ≤ a
  · have e1 := b_one ha (by omega)
    have e2 := b_one (n := b) (by omega) h1
    rw [e1.1, e1.2, e2.1, e2.2]
    have m1 := sinQ_mono (a := a.toNat) (b := b.toNat) (by omega) (by omega)
    have m2 := hiQ_mono (a := a.toNat) (b := b.toNat) (by omega) (by omega)
    omega
  · have e1 := b_four h0 (by omega)
    have p1 := hiQ_in (n := (-a).toNat) (by omega)
    by_cases hb : 0 ≤ b
    · have e2 := b_one hb h1
      have p2 := hiQ_in (n := b.toNat) (by omega)
      rw [e1.1, e1.2, e2.1, e2.2]
      omega
    · have e2 := b_four (n := b) (by omega) (by omega)
      rw [e1.1, e1.2, e2.1, e2.2]
      have m1 := sinQ_mono (a := (-b).toNat) (b := (-a).toNat) (by omega) (by omega)
      have m2 := hiQ_mono (a := (-b).toNat) (b := (-a).toNat) (by omega) (by omega)
      omega
theorem b_down {a b : Int} (h0 : 5400000 ≤ a) (h : a ≤ b) (h1 : b ≤ 16200000) : bLo b ≤ bLo a ∧ bHi b ≤ bHi a := by
  by_cases hb : b ≤ 10800000
  · have e1 := b_two h0 (by omega)
    have e2 := b_two (n := b) (by omega) hb
    rw [e1.1, e1.2, e2.1, e2.2]
    have m1 := sinQ_mono (a := (10800000 - b).toNat) (b := (10800000 - a).toNat) (by omega) (by omega)
    have m2 := hiQ_mono (a := (10800000 - b).toNat) (b := (10800000 - a).toNat) (by omega) (by omega)
    omega
  · have e2 := b_three (n := b) (by omega) h1
    have p1 := hiQ_in (n := (b - 10800000).toNat) (by omega)
    by_cases ha : a ≤ 10800000
    · have e1 := b_two h0 ha
      have p2 := hiQ_in (n := (10800000 - a).toNat) (by omega)
      rw [e1.1, e1.2, e2.1, e2.2]
      omega
    · have e1 := b_three (n := a) (by omega) (by omega)
      rw [e1.1, e1.2, e2.1, e2.2]
      have m1 := sinQ_mono (a := (a - 10800000).toNat) (b := (b - 10800000).toNat) (by omega) (by omega)
      have m2 := hiQ_mono (a := (a - 10800000).toNat) (b := (b - 10800000).toNat) (by omega) (by omega)
      omega
/-- Between the ends, if the least value is not met. -/
theorem b_between {lo hi z : Int} (h1 : lo ≤ z) (h2 : z ≤ hi) (hm : metB lo hi 16200000 = false) : mn (bLo lo) (bLo hi) ≤ bLo z ∧ mn (bHi lo) (bHi hi) ≤ bHi z := by
  unfold metB at hm
  have hm := of_decide_eq_false hm
  obtain ⟨k, hk⟩ : ∃ k, k = (lo + 5400000) / 21600000 := ⟨_, rfl⟩
  have s1 := b_shift lo (-k)
  have s2 := b_shift hi (-k)
  have s3 := b_shift z (-k)
  rw [← s1.1, ← s1.2, ← s2.1, ← s2.2, ← s3.1, ← s3.2]
  have q1 : -5400000 ≤ lo + 21600000 * -k := by omega
  have q2 : hi + 21600000 * -k ≤ 16200000 := by omega
  have q3 : lo + 21600000 * -k ≤ z + 21600000 * -k := by omega
  have q4 : z + 21600000 * -k ≤ hi + 21600000 * -k := by omega
  clear s1 s2 s3 hk hm h1 h2
  generalize lo + 21600000 * -k = x at *
  generalize hi + 21600000 * -k = y at *
  generalize z + 21600000 * -k = u at *
  rw [mn_eq, mn_eq]
  by_cases hu : u ≤ 5400000
  · have := b_up q1 q3 hu
    omega
  · have := b_down (a := u) (b := y) (by omega) q4 q2
    omega
/-- The same for the greatest value. -/
theorem b_betw2 {lo hi z : Int} (h1 : lo ≤ z) (h2 : z ≤ hi) (hm : metB lo hi 5400000 = false) : bLo z ≤ mx (bLo lo) (bLo hi) ∧ bHi z ≤ mx (bHi lo) (bHi hi) := by
  unfold metB at hm
  have hm := of_decide_eq_false hm
  obtain ⟨k, hk⟩ : ∃ k, k = (lo - 5400000) / 21600000 := ⟨_, rfl⟩
  have s1 := b_shift lo (-k)
  have s2 := b_shift hi (-k)
  have s3 := b_shift z (-k)
  rw [← s1.1, ← s1.2, ← s2.1, ← s2.2, ← s3.1, ← s3.2]
  have q1 : 5400000 ≤ lo + 21600000 * -k := by omega
  have q2 : hi + 21600000 * -k ≤ 27000000 := by omega
  have q3 : lo + 21600000 * -k ≤ z + 21600000 * -k := by omega
  have q4 : z + 21600000 * -k ≤ hi + 21600000 * -k := by omega
  clear s1 s2 s3 hk hm h1 h2
  generalize lo + 21600000 * -k = x at *
  generalize hi + 21600000 * -k = y at *
  generalize z + 21600000 * -k = u at *
  rw [mx_eq, mx_eq]
  by_cases hu : u ≤ 16200000
  · have := b_down q1 q3 hu
    omega
  · have e1 := b_shift u (-1)
    have e2 := b_shift y (-1)
    have := b_up (a := u + 21600000 * -1) (b := y + 21600000 * -1) (by omega) (by omega) (by omega)
    rw [e1.1, e1.2, e2.1, e2.2] at this
    omega
theorem met_part {lo hi x y n : Int} (h1 : lo ≤ x) (h3 : y ≤ hi) (hm : metB x y n = true) (h2 : x ≤ y) : metB lo hi n = true := by
  unfold metB at *
  have hm := of_decide_eq_true hm
  refine decide_eq_true ?_
  omega
theorem encL_at (lo hi : Int) : encL lo hi = if metB lo hi 16200000 then -1073741824 else mn (bLo lo) (bLo hi) := by unfold encL; rfl
theorem encH_at (lo hi : Int) : encH lo hi = if metB lo hi 5400000 then 1073741824 else mx (bHi lo) (bHi hi) := by unfold encH; rfl
theorem enc_in {lo hi : Int} : -1073741824 ≤ encL lo hi ∧ encL lo hi ≤ encH lo hi ∧ encH lo hi ≤ 1073741824 := by
  have h1 := bb_le lo
  have h2 := bb_le hi
  rw [encL_at, encH_at, mn_eq, mx_eq]
  split <;> split <;> omega
/-- Narrower arcs. -/
theorem enc_part {lo hi x y : Int} (h1 : lo ≤ x) (h2 : x ≤ y) (h3 : y ≤ hi) : encL lo hi ≤ encL x y ∧ encH x y ≤ encH lo hi := by
  constructor
  · have h4 := (enc_in (lo := x) (hi := y)).1
    rw [encL_at lo hi]
    cases hm : metB lo hi 16200000
    · rw [if_neg (by decide), encL_at]
      have hm2 : metB x y 16200000 = false := by
        cases h5 : metB x y 16200000
        · rfl
        · rw [met_part h1 h3 h5 h2] at hm; cases hm
      rw [hm2, if_neg (by decide)]
      have p := (b_between (z := x) h1 (by omega) hm).1
      have q := (b_between (z := y) (by omega) h3 hm).1
      rw [mn_eq (bLo x)]
      omega
    · rw [if_pos rfl]; exact h4
  · have h4 := (enc_in (lo := x) (hi := y)).2.2
    rw [encH_at lo hi]
    cases hm : metB lo hi 5400000
    · rw [if_neg (by decide), encH_at]
      have hm2 : metB x y 5400000 = false := by
        cases h5 : metB x y 5400000
        · rfl
        · rw [met_part h1 h3 h5 h2] at hm; cases hm
      rw [hm2, if_neg (by decide)]
      have p := (b_betw2 (z := x) h1 (by omega) hm).2
      have q := (b_betw2 (z := y) (by omega) h3 hm).2
      rw [mx_eq (bHi x)]
      omega
    · rw [if_pos rfl]; exact h4
/-- Not negative over the first half of a turn, not positive over the second one. -/
theorem bLo_pos {n : Int} (h0 : 0 ≤ n) (h1 : n ≤ 10800000) : 0 ≤ bLo n := by
  by_cases h : n ≤ 5400000
  · rw [(b_one h0 h).1]; omega
  · rw [(b_two (n := n) (by omega) h1).1]; omega
theorem bHi_neg {n : Int} (h0 : 10800000 ≤ n) (h1 : n ≤ 21600000) : bHi n ≤ 0 := by
  by_cases h : n ≤ 16200000
  · rw [(b_three h0 h).2]; omega
  · have e := b_shift (n - 21600000) 1
    rw [show n - 21600000 + 21600000 * 1 = n by omega] at e
    rw [e.2, (b_four (n := n - 21600000) (by omega) (by omega)).2]
    omega
theorem enc_pos {lo hi : Int} (h0 : 0 ≤ lo) (h : lo ≤ hi) (h1 : hi ≤ 10800000) : 0 ≤ encL lo hi := by
  have hm : metB lo hi 16200000 = false := by
    unfold metB
    refine decide_eq_false ?_
    omega
  have p := bLo_pos h0 (by omega)
  have q := bLo_pos (n := hi) (by omega) h1
  rw [encL_at, hm, if_neg (by decide), mn_eq]
  omega
theorem enc_neg {lo hi : Int} (h0 : 10800000 ≤ lo) (h : lo ≤ hi) (h1 : hi ≤ 21600000) : encH lo hi ≤ 0 := by
  have hm : metB lo hi 5400000 = false := by
    unfold metB
    refine decide_eq_false ?_
    omega
  have p := bHi_neg h0 (by omega)
  have q := bHi_neg (n := hi) (by omega) h1
  rw [encH_at, hm, if_neg (by decide), mx_eq]
  omega
end Go.Proofs.Ytakcfcekdngndaa
/- Arcsines: the greatest angle whose sine is at most a number. Plain laws, no walk. -/
namespace Go.Proofs.Ytakcfcekdngndaa

/-- Compares One times a sine with a number. -/
def belI (n v : Int) : Int := if bHi n ≤ v ∧ bLo n < v then -1 else if v ≤ bLo n ∧ v < bHi n then 1 else if v = bLo n then 0 else if v < bLo n then 1 else -1
theorem bHi_one (n : Int) : bHi n ≤ bLo n + 1 := by
  have h := oneQ_in (foldT n)
  unfold bHi bLo
  split <;> omega
theorem belI_iff (n v : Int) : belI n v ≤ 0 ↔ bHi n ≤ v := by
  have h1 := (bb_le n).1
  have h2 := bHi_one n
  unfold belI
  split
  · omega
  · split
    · omega
    · split
      · omega
      · split <;> omega
theorem belI_pos (n v : Int) : 0 < belI n v ↔ v < bHi n := by have := belI_iff n v; omega
theorem b_bot : bHi (-5400000) = -1073741824 := by
  have h := (b_four (n := -5400000) (by decide) (by decide)).2
  rw [h, show (-(-5400000 : Int)).toNat = 5400000 from rfl, sinQ_q]; rfl
theorem b_topp : bHi 5400000 = 1073741824 := by
  have h := (b_one (n := 5400000) (by decide) (by decide)).2
  rw [h, show ((5400000 : Int)).toNat = 5400000 from rfl]
  unfold hiQ oneQ
  rw [sinQ_q]; rfl
structure IsAsn (v r : Int) : Prop where
  lo : -5400000 ≤ r
  hi : r ≤ 5400000
  le : bHi r ≤ v
  gt : r = 5400000 ∨ v < bHi (r + 1)
theorem IsAsn.uniq {v r s : Int} (h : IsAsn v r) (g : IsAsn v s) : r = s := by
  obtain ⟨a1, a2, a3, a4⟩ := h
  obtain ⟨b1, b2, b3, b4⟩ := g
  rcases Int.lt_trichotomy r s with h | h | h
  · have := (b_up (a := r + 1) (b := s) (by omega) (by omega) b2).2
    omega
  · exact h
  · have := (b_up (a := s + 1) (b := r) (by omega) (by omega) a2).2
    omega
theorem isAsn_ex {v : Int} (hv : -1073741824 ≤ v) : ∃ r, IsAsn v r := by
  have key : ∀ k : Nat, k ≤ 10800000 → (∃ r, IsAsn v r) ∨ bHi (-5400000 + k) ≤ v := by
    intro k
    induction k with
    | zero => intro _; right; rw [show (-5400000 : Int) + ((0 : Nat) : Int) = -5400000 from rfl, b_bot]; exact hv
    | succ k ih =>
      intro hk
      rcases ih (by omega) with h | h
      · exact .inl h
      · by_cases c : bHi (-5400000 + ((k + 1 : Nat) : Int)) ≤ v
        · exact .inr c
        · refine .inl ⟨-5400000 + (k : Int), by omega, by omega, h, .inr ?_⟩
          rw [show (-5400000 : Int) + (k : Int) + 1 = -5400000 + ((k + 1 : Nat) : Int) by omega]
          omega
  rcases key 10800000 (Nat.le_refl _) with h | h
  · exact h
  · exact ⟨5400000, by decide, by decide, h, .inl rfl⟩
/-- The greatest angle from -Quarter to Quarter whose sine is at most a number. -/
noncomputable def asnI (v : Int) : Int := by
  classical
  exact if h : ∃ r, IsAsn v r then h.choose else 0
theorem asnI_is {v : Int} (hv : -1073741824 ≤ v) : IsAsn v (asnI v) := by
  have h := isAsn_ex hv
  unfold asnI
  rw [dif_pos h]
  exact h.choose_spec
theorem asnI_eq {v r : Int} (h : IsAsn v r) : asnI v = r := by
  have hv : -1073741824 ≤ v := by
    have h1 := (bb_le r).2.1
    have h2 := (bb_le r).1
    have := h.le
    omega
  exact (asnI_is hv).uniq h
theorem asnI_in {v : Int} (hv : -1073741824 ≤ v) : -5400000 ≤ asnI v ∧ asnI v ≤ 5400000 := ⟨(asnI_is hv).lo, (asnI_is hv).hi⟩
/-- An angle whose sine is at most v is at most the arcsine. -/
theorem asnI_ge {v n : Int} (h0 : -5400000 ≤ n) (h1 : n ≤ 5400000) (h : bHi n ≤ v) : n ≤ asnI v := by
  have hv : -1073741824 ≤ v := by
    have a1 := (bb_le n).2.1
    have a2 := (bb_le n).1
    omega
  obtain ⟨a1, a2, a3, a4⟩ := asnI_is hv
  rcases a4 with a4 | a4
  · omega
  · rcases (show asnI v < n ∨ n ≤ asnI v by omega) with h2 | h2
    · have := (b_up (a := asnI v + 1) (b := n) (by omega) (by omega) h1).2
      omega
    · exact h2
theorem asnI_mono {v u : Int} (hv : -1073741824 ≤ v) (h : v ≤ u) : asnI v ≤ asnI u := by
  obtain ⟨a1, a2, a3, a4⟩ := asnI_is hv
  exact asnI_ge a1 a2 (by omega)
/-- An angle whose sine is more than v is more than the arcsine. -/
theorem asnI_lt {v n : Int} (hv : -1073741824 ≤ v) (h0 : -5400000 ≤ n) (h : v < bHi n) : asnI v < n := by
  obtain ⟨a1, a2, a3, a4⟩ := asnI_is hv
  rcases (show asnI v < n ∨ n ≤ asnI v by omega) with h2 | h2
  · exact h2
  · have := (b_up (a := n) (b := asnI v) h0 h2 a2).2
    omega
/-- The arcsine of an interval: its error, its ends. -/
def asE (lo hi : Int) : Int := if (decide (lo ≤ hi ∧ -2147483648 ≤ lo ∧ hi ≤ 2147483648)) = false then 1 else if mn hi 1073741824 < mx lo (-1073741824) then 2 else 0
noncomputable def asL (lo hi : Int) : Int := if asE lo hi = 0 then asnI (mx lo (-1073741824)) else 0
noncomputable def asH (lo hi : Int) : Int := if asE lo hi = 0 then -(asnI (-(mn hi 1073741824))) else 0
end Go.Proofs.Ytakcfcekdngndaa
/- Haversines: plain laws, no walk. -/
namespace Go.Proofs.Ytakcfcekdngndaa

def havL (lo hi : Int) : Int := (1073741824 - encH (lo + 5400000) (hi + 5400000)) / 2
def havH (lo hi : Int) : Int := (1073741824 - encL (lo + 5400000) (hi + 5400000) + 1) / 2
theorem hav_in (lo hi : Int) : 0 ≤ havL lo hi ∧ havL lo hi ≤ havH lo hi ∧ havH lo hi ≤ 1073741824 := by
  have h := enc_in (lo := lo + 5400000) (hi := hi + 5400000)
  unfold havL havH
  omega
/-- The haversine of an angle, rounded down and up. -/
def hvL (n : Int) : Int := (1073741824 - bHi (n + 5400000)) / 2
def hvH (n : Int) : Int := (1073741824 - bLo (n + 5400000) + 1) / 2
theorem ex_even (n : Int) (h : bHi n = bLo n) : bLo n % 2 = 0 := by
  have hf := foldT_le n
  have e := oneQ_at (foldT n)
  rw [bHi_at, bLo_at] at h
  rw [bLo_at]
  unfold hiQ at h ⊢
  by_cases c : foldT n = 0 ∨ foldT n = 1800000 ∨ foldT n = 5400000
  · rw [if_pos c] at e
    rw [e, Int.add_zero]
    have hs : sinQ (foldT n) = 0 ∨ sinQ (foldT n) = 536870912 ∨ sinQ (foldT n) = 1073741824 := by
      rcases c with c | c | c
      · rw [c, sinQ_0]; exact .inl rfl
      · rw [c, sinQ_h]; exact .inr (.inl rfl)
      · rw [c, sinQ_q]; exact .inr (.inr rfl)
    split <;> omega
  · rw [if_neg c] at e
    rw [e] at h
    split at h <;> omega
theorem hv_ex {n : Int} (h : bHi (n + 5400000) = bLo (n + 5400000)) : hvL n = (1073741824 - bLo (n + 5400000)) / 2 ∧ hvH n = (1073741824 - bLo (n + 5400000)) / 2 := by
  have := ex_even _ h
  unfold hvL hvH
  omega
theorem hv_no {n : Int} (h : bHi (n + 5400000) = bLo (n + 5400000) + 1) : hvL n = (1073741824 - bLo (n + 5400000) - 1) / 2 ∧ hvH n = (1073741824 - bLo (n + 5400000) - 1) / 2 + 1 := by
  unfold hvL hvH
  omega
theorem met_hav (lo hi n : Int) : metB (lo + 5400000) (hi + 5400000) (n + 5400000) = metB lo hi n := by
  unfold metB
  rw [show n + 5400000 - (lo + 5400000) = n - lo by omega, show hi + 5400000 - (lo + 5400000) = hi - lo by omega]
theorem havL_at (lo hi : Int) : havL lo hi = if metB lo hi 0 then 0 else mn (hvL lo) (hvL hi) := by
  unfold havL
  rw [encH_at, show metB (lo + 5400000) (hi + 5400000) 5400000 = metB lo hi 0 from met_hav lo hi 0]
  split
  · rfl
  · unfold hvL
    rw [mx_eq, mn_eq]; omega
theorem havH_at (lo hi : Int) : havH lo hi = if metB lo hi 10800000 then 1073741824 else mx (hvH lo) (hvH hi) := by
  unfold havH
  rw [encL_at, show metB (lo + 5400000) (hi + 5400000) 16200000 = metB lo hi 10800000 from met_hav lo hi 10800000]
  split
  · rfl
  · unfold hvH
    rw [mx_eq, mn_eq]; omega
theorem hv_in (n : Int) : 0 ≤ hvL n ∧ hvL n ≤ 1073741824 ∧ 0 ≤ hvH n ∧ hvH n ≤ 1073741824 := by
  have h := bb_le (n + 5400000)
  unfold hvL hvH
  omega
end Go.Proofs.Ytakcfcekdngndaa
/- The program's arcsines. -/
namespace Go.Proofs.Ytakcfcekdngndaa
open Go.RowKit

set_option maxRecDepth 100000 in
theorem tg_Below (n v : Int) (w : World) :
    Calls Try.prog 83 #[.int .i64 n, .int .i64 v] w fun e w' => e = .returned (.int .i64 (belI n v)) ∧ ∃ d, w' = bw w d := by
  have HB := Lib.hid (fun W => tg_bounds n W)
  have h1 := (bb_le n).1
  have h2 := bHi_one n
  unfold belI
  generalize bLo n = lo at *
  generalize bHi n = hi at *
  by_cases c1 : hi ≤ v
  · by_cases c2 : lo < v
    · rw [if_pos ⟨c1, c2⟩]
      have c3 : v ≥ hi := c1
      clear h1 h2
      refine lay_start ?_
      go_enter Try.func83, Try.ntmps83
      go_wp2_with (go_at_call 81; refine (HB.out _).mono ?_; rintro e w' ⟨rfl, d1, rfl⟩; rw [lay_bw])
      go_ret
      exact ⟨rfl, lay_ex _ _⟩
    · rw [if_neg (fun h => c2 h.2), if_neg (by omega), if_pos (by omega)]
      obtain rfl : v = lo := by omega
      have c4 : ¬ v < hi := by omega
      have c5 : (v == v) = true := beq_iff_eq.2 rfl
      clear h1 h2
      refine lay_start ?_
      go_enter Try.func83, Try.ntmps83
      go_wp2_with (go_at_call 81; refine (HB.out _).mono ?_; rintro e w' ⟨rfl, d1, rfl⟩; rw [lay_bw])
      go_ret
      exact ⟨rfl, lay_ex _ _⟩
  · by_cases c2 : v ≤ lo
    · rw [if_neg (fun h => c1 h.1), if_pos ⟨c2, by omega⟩]
      have c3 : v < hi := by omega
      clear h1 h2
      refine lay_start ?_
      go_enter Try.func83, Try.ntmps83
      go_wp2_with (go_at_call 81; refine (HB.out _).mono ?_; rintro e w' ⟨rfl, d1, rfl⟩; rw [lay_bw])
      go_ret
      exact ⟨rfl, lay_ex _ _⟩
    · exact False.elim (by omega)
set_option maxHeartbeats 1000000 in
set_option maxRecDepth 100000 in
theorem ar_asin (v : Int) (hv : -1073741824 ≤ v) (w : World) :
    Calls Try.prog 68 #[.int .i64 v] w fun e w' => e = .returned (.int .i64 (asnI v)) ∧ ∃ d, w' = bw w d := by
  have HB := Lib.hid (fun n W => tg_Below n v W)
  obtain ⟨R, hR⟩ : ∃ R, asnI v = R := ⟨_, rfl⟩
  have HR : Hid (∀ r, IsAsn v r → r = R) := Lib.hid fun r h => by rw [← hR]; exact (asnI_eq h).symm
  rw [hR]
  have HV := Lib.hid hv
  clear hR hv
  refine lay_start ?_
  go_enter Try.func68, Try.ntmps68
  go_wp2_with fail
  go_loopw [3, 4] (fun v3 v4 wr => ∃ (l h : Int) (dd : Ext), v3 = .int .i64 l ∧ v4 = .int .i64 h ∧ wr = lay w [.inr dd] ∧ -5400000 ≤ l ∧ l < h ∧ h ≤ 5400001 ∧ bHi l ≤ v ∧ (h = 5400001 ∨ v < bHi h)) (fun v3 v4 _ => (intOf v4 - intOf v3).toNat)
  case atStart => exact ⟨-5400000, 5400001, noExt _, rfl, rfl, (bw_noExt _).symm, by decide, by decide, by decide, by rw [b_bot]; exact HV.out, .inl rfl⟩
  case round =>
    obtain ⟨l, h, dd, rfl, rfl, rfl, hl, hlh, hh, hA, hB⟩ := hrel
    have HA := Lib.hid hA
    have HB2 := Lib.hid hB
    clear hA hB
    have k1 : IntKind.i64.wrap (h - l) = h - l := IntWalk.i64_in _ (by omega)
    by_cases c : 1 < h - l
    · obtain ⟨X, hX⟩ : ∃ X, l + h = X := ⟨_, rfl⟩
      obtain ⟨m, hm⟩ : ∃ m, X / 2 = m := ⟨_, rfl⟩
      have k2 : IntKind.i64.wrap (l + h) = X := by rw [hX]; exact IntWalk.i64_in _ (by omega)
      have hml : l < m ∧ m < h := by omega
      have HLH := Lib.hid (And.intro hl (And.intro hlh (And.intro hh hml)))
      have HI := Lib.hid (belI_iff m v)
      have HBm := Lib.hid (fun W => HB.out m W)
      clear hX hl hlh hh hml
      by_cases cb : belI m v ≤ 0
      · have HLe := Lib.hid (HI.out.1 cb)
        generalize belI m v = r at *
        go_wp2_with (go_at_call 83; refine (HBm.out _).mono ?_; rintro e w' ⟨rfl, d1, rfl⟩; rw [lay_bw])
        obtain ⟨g1, g2, g3, g4, g5⟩ := HLH.out
        obtain ⟨de, hde⟩ := lay_all w [.inr d1, .inr dd]
        exact ⟨⟨_, _, de, rfl, rfl, hde, by omega, by omega, g3, HLe.out, HB2.out⟩, by simp only [intOf]; omega⟩
      · have HLe := Lib.hid (fun h' => cb (HI.out.2 h'))
        generalize belI m v = r at *
        go_wp2_with (go_at_call 83; refine (HBm.out _).mono ?_; rintro e w' ⟨rfl, d1, rfl⟩; rw [lay_bw])
        obtain ⟨g1, g2, g3, g4, g5⟩ := HLH.out
        obtain ⟨de, hde⟩ := lay_all w [.inr d1, .inr dd]
        have hlt : v < bHi m := Int.not_le.1 HLe.out
        exact ⟨⟨_, _, de, rfl, rfl, hde, g1, by omega, by omega, HA.out, .inr hlt⟩, by simp only [intOf]; omega⟩
    · have hR : l = R := by
        refine HR.out l ⟨hl, by omega, HA.out, ?_⟩
        have hhl : h = l + 1 := by omega
        subst hhl
        rcases HB2.out with h1 | h1
        · left; omega
        · right; exact h1
      clear hl hlh hh HA HB2 HR
      subst hR
      go_wp2_with fail
      go_ret
      exact ⟨rfl, lay_ex _ _⟩
end Go.Proofs.Ytakcfcekdngndaa
/- Products of intervals, scaled by a rate: plain laws, no walk. -/
namespace Go.Proofs.Ytakcfcekdngndaa
open Go.RowKit

def m4 (a0 a1 b0 b1 : Int) : Int := mn (mn (mn (a0 * b0) (a0 * b1)) (a1 * b0)) (a1 * b1)
def x4 (a0 a1 b0 b1 : Int) : Int := mx (mx (mx (a0 * b0) (a0 * b1)) (a1 * b0)) (a1 * b1)
theorem mn4_is (x y z u : Int) : (mn (mn (mn x y) z) u ≤ x ∧ mn (mn (mn x y) z) u ≤ y ∧ mn (mn (mn x y) z) u ≤ z ∧ mn (mn (mn x y) z) u ≤ u) ∧ (mn (mn (mn x y) z) u = x ∨ mn (mn (mn x y) z) u = y ∨ mn (mn (mn x y) z) u = z ∨ mn (mn (mn x y) z) u = u) := by
  simp only [mn_eq]; omega
theorem mx4_is (x y z u : Int) : (x ≤ mx (mx (mx x y) z) u ∧ y ≤ mx (mx (mx x y) z) u ∧ z ≤ mx (mx (mx x y) z) u ∧ u ≤ mx (mx (mx x y) z) u) ∧ (mx (mx (mx x y) z) u = x ∨ mx (mx (mx x y) z) u = y ∨ mx (mx (mx x y) z) u = z ∨ mx (mx (mx x y) z) u = u) := by
  simp only [mx_eq]; omega
theorem lin1 {a0 a1 x k : Int} (h0 : a0 ≤ x) (h1 : x ≤ a1) : (a0 * k ≤ x * k ∨ a1 * k ≤ x * k) ∧ (x * k ≤ a0 * k ∨ x * k ≤ a1 * k) := by
  rcases Int.le_total 0 k with h | h
  · exact ⟨.inl (Int.mul_le_mul_of_nonneg_right h0 h), .inr (Int.mul_le_mul_of_nonneg_right h1 h)⟩
  · exact ⟨.inr (Int.mul_le_mul_of_nonpos_right h1 h), .inl (Int.mul_le_mul_of_nonpos_right h0 h)⟩
theorem box_mul {a0 a1 b0 b1 x y : Int} (h0 : a0 ≤ x) (h1 : x ≤ a1) (g0 : b0 ≤ y) (g1 : y ≤ b1) : m4 a0 a1 b0 b1 ≤ x * y ∧ x * y ≤ x4 a0 a1 b0 b1 := by
  obtain ⟨e1, e2⟩ := lin1 (k := y) h0 h1
  obtain ⟨f1, f2⟩ := lin1 (k := a0) g0 g1
  obtain ⟨i1, i2⟩ := lin1 (k := a1) g0 g1
  rw [Int.mul_comm b0 a0, Int.mul_comm b1 a0, Int.mul_comm y a0] at f1 f2
  rw [Int.mul_comm b0 a1, Int.mul_comm b1 a1, Int.mul_comm y a1] at i1 i2
  have hm := (mn4_is (a0 * b0) (a0 * b1) (a1 * b0) (a1 * b1)).1
  have hx := (mx4_is (a0 * b0) (a0 * b1) (a1 * b0) (a1 * b1)).1
  unfold m4 x4
  omega
theorem box_part {a0 a1 b0 b1 c0 c1 d0 d1 : Int} (h0 : a0 ≤ c0) (h : c0 ≤ c1) (h1 : c1 ≤ a1) (g0 : b0 ≤ d0) (g : d0 ≤ d1) (g1 : d1 ≤ b1) : m4 a0 a1 b0 b1 ≤ m4 c0 c1 d0 d1 ∧ x4 c0 c1 d0 d1 ≤ x4 a0 a1 b0 b1 := by
  have p1 := box_mul (a0 := a0) (a1 := a1) (b0 := b0) (b1 := b1) (x := c0) (y := d0) h0 (by omega) g0 (by omega)
  have p2 := box_mul (a0 := a0) (a1 := a1) (b0 := b0) (b1 := b1) (x := c0) (y := d1) h0 (by omega) (show b0 ≤ d1 by omega) g1
  have p3 := box_mul (a0 := a0) (a1 := a1) (b0 := b0) (b1 := b1) (x := c1) (y := d0) (show a0 ≤ c1 by omega) h1 g0 (by omega)
  have p4 := box_mul (a0 := a0) (a1 := a1) (b0 := b0) (b1 := b1) (x := c1) (y := d1) (show a0 ≤ c1 by omega) h1 (show b0 ≤ d1 by omega) g1
  have hm := (mn4_is (c0 * d0) (c0 * d1) (c1 * d0) (c1 * d1)).2
  have hx := (mx4_is (c0 * d0) (c0 * d1) (c1 * d0) (c1 * d1)).2
  constructor
  · show m4 a0 a1 b0 b1 ≤ mn (mn (mn (c0 * d0) (c0 * d1)) (c1 * d0)) (c1 * d1); omega
  · show mx (mx (mx (c0 * d0) (c0 * d1)) (c1 * d0)) (c1 * d1) ≤ x4 a0 a1 b0 b1; omega
theorem prod_in {X x k : Int} (h0 : 0 ≤ X) (hX : -X ≤ x ∧ x ≤ X) (hK : -X ≤ k ∧ k ≤ X) : -(X * X) ≤ x * k ∧ x * k ≤ X * X := by
  have h1 : (x * k).natAbs ≤ X.natAbs * X.natAbs := by rw [Int.natAbs_mul]; exact Nat.mul_le_mul (by omega) (by omega)
  have h2 : ((X.natAbs * X.natAbs : Nat) : Int) = X * X := by rw [Int.natCast_mul, Int.natAbs_of_nonneg h0]
  rw [← h2]
  omega
theorem box_in {X a0 a1 b0 b1 : Int} (h0 : 0 ≤ X) (ha : -X ≤ a0 ∧ a0 ≤ X) (ha1 : -X ≤ a1 ∧ a1 ≤ X) (hb : -X ≤ b0 ∧ b0 ≤ X) (hb1 : -X ≤ b1 ∧ b1 ≤ X) : -(X * X) ≤ m4 a0 a1 b0 b1 ∧ m4 a0 a1 b0 b1 ≤ x4 a0 a1 b0 b1 ∧ x4 a0 a1 b0 b1 ≤ X * X := by
  have p1 := prod_in h0 ha hb
  have p2 := prod_in h0 ha hb1
  have p3 := prod_in h0 ha1 hb
  have p4 := prod_in h0 ha1 hb1
  have hm := mn4_is (a0 * b0) (a0 * b1) (a1 * b0) (a1 * b1)
  have hx := mx4_is (a0 * b0) (a0 * b1) (a1 * b0) (a1 * b1)
  unfold m4 x4
  omega
/-- The product of intervals of numbers over 2^30, rounded outward. -/
def mulL (a0 a1 b0 b1 : Int) : Int := m4 a0 a1 b0 b1 / 1073741824
def mulH (a0 a1 b0 b1 : Int) : Int := -((-(x4 a0 a1 b0 b1)) / 1073741824)
/-- 250000 times a number over 2^30, rounded down or up. -/
def sclL (p : Int) : Int := p * 250000 / 1073741824
def sclH (p : Int) : Int := -((-(p * 250000)) / 1073741824)
theorem mul_unit {a0 a1 b0 b1 : Int} (ha : -1073741824 ≤ a0) (ha1 : a0 ≤ a1) (ha2 : a1 ≤ 1073741824) (hb : -1073741824 ≤ b0) (hb1 : b0 ≤ b1) (hb2 : b1 ≤ 1073741824) :
    -1073741824 ≤ mulL a0 a1 b0 b1 ∧ mulL a0 a1 b0 b1 ≤ mulH a0 a1 b0 b1 ∧ mulH a0 a1 b0 b1 ≤ 1073741824 := by
  have h := box_in (X := 1073741824) (by decide) (a0 := a0) (a1 := a1) (b0 := b0) (b1 := b1) ⟨ha, by omega⟩ ⟨by omega, ha2⟩ ⟨hb, by omega⟩ ⟨by omega, hb2⟩
  unfold mulL mulH
  omega
theorem scl_unit {p q : Int} (hp : -1073741824 ≤ p) (h : p ≤ q) (hq : q ≤ 1073741824) : -250000 ≤ sclL p ∧ sclL p ≤ sclH q ∧ sclH q ≤ 250000 := by
  unfold sclL sclH
  omega
theorem mul_part {a0 a1 b0 b1 c0 c1 d0 d1 : Int} (h0 : a0 ≤ c0) (h : c0 ≤ c1) (h1 : c1 ≤ a1) (g0 : b0 ≤ d0) (g : d0 ≤ d1) (g1 : d1 ≤ b1) : mulL a0 a1 b0 b1 ≤ mulL c0 c1 d0 d1 ∧ mulH c0 c1 d0 d1 ≤ mulH a0 a1 b0 b1 := by
  have := box_part h0 h h1 g0 g g1
  unfold mulL mulH
  omega
theorem scl_mono {p q : Int} (h : p ≤ q) : sclL p ≤ sclL q ∧ sclH p ≤ sclH q := by unfold sclL sclH; omega
theorem mul_pos {a0 a1 b0 b1 : Int} (h0 : 0 ≤ a0) (h : a0 ≤ a1) (g0 : 0 ≤ b0) (g : b0 ≤ b1) : 0 ≤ mulL a0 a1 b0 b1 := by
  have p1 := Int.mul_nonneg h0 g0
  have p2 := Int.mul_nonneg h0 (show 0 ≤ b1 by omega)
  have p3 := Int.mul_nonneg (show 0 ≤ a1 by omega) g0
  have p4 := Int.mul_nonneg (show 0 ≤ a1 by omega) (show 0 ≤ b1 by omega)
  have hm := (mn4_is (a0 * b0) (a0 * b1) (a1 * b0) (a1 * b1)).2
  unfold mulL m4
  omega
theorem mul_neg {a0 a1 b0 b1 : Int} (h0 : 0 ≤ a0) (h : a0 ≤ a1) (g0 : b0 ≤ b1) (g : b1 ≤ 0) : mulH a0 a1 b0 b1 ≤ 0 := by
  have p1 := Int.mul_nonpos_of_nonneg_of_nonpos h0 (show b0 ≤ 0 by omega)
  have p2 := Int.mul_nonpos_of_nonneg_of_nonpos h0 g
  have p3 := Int.mul_nonpos_of_nonneg_of_nonpos (show 0 ≤ a1 by omega) (show b0 ≤ 0 by omega)
  have p4 := Int.mul_nonpos_of_nonneg_of_nonpos (show 0 ≤ a1 by omega) g
  have hx := (mx4_is (a0 * b0) (a0 * b1) (a1 * b0) (a1 * b1)).2
  unfold mulH x4
  omega
theorem scl_pos {p : Int} (h : 0 ≤ p) : 0 ≤ sclL p := by unfold sclL; omega
theorem scl_neg {p : Int} (h : p ≤ 0) : sclH p ≤ 0 := by unfold sclH; omega
end Go.Proofs.Ytakcfcekdngndaa
/- fixed: Valid, floor, ceil, fit, Mul, Sub, Add, without average's functions. -/
namespace Go.Proofs.Ytakcfcekdngndaa
open Go.RowKit

section
variable {P : Program} {w : World}
theorem run_mn4 (ts : Array TypeId) (t : TypeId) (k k' k'' k3 : IntKind) (x y z u : Int) : (Builtin.min_ ts t #[.int k x, .int k' y, .int k'' z, .int k3 u]).run P w = .ok (.int k (mn (mn (mn x y) z) u)) w := by
  simp [Builtin.min_, Builtin.min2, mn]
  rfl
theorem run_mx4 (ts : Array TypeId) (t : TypeId) (k k' k'' k3 : IntKind) (x y z u : Int) : (Builtin.max_ ts t #[.int k x, .int k' y, .int k'' z, .int k3 u]).run P w = .ok (.int k (mx (mx (mx x y) z) u)) w := by
  simp [Builtin.max_, Builtin.max2, mx]
  rfl
end
attribute [go_sem ↓] run_mn4 run_mx4
/-- A valid interval. -/
def fxB (lo hi : Int) : Bool := decide (lo ≤ hi ∧ -2147483648 ≤ lo ∧ hi ≤ 2147483648)
theorem fxB_iff {lo hi : Int} : fxB lo hi = true ↔ lo ≤ hi ∧ -2147483648 ≤ lo ∧ hi ≤ 2147483648 := by simp [fxB]
set_option maxRecDepth 100000 in
theorem fx_ValidG (lo hi : Int) (w : World) :
    Calls Try.prog 55 #[(.agg #[.int .i64 (lo), .int .i64 (hi)])] w fun e w' => e = .returned (.bool (fxB lo hi)) ∧ ∃ d, w' = bw w d := by
  refine lay_start ?_
  go_enter Try.func55, Try.ntmps55
  go_wp2
  all_goals go_ret
  all_goals exact ⟨ret_bool (by rw [Bool.eq_iff_iff]; simp [fxB]; omega), lay_ex _ _⟩
set_option maxRecDepth 100000 in
theorem fx_bothG (a b c d : Int) (w : World) :
    Calls Try.prog 51 #[(.agg #[.int .i64 (a), .int .i64 (b)]), (.agg #[.int .i64 (c), .int .i64 (d)])] w fun e w' => e = .returned (.bool (fxB a b && fxB c d)) ∧ ∃ d, w' = bw w d := by
  have H1 := Lib.hid (fun W => fx_ValidG a b W)
  have H2 := Lib.hid (fun W => fx_ValidG c d W)
  generalize fxB a b = x at *
  generalize fxB c d = y at *
  cases x <;> cases y
  all_goals
    refine lay_start ?_
    go_enter Try.func51, Try.ntmps51
    go_wp2_with (go_at_call 55; first | (with_reducible refine (H1.out _).mono ?_; rintro e w' ⟨rfl, d1, rfl⟩) | (with_reducible refine (H2.out _).mono ?_; rintro e w' ⟨rfl, d2, rfl⟩))
    go_ret
    exact ⟨rfl, lay_ex _ _⟩
set_option maxRecDepth 100000 in
theorem fx_floorG (a b : Int) (w : World) (hb : 1 ≤ b) (h1 : -9223372036854775807 ≤ a) (h2 : a ≤ 9223372036854775807) :
    Calls Try.prog 66 #[.int .i64 a, .int .i64 b] w fun e w' => e = .returned (.int .i64 (a / b)) ∧ w' = w := by
  have hb0 : ¬ b < 0 := by omega
  by_cases hr : a.tmod b < 0
  · have e0 := floor_neg hb hr
    have hbd := ediv_bd hb 9223372036854775807 (by decide) h1 h2
    have hk : IntKind.i64.wrap (a / b) = a / b := IntWalk.i64_in _ (by omega)
    obtain ⟨q, hq⟩ : ∃ q, a / b = q := ⟨_, rfl⟩
    rw [hq] at e0 hk ⊢
    have ha : a < 0 := by
      rcases Int.lt_or_le a 0 with h | h
      · exact h
      · rw [Int.tmod_eq_emod_of_nonneg h] at hr; have := Int.emod_nonneg a (show b ≠ 0 by omega); omega
    have hz : (a.tmod b != 0) = true := bne_iff_ne.2 (by omega)
    go_enter Try.func66, Try.ntmps66
    go_wp2_with fail
    go_ret
    exact ⟨rfl, rfl⟩
  · have e0 := floor_pos (a := a) hb (by omega)
    obtain ⟨q, hq⟩ : ∃ q, a / b = q := ⟨_, rfl⟩
    have hbd := ediv_bd hb 9223372036854775807 (by decide) h1 h2
    have hk : IntKind.i64.wrap (a / b) = a / b := IntWalk.i64_in _ (by omega)
    rw [hq] at e0 hk ⊢
    by_cases ha : a < 0
    · have hz : (a.tmod b != 0) = false := by
        have h3 : a.tmod b = -((-a) % b) := by
          have := Int.neg_tmod (a := -a) (b := b)
          rw [Int.neg_neg] at this
          rw [this, Int.tmod_eq_emod_of_nonneg (by omega)]
        have h4 := Int.emod_nonneg (-a) (show b ≠ 0 by omega)
        have : a.tmod b = 0 := by omega
        rw [this]; rfl
      go_enter Try.func66, Try.ntmps66
      go_wp2_with fail
      go_ret
      exact ⟨rfl, rfl⟩
    · go_enter Try.func66, Try.ntmps66
      go_wp2_with fail
      all_goals
        go_ret
        exact ⟨rfl, rfl⟩
set_option maxRecDepth 100000 in
theorem fx_ceilG (a b : Int) (w : World) (hb : 1 ≤ b) (h1 : -9223372036854775807 ≤ a) (h2 : a ≤ 9223372036854775807) :
    Calls Try.prog 67 #[.int .i64 a, .int .i64 b] w fun e w' => e = .returned (.int .i64 (-((-a) / b))) ∧ w' = w := by
  have HF := Lib.hid (fun W => fx_floorG (-a) b W hb (by omega) (by omega))
  have k1 : IntKind.i64.wrap (-a) = -a := IntWalk.i64_in _ (by omega)
  have hbd := ediv_bd hb 9223372036854775807 (by decide) (show -9223372036854775807 ≤ -a by omega) (by omega)
  have k2 : IntKind.i64.wrap (-((-a) / b)) = -((-a) / b) := IntWalk.i64_in _ (by omega)
  obtain ⟨m, hm⟩ : ∃ m, -a = m := ⟨_, rfl⟩
  rw [hm] at HF k1 k2 hbd ⊢
  obtain ⟨q, hq⟩ : ∃ q, m / b = q := ⟨_, rfl⟩
  rw [hq] at HF k2 hbd ⊢
  obtain ⟨r, hr⟩ : ∃ r, -q = r := ⟨_, rfl⟩
  rw [hr] at k2 ⊢
  clear hbd hq h1 h2
  go_enter Try.func67, Try.ntmps67
  go_wp2_with (go_at_call 66; refine (HF.out _).mono ?_; rintro e w' ⟨rfl, rfl⟩)
  go_ret
  exact ⟨rfl, rfl⟩
set_option maxRecDepth 100000 in
theorem fx_fitG (lo hi : Int) (w : World) (h : fxB lo hi = true) :
    Calls Try.prog 52 #[.int .i64 lo, .int .i64 hi] w fun e w' => e = .returned (.tuple #[(.agg #[.int .i64 (lo), .int .i64 (hi)]), .int .i64 0]) ∧ ∃ d, w' = bw w d := by
  have HV := Lib.hid (fun W => fx_ValidG lo hi W)
  rw [h] at HV
  refine lay_start ?_
  go_enter Try.func52, Try.ntmps52
  go_wp2_with (go_at_call 55; refine (HV.out _).mono ?_; rintro e w' ⟨rfl, d, rfl⟩)
  exact bodyPost_ret (v := .tuple #[(.agg #[.int .i64 (lo), .int .i64 (hi)]), .int .i64 0]) (by simp [results, Try.results52, go_sem]) rfl ⟨rfl, lay_ex _ _⟩
set_option maxHeartbeats 1000000 in
set_option maxRecDepth 100000 in
theorem fx_MulG (a0 a1 b0 b1 : Int) (w : World) (ha : fxB a0 a1 = true) (hb : fxB b0 b1 = true) (hm : fxB (mulL a0 a1 b0 b1) (mulH a0 a1 b0 b1) = true) :
    Calls Try.prog 54 #[(.agg #[.int .i64 (a0), .int .i64 (a1)]), (.agg #[.int .i64 (b0), .int .i64 (b1)])] w fun e w' => e = .returned (.tuple #[(.agg #[.int .i64 (mulL a0 a1 b0 b1), .int .i64 (mulH a0 a1 b0 b1)]), .int .i64 0]) ∧ ∃ d, w' = bw w d := by
  have HB := Lib.hid (fun W => fx_bothG a0 a1 b0 b1 W)
  rw [ha, hb, Bool.and_self] at HB
  have hfa := fxB_iff.1 ha
  have hfb := fxB_iff.1 hb
  have hbx := box_in (X := 2147483648) (by decide) (a0 := a0) (a1 := a1) (b0 := b0) (b1 := b1) ⟨by omega, by omega⟩ ⟨by omega, by omega⟩ ⟨by omega, by omega⟩ ⟨by omega, by omega⟩
  have p1 := prod_in (X := 2147483648) (x := a0) (k := b0) (by decide) ⟨by omega, by omega⟩ ⟨by omega, by omega⟩
  have p2 := prod_in (X := 2147483648) (x := a0) (k := b1) (by decide) ⟨by omega, by omega⟩ ⟨by omega, by omega⟩
  have p3 := prod_in (X := 2147483648) (x := a1) (k := b0) (by decide) ⟨by omega, by omega⟩ ⟨by omega, by omega⟩
  have p4 := prod_in (X := 2147483648) (x := a1) (k := b1) (by decide) ⟨by omega, by omega⟩ ⟨by omega, by omega⟩
  have HT := Lib.hid (fun W => fx_fitG _ _ W hm)
  have HF := Lib.hid (fun W => fx_floorG (m4 a0 a1 b0 b1) 1073741824 W (by decide) (by omega) (by omega))
  have HC := Lib.hid (fun W => fx_ceilG (x4 a0 a1 b0 b1) 1073741824 W (by decide) (by omega) (by omega))
  rw [show m4 a0 a1 b0 b1 / 1073741824 = mulL a0 a1 b0 b1 from rfl] at HF
  rw [show -((-(x4 a0 a1 b0 b1)) / 1073741824) = mulH a0 a1 b0 b1 from rfl] at HC
  generalize mulL a0 a1 b0 b1 = Q at *
  generalize mulH a0 a1 b0 b1 = U at *
  have e1 : mn (mn (mn (a0 * b0) (a0 * b1)) (a1 * b0)) (a1 * b1) = m4 a0 a1 b0 b1 := rfl
  have e2 : mx (mx (mx (a0 * b0) (a0 * b1)) (a1 * b0)) (a1 * b1) = x4 a0 a1 b0 b1 := rfl
  generalize m4 a0 a1 b0 b1 = M at *
  generalize x4 a0 a1 b0 b1 = X at *
  have k1 : IntKind.i64.wrap (a0 * b0) = a0 * b0 := IntWalk.i64_in _ (by omega)
  have k2 : IntKind.i64.wrap (a0 * b1) = a0 * b1 := IntWalk.i64_in _ (by omega)
  have k3 : IntKind.i64.wrap (a1 * b0) = a1 * b0 := IntWalk.i64_in _ (by omega)
  have k4 : IntKind.i64.wrap (a1 * b1) = a1 * b1 := IntWalk.i64_in _ (by omega)
  clear hbx p1 p2 p3 p4 hfa hfb ha hb hm
  refine lay_start ?_
  go_enter Try.func54, Try.ntmps54
  go_wp2_with (go_at_call 51; refine (HB.out _).mono ?_; rintro e w' ⟨rfl, d, rfl⟩)
  refine region_bw (by kernel_rfl) (by kernel_rfl) ?_
  repeat (go_big_quiet_step ((first | fail)))
  refine wpQuiet_nil ?_
  rintro w' ⟨d, rfl⟩
  rw [lay_bw]
  go_wp2_with (first | (go_at_call 66; refine (HF.out _).mono ?_; rintro e w' ⟨rfl, rfl⟩) | (go_at_call 67; refine (HC.out _).mono ?_; rintro e w' ⟨rfl, rfl⟩) | (go_at_call 52; refine (HT.out _).mono ?_; rintro e w' ⟨rfl, d, rfl⟩))
  exact bodyPost_ret (v := .tuple #[(.agg #[.int .i64 (Q), .int .i64 (U)]), .int .i64 0]) (by simp [results, Try.results54, go_sem]) rfl ⟨rfl, lay_ex _ _⟩
end Go.Proofs.Ytakcfcekdngndaa
/- arctrig: part, Asin, Acos, Ahav. -/
namespace Go.Proofs.Ytakcfcekdngndaa
open Go.RowKit

theorem asE_at (lo hi : Int) : asE lo hi = if fxB lo hi = false then 1 else if mn hi 1073741824 < mx lo (-1073741824) then 2 else 0 := by unfold asE fxB; rfl
set_option maxRecDepth 100000 in
theorem ar_part (a0 a1 lo hi : Int) (w : World) :
    Calls Try.prog 56 #[(.agg #[.int .i64 (a0), .int .i64 (a1)]), .int .i64 lo, .int .i64 hi] w fun e w' => e = .returned (.tuple #[(.agg #[.int .i64 (mx a0 lo), .int .i64 (mn a1 hi)]), .bool (decide (mx a0 lo ≤ mn a1 hi))]) ∧ ∃ d, w' = bw w d := by
  refine lay_start ?_
  go_enter Try.func56, Try.ntmps56
  go_wp2_with fail
  go_region
  go_wp2_with fail
  exact bodyPost_ret (v := .tuple #[(.agg #[.int .i64 (mx a0 lo), .int .i64 (mn a1 hi)]), .bool (decide (mx a0 lo ≤ mn a1 hi))]) (by simp [results, Try.results56, go_sem]) rfl ⟨rfl, by rw [bw_drewExt, lay_bw]; exact lay_ex _ _⟩
set_option maxRecDepth 100000 in
theorem ar_Asin (lo hi : Int) (w : World) :
    Calls Try.prog 43 #[(.agg #[.int .i64 (lo), .int .i64 (hi)])] w fun e w' => e = .returned (.tuple #[(.agg #[.int .i64 (asL lo hi), .int .i64 (asH lo hi)]), .int .i64 (asE lo hi)]) ∧ ∃ d, w' = bw w d := by
  have HV := Lib.hid (fun W => fx_ValidG lo hi W)
  have HP := Lib.hid (fun W => ar_part lo hi (-1073741824) 1073741824 W)
  unfold asL asH
  rw [asE_at]
  cases h : fxB lo hi
  · rw [h] at HV
    clear h HP
    rw [if_pos rfl, if_neg (show ¬ ((1 : Int) = 0) by decide), if_neg (show ¬ ((1 : Int) = 0) by decide)]
    refine lay_start ?_
    go_enter Try.func43, Try.ntmps43
    go_wp2_with (go_at_call 55; refine (HV.out _).mono ?_; rintro e w' ⟨rfl, d, rfl⟩)
    exact bodyPost_ret (v := .tuple #[(.agg #[.int .i64 (0), .int .i64 (0)]), .int .i64 1]) (by simp [results, Try.results43, go_sem]) rfl ⟨rfl, lay_ex _ _⟩
  · rw [h] at HV
    have hb := fxB_iff.1 h
    have hx : -1073741824 ≤ mx lo (-1073741824) := by rw [mx_eq]; omega
    have hn : mn hi 1073741824 ≤ 1073741824 := by rw [mn_eq]; omega
    have hn2 : -2147483648 ≤ mn hi 1073741824 := by rw [mn_eq]; omega
    have hd : (mn hi 1073741824 < mx lo (-1073741824)) ∨ mx lo (-1073741824) ≤ mn hi 1073741824 := by omega
    have H1 := Lib.hid (fun W => ar_asin (mx lo (-1073741824)) hx W)
    have H2 := Lib.hid (fun W => ar_asin (-(mn hi 1073741824)) (by omega) W)
    have i1 := asnI_in (v := mx lo (-1073741824)) hx
    have i2 := asnI_in (v := -(mn hi 1073741824)) (by omega)
    clear h
    generalize mx lo (-1073741824) = x at *
    generalize mn hi 1073741824 = y at *
    generalize asnI x = u at *
    obtain ⟨y', hy'⟩ : ∃ y', -y = y' := ⟨_, rfl⟩
    have ky : IntKind.i64.wrap (-y) = y' := by rw [hy']; exact IntWalk.i64_in _ (by omega)
    rw [hy'] at H2 i2
    rw [hy']
    generalize asnI y' = v at *
    have kv : IntKind.i64.wrap (-v) = -v := IntWalk.i64_in _ (by omega)
    clear hb hx hn hn2 i1 i2 hy'
    rcases hd with hd | hd
    · rw [show decide (x ≤ y) = false from decide_eq_false (by omega)] at HP
      rw [if_neg (show ¬ (true = false) by decide), if_pos hd, if_neg (show ¬ ((2 : Int) = 0) by decide), if_neg (show ¬ ((2 : Int) = 0) by decide)]
      refine lay_start ?_
      go_enter Try.func43, Try.ntmps43
      go_wp2_with (first | (go_at_call 55; refine (HV.out _).mono ?_; rintro e w' ⟨rfl, d, rfl⟩) | (go_at_call 56; refine (HP.out _).mono ?_; rintro e w' ⟨rfl, d2, rfl⟩))
      exact bodyPost_ret (v := .tuple #[(.agg #[.int .i64 (0), .int .i64 (0)]), .int .i64 2]) (by simp [results, Try.results43, go_sem]) rfl ⟨rfl, lay_ex _ _⟩
    · rw [show decide (x ≤ y) = true from decide_eq_true (by omega)] at HP
      rw [if_neg (show ¬ (true = false) by decide), if_neg (show ¬ (y < x) by omega), if_pos rfl, if_pos rfl]
      refine lay_start ?_
      go_enter Try.func43, Try.ntmps43
      go_wp2_with (first | (go_at_call 55; refine (HV.out _).mono ?_; rintro e w' ⟨rfl, d, rfl⟩) | (go_at_call 56; refine (HP.out _).mono ?_; rintro e w' ⟨rfl, d2, rfl⟩))
      refine region_bw_tail 9 (by kernel_rfl) (by kernel_rfl) ?_
      simp only [List.take_succ_cons, List.take_zero, List.drop_succ_cons, List.drop_zero]
      repeat (go_big_quiet_step ((first | (go_at_call 68; first | (with_reducible exact bq (H1.out _) (fun d => lay_join _ _ _ d)) | (with_reducible exact bq (H1.out _) (fun d => ⟨d, rfl⟩)) | (with_reducible exact bq (H2.out _) (fun d => lay_join _ _ _ d)) | (with_reducible exact bq (H2.out _) (fun d => ⟨d, rfl⟩))))))
      refine wpQuiet_nil ?_
      rintro w' ⟨d, rfl⟩
      rw [lay_bw]
      go_wp2_with fail
      exact bodyPost_ret (v := .tuple #[(.agg #[.int .i64 (u), .int .i64 (-v)]), .int .i64 0]) (by simp [results, Try.results43, go_sem]) rfl ⟨rfl, lay_ex _ _⟩
set_option maxRecDepth 100000 in
theorem ar_Acos (lo hi : Int) (w : World) (h : asE lo hi = 0) :
    Calls Try.prog 57 #[(.agg #[.int .i64 (lo), .int .i64 (hi)])] w fun e w' => e = .returned (.tuple #[(.agg #[.int .i64 (5400000 - asH lo hi), .int .i64 (5400000 - asL lo hi)]), .int .i64 0]) ∧ ∃ d, w' = bw w d := by
  have HA := Lib.hid (fun W => ar_Asin lo hi W)
  rw [h] at HA
  have hb : (-5400000 ≤ asL lo hi ∧ asL lo hi ≤ 5400000) ∧ -5400000 ≤ asH lo hi ∧ asH lo hi ≤ 5400000 := by
    unfold asL asH
    rw [if_pos h, if_pos h]
    have h1 := asnI_in (v := mx lo (-1073741824)) (by rw [mx_eq]; omega)
    have h2 := asnI_in (v := -(mn hi 1073741824)) (by rw [mn_eq]; omega)
    omega
  generalize asL lo hi = u at *
  generalize asH lo hi = v at *
  have k1 : IntKind.i64.wrap (5400000 - u) = 5400000 - u := IntWalk.i64_in _ (by omega)
  have k2 : IntKind.i64.wrap (5400000 - v) = 5400000 - v := IntWalk.i64_in _ (by omega)
  clear hb h
  refine lay_start ?_
  go_enter Try.func57, Try.ntmps57
  go_wp2_with (first | (go_at_call 43; refine (HA.out _).mono ?_; rintro e w' ⟨rfl, d, rfl⟩))
  exact bodyPost_ret (v := .tuple #[(.agg #[.int .i64 (5400000 - v), .int .i64 (5400000 - u)]), .int .i64 0]) (by simp [results, Try.results57, go_sem]) rfl ⟨rfl, lay_ex _ _⟩
/-- The arc of the angles with some haversines: its error, its ends. -/
def ahE (lo hi : Int) : Int := if fxB lo hi = false then 1 else if mn hi 1073741824 < mx lo 0 then 2 else 0
noncomputable def ahL (lo hi : Int) : Int := if ahE lo hi = 0 then 5400000 - asH (1073741824 - 2 * mn hi 1073741824) (1073741824 - 2 * mx lo 0) else 0
noncomputable def ahH (lo hi : Int) : Int := if ahE lo hi = 0 then 5400000 - asL (1073741824 - 2 * mn hi 1073741824) (1073741824 - 2 * mx lo 0) else 0
theorem ah_as {lo hi : Int} (h : ahE lo hi = 0) : asE (1073741824 - 2 * mn hi 1073741824) (1073741824 - 2 * mx lo 0) = 0 := by
  unfold ahE at h
  cases hb : fxB lo hi
  · rw [hb, if_pos rfl] at h; cases h
  · rw [hb, if_neg (by decide)] at h
    by_cases c : mn hi 1073741824 < mx lo 0
    · rw [if_pos c] at h; cases h
    · have hf := fxB_iff.1 hb
      rw [mn_eq, mx_eq] at c ⊢
      rw [asE_at, fxB_iff.2 (by omega), if_neg (by decide), mn_eq, mx_eq, if_neg (by omega)]
set_option maxRecDepth 100000 in
theorem ar_Ahav (lo hi : Int) (w : World) :
    Calls Try.prog 35 #[(.agg #[.int .i64 (lo), .int .i64 (hi)])] w fun e w' => e = .returned (.tuple #[(.agg #[.int .i64 (ahL lo hi), .int .i64 (ahH lo hi)]), .int .i64 (ahE lo hi)]) ∧ ∃ d, w' = bw w d := by
  have HV := Lib.hid (fun W => fx_ValidG lo hi W)
  have HP := Lib.hid (fun W => ar_part lo hi 0 1073741824 W)
  have hac := @ah_as lo hi
  cases h : fxB lo hi
  · have hE : ahE lo hi = 1 := by unfold ahE; rw [h, if_pos rfl]
    unfold ahL ahH
    rw [hE, if_neg (by decide), if_neg (by decide)]
    rw [h] at HV
    clear h HP hac hE
    refine lay_start ?_
    go_enter Try.func35, Try.ntmps35
    go_wp2_with (go_at_call 55; refine (HV.out _).mono ?_; rintro e w' ⟨rfl, d, rfl⟩)
    exact bodyPost_ret (v := .tuple #[(.agg #[.int .i64 (0), .int .i64 (0)]), .int .i64 1]) (by simp [results, Try.results35, go_sem]) rfl ⟨rfl, lay_ex _ _⟩
  · by_cases c : mn hi 1073741824 < mx lo 0
    · have hE : ahE lo hi = 2 := by unfold ahE; rw [h, if_neg (by decide), if_pos c]
      unfold ahL ahH
      rw [hE, if_neg (by decide), if_neg (by decide)]
      rw [h] at HV
      rw [show decide (mx lo 0 ≤ mn hi 1073741824) = false from decide_eq_false (by omega)] at HP
      generalize mx lo 0 = x at *
      generalize mn hi 1073741824 = y at *
      clear h hac hE c
      refine lay_start ?_
      go_enter Try.func35, Try.ntmps35
      go_wp2_with (first | (go_at_call 55; refine (HV.out _).mono ?_; rintro e w' ⟨rfl, d, rfl⟩) | (go_at_call 56; refine (HP.out _).mono ?_; rintro e w' ⟨rfl, d2, rfl⟩))
      exact bodyPost_ret (v := .tuple #[(.agg #[.int .i64 (0), .int .i64 (0)]), .int .i64 2]) (by simp [results, Try.results35, go_sem]) rfl ⟨rfl, lay_ex _ _⟩
    · have hE : ahE lo hi = 0 := by unfold ahE; rw [h, if_neg (by decide), if_neg c]
      unfold ahL ahH
      rw [hE, if_pos rfl, if_pos rfl]
      rw [h] at HV
      have hf := fxB_iff.1 h
      have hx : 0 ≤ mx lo 0 ∧ mx lo 0 ≤ 1073741824 ∧ 0 ≤ mn hi 1073741824 ∧ mn hi 1073741824 ≤ 1073741824 := by
        rw [mn_eq, mx_eq] at c ⊢
        omega
      have HC := Lib.hid (fun W => ar_Acos _ _ W (hac hE))
      rw [show decide (mx lo 0 ≤ mn hi 1073741824) = true from decide_eq_true (by omega)] at HP
      generalize mx lo 0 = x at *
      generalize mn hi 1073741824 = y at *
      obtain ⟨x2, hx2⟩ : ∃ x2, 2 * x = x2 := ⟨_, rfl⟩
      obtain ⟨y2, hy2⟩ : ∃ y2, 2 * y = y2 := ⟨_, rfl⟩
      have k1 : IntKind.i64.wrap (2 * x) = x2 := by rw [hx2]; exact IntWalk.i64_in _ (by omega)
      have k2 : IntKind.i64.wrap (2 * y) = y2 := by rw [hy2]; exact IntWalk.i64_in _ (by omega)
      rw [hx2, hy2] at HC
      rw [hx2, hy2]
      obtain ⟨p, hp⟩ : ∃ p, 1073741824 - x2 = p := ⟨_, rfl⟩
      obtain ⟨q, hq⟩ : ∃ q, 1073741824 - y2 = q := ⟨_, rfl⟩
      have k3 : IntKind.i64.wrap (1073741824 - x2) = p := by rw [hp]; exact IntWalk.i64_in _ (by omega)
      have k4 : IntKind.i64.wrap (1073741824 - y2) = q := by rw [hq]; exact IntWalk.i64_in _ (by omega)
      rw [hp, hq] at HC
      rw [hp, hq]
      generalize 5400000 - asH q p = u at *
      generalize 5400000 - asL q p = v at *
      clear h hac hE c hx hf hx2 hy2 hp hq
      refine lay_start ?_
      go_enter Try.func35, Try.ntmps35
      go_wp2_with (first | (go_at_call 55; refine (HV.out _).mono ?_; rintro e w' ⟨rfl, d, rfl⟩) | (go_at_call 56; refine (HP.out _).mono ?_; rintro e w' ⟨rfl, d2, rfl⟩) | (go_at_call 57; refine (HC.out _).mono ?_; rintro e w' ⟨rfl, d3, rfl⟩))
      exact bodyPost_ret (v := .tuple #[(.agg #[.int .i64 (u), .int .i64 (v)]), .int .i64 0]) (by simp [results, Try.results35, go_sem]) rfl ⟨rfl, lay_ex _ _⟩
end Go.Proofs.Ytakcfcekdngndaa
/- Amplitudes: what compass.Amplitude computes, and its laws. No walk. -/
namespace Go.Proofs.Ytakcfcekdngndaa

/-- Quotients of an interval by a positive one. -/
def divL (a0 b0 b1 : Int) : Int := mn (a0 * 1073741824 / b0) (a0 * 1073741824 / b1)
def divH (a1 b0 b1 : Int) : Int := mx (-((-(a1 * 1073741824)) / b0)) (-((-(a1 * 1073741824)) / b1))
theorem ediv_anti {a x y : Int} (h0 : 0 ≤ a) (h1 : 0 < x) (h : x ≤ y) : a / y ≤ a / x := by
  rw [Int.le_ediv_iff_mul_le h1]
  have h2 := Int.mul_ediv_self_le (x := a) (k := y) (by omega)
  have h3 : a / y * x ≤ a / y * y := Int.mul_le_mul_of_nonneg_left h (Int.ediv_nonneg h0 (by omega))
  rw [Int.mul_comm] at h2
  omega
theorem cdiv_le_of {a b c : Int} (hb : 0 < b) (h : a ≤ c * b) : -((-a) / b) ≤ c := by
  have h2 : -c ≤ (-a) / b := by
    rw [Int.le_ediv_iff_mul_le hb, Int.neg_mul]; omega
  omega
theorem fl_le_ce {a b : Int} (hb : 0 < b) : a / b ≤ -((-a) / b) := by
  have h1 := Int.mul_ediv_self_le (x := a) (k := b) (by omega)
  have h2 := Int.mul_ediv_self_le (x := -a) (k := b) (by omega)
  have h3 : b * (a / b + (-a) / b) ≤ b * 0 := by rw [Int.mul_add]; omega
  have := Int.le_of_mul_le_mul_left h3 hb
  omega
theorem div_le {a0 a1 b0 b1 : Int} (h : a0 ≤ a1) (hb : 0 < b0) : divL a0 b0 b1 ≤ divH a1 b0 b1 := by
  have h1 := fl_le_ce (a := a0 * 1073741824) hb
  have h2 : (-(a1 * 1073741824)) / b0 ≤ (-(a0 * 1073741824)) / b0 := Int.ediv_le_ediv hb (by omega)
  unfold divL divH
  rw [mn_eq, mx_eq]; omega
theorem div_neg (a0 a1 b0 b1 : Int) : divL (-a1) b0 b1 = -(divH a1 b0 b1) ∧ divH (-a0) b0 b1 = -(divL a0 b0 b1) := by
  unfold divL divH
  rw [Int.neg_mul, Int.neg_mul, Int.neg_neg, mn_eq, mx_eq, mn_eq, mx_eq]
  constructor <;> omega
theorem enc_point (n : Int) : encL n n = bLo n ∧ encH n n = bHi n := by
  have hd : ∀ k : Int, metB n n k = true → ∃ j : Int, n = k + 21600000 * j := fun k h => by
    unfold metB at h
    have h1 : (k - n) % 21600000 ≤ n - n := by simpa using h
    have h2 := Int.emod_nonneg (k - n) (show (21600000 : Int) ≠ 0 by decide)
    exact ⟨-((k - n) / 21600000), by omega⟩
  rw [encL_at, encH_at]
  constructor
  · cases h : metB n n 16200000
    · rw [if_neg (by decide), mn_eq]; omega
    · obtain ⟨j, rfl⟩ := hd _ h
      rw [if_pos rfl, (b_shift _ _).1]
      have := (b_three (n := 16200000) (by decide) (by decide)).1
      rw [this, show ((16200000 : Int) - 10800000).toNat = 5400000 from rfl]
      unfold hiQ oneQ
      rw [sinQ_q]; rfl
  · cases h : metB n n 5400000
    · rw [if_neg (by decide), mx_eq]; omega
    · obtain ⟨j, rfl⟩ := hd _ h
      rw [if_pos rfl, (b_shift _ _).2, b_topp]
theorem b_odd {n : Int} (h0 : -5400000 ≤ n) (h1 : n ≤ 5400000) : bLo (-n) = -(bHi n) ∧ bHi (-n) = -(bLo n) := by
  by_cases h : 0 ≤ n
  · have e1 := b_one h h1
    have e2 := b_four (n := -n) (by omega) (by omega)
    rw [Int.neg_neg] at e2
    rw [e1.1, e1.2, e2.1, e2.2]
    exact ⟨rfl, rfl⟩
  · have e1 := b_one (n := -n) (by omega) (by omega)
    have e2 := b_four (n := n) (by omega) (by omega)
    rw [e1.1, e1.2, e2.1, e2.2]
    omega
theorem b_even {x : Int} (h0 : -5400000 ≤ x) (h1 : x ≤ 5400000) : bLo (-x + 5400000) = bLo (x + 5400000) ∧ bHi (-x + 5400000) = bHi (x + 5400000) := by
  have key : ∀ y : Int, 0 ≤ y → y ≤ 5400000 → bLo (-y + 5400000) = bLo (y + 5400000) ∧ bHi (-y + 5400000) = bHi (y + 5400000) := fun y g0 g1 => by
    have e1 := b_one (n := -y + 5400000) (by omega) (by omega)
    have e2 := b_two (n := y + 5400000) (by omega) (by omega)
    rw [e1.1, e1.2, e2.1, e2.2, show (10800000 - (y + 5400000)).toNat = (-y + 5400000).toNat by omega]
    exact ⟨rfl, rfl⟩
  by_cases h : 0 ≤ x
  · exact key x h h1
  · have := key (-x) (by omega) (by omega)
    rw [Int.neg_neg] at this
    exact ⟨this.1.symm, this.2.symm⟩
/-- A sine is less than the next one, rounded up. -/
theorem b_strict {n : Int} (h0 : -5400000 ≤ n) (h1 : n < 5400000) : bLo n < bHi (n + 1) := by
  have hm := b_up (a := n) (b := n + 1) h0 (by omega) (by omega)
  have hx : ∀ k : Int, -5400000 ≤ k → k ≤ 5400000 → bHi k = bLo k + 1 ∨ (k = 0 ∨ k = 1800000 ∨ k = 5400000 ∨ k = -1800000 ∨ k = -5400000) := fun k g0 g1 => by
    by_cases hk : 0 ≤ k
    · have e := b_one hk g1
      have e2 := oneQ_at k.toNat
      unfold hiQ at e
      rw [e.1, e.2]
      by_cases c : k.toNat = 0 ∨ k.toNat = 1800000 ∨ k.toNat = 5400000
      · right; omega
      · left; rw [e2, if_neg c]
    · have e := b_four (n := k) g0 (by omega)
      have e2 := oneQ_at (-k).toNat
      unfold hiQ at e
      rw [e.1, e.2]
      by_cases c : (-k).toNat = 0 ∨ (-k).toNat = 1800000 ∨ (-k).toNat = 5400000
      · right; omega
      · left; rw [e2, if_neg c]; omega
  rcases hx (n + 1) (by omega) (by omega) with h | h
  · omega
  · rcases hx n h0 (by omega) with g | g
    · omega
    · omega
theorem asn_self {n : Int} (h0 : -5400000 ≤ n) (h1 : n ≤ 5400000) : asnI (bLo n) ≤ n := by
  have hv := (bb_le n).2.1
  by_cases h : n = 5400000
  · have := (asnI_in hv).2
    omega
  · have := asnI_lt hv (n := n + 1) (by omega) (b_strict h0 (by omega))
    omega
theorem asn_sum {y : Int} (h0 : -1073741824 ≤ y) (h1 : y ≤ 1073741824) : asnI y + asnI (-y) ≤ 0 := by
  obtain ⟨a1, a2, a3, a4⟩ := asnI_is h0
  have hv : -1073741824 ≤ -y := by omega
  have hb := b_odd (n := asnI y) a1 a2
  have hi := asnI_in hv
  by_cases h : asnI y = -5400000
  · omega
  · have hs := b_strict (n := -(asnI y)) (by omega) (by omega)
    have := asnI_lt hv (n := -(asnI y) + 1) (by omega) (by omega)
    omega
/-- The amplitude: its error, its ends. -/
def ampE (c0 c1 d0 d1 : Int) : Int := if encL (c0 + 5400000) (c1 + 5400000) ≤ 0 then 21
  else if fxB (divL (encL d0 d1) (encL (c0 + 5400000) (c1 + 5400000)) (encH (c0 + 5400000) (c1 + 5400000))) (divH (encH d0 d1) (encL (c0 + 5400000) (c1 + 5400000)) (encH (c0 + 5400000) (c1 + 5400000))) = false then 24
  else if asE (divL (encL d0 d1) (encL (c0 + 5400000) (c1 + 5400000)) (encH (c0 + 5400000) (c1 + 5400000))) (divH (encH d0 d1) (encL (c0 + 5400000) (c1 + 5400000)) (encH (c0 + 5400000) (c1 + 5400000))) ≠ 0 then 12 else 0
noncomputable def ampL (c0 c1 d0 d1 : Int) : Int := if ampE c0 c1 d0 d1 = 0 then asL (divL (encL d0 d1) (encL (c0 + 5400000) (c1 + 5400000)) (encH (c0 + 5400000) (c1 + 5400000))) (divH (encH d0 d1) (encL (c0 + 5400000) (c1 + 5400000)) (encH (c0 + 5400000) (c1 + 5400000))) else 0
noncomputable def ampH (c0 c1 d0 d1 : Int) : Int := if ampE c0 c1 d0 d1 = 0 then asH (divL (encL d0 d1) (encL (c0 + 5400000) (c1 + 5400000)) (encH (c0 + 5400000) (c1 + 5400000))) (divH (encH d0 d1) (encL (c0 + 5400000) (c1 + 5400000)) (encH (c0 + 5400000) (c1 + 5400000))) else 0
/-- At points. -/
theorem ampE_pt (c d : Int) : ampE c c d d = if bLo (c + 5400000) ≤ 0 then 21 else if fxB (divL (bLo d) (bLo (c + 5400000)) (bHi (c + 5400000))) (divH (bHi d) (bLo (c + 5400000)) (bHi (c + 5400000))) = false then 24
    else if asE (divL (bLo d) (bLo (c + 5400000)) (bHi (c + 5400000))) (divH (bHi d) (bLo (c + 5400000)) (bHi (c + 5400000))) ≠ 0 then 12 else 0 := by
  unfold ampE
  rw [(enc_point _).1, (enc_point _).1, (enc_point _).2, (enc_point _).2]
theorem amp_ok {c d : Int} (h : ampE c c d d = 0) : 0 < bLo (c + 5400000) ∧ asE (divL (bLo d) (bLo (c + 5400000)) (bHi (c + 5400000))) (divH (bHi d) (bLo (c + 5400000)) (bHi (c + 5400000))) = 0 ∧
    ampL c c d d = asnI (mx (divL (bLo d) (bLo (c + 5400000)) (bHi (c + 5400000))) (-1073741824)) ∧ ampH c c d d = -(asnI (-(mn (divH (bHi d) (bLo (c + 5400000)) (bHi (c + 5400000))) 1073741824))) := by
  have h1 := h
  rw [ampE_pt] at h1
  by_cases c1 : bLo (c + 5400000) ≤ 0
  · rw [if_pos c1] at h1; cases h1
  rw [if_neg c1] at h1
  by_cases c2 : fxB (divL (bLo d) (bLo (c + 5400000)) (bHi (c + 5400000))) (divH (bHi d) (bLo (c + 5400000)) (bHi (c + 5400000))) = false
  · rw [if_pos c2] at h1; cases h1
  rw [if_neg c2] at h1
  by_cases c3 : asE (divL (bLo d) (bLo (c + 5400000)) (bHi (c + 5400000))) (divH (bHi d) (bLo (c + 5400000)) (bHi (c + 5400000))) ≠ 0
  · rw [if_pos c3] at h1; cases h1
  have c4 := Decidable.not_not.1 c3
  refine ⟨by omega, c4, ?_, ?_⟩
  · unfold ampL asL
    rw [if_pos h, (enc_point _).1, (enc_point _).1, (enc_point _).2, (enc_point _).2, if_pos c4]
  · unfold ampH asH
    rw [if_pos h, (enc_point _).1, (enc_point _).1, (enc_point _).2, (enc_point _).2, if_pos c4]
theorem amp_zero {d : Int} (h0 : -5400000 ≤ d) (h1 : d ≤ 5400000) : ampE 0 0 d d = 0 ∧ ampL 0 0 d d ≤ d ∧ d ≤ ampH 0 0 d d := by
  have hb := bb_le d
  have hT : bLo (0 + 5400000) = 1073741824 ∧ bHi (0 + 5400000) = 1073741824 := by
    have := (b_one (n := 5400000) (by decide) (by decide)).1
    rw [show (5400000 : Int).toNat = 5400000 from rfl, sinQ_q] at this
    exact ⟨this, b_topp⟩
  have e1 : divL (bLo d) 1073741824 1073741824 = bLo d := by unfold divL; rw [Int.mul_ediv_cancel _ (by decide), mn_eq]; omega
  have e2 : divH (bHi d) 1073741824 1073741824 = bHi d := by unfold divH; rw [show -(bHi d * 1073741824) = (-(bHi d)) * 1073741824 by omega, Int.mul_ediv_cancel _ (by decide), mx_eq]; omega
  have hE : ampE 0 0 d d = 0 := by
    have hA : asE (bLo d) (bHi d) = 0 := by
      unfold asE
      rw [decide_eq_true (by omega), if_neg (fun h => by cases h), if_neg (by rw [mn_eq, mx_eq]; omega)]
    rw [ampE_pt, hT.1, hT.2, if_neg (by decide), e1, e2, if_neg (by rw [fxB_iff.2 (by omega)]; decide), hA, if_neg (fun h => h rfl)]
  obtain ⟨-, -, hL, hH⟩ := amp_ok hE
  rw [hT.1, hT.2, e1] at hL
  rw [hT.1, hT.2, e2] at hH
  rw [hL, hH, show mx (bLo d) (-1073741824) = bLo d by rw [mx_eq]; omega, show mn (bHi d) 1073741824 = bHi d by rw [mn_eq]; omega]
  have s1 := asn_self h0 h1
  have s2 := asn_self (n := -d) (by omega) (by omega)
  rw [(b_odd h0 h1).1] at s2
  exact ⟨hE, s1, by omega⟩
theorem asE_neg (x y : Int) : asE (-y) (-x) = asE x y := by
  unfold asE
  rw [show (decide (-y ≤ -x ∧ -2147483648 ≤ -y ∧ -x ≤ 2147483648)) = decide (x ≤ y ∧ -2147483648 ≤ x ∧ y ≤ 2147483648) by rw [decide_eq_decide]; omega]
  by_cases h : mn y 1073741824 < mx x (-1073741824)
  · rw [if_pos h, if_pos (show mn (-x) 1073741824 < mx (-y) (-1073741824) by rw [mn_eq, mx_eq] at *; omega)]
  · rw [if_neg h, if_neg (show ¬ mn (-x) 1073741824 < mx (-y) (-1073741824) by rw [mn_eq, mx_eq] at *; omega)]
theorem amp_odd {c d : Int} (c0 : -5400000 ≤ c) (c1 : c ≤ 5400000) (h0 : -5400000 ≤ d) (h1 : d ≤ 5400000) :
    ampE (-c) (-c) (-d) (-d) = ampE c c d d ∧ (ampE c c d d = 0 → ampL (-c) (-c) (-d) (-d) = -(ampH c c d d) ∧ ampH (-c) (-c) (-d) (-d) = -(ampL c c d d)) := by
  have hc := b_even c0 c1
  have hd := b_odd h0 h1
  have hv := div_neg (bLo d) (bHi d) (bLo (c + 5400000)) (bHi (c + 5400000))
  have hE : ampE (-c) (-c) (-d) (-d) = ampE c c d d := by
    rw [ampE_pt, ampE_pt, hc.1, hc.2, hd.1, hd.2, hv.1, hv.2, asE_neg]
    rw [show fxB (-(divH (bHi d) (bLo (c + 5400000)) (bHi (c + 5400000)))) (-(divL (bLo d) (bLo (c + 5400000)) (bHi (c + 5400000)))) = fxB (divL (bLo d) (bLo (c + 5400000)) (bHi (c + 5400000))) (divH (bHi d) (bLo (c + 5400000)) (bHi (c + 5400000))) by unfold fxB; rw [decide_eq_decide]; omega]
  refine ⟨hE, fun h => ?_⟩
  obtain ⟨-, -, hL, hH⟩ := amp_ok h
  obtain ⟨-, -, gL, gH⟩ := amp_ok (hE.trans h)
  rw [hc.1, hc.2, hd.1, hv.1] at gL
  rw [hc.1, hc.2, hd.2, hv.2] at gH
  rw [hL, hH, gL, gH]
  constructor
  · rw [Int.neg_neg]
    congr 1
    rw [mx_eq, mn_eq]; omega
  · congr 2
    rw [mn_eq, mx_eq]; omega
theorem divL_bLo {s x y : Int} (h0 : 0 ≤ s) (hx : 0 < x) (hxy : x ≤ y) : divL s x y ≤ s * 1073741824 / x := by
  have := ediv_anti (a := s * 1073741824) (by omega) hx hxy
  unfold divL
  rw [mn_eq]; omega
theorem amp_more {c m d : Int} (c0 : 0 ≤ c) (m0 : 0 ≤ m) (m1 : c + m ≤ 5400000) (h0 : 0 ≤ d) (h1 : d ≤ 5400000) (e1 : ampE c c d d = 0) (e2 : ampE (c + m) (c + m) d d = 0) : ampL c c d d ≤ ampH (c + m) (c + m) d d := by
  obtain ⟨p1, q1, hL, -⟩ := amp_ok e1
  obtain ⟨p2, -, -, hH⟩ := amp_ok e2
  rw [hL, hH]
  have hs : 0 ≤ bLo d := bLo_pos h0 (by omega)
  have hsb := (bb_le d).1
  have hc := (b_down (a := c + 5400000) (b := c + m + 5400000) (by omega) (by omega) (by omega)).1
  have hcb := (bb_le (c + 5400000)).1
  have k1 := divL_bLo (s := bLo d) hs p1 hcb
  have k2 : bLo d * 1073741824 / bLo (c + 5400000) ≤ bLo d * 1073741824 / bLo (c + m + 5400000) := ediv_anti (by omega) p2 hc
  have k3 := fl_le_ce (a := bLo d * 1073741824) p2
  have k4 : (-(bHi d * 1073741824)) / bLo (c + m + 5400000) ≤ (-(bLo d * 1073741824)) / bLo (c + m + 5400000) := Int.ediv_le_ediv p2 (by omega)
  have k5 : -((-(bHi d * 1073741824)) / bLo (c + m + 5400000)) ≤ divH (bHi d) (bLo (c + m + 5400000)) (bHi (c + m + 5400000)) := by unfold divH; rw [mx_eq]; omega
  have k6 : 0 ≤ bLo d * 1073741824 / bLo (c + 5400000) := Int.ediv_nonneg (by omega) (by omega)
  have hq : mx (divL (bLo d) (bLo (c + 5400000)) (bHi (c + 5400000))) (-1073741824) ≤ 1073741824 := by
    unfold asE at q1
    by_cases z1 : (decide (divL (bLo d) (bLo (c + 5400000)) (bHi (c + 5400000)) ≤ divH (bHi d) (bLo (c + 5400000)) (bHi (c + 5400000)) ∧ -2147483648 ≤ divL (bLo d) (bLo (c + 5400000)) (bHi (c + 5400000)) ∧ divH (bHi d) (bLo (c + 5400000)) (bHi (c + 5400000)) ≤ 2147483648)) = false
    · rw [if_pos z1] at q1; cases q1
    · rw [if_neg z1] at q1
      by_cases z2 : mn (divH (bHi d) (bLo (c + 5400000)) (bHi (c + 5400000))) 1073741824 < mx (divL (bLo d) (bLo (c + 5400000)) (bHi (c + 5400000))) (-1073741824)
      · rw [if_pos z2] at q1; cases q1
      · rw [mn_eq] at z2; omega
  obtain ⟨X, hX⟩ : ∃ X, mx (divL (bLo d) (bLo (c + 5400000)) (bHi (c + 5400000))) (-1073741824) = X := ⟨_, rfl⟩
  obtain ⟨Y, hY⟩ : ∃ Y, mn (divH (bHi d) (bLo (c + m + 5400000)) (bHi (c + m + 5400000))) 1073741824 = Y := ⟨_, rfl⟩
  rw [hX] at hq ⊢
  rw [hY]
  have hX2 : X = max (divL (bLo d) (bLo (c + 5400000)) (bHi (c + 5400000))) (-1073741824) := by rw [← hX, mx_eq]
  have hY2 : Y = min (divH (bHi d) (bLo (c + m + 5400000)) (bHi (c + m + 5400000))) 1073741824 := by rw [← hY, mn_eq]
  have m2 := asnI_mono (v := X) (u := Y) (by omega) (by omega)
  have m3 := asn_sum (y := Y) (by omega) (by omega)
  omega
end Go.Proofs.Ytakcfcekdngndaa
