/- Contracts and plain laws, several texts in one: TgM; AsP; AmP -/
import Derived.Test.YtkhhdpndcidmgaaGreatProg
import Derived.WalkKit
import Derived.WalkSpells
import Derived.WalkLawsBesides
import Derived.Lib.Hide
import Derived.BigQuiet
import Derived.Test.YtkhhdpndcidmgaaGreatTAE
import Derived.Test.YtkhhdpndcidmgaaGreatTAF
import Derived.Test.YtkhhdpndcidmgaaGreatTAI
import Derived.Test.YtkhhdpndcidmgaaGreatTAJ
import Derived.Test.YtkhhdpndcidmgaaGreatTAR
/- Sines grow over the first quadrant; enclosures over parts of arcs. Plain laws, no walk. -/
namespace Go.Proofs.YtkhhdpndcidmgaaGreat

theorem nr_up {a b e : Rat} (h : Nr a b e) (h1 : b ≤ 4 / 5) (h2 : e ≤ 1 / 100) : a ≤ 1 := by obtain ⟨h3, h4⟩ := h; grind
theorem nr_dn {a b e : Rat} (h : Nr a b e) (h1 : 17 / 25 ≤ b) (h2 : e ≤ 1 / 100) : 1 / 2 ≤ a := by obtain ⟨h3, h4⟩ := h; grind
theorem nat_up {s K : Nat} (hK : 0 < K) (h : (s : Rat) / (K : Rat) ≤ 1) : s ≤ K := by
  have k0 : (0 : Rat) < (K : Rat) := by exact_mod_cast hK
  have b1 := Rat.mul_le_mul_of_nonneg_right h (Rat.le_of_lt k0)
  rw [Rat.div_mul_cancel (Rat.ne_of_gt k0), Rat.one_mul] at b1
  exact_mod_cast b1
theorem nat_dn {s K : Nat} (hK : 0 < K) (h : 1 / 2 ≤ (s : Rat) / (K : Rat)) : K ≤ 2 * s := by
  have k0 : (0 : Rat) < (K : Rat) := by exact_mod_cast hK
  have b1 := Rat.mul_le_mul_of_nonneg_right h (Rat.le_of_lt k0)
  rw [Rat.div_mul_cancel (Rat.ne_of_gt k0)] at b1
  have b2 : (K : Rat) ≤ 2 * (s : Rat) := by grind
  exact_mod_cast b2
theorem k96_nat : k96 = ((79228162514264337593543950336 : Nat) : Rat) := rfl
theorem rot_bd {r : Nat} (h : r ≤ 2700000) : (rotN r).1 ≤ 79228162514264337593543950336 ∧ 79228162514264337593543950336 ≤ 2 * (rotN r).2 := by
  obtain ⟨h1, h2⟩ := rot_near h
  have hs := sin_in (n := r) (Nat.le_succ_of_le h)
  have hx := xi_in (n := r) (Nat.le_succ_of_le h)
  have hc := cos_in (n := r) (Nat.le_succ_of_le h)
  have g1 : 64 * (r : Rat) / k96 ≤ 1 / 100 := by
    have hr : (r : Rat) ≤ 2700000 := by exact_mod_cast h
    have hr0 : (0 : Rat) ≤ (r : Rat) := by exact_mod_cast Nat.zero_le r
    have hk : 0 ≤ 1 / k96 ∧ 1 / k96 ≤ 1 / 100000000000000000000 := by unfold k96; constructor <;> grind
    have := rmul hr0 hr hk.1 hk.2
    generalize (r : Rat) = q at *
    grind
  rw [k96_nat] at h1 h2 g1
  exact ⟨nat_up (by decide) (nr_up h1 (Rat.le_trans hs.2 hx.2) g1), nat_dn (by decide) (nr_dn h2 hc.1 g1)⟩
theorem rot_gen {K c1 s1 s c : Nat} (hK : 0 < K) (h1 : c1 ≤ K) (h2 : 2 * (K - c1) ≤ s1) (hs : s ≤ K) (hc : K ≤ 2 * c) : s ≤ (s * c1 + c * s1) / K ∧ (c * c1 - s * s1) / K ≤ c := by
  constructor
  · rw [Nat.le_div_iff_mul_le hK]
    obtain ⟨d, rfl⟩ : ∃ d, K = c1 + d := ⟨K - c1, by omega⟩
    rw [Nat.add_sub_cancel_left] at h2
    have e1 : s * d ≤ (c1 + d) * d := Nat.mul_le_mul_right d hs
    have e2 : (c1 + d) * d ≤ 2 * c * d := Nat.mul_le_mul_right d hc
    have e3 : c * (2 * d) ≤ c * s1 := Nat.mul_le_mul_left c h2
    have e4 : 2 * c * d = c * (2 * d) := by rw [Nat.mul_comm 2 c, Nat.mul_assoc]
    rw [Nat.mul_add]
    omega
  · refine Nat.div_le_of_le_mul ?_
    refine Nat.le_trans (Nat.sub_le _ _) ?_
    rw [Nat.mul_comm]
    exact Nat.mul_le_mul_right c h1
theorem rot_grow {r : Nat} (h : r ≤ 2700000) : (rotN r).1 ≤ (rotN (r + 1)).1 ∧ (rotN (r + 1)).2 ≤ (rotN r).2 := by
  obtain ⟨h1, h2⟩ := rot_bd h
  rw [rotN_succ]
  exact rot_gen (by decide) (by decide) (by decide) h1 h2
theorem rot_mono {a : Nat} : ∀ {k : Nat}, a + k ≤ 2700001 → (rotN a).1 ≤ (rotN (a + k)).1 ∧ (rotN (a + k)).2 ≤ (rotN a).2
  | 0, _ => ⟨Nat.le_refl _, Nat.le_refl _⟩
  | k + 1, h => by
    obtain ⟨h1, h2⟩ := rot_mono (a := a) (k := k) (by omega)
    obtain ⟨h3, h4⟩ := rot_grow (r := a + k) (by omega)
    exact ⟨Nat.le_trans h1 h3, Nat.le_trans h4 h2⟩
theorem octS_mono {a b : Nat} (h : a ≤ b) (hb : b ≤ 2700001) : octS a ≤ octS b := by
  obtain ⟨k, rfl⟩ : ∃ k, b = a + k := ⟨b - a, by omega⟩
  unfold octS
  exact Nat.div_le_div_right (rot_mono hb).1
theorem octC_anti {a b : Nat} (h : a ≤ b) (hb : b ≤ 2700001) : octC b ≤ octC a := by
  obtain ⟨k, rfl⟩ : ∃ k, b = a + k := ⟨b - a, by omega⟩
  unfold octC
  exact Nat.div_le_div_right (rot_mono hb).2
theorem oct_of {r x y : Nat} (h : RotN r x y) : octS r = x / 73786976294838206464 ∧ octC r = y / 73786976294838206464 := by
  have e : rotN r = (x, y) := h.1
  unfold octS octC
  rw [e]
  exact ⟨rfl, rfl⟩
theorem oct_mid : octS 2700000 = octC 2700000 := by
  have h := oct_of rot_2700000
  rw [h.1, h.2]
theorem octS_half : octS 1800000 < 536870912 ∧ 536870912 ≤ octS 1800001 := by
  have h := oct_of rot_1800000
  have g := oct_of rot_1800001
  rw [h.1, g.1]
  decide +kernel
theorem sinQ_at (n : Nat) : sinQ n = if n = 0 then 0 else if n = 1800000 then 536870912 else if n = 5400000 then 1073741824 else if 2 * n ≤ 5400000 then octS n else octC (5400000 - n) := by unfold sinQ; rfl
theorem sinQ_0 : sinQ 0 = 0 := by rw [sinQ_at, if_pos rfl]
theorem sinQ_h : sinQ 1800000 = 536870912 := by rw [sinQ_at, if_neg (by decide), if_pos rfl]
theorem sinQ_q : sinQ 5400000 = 1073741824 := by rw [sinQ_at, if_neg (by decide), if_neg (by decide), if_pos rfl]
theorem sinQ_s {n : Nat} (h0 : n ≠ 0) (h1 : n ≠ 1800000) (h2 : n ≤ 2700000) : sinQ n = octS n := by rw [sinQ_at, if_neg h0, if_neg h1, if_neg (by omega), if_pos (by omega)]
theorem sinQ_c {n : Nat} (h2 : 2700000 < n) (h3 : n < 5400000) : sinQ n = octC (5400000 - n) := by rw [sinQ_at, if_neg (by omega), if_neg (by omega), if_neg (by omega), if_neg (by omega)]
theorem sinQ_low {n : Nat} (h : n < 1800000) : sinQ n < 536870912 := by
  by_cases h0 : n = 0
  · subst h0; rw [sinQ_0]; decide
  · rw [sinQ_s h0 (by omega) (by omega)]
    exact Nat.lt_of_le_of_lt (octS_mono (show n ≤ 1800000 by omega) (by omega)) octS_half.1
theorem sinQ_lt {n : Nat} (h : n < 5400000) : sinQ n < 1073741824 := by
  by_cases h0 : n < 1800000
  · have := sinQ_low h0; omega
  · by_cases h1 : n = 1800000
    · subst h1; rw [sinQ_h]; decide
    · by_cases h2 : n ≤ 2700000
      · rw [sinQ_s (by omega) h1 h2]; exact octS_lt (by omega) h2 h1
      · rw [sinQ_c (by omega) h]; exact octC_lt (by omega) (by omega)
theorem sinQ_gt {n : Nat} (h : 1800000 < n) (h2 : n < 5400000) : 536870912 ≤ sinQ n := by
  by_cases h1 : n ≤ 2700000
  · rw [sinQ_s (by omega) (by omega) h1]
    exact Nat.le_trans octS_half.2 (octS_mono (by omega) (by omega))
  · rw [sinQ_c (by omega) h2]
    exact Nat.le_trans octS_half.2 (Nat.le_trans (octS_mono (b := 2700000) (by decide) (by decide)) (Nat.le_trans (Nat.le_of_eq oct_mid) (octC_anti (by omega) (by decide))))
theorem sinQ_mono {a b : Nat} (h : a ≤ b) (hb : b ≤ 5400000) : sinQ a ≤ sinQ b := by
  by_cases hq : b = 5400000
  · subst hq; rw [sinQ_q]
    exact sinQ_le h
  by_cases a0 : a = 0
  · subst a0; rw [sinQ_0]; exact Nat.zero_le _
  by_cases ab : a = b
  · subst ab; exact Nat.le_refl _
  by_cases a1 : a < 1800000
  · have h1 := sinQ_low a1
    by_cases b1 : b < 1800000
    · rw [sinQ_s a0 (by omega) (by omega), sinQ_s (by omega) (by omega) (by omega)]
      exact octS_mono h (by omega)
    · by_cases b2 : b = 1800000
      · subst b2; rw [sinQ_h]; omega
      · have := sinQ_gt (n := b) (by omega) (by omega); omega
  · by_cases a2 : a = 1800000
    · subst a2; rw [sinQ_h]; exact sinQ_gt (by omega) (by omega)
    · by_cases a3 : a ≤ 2700000
      · rw [sinQ_s a0 a2 a3]
        by_cases b3 : b ≤ 2700000
        · rw [sinQ_s (by omega) (by omega) b3]; exact octS_mono h (by omega)
        · rw [sinQ_c (by omega) (by omega)]
          exact Nat.le_trans (octS_mono a3 (by decide)) (Nat.le_trans (Nat.le_of_eq oct_mid) (octC_anti (by omega) (by decide)))
      · rw [sinQ_c (by omega) (by omega), sinQ_c (by omega) (by omega)]
        exact octC_anti (by omega) (by omega)
def hiQ (n : Nat) : Int := (sinQ n : Int) + oneQ n
theorem oneQ_at (n : Nat) : oneQ n = if n = 0 ∨ n = 1800000 ∨ n = 5400000 then 0 else 1 := by
  unfold oneQ exaQ
  by_cases h : n = 0 ∨ n = 1800000 ∨ n = 5400000
  · rw [if_pos h, if_pos (by simp; omega)]
  · rw [if_neg h, if_neg (by simp; omega)]
theorem hiQ_mono {a b : Nat} (h : a ≤ b) (hb : b ≤ 5400000) : hiQ a ≤ hiQ b := by
  have hm := sinQ_mono h hb
  unfold hiQ
  rw [oneQ_at, oneQ_at]
  by_cases hb0 : b = 0
  · have : a = 0 := by omega
    subst this; subst hb0; exact Int.le_refl _
  by_cases hb1 : b = 1800000
  · by_cases ha : a = 1800000
    · subst ha; subst hb1; exact Int.le_refl _
    · have := sinQ_low (n := a) (by omega)
      subst hb1
      rw [sinQ_h]
      split <;> simp <;> omega
  by_cases hb2 : b = 5400000
  · by_cases ha : a = 5400000
    · subst ha; subst hb2; exact Int.le_refl _
    · have := sinQ_lt (n := a) (by omega)
      subst hb2
      rw [sinQ_q]
      split <;> simp <;> omega
  rw [if_neg (c := b = 0 ∨ _) (by omega)]
  split <;> omega
theorem hiQ_in {n : Nat} (h : n ≤ 5400000) : 0 ≤ hiQ n ∧ hiQ n ≤ 1073741824 ∧ (sinQ n : Int) ≤ hiQ n := by
  have h1 := hiQ_mono h (Nat.le_refl _)
  have h2 : hiQ 5400000 = 1073741824 := by unfold hiQ; rw [sinQ_q, oneQ_at, if_pos (by decide)]; rfl
  have h3 := (oneQ_in n).1
  rw [h2] at h1
  unfold hiQ at *
  omega
theorem bLo_at (n : Int) : bLo n = if souB n then -(hiQ (foldT n)) else (sinQ (foldT n) : Int) := by unfold bLo hiQ; rfl
theorem bHi_at (n : Int) : bHi n = if souB n then -(sinQ (foldT n) : Int) else hiQ (foldT n) := by unfold bHi hiQ; rfl
theorem fold_shift (n k : Int) : foldT (n + 21600000 * k) = foldT n ∧ souB (n + 21600000 * k) = souB n := by
  have h : (n + 21600000 * k) % 21600000 = n % 21600000 := by omega
  unfold foldT souB
  rw [h]
  exact ⟨rfl, rfl⟩
theorem b_shift (n k : Int) : bLo (n + 21600000 * k) = bLo n ∧ bHi (n + 21600000 * k) = bHi n := by
  obtain ⟨h1, h2⟩ := fold_shift n k
  rw [bLo_at, bLo_at, bHi_at, bHi_at, h1, h2]
  exact ⟨rfl, rfl⟩
theorem bb_le (n : Int) : bLo n ≤ bHi n ∧ -1073741824 ≤ bLo n ∧ bHi n ≤ 1073741824 := by
  have h := hiQ_in (foldT_le n)
  rw [bLo_at, bHi_at]
  split <;> omega
theorem b_one {n : Int} (h0 : 0 ≤ n) (h1 : n ≤ 5400000) : bLo n = (sinQ n.toNat : Int) ∧ bHi n = hiQ n.toNat := by
  have e : n % 21600000 = n := by omega
  rw [bLo_at, bHi_at]
  unfold souB foldT
  rw [e, decide_eq_false (show ¬ 10800000 < n by omega), if_neg (show ¬ (false = true) by decide), if_neg (show ¬ (false = true) by decide), if_neg (show ¬ 10800000 < n by omega), if_neg (show ¬ 5400000 < n by omega)]
  exact ⟨rfl, rfl⟩
theorem b_two {n : Int} (h0 : 5400000 ≤ n) (h1 : n ≤ 10800000) : bLo n = (sinQ (10800000 - n).toNat : Int) ∧ bHi n = hiQ (10800000 - n).toNat := by
  by_cases h2 : n = 5400000
  · subst h2; exact b_one (by decide) (by decide)
  have e : n % 21600000 = n := by omega
  rw [bLo_at, bHi_at]
  unfold souB foldT
  rw [e, decide_eq_false (show ¬ 10800000 < n by omega), if_neg (show ¬ (false = true) by decide), if_neg (show ¬ (false = true) by decide), if_neg (show ¬ 10800000 < n by omega), if_pos (show 5400000 < n by omega)]
  exact ⟨rfl, rfl⟩
theorem b_three {n : Int} (h0 : 10800000 ≤ n) (h1 : n ≤ 16200000) : bLo n = -hiQ (n - 10800000).toNat ∧ bHi n = -(sinQ (n - 10800000).toNat : Int) := by
  by_cases h2 : n = 10800000
  · subst h2
    have h3 := b_two (n := 10800000) (by decide) (by decide)
    rw [h3.1, h3.2]
    have h4 : hiQ 0 = 0 := by unfold hiQ; rw [sinQ_0, oneQ_at, if_pos (by decide)]; rfl
    show ((sinQ 0 : Nat) : Int) = - hiQ 0 ∧ hiQ 0 = -((sinQ 0 : Nat) : Int)
    rw [h4, sinQ_0]
    decide
  have e : n % 21600000 = n := by omega
  rw [bLo_at, bHi_at]
  unfold souB foldT
  rw [e, decide_eq_true (show 10800000 < n by omega), if_pos rfl, if_pos rfl, if_pos (show 10800000 < n by omega), if_neg (show ¬ 16200000 < n by omega)]
  exact ⟨rfl, rfl⟩
theorem b_four {n : Int} (h0 : -5400000 ≤ n) (h1 : n ≤ 0) : bLo n = -hiQ (-n).toNat ∧ bHi n = -(sinQ (-n).toNat : Int) := by
  have hs := b_shift n 1
  rw [← hs.1, ← hs.2]
  by_cases h2 : n = 0
  · subst h2
    have h3 := b_one (n := 0) (by decide) (by decide)
    have h5 := b_shift 0 1
    rw [h5.1, h5.2, h3.1, h3.2]
    have h4 : hiQ 0 = 0 := by unfold hiQ; rw [sinQ_0, oneQ_at, if_pos (by decide)]; rfl
    show ((sinQ 0 : Nat) : Int) = - hiQ 0 ∧ hiQ 0 = -((sinQ 0 : Nat) : Int)
    rw [h4, sinQ_0]
    decide
  by_cases h3 : n = -5400000
  · subst h3
    have := b_three (n := 16200000) (by decide) (by decide)
    exact this
  have e : (n + 21600000 * 1) % 21600000 = n + 21600000 := by omega
  rw [bLo_at, bHi_at]
  unfold souB foldT
  rw [e, decide_eq_true (by omega), if_pos rfl, if_pos rfl, if_pos (by omega), if_pos (by omega)]
  rw [show (21600000 - (n + 21600000)).toNat = (-n).toNat by omega]
  exact ⟨rfl, rfl⟩
theorem b_up {a b : Int} (h0 : -5400000 ≤ a) (h : a ≤ b) (h1 : b ≤ 5400000) : bLo a ≤ bLo b ∧ bHi a ≤ bHi b := by
  by_cases ha : 0 ≤ a
  · have e1 := b_one ha (by omega)
    have e2 := b_one (n := b) (by omega) h1
    rw [e1.1, e1.2, e2.1, e2.2]
    have m1 := sinQ_mono (a := a.toNat) (b := b.toNat) (by omega) (by omega)
    have m2 := hiQ_mono (a := a.toNat) (b := b.toNat) (by omega) (by omega)
    omega
  · have e1 := b_four h0 (by omega)
    have p1 := hiQ_in (n := (-a).toNat) (by omega)
    by_cases hb : 0 ≤ b
    · have e2 := b_one hb h1
      have p2 := hiQ_in (n := b.toNat) (by omega)
      rw [e1.1, e1.2, e2.1, e2.2]
      omega
    · have e2 := b_four (n := b) (by omega) (by omega)
      rw [e1.1, e1.2, e2.1, e2.2]
      have m1 := sinQ_mono (a := (-b).toNat) (b := (-a).toNat) (by omega) (by omega)
      have m2 := hiQ_mono (a := (-b).toNat) (b := (-a).toNat) (by omega) (by omega)
      omega
theorem b_down {a b : Int} (h0 : 5400000 ≤ a) (h : a ≤ b) (h1 : b ≤ 16200000) : bLo b ≤ bLo a ∧ bHi b ≤ bHi a := by
  by_cases hb : b ≤ 10800000
  · have e1 := b_two h0 (by omega)
    have e2 := b_two (n := b) (by omega) hb
    rw [e1.1, e1.2, e2.1, e2.2]
    have m1 := sinQ_mono (a := (10800000 - b).toNat) (b := (10800000 - a).toNat) (by omega) (by omega)
    have m2 := hiQ_mono (a := (10800000 - b).toNat) (b := (10800000 - a).toNat) (by omega) (by omega)
    omega
  · have e2 := b_three (n := b) (by omega) h1
    have p1 := hiQ_in (n := (b - 10800000).toNat) (by omega)
    by_cases ha : a ≤ 10800000
    · have e1 := b_two h0 ha
      have p2 := hiQ_in (n := (10800000 - a).toNat) (by omega)
      rw [e1.1, e1.2, e2.1, e2.2]
      omega
    · have e1 := b_three (n := a) (by omega) (by omega)
      rw [e1.1, e1.2, e2.1, e2.2]
      have m1 := sinQ_mono (a := (a - 10800000).toNat) (b := (b - 10800000).toNat) (by omega) (by omega)
      have m2 := hiQ_mono (a := (a - 10800000).toNat) (b := (b - 10800000).toNat) (by omega) (by omega)
      omega
theorem b_between {lo hi z : Int} (h1 : lo ≤ z) (h2 : z ≤ hi) (hm : metB lo hi 16200000 = false) : mn (bLo lo) (bLo hi) ≤ bLo z ∧ mn (bHi lo) (bHi hi) ≤ bHi z := by
  unfold metB at hm
  have hm := of_decide_eq_false hm
  obtain ⟨k, hk⟩ : ∃ k, k = (lo + 5400000) / 21600000 := ⟨_, rfl⟩
  have s1 := b_shift lo (-k)
  have s2 := b_shift hi (-k)
  have s3 := b_shift z (-k)
  rw [← s1.1, ← s1.2, ← s2.1, ← s2.2, ← s3.1, ← s3.2]
  have q1 : -5400000 ≤ lo + 21600000 * -k := by omega
  have q2 : hi + 21600000 * -k ≤ 16200000 := by omega
  have q3 : lo + 21600000 * -k ≤ z + 21600000 * -k := by omega
  have q4 : z + 21600000 * -k ≤ hi + 21600000 * -k := by omega
  clear s1 s2 s3 hk hm h1 h2
  generalize lo + 21600000 * -k = x at *
  generalize hi + 21600000 * -k = y at *
  generalize z + 21600000 * -k = u at *
  rw [mn_eq, mn_eq]
  by_cases hu : u ≤ 5400000
  · have := b_up q1 q3 hu
    omega
  · have := b_down (a := u) (b := y) (by omega) q4 q2
    omega
theorem b_betw2 {lo hi z : Int} (h1 : lo ≤ z) (h2 : z ≤ hi) (hm : metB lo hi 5400000 = false) : bLo z ≤ mx (bLo lo) (bLo hi) ∧ bHi z ≤ mx (bHi lo) (bHi hi) := by
  unfold metB at hm
  have hm := of_decide_eq_false hm
  obtain ⟨k, hk⟩ : ∃ k, k = (lo - 5400000) / 21600000 := ⟨_, rfl⟩
  have s1 := b_shift lo (-k)
  have s2 := b_shift hi (-k)
  have s3 := b_shift z (-k)
  rw [← s1.1, ← s1.2, ← s2.1, ← s2.2, ← s3.1, ← s3.2]
  have q1 : 5400000 ≤ lo + 21600000 * -k := by omega
  have q2 : hi + 21600000 * -k ≤ 27000000 := by omega
  have q3 : lo + 21600000 * -k ≤ z + 21600000 * -k := by omega
  have q4 : z + 21600000 * -k ≤ hi + 21600000 * -k := by omega
  clear s1 s2 s3 hk hm h1 h2
  generalize lo + 21600000 * -k = x at *
  generalize hi + 21600000 * -k = y at *
  generalize z + 21600000 * -k = u at *
  rw [mx_eq, mx_eq]
  by_cases hu : u ≤ 16200000
  · have := b_down q1 q3 hu
    omega
  · have e1 := b_shift u (-1)
    have e2 := b_shift y (-1)
    have := b_up (a := u + 21600000 * -1) (b := y + 21600000 * -1) (by omega) (by omega) (by omega)
    rw [e1.1, e1.2, e2.1, e2.2] at this
    omega
theorem met_part {lo hi x y n : Int} (h1 : lo ≤ x) (h3 : y ≤ hi) (hm : metB x y n = true) (h2 : x ≤ y) : metB lo hi n = true := by
  unfold metB at *
  have hm := of_decide_eq_true hm
  refine decide_eq_true ?_
  omega
theorem encL_at (lo hi : Int) : encL lo hi = if metB lo hi 16200000 then -1073741824 else mn (bLo lo) (bLo hi) := by unfold encL; rfl
theorem encH_at (lo hi : Int) : encH lo hi = if metB lo hi 5400000 then 1073741824 else mx (bHi lo) (bHi hi) := by unfold encH; rfl
theorem enc_in {lo hi : Int} : -1073741824 ≤ encL lo hi ∧ encL lo hi ≤ encH lo hi ∧ encH lo hi ≤ 1073741824 := by
  have h1 := bb_le lo
  have h2 := bb_le hi
  rw [encL_at, encH_at, mn_eq, mx_eq]
  split <;> split <;> omega
theorem enc_part {lo hi x y : Int} (h1 : lo ≤ x) (h2 : x ≤ y) (h3 : y ≤ hi) : encL lo hi ≤ encL x y ∧ encH x y ≤ encH lo hi := by
  constructor
  · have h4 := (enc_in (lo := x) (hi := y)).1
    rw [encL_at lo hi]
    cases hm : metB lo hi 16200000
    · rw [if_neg (by decide), encL_at]
      have hm2 : metB x y 16200000 = false := by
        cases h5 : metB x y 16200000
        · rfl
        · rw [met_part h1 h3 h5 h2] at hm; cases hm
      rw [hm2, if_neg (by decide)]
      have p := (b_between (z := x) h1 (by omega) hm).1
      have q := (b_between (z := y) (by omega) h3 hm).1
      rw [mn_eq (bLo x)]
      omega
    · rw [if_pos rfl]; exact h4
  · have h4 := (enc_in (lo := x) (hi := y)).2.2
    rw [encH_at lo hi]
    cases hm : metB lo hi 5400000
    · rw [if_neg (by decide), encH_at]
      have hm2 : metB x y 5400000 = false := by
        cases h5 : metB x y 5400000
        · rfl
        · rw [met_part h1 h3 h5 h2] at hm; cases hm
      rw [hm2, if_neg (by decide)]
      have p := (b_betw2 (z := x) h1 (by omega) hm).2
      have q := (b_betw2 (z := y) (by omega) h3 hm).2
      rw [mx_eq (bHi x)]
      omega
    · rw [if_pos rfl]; exact h4
end Go.Proofs.YtkhhdpndcidmgaaGreat
/- Arcsines: the greatest angle whose sine is at most a number. Plain laws, no walk. -/
namespace Go.Proofs.YtkhhdpndcidmgaaGreat

def belI (n v : Int) : Int := if bHi n ≤ v ∧ bLo n < v then -1 else if v ≤ bLo n ∧ v < bHi n then 1 else if v = bLo n then 0 else if v < bLo n then 1 else -1
theorem bHi_one (n : Int) : bHi n ≤ bLo n + 1 := by
  have h := oneQ_in (foldT n)
  unfold bHi bLo
  split <;> omega
theorem belI_iff (n v : Int) : belI n v ≤ 0 ↔ bHi n ≤ v := by
  have h1 := (bb_le n).1
  have h2 := bHi_one n
  unfold belI
  split
  · omega
  · split
    · omega
    · split
      · omega
      · split <;> omega
theorem b_bot : bHi (-5400000) = -1073741824 := by
  have h := (b_four (n := -5400000) (by decide) (by decide)).2
  rw [h, show (-(-5400000 : Int)).toNat = 5400000 from rfl, sinQ_q]; rfl
theorem b_topp : bHi 5400000 = 1073741824 := by
  have h := (b_one (n := 5400000) (by decide) (by decide)).2
  rw [h, show ((5400000 : Int)).toNat = 5400000 from rfl]
  unfold hiQ oneQ
  rw [sinQ_q]; rfl
structure IsAsn (v r : Int) : Prop where
  lo : -5400000 ≤ r
  hi : r ≤ 5400000
  le : bHi r ≤ v
  gt : r = 5400000 ∨ v < bHi (r + 1)
theorem IsAsn.uniq {v r s : Int} (h : IsAsn v r) (g : IsAsn v s) : r = s := by
  obtain ⟨a1, a2, a3, a4⟩ := h
  obtain ⟨b1, b2, b3, b4⟩ := g
  rcases Int.lt_trichotomy r s with h | h | h
  · have := (b_up (a := r + 1) (b := s) (by omega) (by omega) b2).2
    omega
  · exact h
  · have := (b_up (a := s + 1) (b := r) (by omega) (by omega) a2).2
    omega
theorem isAsn_ex {v : Int} (hv : -1073741824 ≤ v) : ∃ r, IsAsn v r := by
  have key : ∀ k : Nat, k ≤ 10800000 → (∃ r, IsAsn v r) ∨ bHi (-5400000 + k) ≤ v := by
    intro k
    induction k with
    | zero => intro _; right; rw [show (-5400000 : Int) + ((0 : Nat) : Int) = -5400000 from rfl, b_bot]; exact hv
    | succ k ih =>
      intro hk
      rcases ih (by omega) with h | h
      · exact .inl h
      · by_cases c : bHi (-5400000 + ((k + 1 : Nat) : Int)) ≤ v
        · exact .inr c
        · refine .inl ⟨-5400000 + (k : Int), by omega, by omega, h, .inr ?_⟩
          rw [show (-5400000 : Int) + (k : Int) + 1 = -5400000 + ((k + 1 : Nat) : Int) by omega]
          omega
  rcases key 10800000 (Nat.le_refl _) with h | h
  · exact h
  · exact ⟨5400000, by decide, by decide, h, .inl rfl⟩
noncomputable def asnI (v : Int) : Int := by
  classical
  exact if h : ∃ r, IsAsn v r then h.choose else 0
theorem asnI_is {v : Int} (hv : -1073741824 ≤ v) : IsAsn v (asnI v) := by
  have h := isAsn_ex hv
  unfold asnI
  rw [dif_pos h]
  exact h.choose_spec
theorem asnI_eq {v r : Int} (h : IsAsn v r) : asnI v = r := by
  have hv : -1073741824 ≤ v := by
    have h1 := (bb_le r).2.1
    have h2 := (bb_le r).1
    have := h.le
    omega
  exact (asnI_is hv).uniq h
theorem asnI_in {v : Int} (hv : -1073741824 ≤ v) : -5400000 ≤ asnI v ∧ asnI v ≤ 5400000 := ⟨(asnI_is hv).lo, (asnI_is hv).hi⟩
theorem asnI_ge {v n : Int} (h0 : -5400000 ≤ n) (h1 : n ≤ 5400000) (h : bHi n ≤ v) : n ≤ asnI v := by
  have hv : -1073741824 ≤ v := by
    have a1 := (bb_le n).2.1
    have a2 := (bb_le n).1
    omega
  obtain ⟨a1, a2, a3, a4⟩ := asnI_is hv
  rcases a4 with a4 | a4
  · omega
  · rcases (show asnI v < n ∨ n ≤ asnI v by omega) with h2 | h2
    · have := (b_up (a := asnI v + 1) (b := n) (by omega) (by omega) h1).2
      omega
    · exact h2
theorem asnI_mono {v u : Int} (hv : -1073741824 ≤ v) (h : v ≤ u) : asnI v ≤ asnI u := by
  obtain ⟨a1, a2, a3, a4⟩ := asnI_is hv
  exact asnI_ge a1 a2 (by omega)
theorem asnI_lt {v n : Int} (hv : -1073741824 ≤ v) (h0 : -5400000 ≤ n) (h : v < bHi n) : asnI v < n := by
  obtain ⟨a1, a2, a3, a4⟩ := asnI_is hv
  rcases (show asnI v < n ∨ n ≤ asnI v by omega) with h2 | h2
  · exact h2
  · have := (b_up (a := n) (b := asnI v) h0 h2 a2).2
    omega
def asE (lo hi : Int) : Int := if (decide (lo ≤ hi ∧ -2147483648 ≤ lo ∧ hi ≤ 2147483648)) = false then 1 else if mn hi 1073741824 < mx lo (-1073741824) then 2 else 0
noncomputable def asL (lo hi : Int) : Int := if asE lo hi = 0 then asnI (mx lo (-1073741824)) else 0
noncomputable def asH (lo hi : Int) : Int := if asE lo hi = 0 then -(asnI (-(mn hi 1073741824))) else 0
end Go.Proofs.YtkhhdpndcidmgaaGreat
/- Amplitudes: what compass.Amplitude computes, and its laws. No walk. -/
namespace Go.Proofs.YtkhhdpndcidmgaaGreat

theorem enc_point (n : Int) : encL n n = bLo n ∧ encH n n = bHi n := by
  have hd : ∀ k : Int, metB n n k = true → ∃ j : Int, n = k + 21600000 * j := fun k h => by
    unfold metB at h
    have h1 : (k - n) % 21600000 ≤ n - n := by simpa using h
    have h2 := Int.emod_nonneg (k - n) (show (21600000 : Int) ≠ 0 by decide)
    exact ⟨-((k - n) / 21600000), by omega⟩
  rw [encL_at, encH_at]
  constructor
  · cases h : metB n n 16200000
    · rw [if_neg (by decide), mn_eq]; omega
    · obtain ⟨j, rfl⟩ := hd _ h
      rw [if_pos rfl, (b_shift _ _).1]
      have := (b_three (n := 16200000) (by decide) (by decide)).1
      rw [this, show ((16200000 : Int) - 10800000).toNat = 5400000 from rfl]
      unfold hiQ oneQ
      rw [sinQ_q]; rfl
  · cases h : metB n n 5400000
    · rw [if_neg (by decide), mx_eq]; omega
    · obtain ⟨j, rfl⟩ := hd _ h
      rw [if_pos rfl, (b_shift _ _).2, b_topp]
theorem b_odd {n : Int} (h0 : -5400000 ≤ n) (h1 : n ≤ 5400000) : bLo (-n) = -(bHi n) ∧ bHi (-n) = -(bLo n) := by
  by_cases h : 0 ≤ n
  · have e1 := b_one h h1
    have e2 := b_four (n := -n) (by omega) (by omega)
    rw [Int.neg_neg] at e2
    rw [e1.1, e1.2, e2.1, e2.2]
    exact ⟨rfl, rfl⟩
  · have e1 := b_one (n := -n) (by omega) (by omega)
    have e2 := b_four (n := n) (by omega) (by omega)
    rw [e1.1, e1.2, e2.1, e2.2]
    omega
theorem b_strict {n : Int} (h0 : -5400000 ≤ n) (h1 : n < 5400000) : bLo n < bHi (n + 1) := by
  have hm := b_up (a := n) (b := n + 1) h0 (by omega) (by omega)
  have hx : ∀ k : Int, -5400000 ≤ k → k ≤ 5400000 → bHi k = bLo k + 1 ∨ (k = 0 ∨ k = 1800000 ∨ k = 5400000 ∨ k = -1800000 ∨ k = -5400000) := fun k g0 g1 => by
    by_cases hk : 0 ≤ k
    · have e := b_one hk g1
      have e2 := oneQ_at k.toNat
      unfold hiQ at e
      rw [e.1, e.2]
      by_cases c : k.toNat = 0 ∨ k.toNat = 1800000 ∨ k.toNat = 5400000
      · right; omega
      · left; rw [e2, if_neg c]
    · have e := b_four (n := k) g0 (by omega)
      have e2 := oneQ_at (-k).toNat
      unfold hiQ at e
      rw [e.1, e.2]
      by_cases c : (-k).toNat = 0 ∨ (-k).toNat = 1800000 ∨ (-k).toNat = 5400000
      · right; omega
      · left; rw [e2, if_neg c]; omega
  rcases hx (n + 1) (by omega) (by omega) with h | h
  · omega
  · rcases hx n h0 (by omega) with g | g
    · omega
    · omega
theorem asn_sum {y : Int} (h0 : -1073741824 ≤ y) (h1 : y ≤ 1073741824) : asnI y + asnI (-y) ≤ 0 := by
  obtain ⟨a1, a2, a3, a4⟩ := asnI_is h0
  have hv : -1073741824 ≤ -y := by omega
  have hb := b_odd (n := asnI y) a1 a2
  have hi := asnI_in hv
  by_cases h : asnI y = -5400000
  · omega
  · have hs := b_strict (n := -(asnI y)) (by omega) (by omega)
    have := asnI_lt hv (n := -(asnI y) + 1) (by omega) (by omega)
    omega
end Go.Proofs.YtkhhdpndcidmgaaGreat
