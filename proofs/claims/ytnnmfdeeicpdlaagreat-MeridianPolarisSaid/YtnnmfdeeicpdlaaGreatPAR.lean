/- Contracts and plain laws, several texts in one: Rs; Nq1; Ru; Rv; Nq2; Dih; MixB; Dii; Nd1 -/
import Derived.Test.YtnnmfdeeicpdlaaGreatProg
import Derived.WalkKit
import Derived.WalkSpells
import Derived.WalkLawsBesides
import Derived.Lib.Hide
import Derived.BigQuiet
import Derived.Test.YtnnmfdeeicpdlaaGreatPAA
import Derived.Test.YtnnmfdeeicpdlaaGreatPAB
import Derived.Test.YtnnmfdeeicpdlaaGreatPAD
import Derived.Test.YtnnmfdeeicpdlaaGreatPAQ
/- The reference's sines and cosines over arcs. -/
namespace Go.Proofs.YtnnmfdeeicpdlaaGreat
open Go.RowKit

def qckV (n : Int) : Int :=
  if 2 ≤ n % 21600000 / 5400000 then -(if 2700000 < n % 21600000 % 5400000 then qkV (5400000 - n % 21600000 % 5400000).toNat (!decide (n % 21600000 / 5400000 % 2 = 1)) else qkV (n % 21600000 % 5400000).toNat (decide (n % 21600000 / 5400000 % 2 = 1)))
  else (if 2700000 < n % 21600000 % 5400000 then qkV (5400000 - n % 21600000 % 5400000).toNat (!decide (n % 21600000 / 5400000 % 2 = 1)) else qkV (n % 21600000 % 5400000).toNat (decide (n % 21600000 / 5400000 % 2 = 1)))
theorem qk_sin {r : Nat} (h1 : 1 ≤ r) (h2 : r ≤ 2700000) (h3 : r ≠ 1800000) : (octS r : Int) * 4294967296 + 700 ≤ qkV r false ∧ qkV r false + 700 ≤ ((octS r : Int) + 1) * 4294967296 := by
  have h := quick_sin h2
  rw [← qkV_sin] at h
  exact quick_cell h (octS_bt h1 h2 h3)
theorem qk_cos {r : Nat} (h1 : 1 ≤ r) (h2 : r ≤ 2700000) : (octC r : Int) * 4294967296 + 700 ≤ qkV r true ∧ qkV r true + 700 ≤ ((octC r : Int) + 1) * 4294967296 := by
  have h := quick_cos h2
  rw [← qkV_cos] at h
  exact quick_cell h (octC_bt h1 h2)
theorem exaQ_no {f : Nat} (h : exaQ f = false) : f ≠ 0 ∧ f ≠ 1800000 ∧ f ≠ 5400000 := by
  unfold exaQ at h
  simp only [Bool.or_eq_false_iff, beq_eq_false_iff_ne] at h
  omega
theorem bb_no {n : Int} (h : exaQ (foldT n) = false) : bHi n = bLo n + 1 ∧ bLo n = if souB n then -((sinQ (foldT n) : Int) + 1) else (sinQ (foldT n) : Int) := by
  rw [bLo_at, bHi_at]
  unfold hiQ oneQ
  rw [h]
  cases souB n <;> simp <;> omega
theorem bb_ex {n : Int} (h : exaQ (foldT n) = true) : bHi n = bLo n ∧ bLo n = if souB n then -(sinQ (foldT n) : Int) else (sinQ (foldT n) : Int) := by
  rw [bLo_at, bHi_at]
  unfold hiQ oneQ
  rw [h]
  cases souB n <;> simp
theorem qck_cell {n : Int} (h : exaQ (foldT n) = false) : bLo n * 4294967296 + 700 ≤ qckV n ∧ qckV n + 700 ≤ (bLo n + 1) * 4294967296 := by
  obtain ⟨h0, h1, h2⟩ := exaQ_no h
  rw [(bb_no h).2]
  clear h
  have hf : foldT n = if 10800000 < n % 21600000 then (if 16200000 < n % 21600000 then (21600000 - n % 21600000).toNat else (n % 21600000 - 10800000).toNat) else (if 5400000 < n % 21600000 then (10800000 - n % 21600000).toNat else (n % 21600000).toNat) := rfl
  have hs : souB n = decide (10800000 < n % 21600000) := rfl
  unfold qckV
  obtain ⟨m, hm⟩ : ∃ m, n % 21600000 = m := ⟨_, rfl⟩
  have hm2 : 0 ≤ m ∧ m < 21600000 := by omega
  rw [hm] at hf hs ⊢
  generalize foldT n = f at *
  rw [hs]
  clear hs hm
  have key : ∀ (r : Nat) (c : Bool), r ≤ 2700000 → 1 ≤ r → ((c = false ∧ f = r) ∨ (c = true ∧ f = 5400000 - r)) → (sinQ f : Int) * 4294967296 + 700 ≤ qkV r c ∧ qkV r c + 700 ≤ ((sinQ f : Int) + 1) * 4294967296 := by
    intro r c hr hr1 hc
    rcases hc with ⟨rfl, rfl⟩ | ⟨rfl, e⟩
    · rw [sinQ_s h0 h1 hr]
      exact qk_sin hr1 hr h1
    · rcases Nat.lt_or_ge r 2700000 with hlt | hge
      · rw [sinQ_c (by omega) (by omega), show 5400000 - f = r by omega]
        exact qk_cos hr1 hr
      · obtain rfl : r = 2700000 := by omega
        rw [e, show (5400000 - 2700000 : Nat) = 2700000 from rfl, sinQ_s (by decide) (by decide) (by decide), oct_mid]
        exact qk_cos hr1 hr
  obtain ⟨q, hq⟩ : ∃ q, m / 5400000 = q := ⟨_, rfl⟩
  obtain ⟨r, hr⟩ : ∃ r, m % 5400000 = r := ⟨_, rfl⟩
  rw [hq, hr]
  have hqr : m = 5400000 * q + r ∧ 0 ≤ r ∧ r < 5400000 := by omega
  obtain rfl | rfl | rfl | rfl : q = 0 ∨ q = 1 ∨ q = 2 ∨ q = 3 := by omega
  · rw [if_neg (show ¬ (2 : Int) ≤ 0 by decide), show decide ((0 : Int) % 2 = 1) = false by decide, decide_eq_false (show ¬ 10800000 < m by omega)]
    rw [if_neg (show ¬ 10800000 < m by omega), if_neg (show ¬ 5400000 < m by omega)] at hf
    simp only [Bool.false_eq_true, if_false]
    split
    · exact key _ _ (by omega) (by omega) (.inr ⟨rfl, by omega⟩)
    · exact key _ _ (by omega) (by omega) (.inl ⟨rfl, by omega⟩)
  · rw [if_neg (show ¬ (2 : Int) ≤ 1 by decide), show decide ((1 : Int) % 2 = 1) = true by decide, decide_eq_false (show ¬ 10800000 < m by omega)]
    rw [if_neg (show ¬ 10800000 < m by omega)] at hf
    simp only [Bool.false_eq_true, if_false]
    split
    · rw [if_pos (show 5400000 < m by omega)] at hf
      exact key _ _ (by omega) (by omega) (.inl ⟨rfl, by omega⟩)
    · have : r ≠ 0 := by intro e; rw [if_neg (show ¬ 5400000 < m by omega)] at hf; omega
      rw [if_pos (show 5400000 < m by omega)] at hf
      exact key _ _ (by omega) (by omega) (.inr ⟨rfl, by omega⟩)
  · have hr0 : r ≠ 0 := by
      intro e
      rw [if_neg (show ¬ 10800000 < m by omega), if_pos (show 5400000 < m by omega)] at hf
      omega
    rw [if_pos (show (2 : Int) ≤ 2 by decide), show decide ((2 : Int) % 2 = 1) = false by decide, decide_eq_true (show 10800000 < m by omega)]
    rw [if_pos (show 10800000 < m by omega), if_neg (show ¬ 16200000 < m by omega)] at hf
    simp only [if_true]
    split
    · have := key (5400000 - r).toNat (!false) (by omega) (by omega) (.inr ⟨rfl, by omega⟩)
      omega
    · have := key r.toNat false (by omega) (by omega) (.inl ⟨rfl, by omega⟩)
      omega
  · rw [if_pos (show (2 : Int) ≤ 3 by decide), show decide ((3 : Int) % 2 = 1) = true by decide, decide_eq_true (show 10800000 < m by omega)]
    rw [if_pos (show 10800000 < m by omega)] at hf
    have hr0 : r ≠ 0 := by
      intro e
      rw [if_neg (show ¬ 16200000 < m by omega)] at hf
      omega
    rw [if_pos (show 16200000 < m by omega)] at hf
    simp only [if_true]
    split
    · have := key (5400000 - r).toNat (!true) (by omega) (by omega) (.inl ⟨rfl, by omega⟩)
      omega
    · have := key r.toNat true (by omega) (by omega) (.inr ⟨rfl, by omega⟩)
      omega
theorem qkV_bd {r : Nat} {c : Bool} (h : r ≤ 2700000) : -4611686018427388904 ≤ qkV r c ∧ qkV r c ≤ 4611686018427388904 := by
  have key : ∀ {v : Int} {V : Rat}, Nr ((v : Rat) / m62) V (210 / m62) → 0 ≤ V → V ≤ 1 → -4611686018427388904 ≤ v ∧ v ≤ 4611686018427388904 := by
    intro v V hn h0 h1
    obtain ⟨a, b⟩ := hn
    unfold m62 at a b
    have c1 : (v : Rat) ≤ ((4611686018427388904 : Int) : Rat) := by
      rw [show ((4611686018427388904 : Int) : Rat) = 4611686018427388904 from rfl]
      grind
    have c2 : ((-4611686018427388904 : Int) : Rat) ≤ (v : Rat) := by
      rw [show ((-4611686018427388904 : Int) : Rat) = -4611686018427388904 from rfl]
      grind
    exact ⟨Rat.intCast_le_intCast.1 c2, Rat.intCast_le_intCast.1 c1⟩
  have hx := xi_in (n := r) (by omega)
  cases c
  · have hs := sin_in (n := r) (by omega)
    have h1 : Nr ((qkV r false : Rat) / m62) (sinT r) (210 / m62) := by rw [qkV_sin]; exact quick_sin h
    exact key h1 hs.1 (Rat.le_trans hs.2 (Rat.le_trans hx.2 (by decide +kernel)))
  · have hc := cos_in (n := r) (by omega)
    have h1 : Nr ((qkV r true : Rat) / m62) (cosT r) (210 / m62) := by rw [qkV_cos]; exact quick_cos h
    exact key h1 (Rat.le_trans (by decide +kernel) hc.1) hc.2
theorem ex_val {n : Int} {k : Nat} (hk : k < 12) (h : n % 21600000 = 1800000 * (k : Int)) :
    (k % 3 = 0 → exaQ (foldT n) = true ∧ bLo n = (if k = 3 then 1073741824 else if k = 9 then -1073741824 else 0)) ∧
    (k % 6 = 2 ∨ k % 6 = 4 → exaQ (foldT n) = false) ∧
    (k % 6 = 1 ∨ k % 6 = 5 → exaQ (foldT n) = true ∧ bLo n = (if k < 6 then 536870912 else -536870912)) := by
  have hf : foldT n = if 10800000 < n % 21600000 then (if 16200000 < n % 21600000 then (21600000 - n % 21600000).toNat else (n % 21600000 - 10800000).toNat) else (if 5400000 < n % 21600000 then (10800000 - n % 21600000).toNat else (n % 21600000).toNat) := rfl
  have hs : souB n = decide (10800000 < n % 21600000) := rfl
  rw [h] at hf hs
  have tr : ∀ f v, foldT n = f → exaQ f = true → ((sinQ f : Int) = v) → exaQ (foldT n) = true ∧ bLo n = if souB n then -v else v := by
    intro f v e1 e2 e3
    have e4 : exaQ (foldT n) = true := by rw [e1]; exact e2
    refine ⟨e4, ?_⟩
    rw [(bb_ex e4).2, e1, e3]
  have s0 : ((sinQ 0 : Nat) : Int) = 0 := by rw [sinQ_0]; rfl
  have s1 : ((sinQ 1800000 : Nat) : Int) = 536870912 := by rw [sinQ_h]; rfl
  have s2 : ((sinQ 5400000 : Nat) : Int) = 1073741824 := by rw [sinQ_q]; rfl
  obtain rfl | rfl | rfl | rfl | rfl | rfl | rfl | rfl | rfl | rfl | rfl | rfl : k = 0 ∨ k = 1 ∨ k = 2 ∨ k = 3 ∨ k = 4 ∨ k = 5 ∨ k = 6 ∨ k = 7 ∨ k = 8 ∨ k = 9 ∨ k = 10 ∨ k = 11 := by omega
  all_goals
    refine ⟨fun h1 => ?_, fun h1 => ?_, fun h1 => ?_⟩
    · first
        | (exfalso; revert h1; decide)
        | (have := tr 0 0 hf (by decide) s0; rw [hs] at this; exact this)
        | (have := tr 5400000 1073741824 hf (by decide) s2; rw [hs] at this; exact this)
    · first
        | (exfalso; revert h1; decide)
        | (rw [hf]; decide)
    · first
        | (exfalso; revert h1; decide)
        | (have := tr 1800000 536870912 hf (by decide) s1; rw [hs] at this; exact this)
theorem ex_not {n : Int} (h : n % 21600000 % 1800000 ≠ 0) : exaQ (foldT n) = false := by
  have hf : foldT n = if 10800000 < n % 21600000 then (if 16200000 < n % 21600000 then (21600000 - n % 21600000).toNat else (n % 21600000 - 10800000).toNat) else (if 5400000 < n % 21600000 then (10800000 - n % 21600000).toNat else (n % 21600000).toNat) := rfl
  generalize foldT n = f at *
  unfold exaQ
  simp only [Bool.or_eq_false_iff, beq_eq_false_iff_ne]
  split at hf <;> split at hf <;> omega
end Go.Proofs.YtnnmfdeeicpdlaaGreat
/- The reference's quick side: what it decides is right. No walk. -/
namespace Go.Proofs.YtnnmfdeeicpdlaaGreat

theorem sin_TU {r : Nat} (hr : r ≤ 2700000) : Nr (sinT r) (sinU r) (1 / m62) ∧ Nr (cosT r) (cosU r) (1 / m62) := by
  have hx4 := xi_in (n := r) (by omega)
  have hq := sq_in hx4
  have hs : sml ≤ 1 / m62 := by unfold sml m62; grind
  have h0 : (0 : Rat) ≤ sml := by unfold sml; grind
  have a2 := tay_more hq.1 (by grind) 8 (m := 14) (d := 2) (by decide)
  have a1 := tay_more hq.1 (by grind) 8 (m := 14) (d := 1) (by decide)
  have f2 := facT_sml (d := 2) (by decide +kernel)
  have f1 := facT_sml (d := 1) (by decide +kernel)
  have b2 := ((Nr.refl 1).sub (a2.symm)).mulc hx4.1 (show xi r ≤ 1 by grind) (by have := a2.pos; grind)
  have b1 := (Nr.refl 1).sub a1.symm
  unfold sinT sinU cosT cosU
  exact ⟨b2.le (by grind), b1.le (by grind)⟩
theorem qk_nearU {r : Nat} (hr : r ≤ 2700000) : Nr ((qkV r false : Rat) / m62) (sinU r) (211 / m62) ∧ Nr ((qkV r true : Rat) / m62) (cosU r) (211 / m62) := by
  have h1 := quick_sin hr
  have h2 := quick_cos hr
  rw [← qkV_sin] at h1
  rw [← qkV_cos] at h2
  obtain ⟨g1, g2⟩ := sin_TU hr
  exact ⟨(h1.trans g1).le (by unfold m62; grind), (h2.trans g2).le (by unfold m62; grind)⟩
theorem qck_at {n : Nat} (hn : n < 5400000) : qckV (n : Int) = (if 2700000 < n then qkV (5400000 - n) true else qkV n false) ∧ qckV ((n : Int) + 5400000) = (if 2700000 < n then qkV (5400000 - n) false else qkV n true) := by
  unfold qckV
  rw [show (n : Int) % 21600000 = (n : Int) by omega, show ((n : Int) + 5400000) % 21600000 = (n : Int) + 5400000 by omega]
  rw [show (n : Int) / 5400000 = 0 by omega, show (n : Int) % 5400000 = (n : Int) by omega, show ((n : Int) + 5400000) / 5400000 = 1 by omega, show ((n : Int) + 5400000) % 5400000 = (n : Int) by omega]
  rw [if_neg (show ¬ (2 : Int) ≤ 0 by decide), if_neg (show ¬ (2 : Int) ≤ 1 by decide), show decide ((0 : Int) % 2 = 1) = false by decide, show decide ((1 : Int) % 2 = 1) = true by decide]
  by_cases c : 2700000 < n
  · rw [if_pos (show (2700000 : Int) < (n : Int) by omega), if_pos c, if_pos (show (2700000 : Int) < (n : Int) by omega), if_pos c, show (5400000 - (n : Int)).toNat = 5400000 - n by omega]
    exact ⟨rfl, rfl⟩
  · rw [if_neg (show ¬ (2700000 : Int) < (n : Int) by omega), if_neg c, if_neg (show ¬ (2700000 : Int) < (n : Int) by omega), if_neg c]
    exact ⟨rfl, rfl⟩
theorem qck_nearU {n : Nat} (hn : n < 5400000) : Nr ((qckV (n : Int) : Rat) / m62) (sU n) (211 / m62) ∧ Nr ((qckV ((n : Int) + 5400000) : Rat) / m62) (cU n) (211 / m62) := by
  obtain ⟨e1, e2⟩ := qck_at hn
  rw [e1, e2]
  unfold sU cU
  by_cases c : 2700000 < n
  · rw [if_pos c, if_pos c, if_pos c, if_pos c]
    have := qk_nearU (r := 5400000 - n) (by omega)
    exact ⟨this.2, this.1⟩
  · rw [if_neg c, if_neg c, if_neg c, if_neg c]
    exact qk_nearU (by omega)
theorem xi_low {r : Nat} (h : 1 ≤ r) : 1 / 3438000 ≤ xi r := by
  have h1 : (piD : Rat) ≤ (piN : Rat) * 3438000 := by exact_mod_cast (show piD ≤ piN * 3438000 by decide +kernel)
  have hd : (0 : Rat) < (piD : Rat) := by exact_mod_cast (show 0 < piD by decide +kernel)
  have q1 : 1 / 3438000 ≤ (piN : Rat) / (piD : Rat) := by
    refine Rat.le_of_mul_le_mul_right (c := (piD : Rat)) ?_ hd
    rw [Rat.div_mul_cancel (by grind)]
    grind
  have hr : (1 : Rat) ≤ (r : Rat) := by exact_mod_cast h
  unfold xi
  have := rmul (show (0 : Rat) ≤ 1 by decide) hr (show (0 : Rat) ≤ 1 / 3438000 by grind) q1
  grind
theorem sinU_low {r : Nat} (h : 1 ≤ r) (hr : r ≤ 2700000) : 1 / 6000000 ≤ sinU r ∧ sinU r ≤ 1 := by
  have hx := xi_in (n := r) (by omega)
  have hq := sq_in hx
  obtain ⟨t0, t1⟩ := tay_in hq.1 (by grind) (m := 22) (d := 2) (by decide)
  have hl := xi_low h
  have hs := sinU_in (n := r) (by omega)
  unfold sinU at *
  generalize tay (xi r * xi r) 2 22 = t at *
  have := rmul (show (0 : Rat) ≤ 1 / 3438000 by grind) hl (show (0 : Rat) ≤ 17 / 25 by grind) (show 17 / 25 ≤ 1 - t by grind)
  constructor <;> grind
theorem sU_in {n : Nat} (h : 1 ≤ n) (hn : n < 5400000) : (1 / 6000000 ≤ sU n ∧ sU n ≤ 1) ∧ 1 / 6000000 ≤ cU n ∧ cU n ≤ 1 := by
  unfold sU cU
  by_cases c : 2700000 < n
  · rw [if_pos c, if_pos c]
    have h1 := sinU_low (r := 5400000 - n) (by omega) (by omega)
    have h2 := cosU_in (n := 5400000 - n) (by omega)
    exact ⟨⟨Rat.le_trans (show (1 : Rat) / 6000000 ≤ 17 / 25 by decide +kernel) h2.1, h2.2⟩, h1⟩
  · rw [if_neg c, if_neg c]
    have h1 := sinU_low h (by omega)
    have h2 := cosU_in (n := n) (by omega)
    exact ⟨h1, Rat.le_trans (show (1 : Rat) / 6000000 ≤ 17 / 25 by decide +kernel) h2.1, h2.2⟩
def q62 : Nat := 4611686018427388200
theorem q62_ok : 1 + 211 / 4611686018427387904 ≤ (q62 : Rat) * (1 / 4611686018427387904) := by decide +kernel
theorem icast_le {n : Nat} {v : Int} (h : (v : Rat) ≤ (n : Rat)) : v ≤ (n : Int) := by exact_mod_cast h
theorem qck_pos {v : Int} {u : Rat} (h : Nr ((v : Rat) / m62) u (211 / m62)) (h0 : 1 / 6000000 ≤ u) (h1 : u ≤ 1) : 0 ≤ v ∧ v ≤ (q62 : Int) := by
  obtain ⟨a, b⟩ := h
  have e : (v : Rat) / m62 = (v : Rat) * (1 / 4611686018427387904) := by unfold m62; grind
  rw [e] at a b
  unfold m62 at a b
  have c1 : (0 : Rat) ≤ (v : Rat) := by grind
  have hq := q62_ok
  have c2 : (v : Rat) ≤ (q62 : Rat) := by
    refine Rat.le_of_mul_le_mul_right (c := 1 / 4611686018427387904) ?_ (by grind)
    generalize (q62 : Rat) = q at *
    grind
  exact ⟨by exact_mod_cast c1, icast_le c2⟩
def qsS (n : Nat) : Int := qckV (n : Int) / 4
def qsC (n : Nat) : Int := qckV ((n : Int) + 5400000) / 4
def qsT (n : Nat) (x y : Int) : Int := (x * qsS n - y * qsC n) / 1073741824
def qsM (x y : Int) : Int := (x + y) * 65 / 1073741824 + 2
def qsV (n : Nat) (x y : Int) : Int := if qsM x y < qsT n x y then 1 else if qsT n x y < -(qsM x y) then -1 else 0
theorem div4_near {v : Int} {u : Rat} (h : Nr ((v : Rat) / m62) u (211 / m62)) : Nr (((v / 4 : Int) : Rat) * (1 / 1152921504606846976)) u (54 * (1 / 1152921504606846976)) := by
  obtain ⟨a, b⟩ := h
  have e : (v : Rat) / m62 = (v : Rat) * (1 / 4611686018427387904) := by unfold m62; grind
  rw [e] at a b
  unfold m62 at a b
  have h1 := icast (show v / 4 * 4 ≤ v by omega)
  have h2 := icast (show v ≤ v / 4 * 4 + 3 by omega)
  push_cast at h1 h2
  generalize ((v / 4 : Int) : Rat) = q at *
  constructor <;> grind
theorem qs_ok {n : Nat} (hn : n < 5400000) {x y : Int} (x0 : 0 ≤ x) (y0 : 0 ≤ y) : (qsM x y < qsT n x y → 0 < crU n x y) ∧ (qsT n x y < -(qsM x y) → crU n x y < 0) := by
  obtain ⟨h1, h2⟩ := qck_nearU hn
  have d1 := div4_near h1
  have d2 := div4_near h2
  change Nr ((qsS n : Rat) * _) _ _ at d1
  change Nr ((qsC n : Rat) * _) _ _ at d2
  unfold qsM qsT crU
  generalize qsS n = s at *
  generalize qsC n = c at *
  generalize sU n = su at *
  generalize cU n = cu at *
  clear h1 h2
  obtain ⟨W, hW⟩ : ∃ W, x * s - y * c = W := ⟨_, rfl⟩
  rw [hW]
  have a0 : (0 : Rat) ≤ (x : Rat) := by exact_mod_cast x0
  have b0 : (0 : Rat) ≤ (y : Rat) := by exact_mod_cast y0
  obtain ⟨p1, p2⟩ := d1
  obtain ⟨p3, p4⟩ := d2
  have m1 := Rat.mul_le_mul_of_nonneg_left p1 a0
  have m2 := Rat.mul_le_mul_of_nonneg_left p2 a0
  have m3 := Rat.mul_le_mul_of_nonneg_left p3 b0
  have m4 := Rat.mul_le_mul_of_nonneg_left p4 b0
  have hWr : (W : Rat) = (x : Rat) * (s : Rat) - (y : Rat) * (c : Rat) := by rw [← hW]; push_cast; rfl
  generalize (s : Rat) = s' at *
  generalize (c : Rat) = c' at *
  constructor
  · intro h
    have hb := icast (show (x + y) * 65 + 1 ≤ W by omega)
    push_cast at hb
    rw [hWr] at hb
    generalize (x : Rat) = x' at *
    generalize (y : Rat) = y' at *
    grind
  · intro h
    have hb := icast (show W ≤ -((x + y) * 65) - 1 by omega)
    push_cast at hb
    rw [hWr] at hb
    generalize (x : Rat) = x' at *
    generalize (y : Rat) = y' at *
    grind
theorem qs_split (x y s c : Int) : x * (s / 1073741824) - y * (c / 1073741824) + (x * (s % 1073741824) - y * (c % 1073741824)) / 1073741824 = (x * s - y * c) / 1073741824 := by
  have e1 := Int.mul_ediv_add_emod s 1073741824
  have e2 := Int.mul_ediv_add_emod c 1073741824
  have e : x * s - y * c = (x * (s % 1073741824) - y * (c % 1073741824)) + 1073741824 * (x * (s / 1073741824) - y * (c / 1073741824)) := by
    generalize s / 1073741824 = a at *
    generalize s % 1073741824 = b at *
    generalize c / 1073741824 = d at *
    generalize c % 1073741824 = f at *
    rw [← e1, ← e2]
    grind
  rw [e, Int.add_mul_ediv_left _ _ (by decide)]
  omega
end Go.Proofs.YtnnmfdeeicpdlaaGreat
/- The reference's sine: exact values. -/
namespace Go.Proofs.YtnnmfdeeicpdlaaGreat
open Go.RowKit

theorem mod12 {n : Int} (h : n % 21600000 % 1800000 = 0) : ∃ k : Nat, k < 12 ∧ n % 21600000 = 1800000 * (k : Int) :=
  ⟨(n % 21600000 / 1800000).toNat, by omega, by omega⟩
set_option maxHeartbeats 4000000 in
set_option maxRecDepth 100000 in
theorem r6_Exact (n : Int) (w : World) :
    Calls Tryz.prog 292 #[.int .i64 n] w fun e w' => e = .returned (.tuple #[.int .i64 (if exaQ (foldT n) then bLo n else 0), .bool (exaQ (foldT n))]) ∧ ∃ d, w' = bw w d := by
  refine lay_start ?_
  have hc := tmod_turn n
  obtain ⟨t, ht⟩ : ∃ t, n.tmod 21600000 = t := ⟨_, rfl⟩
  rw [ht] at hc
  have kt : IntKind.i64.wrap t = t := IntWalk.i64_in _ (by omega)
  by_cases h0 : n % 21600000 % 1800000 = 0
  · obtain ⟨k, hk, hm⟩ := mod12 h0
    obtain ⟨v1, v2, v3⟩ := ex_val hk hm
    have hc2 : t = 1800000 * (k : Int) ∨ t = 1800000 * (k : Int) - 21600000 := by omega
    clear h0 hm hc
    generalize exaQ (foldT n) = x at *
    generalize bLo n = b at *
    obtain rfl | rfl | rfl | rfl | rfl | rfl | rfl | rfl | rfl | rfl | rfl | rfl : k = 0 ∨ k = 1 ∨ k = 2 ∨ k = 3 ∨ k = 4 ∨ k = 5 ∨ k = 6 ∨ k = 7 ∨ k = 8 ∨ k = 9 ∨ k = 10 ∨ k = 11 := by omega
    all_goals
      first
        | (obtain ⟨e1, e2⟩ := v1 rfl; simp only [Nat.reduceEqDiff, if_true, if_false] at e2; subst e1; subst e2)
        | (have e1 := v2 (.inl rfl); subst e1)
        | (have e1 := v2 (.inr rfl); subst e1)
        | (obtain ⟨e1, e2⟩ := v3 (.inl rfl); simp only [Nat.reduceLT, if_true, if_false] at e2; subst e1; subst e2)
        | (obtain ⟨e1, e2⟩ := v3 (.inr rfl); simp only [Nat.reduceLT, if_true, if_false] at e2; subst e1; subst e2)
      clear v1 v2 v3 hk
      simp at hc2
      rcases hc2 with rfl | rfl
      all_goals
        go_enter Tryz.func292, Tryz.ntmps292
        go_wp2_with fail
        go_ret2
        exact ⟨rfl, lay_ex _ _⟩
  · have hx := ex_not h0
    rw [hx]
    obtain ⟨m, hm⟩ : ∃ m, n % 21600000 = m := ⟨_, rfl⟩
    rw [hm] at hc h0
    have hm2 : 0 ≤ m ∧ m < 21600000 := by omega
    have e1 : m.tmod 1800000 = m % 1800000 := Int.tmod_eq_emod_of_nonneg hm2.1
    obtain ⟨u, hu⟩ : ∃ u, m % 1800000 = u := ⟨_, rfl⟩
    rw [hu] at e1 h0
    have ku : IntKind.i64.wrap u = u := IntWalk.i64_in _ (by omega)
    have z1 : (u != 0) = true := bne_iff_ne.2 h0
    have z2 : (u == 0) = false := beq_eq_false_iff_ne.2 h0
    rcases hc with hc | ⟨hc, hc2⟩
    · subst hc
      have h1 : ¬ t < 0 := by omega
      clear hx hm2 ku
      go_enter Tryz.func292, Tryz.ntmps292
      go_wp2_with fail
      go_ret2
      exact ⟨rfl, lay_ex _ _⟩
    · have km : IntKind.i64.wrap m = m := IntWalk.i64_in _ (by omega)
      clear hx hm2 ku
      go_enter Tryz.func292, Tryz.ntmps292
      go_wp2_with fail
      go_ret2
      exact ⟨rfl, lay_ex _ _⟩
end Go.Proofs.YtnnmfdeeicpdlaaGreat
/- The reference's quick sine of any angle, its floor, its ends. -/
namespace Go.Proofs.YtnnmfdeeicpdlaaGreat
set_option maxHeartbeats 4000000
set_option maxRecDepth 100000
open Go.RowKit

theorem r6_Quick (n : Int) (w : World) :
    Calls Tryz.prog 293 #[.int .i64 n] w fun e w' => e = .returned (.int .i64 (qckV n)) ∧ ∃ d, w' = bw w d := by
  refine lay_start ?_
  have hc := tmod_turn n
  obtain ⟨t, ht⟩ : ∃ t, n.tmod 21600000 = t := ⟨_, rfl⟩
  rw [ht] at hc
  unfold qckV
  obtain ⟨m, hm⟩ : ∃ m, n % 21600000 = m := ⟨_, rfl⟩
  rw [hm] at hc ⊢
  have hm2 : 0 ≤ m ∧ m < 21600000 := by omega
  have kt : IntKind.i64.wrap t = t := IntWalk.i64_in _ (by omega)
  have km : IntKind.i64.wrap m = m := IntWalk.i64_in _ (by omega)
  have eq : m.tdiv 5400000 = m / 5400000 := Int.tdiv_eq_ediv_of_nonneg hm2.1
  have er : m.tmod 5400000 = m % 5400000 := Int.tmod_eq_emod_of_nonneg hm2.1
  have hqr : 5400000 * (m / 5400000) + m % 5400000 = m := by omega
  obtain ⟨q, hq⟩ : ∃ q, m / 5400000 = q := ⟨_, rfl⟩
  obtain ⟨r, hr⟩ : ∃ r, m % 5400000 = r := ⟨_, rfl⟩
  rw [hq, hr] at hqr ⊢
  rw [hq] at eq
  rw [hr] at er
  have hq2 : 0 ≤ q ∧ q ≤ 3 := by omega
  have hr2 : 0 ≤ r ∧ r < 5400000 := by omega
  have kr : IntKind.i64.wrap r = r := IntWalk.i64_in _ (by omega)
  obtain ⟨s, hs⟩ : ∃ s, 5400000 - r = s := ⟨_, rfl⟩
  have ks : IntKind.i64.wrap s = s := IntWalk.i64_in _ (by omega)
  rw [hs]
  have hst : t = m ∧ ¬ t < 0 ∨ t < 0 ∧ t + 21600000 = m := by omega
  by_cases hb : 2700000 < r
  · rw [if_pos hb]
    have Hq : ∀ c, Hid (∀ W, Calls Tryz.prog 334 #[.int .i64 s, .bool c] W fun e w' => e = .returned (.int .i64 (qkV s.toNat c)) ∧ ∃ d, w' = bw W d) := fun c => Lib.hid fun W => by
      have := r6_quick s.toNat c W (by omega)
      rwa [show ((s.toNat : Nat) : Int) = s by omega] at this
    have hv : ∀ c, -4611686018427388904 ≤ qkV s.toNat c ∧ qkV s.toNat c ≤ 4611686018427388904 := fun c => qkV_bd (by omega)
    have g := decide_eq_true hb
    generalize s.toNat = sn at *
    clear hm2 hc hqr hr2
    have hq4 : (q = 0 ∨ q = 2) ∨ (q = 1 ∨ q = 3) := by omega
    rcases hq4 with hq4 | hq4
    · have H := Hq true
      have hvv := hv true
      clear Hq hv hq hq2
      rcases hq4 with rfl | rfl
      all_goals
        simp only [Int.reduceMod, Int.reduceEq, decide_false, Bool.not_false, Int.reduceLE, if_true, if_false]
        generalize qkV sn true = V at *
        have kV : IntKind.i64.wrap (-V) = -V := IntWalk.i64_in _ (by omega)
        clear hvv
        rcases hst with ⟨rfl, h1⟩ | ⟨h1, h2⟩
        all_goals
          go_enter Tryz.func293, Tryz.ntmps293
          go_wp2_with (go_at_call 334; refine (H.out _).mono ?_; rintro e w' ⟨rfl, d1, rfl⟩)
          go_ret
          exact ⟨rfl, lay_ex _ _⟩
    · have H := Hq false
      have hvv := hv false
      clear Hq hv hq hq2
      rcases hq4 with rfl | rfl
      all_goals
        simp only [Int.reduceMod, decide_true, Bool.not_true, Int.reduceLE, if_true, if_false]
        generalize qkV sn false = V at *
        have kV : IntKind.i64.wrap (-V) = -V := IntWalk.i64_in _ (by omega)
        clear hvv
        rcases hst with ⟨rfl, h1⟩ | ⟨h1, h2⟩
        all_goals
          go_enter Tryz.func293, Tryz.ntmps293
          go_wp2_with (go_at_call 334; refine (H.out _).mono ?_; rintro e w' ⟨rfl, d1, rfl⟩)
          go_ret
          exact ⟨rfl, lay_ex _ _⟩
  · rw [if_neg hb]
    have Hq : ∀ c, Hid (∀ W, Calls Tryz.prog 334 #[.int .i64 r, .bool c] W fun e w' => e = .returned (.int .i64 (qkV r.toNat c)) ∧ ∃ d, w' = bw W d) := fun c => Lib.hid fun W => by
      have := r6_quick r.toNat c W (by omega)
      rwa [show ((r.toNat : Nat) : Int) = r by omega] at this
    have hv : ∀ c, -4611686018427388904 ≤ qkV r.toNat c ∧ qkV r.toNat c ≤ 4611686018427388904 := fun c => qkV_bd (by omega)
    have g := decide_eq_false hb
    generalize r.toNat = sn at *
    clear hm2 hc hqr hr2
    have hq4 : (q = 0 ∨ q = 2) ∨ (q = 1 ∨ q = 3) := by omega
    rcases hq4 with hq4 | hq4
    · have H := Hq false
      have hvv := hv false
      clear Hq hv hq hq2
      rcases hq4 with rfl | rfl
      all_goals
        simp only [Int.reduceMod, Int.reduceEq, decide_false, Int.reduceLE, if_true, if_false]
        generalize qkV sn false = V at *
        have kV : IntKind.i64.wrap (-V) = -V := IntWalk.i64_in _ (by omega)
        clear hvv
        rcases hst with ⟨rfl, h1⟩ | ⟨h1, h2⟩
        all_goals
          go_enter Tryz.func293, Tryz.ntmps293
          go_wp2_with (go_at_call 334; refine (H.out _).mono ?_; rintro e w' ⟨rfl, d1, rfl⟩)
          go_ret
          exact ⟨rfl, lay_ex _ _⟩
    · have H := Hq true
      have hvv := hv true
      clear Hq hv hq hq2
      rcases hq4 with rfl | rfl
      all_goals
        simp only [Int.reduceMod, decide_true, Int.reduceLE, if_true, if_false]
        generalize qkV sn true = V at *
        have kV : IntKind.i64.wrap (-V) = -V := IntWalk.i64_in _ (by omega)
        clear hvv
        rcases hst with ⟨rfl, h1⟩ | ⟨h1, h2⟩
        all_goals
          go_enter Tryz.func293, Tryz.ntmps293
          go_wp2_with (go_at_call 334; refine (H.out _).mono ?_; rintro e w' ⟨rfl, d1, rfl⟩)
          go_ret
          exact ⟨rfl, lay_ex _ _⟩
theorem r6_Floor (n : Int) (w : World) :
    Calls Tryz.prog 248 #[.int .i64 n] w fun e w' => e = .returned (.tuple #[.int .i64 (bLo n), .bool (exaQ (foldT n))]) ∧ ∃ d, w' = bw w d := by
  have HE := Lib.hid (fun W => r6_Exact n W)
  have HQ := Lib.hid (fun W => r6_Quick n W)
  have hcl := @qck_cell n
  refine lay_start ?_
  generalize exaQ (foldT n) = x at *
  generalize qckV n = v at *
  have hbl := bLo_in n
  generalize bLo n = b at *
  cases x
  · obtain ⟨h1, h2⟩ := hcl rfl
    rw [if_neg (by decide)] at HE
    obtain ⟨v1, hv1⟩ : ∃ v1, v - 256 = v1 := ⟨_, rfl⟩
    obtain ⟨v2, hv2⟩ : ∃ v2, v + 256 = v2 := ⟨_, rfl⟩
    have k1 : IntKind.i64.wrap v1 = v1 := IntWalk.i64_in _ (by omega)
    have k2 : IntKind.i64.wrap v2 = v2 := IntWalk.i64_in _ (by omega)
    have s1 : v1 / 4294967296 = b := by omega
    have s2 : v2 / 4294967296 = b := by omega
    have s3 : v / 4294967296 = b := by omega
    clear h1 h2 hcl
    go_enter Tryz.func248, Tryz.ntmps248
    go_wp2_with (first | (go_at_call 292; refine (HE.out _).mono ?_; rintro e w' ⟨rfl, d1, rfl⟩) | (go_at_call 293; refine (HQ.out _).mono ?_; rintro e w' ⟨rfl, d2, rfl⟩))
    go_ret2
    exact ⟨rfl, lay_ex _ _⟩
  · rw [if_pos rfl] at HE
    clear hcl
    go_enter Tryz.func248, Tryz.ntmps248
    go_wp2_with (first | (go_at_call 292; refine (HE.out _).mono ?_; rintro e w' ⟨rfl, d1, rfl⟩))
    go_ret2
    exact ⟨rfl, lay_ex _ _⟩
theorem r6_ends (n : Int) (w : World) :
    Calls Tryz.prog 197 #[.int .i64 n] w fun e w' => e = .returned (.tuple #[.int .i64 (bLo n), .int .i64 (bHi n)]) ∧ ∃ d, w' = bw w d := by
  have HF := Lib.hid (fun W => r6_Floor n W)
  have h1 := @bb_no n
  have h2 := @bb_ex n
  have hbl := bLo_in n
  refine lay_start ?_
  generalize exaQ (foldT n) = x at *
  generalize bLo n = b at *
  generalize bHi n = c at *
  cases x
  · have e := (h1 rfl).1
    subst e
    clear h1 h2
    have k1 : IntKind.i64.wrap (b + 1) = b + 1 := IntWalk.i64_in _ (by omega)
    go_enter Tryz.func197, Tryz.ntmps197
    go_wp2_with (go_at_call 248; refine (HF.out _).mono ?_; rintro e w' ⟨rfl, d1, rfl⟩)
    go_ret2
    exact ⟨rfl, lay_ex _ _⟩
  · have e := (h2 rfl).1
    subst e
    clear h1 h2
    go_enter Tryz.func197, Tryz.ntmps197
    go_wp2_with (go_at_call 248; refine (HF.out _).mono ?_; rintro e w' ⟨rfl, d1, rfl⟩)
    go_ret2
    exact ⟨rfl, lay_ex _ _⟩
end Go.Proofs.YtnnmfdeeicpdlaaGreat
/- The reference's quick side. -/
namespace Go.Proofs.YtnnmfdeeicpdlaaGreat
open Go.RowKit

theorem i64_and30 (n : Int) : bits .and .i64 n 1073741823 = n % 1073741824 := by
  have h127 : (BitVec.ofInt 64 1073741823).toNat = 2 ^ 30 - 1 := by decide
  have key : (BitVec.ofInt 64 n &&& BitVec.ofInt 64 1073741823).toNat = (n % ((2 ^ 64 : Nat) : Int)).toNat % 2 ^ 30 := by
    rw [BitVec.toNat_and, BitVec.toNat_ofInt, h127, Nat.and_two_pow_sub_one_eq_mod]
  show IntKind.i64.wrap ((BitVec.ofInt 64 n &&& BitVec.ofInt 64 1073741823).toNat : Nat) = n % 1073741824
  rw [key, IntKind.wrap_i64]
  omega
set_option maxHeartbeats 4000000 in
set_option maxRecDepth 100000 in
theorem r6_quickSide (n : Nat) (x y : Int) (w : World) (h1 : 1 ≤ n) (hn : n < 5400000) (x0 : 0 ≤ x) (x1 : x ≤ 2147483648) (y0 : 0 ≤ y) (y1 : y ≤ 2147483648) :
    Calls Tryz.prog 304 #[.int .i64 (n : Int), .int .i64 x, .int .i64 y] w fun e w' => e = .returned (.int .i64 (qsV n x y)) ∧ ∃ d, w' = bw w d := by
  obtain ⟨g1, g2⟩ := qck_nearU hn
  obtain ⟨⟨s1, s2⟩, c1, c2⟩ := sU_in h1 hn
  obtain ⟨a1, a2⟩ := qck_pos g1 s1 s2
  obtain ⟨b1, b2⟩ := qck_pos g2 c1 c2
  have hq : (q62 : Int) = 4611686018427388200 := rfl
  have HQ1 := Lib.hid (fun W => r6_Quick (n : Int) W)
  have HQ2 := Lib.hid (fun W => r6_Quick ((n : Int) + 5400000) W)
  have kn2 : IntKind.i64.wrap ((n : Int) + 5400000) = (n : Int) + 5400000 := IntWalk.i64_in _ (by omega)
  have hT : qsT n x y = x * (qsS n / 1073741824) - y * (qsC n / 1073741824) + (x * (qsS n % 1073741824) - y * (qsC n % 1073741824)) / 1073741824 := (qs_split x y (qsS n) (qsC n)).symm
  have eS : qckV (n : Int) / 4 = qsS n := rfl
  have eC : qckV ((n : Int) + 5400000) / 4 = qsC n := rfl
  unfold qsV
  generalize qckV (n : Int) = QS at *
  generalize qckV ((n : Int) + 5400000) = QC at *
  generalize qsS n = S at *
  generalize qsC n = C at *
  generalize qsT n x y = T at *
  have aS := i64_and30 S
  have aC := i64_and30 C
  have kS : IntKind.i64.wrap S = S := IntWalk.i64_in _ (by omega)
  have kC : IntKind.i64.wrap C = C := IntWalk.i64_in _ (by omega)
  obtain ⟨S1, hS1⟩ : ∃ v, S / 1073741824 = v := ⟨_, rfl⟩
  obtain ⟨C1, hC1⟩ : ∃ v, C / 1073741824 = v := ⟨_, rfl⟩
  obtain ⟨S0, hS0⟩ : ∃ v, S % 1073741824 = v := ⟨_, rfl⟩
  obtain ⟨C0, hC0⟩ : ∃ v, C % 1073741824 = v := ⟨_, rfl⟩
  rw [hS0] at aS
  rw [hC0] at aC
  rw [hS1, hC1, hS0, hC0] at hT
  have bS : 0 ≤ S1 ∧ S1 ≤ 1073741824 ∧ 0 ≤ S0 ∧ S0 ≤ 1073741824 := by omega
  have bC : 0 ≤ C1 ∧ C1 ≤ 1073741824 ∧ 0 ≤ C0 ∧ C0 ≤ 1073741824 := by omega
  have kS1 : IntKind.i64.wrap S1 = S1 := IntWalk.i64_in _ (by omega)
  have kC1 : IntKind.i64.wrap C1 = C1 := IntWalk.i64_in _ (by omega)
  have bb : ∀ {u v : Int}, 0 ≤ u → u ≤ 2147483648 → 0 ≤ v → v ≤ 1073741824 → 0 ≤ u * v ∧ u * v ≤ 2305843009213693952 := fun {u v} h1 h2 h3 h4 =>
    ⟨Int.mul_nonneg h1 h3, by have := Int.mul_le_mul h2 h4 h3 (show (0 : Int) ≤ 2147483648 by decide); omega⟩
  have e1 := bb x0 x1 bS.1 bS.2.1
  have e2 := bb y0 y1 bC.1 bC.2.1
  have e3 := bb x0 x1 bS.2.2.1 bS.2.2.2
  have e4 := bb y0 y1 bC.2.2.1 bC.2.2.2
  obtain ⟨p1, hp1⟩ : ∃ v, x * S1 = v := ⟨_, rfl⟩
  obtain ⟨p2, hp2⟩ : ∃ v, y * C1 = v := ⟨_, rfl⟩
  obtain ⟨p4, hp4⟩ : ∃ v, x * S0 = v := ⟨_, rfl⟩
  obtain ⟨p5, hp5⟩ : ∃ v, y * C0 = v := ⟨_, rfl⟩
  rw [hp1, hp2, hp4, hp5] at hT
  rw [hp1] at e1
  rw [hp2] at e2
  rw [hp4] at e3
  rw [hp5] at e4
  obtain ⟨p3, hp3⟩ : ∃ v, p1 - p2 = v := ⟨_, rfl⟩
  obtain ⟨p6, hp6⟩ : ∃ v, p4 - p5 = v := ⟨_, rfl⟩
  rw [hp3, hp6] at hT
  obtain ⟨p7, hp7⟩ : ∃ v, p6 / 1073741824 = v := ⟨_, rfl⟩
  rw [hp7] at hT
  have k1 : IntKind.i64.wrap p1 = p1 := IntWalk.i64_in _ (by omega)
  have k2 : IntKind.i64.wrap p2 = p2 := IntWalk.i64_in _ (by omega)
  have k3 : IntKind.i64.wrap p3 = p3 := IntWalk.i64_in _ (by omega)
  have k4 : IntKind.i64.wrap p4 = p4 := IntWalk.i64_in _ (by omega)
  have k5 : IntKind.i64.wrap p5 = p5 := IntWalk.i64_in _ (by omega)
  have k6 : IntKind.i64.wrap p6 = p6 := IntWalk.i64_in _ (by omega)
  have k7 : IntKind.i64.wrap p7 = p7 := IntWalk.i64_in _ (by omega)
  have kT : IntKind.i64.wrap T = T := IntWalk.i64_in _ (by omega)
  have kx : IntKind.i64.wrap (-x) = -x := IntWalk.i64_in _ (by omega)
  have ky : IntKind.i64.wrap (-y) = -y := IntWalk.i64_in _ (by omega)
  have mx1 : mx x (-x) = x := by rw [mx_eq]; omega
  have my1 : mx y (-y) = y := by rw [mx_eq]; omega
  have mx2 : max x (-x) = x := by omega
  have my2 : max y (-y) = y := by omega
  obtain ⟨Z, hZ⟩ : ∃ v, x + y = v := ⟨_, rfl⟩
  obtain ⟨Z65, hZ65⟩ : ∃ v, Z * 65 = v := ⟨_, rfl⟩
  obtain ⟨m, hm⟩ : ∃ v, Z65 / 1073741824 = v := ⟨_, rfl⟩
  obtain ⟨M, hM⟩ : ∃ v, m + 2 = v := ⟨_, rfl⟩
  have eM : qsM x y = M := by unfold qsM; rw [hZ, hZ65, hm, hM]
  rw [eM]
  have kZ : IntKind.i64.wrap Z = Z := IntWalk.i64_in _ (by omega)
  have kZ65 : IntKind.i64.wrap Z65 = Z65 := IntWalk.i64_in _ (by omega)
  have km : IntKind.i64.wrap m = m := IntWalk.i64_in _ (by omega)
  have kM : IntKind.i64.wrap M = M := IntWalk.i64_in _ (by omega)
  have kM2 : IntKind.i64.wrap (-M) = -M := IntWalk.i64_in _ (by omega)
  replace hT := hT.symm
  clear g1 g2 s1 s2 c1 c2 a1 a2 b1 b2 hq eM bS bC bb e1 e2 e3 e4 x0 x1 y0 y1 hn h1
  by_cases t1 : M < T
  · rw [if_pos t1]
    refine lay_start ?_
    go_enter Tryz.func304, Tryz.ntmps304
    go_wp2_with (go_at_call 293; first | ((with_reducible refine (HQ1.out _).mono ?_); rintro e w' ⟨rfl, d1, rfl⟩; rw [lay_bw]) | ((with_reducible refine (HQ2.out _).mono ?_); rintro e w' ⟨rfl, d2, rfl⟩; rw [lay_bw]))
    go_ret
    exact ⟨rfl, lay_ex _ _⟩
  · rw [if_neg t1]
    have u1 : decide (M < T) = false := decide_eq_false t1
    clear t1
    by_cases t2 : T < -M
    · rw [if_pos t2]
      have u2 : decide (T < -M) = true := decide_eq_true t2
      clear t2
      refine lay_start ?_
      go_enter Tryz.func304, Tryz.ntmps304
      go_wp2_with (go_at_call 293; first | ((with_reducible refine (HQ1.out _).mono ?_); rintro e w' ⟨rfl, d1, rfl⟩; rw [lay_bw]) | ((with_reducible refine (HQ2.out _).mono ?_); rintro e w' ⟨rfl, d2, rfl⟩; rw [lay_bw]))
      go_ret
      exact ⟨rfl, lay_ex _ _⟩
    · rw [if_neg t2]
      have u2 : decide (T < -M) = false := decide_eq_false t2
      clear t2
      refine lay_start ?_
      go_enter Tryz.func304, Tryz.ntmps304
      go_wp2_with (go_at_call 293; first | ((with_reducible refine (HQ1.out _).mono ?_); rintro e w' ⟨rfl, d1, rfl⟩; rw [lay_bw]) | ((with_reducible refine (HQ2.out _).mono ?_); rintro e w' ⟨rfl, d2, rfl⟩; rw [lay_bw]))
      go_ret
      exact ⟨rfl, lay_ex _ _⟩
end Go.Proofs.YtnnmfdeeicpdlaaGreat
/- The reference's numbers of digits: Down. -/
namespace Go.Proofs.YtnnmfdeeicpdlaaGreat
open Go.RowKit

end Go.Proofs.YtnnmfdeeicpdlaaGreat
/- Regions that draw their order, by a schedule that may branch in two: where two operations that make memory are ready, each may come first. No program in sight. -/
namespace Go.Proofs.YtnnmfdeeicpdlaaGreat
open Go.RowKit

inductive Sch where
  | done : Sch
  | q : Nat → Sch → Sch
  | one : Nat → Sch → Sch
  | two : Nat → Sch → Nat → Sch → Sch
section
variable {P : Program} {md : Region.Mode} {κ : Type} {Cl : κ → World} {l : List Oper} {ops : Array Oper}

def spB (P : Program) (l : List Oper) (ops : Array Oper) (Cl : κ → World) (i : Nat) (X : Act → World → Prop) (a : Act) (w : World) : Prop :=
  ∃ o, l[i]? = some o ∧ ∀ d, (if Region.wanted o (yielded ops a.tmps) then sOp P o a (fun a' w' => (∃ k, w' = Cl k) ∧ X a' w') (bw w d) else (∃ k, bw w d = Cl k) ∧ X (a.put o.dst undef) (bw w d))
def wpMB (P : Program) (l : List Oper) (ops : Array Oper) (Cl : κ → World) (Q : Act → World → Prop) : Sch → Act → World → Prop
  | .done, a, w => ∀ d, Q a (bw w d)
  | .q i s, a, w => ∃ o, l[i]? = some o ∧ (if Region.wanted o (yielded ops a.tmps) then mOp P Cl o a (fun a' => wpMB P l ops Cl Q s a' w) else wpMB P l ops Cl Q s (a.put o.dst undef) w)
  | .one i s, a, w => spB P l ops Cl i (wpMB P l ops Cl Q s) a w
  | .two i s j t, a, w => spB P l ops Cl i (wpMB P l ops Cl Q s) a w ∧ spB P l ops Cl j (wpMB P l ops Cl Q t) a w
def lexMB (md : Region.Mode) (ops : Array Oper) (n g : Nat) : Nat → Sch → Array Bool → Bool
  | 0, .done, listed => Region.seqB md ops g n listed
  | f + 1, .q i s, listed => decide (i < n) && (Region.ready md ops listed).contains i && Region.free md ops listed i && lexMB md ops n g f s (listed.setIfInBounds i true)
  | f + 1, .one i s, listed => decide (i < n) && decide (Region.ready md ops listed = [i]) && lexMB md ops n g f s (listed.setIfInBounds i true)
  | f + 1, .two i s j t, listed => decide (i < n) && decide (j < n) && decide (Region.ready md ops listed = [i, j]) && lexMB md ops n g f s (listed.setIfInBounds i true) && lexMB md ops n g f t (listed.setIfInBounds j true)
  | _, _, _ => false

theorem mixT_of_wpMB {n g : Nat} {Lq : Act → World → Prop} (hCl : ∀ k d, ∃ k', bw (Cl k) d = Cl k') (hl : ∀ j : Nat, l[j]? = ops[j]?) (hsel : Region.noSelect ops = true) (hs : Region.sinkB md ops n = true) (hc : Region.chainB md ops n = true) (hn : n < ops.size) :
    ∀ (f : Nat) (s : Sch) (listed : Array Bool) (a : Act) (w : World), HeadInv md ops n listed → (∃ k, w = Cl k) → lexMB md ops n g f s listed = true →
    wpMB P l ops Cl Lq s a w → mixT P md ops Cl n (fun listed' a' w' => Region.seqB md ops g n listed' = true ∧ Lq a' w') f listed a w
  | 0, .done, listed, a, w, inv, hw, hB, h => fun d => ⟨hB, h d⟩
  | f + 1, .q k s, listed, a, w, inv, hw, hB, h => by
    simp only [lexMB, Bool.and_eq_true, decide_eq_true_eq] at hB
    obtain ⟨⟨⟨hkn, hr⟩, hf⟩, hB'⟩ := hB
    obtain ⟨o, ho, h⟩ := h
    have h0 : ops[k]? = some o := (hl k).symm.trans ho
    have hr' : k ∈ Region.ready md ops listed := by simpa using hr
    have hy : ∃ v, YieldsM P ops Cl o v a ∧ wpMB P l ops Cl Lq s (a.put o.dst v) w := by
      by_cases hw1 : Region.wanted o (yielded ops a.tmps) = true
      · rw [if_pos hw1] at h
        obtain ⟨v, h1, h2⟩ := h
        exact ⟨v, .inl ⟨hw1, h1⟩, h2⟩
      · rw [if_neg hw1] at h
        exact ⟨undef, .inr ⟨by simpa using hw1, rfl⟩, h⟩
    obtain ⟨v, hy, hK⟩ := hy
    exact mixT_first hCl h0 (Region.noSelect_spec hsel) hs hc hn hkn (fun _ _ _ hL => seqB_ready hL.1) f listed a w hw inv (Region.free_spec h0 hf) hr' hy
      (mixT_of_wpMB hCl hl hsel hs hc hn f s _ _ w (inv.set hr' hkn) hw hB' hK)
  | f + 1, .one k s, listed, a, w, inv, hw, hB, h => by
    simp only [lexMB, Bool.and_eq_true, decide_eq_true_eq] at hB
    obtain ⟨⟨hkn, hr⟩, hB'⟩ := hB
    obtain ⟨o, ho, h⟩ := h
    have h0 : ops[k]? = some o := (hl k).symm.trans ho
    have inv' := inv.set (i := k) (by rw [hr]; simp) hkn
    refine ⟨by rw [hr]; simp, fun i hi => ?_⟩
    rw [hr] at hi
    obtain rfl : i = k := by simpa using hi
    refine ⟨hkn, fun d => ?_⟩
    have hd := h d
    rw [oneOp_some h0]
    split
    · rename_i hw1; rw [if_pos hw1] at hd
      exact sOp_mono (fun a' w' hk' => ⟨hk'.1, mixT_of_wpMB hCl hl hsel hs hc hn f s _ _ w' inv' hk'.1 hB' hk'.2⟩) hd
    · rename_i hw1; rw [if_neg hw1] at hd
      exact ⟨hd.1, mixT_of_wpMB hCl hl hsel hs hc hn f s _ _ _ inv' hd.1 hB' hd.2⟩
  | f + 1, .two k s j t, listed, a, w, inv, hw, hB, h => by
    simp only [lexMB, Bool.and_eq_true, decide_eq_true_eq] at hB
    obtain ⟨⟨⟨⟨hkn, hjn⟩, hr⟩, hB1⟩, hB2⟩ := hB
    obtain ⟨⟨o1, ho1, h1⟩, o2, ho2, h2⟩ := h
    have e1 : ops[k]? = some o1 := (hl k).symm.trans ho1
    have e2 : ops[j]? = some o2 := (hl j).symm.trans ho2
    have inv1 := inv.set (i := k) (by rw [hr]; simp) hkn
    have inv2 := inv.set (i := j) (by rw [hr]; simp) hjn
    refine ⟨by rw [hr]; simp, fun i hi => ?_⟩
    rw [hr] at hi
    have hi' : i = k ∨ i = j := by simpa using hi
    rcases hi' with rfl | rfl
    · refine ⟨hkn, fun d => ?_⟩
      have hd := h1 d
      rw [oneOp_some e1]
      split
      · rename_i hw1; rw [if_pos hw1] at hd
        exact sOp_mono (fun a' w' hk' => ⟨hk'.1, mixT_of_wpMB hCl hl hsel hs hc hn f s _ _ w' inv1 hk'.1 hB1 hk'.2⟩) hd
      · rename_i hw1; rw [if_neg hw1] at hd
        exact ⟨hd.1, mixT_of_wpMB hCl hl hsel hs hc hn f s _ _ _ inv1 hd.1 hB1 hd.2⟩
    · refine ⟨hjn, fun d => ?_⟩
      have hd := h2 d
      rw [oneOp_some e2]
      split
      · rename_i hw1; rw [if_pos hw1] at hd
        exact sOp_mono (fun a' w' hk' => ⟨hk'.1, mixT_of_wpMB hCl hl hsel hs hc hn f t _ _ w' inv2 hk'.1 hB2 hk'.2⟩) hd
      · rename_i hw1; rw [if_neg hw1] at hd
        exact ⟨hd.1, mixT_of_wpMB hCl hl hsel hs hc hn f t _ _ _ inv2 hd.1 hB2 hd.2⟩
  | 0, .q _ _, _, _, _, _, _, hB, _ => by simp [lexMB] at hB
  | 0, .one _ _, _, _, _, _, _, hB, _ => by simp [lexMB] at hB
  | 0, .two _ _ _ _, _, _, _, _, _, hB, _ => by simp [lexMB] at hB
  | _ + 1, .done, _, _, _, _, _, hB, _ => by simp [lexMB] at hB

theorem region_mixB {id : Nat} {Q : Exit → Act → World → Prop} {a : Act} {w : World} {l : List Oper} (n : Nat) (s : Sch) (hm : P.follows .mixedOrders = true) (hsel : Region.noSelect l.toArray = true)
    (hs : Region.sinkB .any l.toArray n = true) (hc : Region.chainB .any l.toArray n = true) (hn : n < l.toArray.size)
    (hB : lexMB .any l.toArray n (l.toArray.size - n) n s (Array.replicate l.toArray.size false) = true)
    (h : wpMB P l l.toArray (fun d => bw w d) (fun a w => wpList P l.toArray Q (l.drop n) a w) s a w) : (Code.region id l.toArray true).wp P Q a w := by
  have hdl : (l.drop n).length = l.toArray.size - n := by simp
  have inv0 : HeadInv .any l.toArray n (Array.replicate l.toArray.size false) :=
    ⟨by simp, fun j oj _ hl => (by rw [getD_replicate_false] at hl; cases hl), fun t _ ht => getD_in (by simpa using ht) (getD_replicate_false _ _)⟩
  have H := mixT_of_wpMB (md := .any) (g := l.toArray.size - n) (fun k d => ⟨_, bw_bw w k d⟩) (fun j => by simp) hsel hs hc hn n s _ a w inv0 ⟨noExt w, (bw_noExt w).symm⟩ hB h
  refine wp_region_any hm ?_
  have := mixT_ext (⟨#[], w.drawn + 1⟩ : Ext) H
  rw [← bw_drewExt] at this
  have := mixT_sound (Q' := Q) (g := l.toArray.size - n) (fun listed a' w' hL => by
    have := wpAny_of_seq (md := .any) (Q' := Q) (l.drop n) n listed a' w' (fun j => by simp [List.getElem?_drop]) (by rw [hdl]; exact hL.1) hL.2
    rwa [hdl] at this) _ _ _ _ this
  rw [show n + (l.toArray.size - n) = l.toArray.size by omega] at this
  exact this
theorem wpMB_quiet {Q : Act → World → Prop} {a : Act} {w : World} {i : Nat} {o : Oper} {s : Sch} (ho : l[i]? = some o)
    (h : ∀ K : Act → Prop, (∀ a, wpMB P l ops Cl Q s a w → K a) → if Region.wanted o (yielded ops a.tmps) then mOp P Cl o a K else K (a.put o.dst undef)) : wpMB P l ops Cl Q (.q i s) a w :=
  ⟨o, ho, h _ (fun _ h => h)⟩
theorem spB_of {X : Act → World → Prop} {a : Act} {w : World} {i : Nat} {o : Oper} (ho : l[i]? = some o)
    (h : ∀ (K : Act → World → Prop), (∀ a' w', (∃ k, w' = Cl k) → X a' w' → K a' w') → ∀ d, if Region.wanted o (yielded ops a.tmps) then sOp P o a K (bw w d) else K (a.put o.dst undef) (bw w d)) : spB P l ops Cl i X a w :=
  ⟨o, ho, fun d => by
    have := h (fun a' w' => (∃ k, w' = Cl k) ∧ X a' w') (fun _ _ h1 h2 => ⟨h1, h2⟩) d
    split
    · rename_i hw; rw [if_pos hw] at this; exact this
    · rename_i hw; rw [if_neg hw] at this; exact this⟩
theorem wpMB_one {Q : Act → World → Prop} {a : Act} {w : World} {i : Nat} {s : Sch} (h : spB P l ops Cl i (wpMB P l ops Cl Q s) a w) : wpMB P l ops Cl Q (.one i s) a w := h
theorem wpMB_two {Q : Act → World → Prop} {a : Act} {w : World} {i j : Nat} {s t : Sch} (h1 : spB P l ops Cl i (wpMB P l ops Cl Q s) a w) (h2 : spB P l ops Cl j (wpMB P l ops Cl Q t) a w) : wpMB P l ops Cl Q (.two i s j t) a w := ⟨h1, h2⟩
theorem wpMB_done {Q : Act → World → Prop} {a : Act} {w : World} (h : ∀ d, Q a (bw w d)) : wpMB P l ops Cl Q .done a w := h
end
end Go.Proofs.YtnnmfdeeicpdlaaGreat
/- The reference's numbers of digits: Compare. -/
namespace Go.Proofs.YtnnmfdeeicpdlaaGreat
open Go.RowKit

end Go.Proofs.YtnnmfdeeicpdlaaGreat
/- The reference's side of a direction: plain law; sign; the sines by limbs. -/
namespace Go.Proofs.YtnnmfdeeicpdlaaGreat
open Go.RowKit

def sgI (z : Int) : Int := if z < 0 then -1 else if 0 < z then 1 else 0
def sideV (n : Nat) (x y : Int) : Int := if n = 0 then sgI (-y) else if n = 2700000 then sgI (x - y) else if n = 5400000 then sgI x else if 0 < crU n x y then 1 else -1
theorem sideV_gen {n : Nat} {x y : Int} (h0 : n ≠ 0) (h1 : n ≠ 2700000) (h2 : n ≠ 5400000) : (0 < crU n x y → sideV n x y = 1) ∧ (crU n x y < 0 → sideV n x y = -1) := by
  unfold sideV
  rw [if_neg h0, if_neg h1, if_neg h2]
  refine ⟨fun h => if_pos h, fun h => if_neg ?_⟩
  intro h3
  generalize crU n x y = u at *
  grind
theorem r6_NearS (n k : Nat) (w : World) (hk : k = 3 ∨ k = 4) (hn : n < 5400000) :
    Calls Tryz.prog 295 #[.int .i64 (n : Int), .int .i64 (k : Int)] w (NmPO w (siM (mK k) (piK k) n) 300) := by
  by_cases c : n ≤ 2700000
  · refine r6_NearW n k 0 n n false _ w hk c (.inl rfl) (by omega) hn (.inl ⟨c, rfl, rfl⟩) ?_
    unfold smM siM
    rw [if_neg (by decide), if_neg (by omega)]
  · refine r6_NearW n k 0 n (5400000 - n) true _ w hk (by omega) (.inl rfl) (by omega) hn (.inr ⟨by omega, rfl, rfl⟩) ?_
    unfold smM siM
    rw [if_pos rfl, if_pos (by omega)]
theorem r6_NearC (n k : Nat) (w : World) (hk : k = 3 ∨ k = 4) (hn : n < 5400000) :
    Calls Tryz.prog 295 #[.int .i64 ((n : Int) + 5400000), .int .i64 (k : Int)] w (NmPO w (coM (mK k) (piK k) n) 300) := by
  rw [show (n : Int) + 5400000 = ((n + 5400000 : Nat) : Int) by omega]
  by_cases c : n ≤ 2700000
  · refine r6_NearW (n + 5400000) k 1 n n true _ w hk c (.inr rfl) (by omega) hn (.inl ⟨c, rfl, rfl⟩) ?_
    unfold smM coM
    rw [if_pos rfl, if_neg (by omega)]
  · refine r6_NearW (n + 5400000) k 1 n (5400000 - n) false _ w hk (by omega) (.inr rfl) (by omega) hn (.inr ⟨by omega, rfl, rfl⟩) ?_
    unfold smM coM
    rw [if_neg (by decide), if_pos (by omega)]
structure LimI (n k : Nat) (x y D : Int) : Prop where
  up : (e42 : Int) < D → sideV n x y = 1
  dn : D < -(e42 : Int) → sideV n x y = -1
  four : k = 4 → (e42 : Int) < D ∨ D < -(e42 : Int)
theorem lim_ok {n k : Nat} {x y : Int} (hF : FarU 2699999) (hk : k = 3 ∨ k = 4) (h0 : 1 ≤ n) (h1 : n ≠ 2700000) (h2 : n < 5400000) (x0 : 0 ≤ x) (x1 : x ≤ 2147483648) (y0 : 0 ≤ y) (y1 : y ≤ 2147483648) (hxy : x ≠ 0 ∨ y ≠ 0) :
    LimI n k x y (x * siM (mK k) (piK k) n + -(y * coM (mK k) (piK k) n)) := by
  have hf := far_cr hF (k := n) (by omega) x0 x1 y0 y1 hxy
  obtain ⟨s1, s2⟩ := sideV_gen (n := n) (x := x) (y := y) (by omega) h1 (by omega)
  have e : x * siM (mK k) (piK k) n + -(y * coM (mK k) (piK k) n) = crM (mK k) (piK k) n x y := by unfold crM; omega
  rw [e]
  have hb : 4294967296 * (620 * (1 / ((mK k : Nat) : Rat)) + tl50) < (e42 : Rat) * (1 / ((mK k : Nat) : Rat)) := by
    rcases hk with rfl | rfl
    · exact i84_ok
    · exact i112_ok.1
  obtain ⟨l1, l2⟩ := cr_limbs (mokK hk) hb (k := n) (by omega) x0 x1 y0 y1
  refine ⟨fun h => s1 (l1 h), fun h => s2 (l2 h), fun h4 => ?_⟩
  subst h4
  exact cr_four (by omega) x0 x1 y0 y1 hf
theorem qs_side {n : Nat} {x y : Int} (h0 : 1 ≤ n) (h1 : n ≠ 2700000) (h2 : n < 5400000) (x0 : 0 ≤ x) (y0 : 0 ≤ y) : qsV n x y = 0 ∨ (qsV n x y = sideV n x y ∧ (qsV n x y = 1 ∨ qsV n x y = -1)) := by
  obtain ⟨s1, s2⟩ := sideV_gen (n := n) (x := x) (y := y) (by omega) h1 (by omega)
  obtain ⟨q1, q2⟩ := qs_ok h2 x0 y0
  unfold qsV
  by_cases c1 : qsM x y < qsT n x y
  · rw [if_pos c1, s1 (q1 c1)]; exact .inr ⟨rfl, .inl rfl⟩
  · rw [if_neg c1]
    by_cases c2 : qsT n x y < -(qsM x y)
    · rw [if_pos c2, s2 (q2 c2)]; exact .inr ⟨rfl, .inr rfl⟩
    · rw [if_neg c2]; exact .inl rfl
theorem lay_same {w : World} {o o' : Obj} {T : List (Obj ⊕ Ext)} : ∀ A : List (Obj ⊕ Ext), (Go.Proofs.YtnnmfdeeicpdlaaGreat.lay w (A ++ .inl o :: T)).heap.size = (Go.Proofs.YtnnmfdeeicpdlaaGreat.lay w (A ++ .inl o' :: T)).heap.size ∧ ∀ i, i ≠ (Go.Proofs.YtnnmfdeeicpdlaaGreat.lay w T).heap.size → (Go.Proofs.YtnnmfdeeicpdlaaGreat.lay w (A ++ .inl o :: T)).heap[i]? = (Go.Proofs.YtnnmfdeeicpdlaaGreat.lay w (A ++ .inl o' :: T)).heap[i]?
  | [] => by
    refine ⟨?_, fun i hi => ?_⟩
    · show (World.alloc _ o).heap.size = (World.alloc _ o').heap.size
      rw [World.size_alloc, World.size_alloc]
    · show ((Go.Proofs.YtnnmfdeeicpdlaaGreat.lay w T).heap.push o)[i]? = ((Go.Proofs.YtnnmfdeeicpdlaaGreat.lay w T).heap.push o')[i]?
      rw [Array.getElem?_push, Array.getElem?_push, if_neg hi, if_neg hi]
  | .inl p :: A => by
    obtain ⟨h1, h2⟩ := lay_same (w := w) (o := o) (o' := o') (T := T) A
    refine ⟨?_, fun i hi => ?_⟩
    · show (World.alloc (Go.Proofs.YtnnmfdeeicpdlaaGreat.lay w (A ++ .inl o :: T)) p).heap.size = (World.alloc (Go.Proofs.YtnnmfdeeicpdlaaGreat.lay w (A ++ .inl o' :: T)) p).heap.size
      rw [World.size_alloc, World.size_alloc, h1]
    · show ((Go.Proofs.YtnnmfdeeicpdlaaGreat.lay w (A ++ .inl o :: T)).heap.push p)[i]? = ((Go.Proofs.YtnnmfdeeicpdlaaGreat.lay w (A ++ .inl o' :: T)).heap.push p)[i]?
      rw [Array.getElem?_push, Array.getElem?_push, h1, h2 i hi]
  | .inr e :: A => by
    obtain ⟨h1, h2⟩ := lay_same (w := w) (o := o) (o' := o') (T := T) A
    refine ⟨?_, fun i hi => ?_⟩
    · show ((Go.Proofs.YtnnmfdeeicpdlaaGreat.lay w (A ++ .inl o :: T)).heap ++ e.blocks).size = ((Go.Proofs.YtnnmfdeeicpdlaaGreat.lay w (A ++ .inl o' :: T)).heap ++ e.blocks).size
      rw [Array.size_append, Array.size_append, h1]
    · show ((Go.Proofs.YtnnmfdeeicpdlaaGreat.lay w (A ++ .inl o :: T)).heap ++ e.blocks)[i]? = ((Go.Proofs.YtnnmfdeeicpdlaaGreat.lay w (A ++ .inl o' :: T)).heap ++ e.blocks)[i]?
      rw [Array.getElem?_append, Array.getElem?_append, h1, h2 i hi]
theorem ow_keepA {w : World} {T : List (Obj ⊕ Ext)} {o : Obj} (o' : Obj) (A : List (Obj ⊕ Ext)) {base : Nat} {v : Value} {l : List Int} (hb : (Go.Proofs.YtnnmfdeeicpdlaaGreat.lay w T).heap.size < base)
    (h : Ow (Go.Proofs.YtnnmfdeeicpdlaaGreat.lay w (A ++ .inl o :: T)) base v l) : Ow (Go.Proofs.YtnnmfdeeicpdlaaGreat.lay w (A ++ .inl o' :: T)) base v l := by
  refine ⟨⟨h.1.1, h.1.2.imp id fun ⟨g, cap, cur, h1, h2, h3, h4⟩ => ⟨g, cap, cur, h1, h2, ?_, h4⟩⟩, h.2⟩
  rw [← h3]
  exact ((lay_same A).2 g (by omega)).symm
theorem lay_lt2 (w : World) (o : Obj) (T A : List (Obj ⊕ Ext)) : (Go.Proofs.YtnnmfdeeicpdlaaGreat.lay w T).heap.size < (Go.Proofs.YtnnmfdeeicpdlaaGreat.lay w (A ++ .inl o :: T)).heap.size :=
  Nat.lt_of_lt_of_le (lay_lt w o T) (lay_below (w := w) (A := A) (B := .inl o :: T)).size
theorem r6_sign (z : Int) (w : World) :
    Calls Tryz.prog 303 #[.int .i64 z] w fun e w' => e = .returned (.int .i64 (sgI z)) ∧ ∃ d, w' = bw w d := by
  unfold sgI
  by_cases h1 : z < 0
  · rw [if_pos h1]
    refine lay_start ?_
    go_enter Tryz.func303, Tryz.ntmps303
    go_wp2
    go_ret
    exact ⟨rfl, lay_ex _ _⟩
  · rw [if_neg h1]
    by_cases h2 : 0 < z
    · rw [if_pos h2]
      refine lay_start ?_
      go_enter Tryz.func303, Tryz.ntmps303
      go_wp2
      go_ret
      exact ⟨rfl, lay_ex _ _⟩
    · rw [if_neg h2]
      refine lay_start ?_
      go_enter Tryz.func303, Tryz.ntmps303
      go_wp2
      go_ret
      exact ⟨rfl, lay_ex _ _⟩
end Go.Proofs.YtnnmfdeeicpdlaaGreat
