/- Contracts and plain laws, several texts in one: WrC; WrD; WrE -/
import Derived.Test.YtkhhdpndcidmgaaGreatProg
import Derived.WalkKit
import Derived.WalkSpells
import Derived.WalkLawsBesides
import Derived.Lib.Hide
import Derived.BigQuiet
import Derived.Test.YtkhhdpndcidmgaaGreatTAE
import Derived.Test.YtkhhdpndcidmgaaGreatTAF
import Derived.Test.YtkhhdpndcidmgaaGreatTAI
import Derived.Test.YtkhhdpndcidmgaaGreatTBA
import Derived.Test.YtkhhdpndcidmgaaGreatTBC
import Derived.Test.YtkhhdpndcidmgaaGreatTBG
import Derived.Test.YtkhhdpndcidmgaaGreatTBI
/- A direction between two neighbouring whole angles: the sine and the cosine of an arc that holds both contain those of the direction. No program in sight. -/
namespace Go.Proofs.YtkhhdpndcidmgaaGreat
open Go.RowKit

def wtY : Rat := 1 / 1000000000000000000000000000
def wtZ : Rat := 1 / 100000000000000000000000000
theorem wt_Y : wtW + 1073741824 * (12 * eW) ≤ wtY ∧ wtW + 1073741824 * 0 ≤ wtY ∧ wtY + 1073741824 * (2 * eW) ≤ wtZ ∧ wtY ≤ wtZ := by unfold wtW wtY wtZ eW; refine ⟨?_, ?_, ?_, ?_⟩ <;> grind
theorem cellw_far {n : Int} (h0 : -5400000 ≤ n) (h1 : n ≤ 48600000) : CellW n wtY := by
  by_cases h : n ≤ 27000000
  · refine (cellw_all h0 h).same (d := 0) ?_ rfl rfl wt_Y.2.1
    constructor <;> grind
  · have hn := wS_turn (n - 21600000)
    rw [show n - 21600000 + 21600000 = n by omega] at hn
    have hb := b_shift (n - 21600000) 1
    rw [show n - 21600000 + 21600000 * 1 = n by omega] at hb
    exact (cellw_all (n := n - 21600000) (by omega) (by omega)).same hn hb.1 hb.2 wt_Y.1
theorem sin_InY {lo hi n : Int} (h1 : lo ≤ n) (h2 : n ≤ hi) (h3 : -5400000 ≤ n) (h4 : n ≤ 48600000) : InR (encL lo hi) (encH lo hi) (wS n) wtZ := by
  have hp := enc_part h1 (Int.le_refl n) h2
  rw [(enc_point n).1, (enc_point n).2] at hp
  have hc := cellw_far h3 h4
  exact InR.mono ⟨hc.lo, hc.hi⟩ hp.1 hp.2 wt_Y.2.2.2
theorem cos_InY {lo hi n : Int} (h1 : lo ≤ n) (h2 : n ≤ hi) (h3 : -10800000 ≤ n) (h4 : n ≤ 43200000) : InR (cosL lo hi) (cosH lo hi) (wC n) wtZ := by
  have hp := enc_part (lo := lo + 5400000) (hi := hi + 5400000) (show lo + 5400000 ≤ n + 5400000 by omega) (Int.le_refl _) (show n + 5400000 ≤ hi + 5400000 by omega)
  rw [(enc_point _).1, (enc_point _).2] at hp
  have hc := cellw_far (n := n + 5400000) (by omega) (by omega)
  have h : InR (encL (lo + 5400000) (hi + 5400000)) (encH (lo + 5400000) (hi + 5400000)) (wS (n + 5400000)) wtY := InR.mono ⟨hc.lo, hc.hi⟩ hp.1 hp.2 Rat.le_refl
  exact h.near (wC_quarter n).symm wt_Y.2.2.1
theorem sqnn (x : Rat) : 0 ≤ x * x := by
  rcases (Rat.le_total : (0 : Rat) ≤ x ∨ x ≤ 0) with g | g
  · exact rmul0 g g
  · have := rmul0 (show 0 ≤ -x by grind) (show 0 ≤ -x by grind); grind
theorem len_near {q r c t s e : Rat} (q0 : 0 ≤ q) (r0 : 0 ≤ r) (s0 : 0 ≤ s) (hs : t ≤ s * s) (c0 : 0 ≤ c) (e0 : 0 ≤ e) (c1 : c ≤ q * q * e) (h1 : r * r ≤ q * q - c + t) (h2 : q * q - c ≤ r * r + t) : q - r ≤ q * e + s ∧ r - q ≤ s := by
  constructor
  · rcases (Rat.le_total : q - r ≤ q * e + s ∨ q * e + s ≤ q - r) with g | g
    · exact g
    · obtain ⟨d, hd⟩ : ∃ d, d = q - r - q * e := ⟨_, rfl⟩
      have qe := rmul0 q0 e0
      have p1 := rmul0 (show 0 ≤ q - r by grind) r0
      have p2 := rmul0 (show 0 ≤ d by grind) (show 0 ≤ q - d by grind)
      have p3 := rmul0 (show 0 ≤ d - s by grind) s0
      have p4 : d * q = q * q - r * q - q * q * e := by rw [hd]; grind
      have p5 : (d - s) * (d - s) ≤ 0 := by grind
      have p6 : d - s = 0 := by
        rcases (Rat.le_total : d - s ≤ 0 ∨ 0 ≤ d - s) with k | k
        · grind
        · rcases Rat.le_iff_lt_or_eq.1 k with k | k
          · have := Rat.mul_pos k k; grind
          · exact k.symm
      grind
  · rcases (Rat.le_total : r - q ≤ s ∨ s ≤ r - q) with g | g
    · exact g
    · obtain ⟨d, hd⟩ : ∃ d, d = r - q := ⟨_, rfl⟩
      have p1 := rmul0 (show 0 ≤ d by grind) q0
      have p3 := rmul0 (show 0 ≤ d - s by grind) s0
      have p4 : d * (d + 2 * q) = r * r - q * q := by rw [hd]; grind
      have p5 : (d - s) * (d - s) ≤ 0 := by grind
      have p6 : d - s = 0 := by
        rcases (Rat.le_total : d - s ≤ 0 ∨ 0 ≤ d - s) with k | k
        · grind
        · rcases Rat.le_iff_lt_or_eq.1 k with k | k
          · have := Rat.mul_pos k k; grind
          · exact k.symm
      grind
structure Cone (k j : Int) (x y a b : Rat) : Prop where
  kj : j = k ∨ j = k + 1
  a0 : 0 ≤ a
  b0 : 0 ≤ b
  x : x = a * wC k + b * wC j
  y : y = a * wS k + b * wS j
theorem one_w : 0 ≤ 1 - wC 1 ∧ 1 - wC 1 ≤ 43 / 1000000000000000 ∧ 29 / 100000000 ≤ wS 1 ∧ wS 1 ≤ 3 / 10000000 := by decide +kernel
def wtA : Rat := 1 / 1000000000000000000000000000000000000
def wtE : Rat := 1 / 30000000000000
theorem Cone.len {k j : Int} {x y a b r : Rat} (h : Cone k j x y a b) (r0 : 0 ≤ r) (hr : Nr (r * r) (x * x + y * y) wtA) : a + b - r ≤ (a + b) * (22 / 1000000000000000) + 1 / 1000000000000000000 ∧ r - (a + b) ≤ 1 / 1000000000000000000 := by
  obtain ⟨kj, a0, b0, hx, hy⟩ := h
  have hs := (W_sub j k).2
  have u1 := W_unit k
  have u2 := W_unit j
  obtain ⟨o1, o2⟩ : 0 ≤ 1 - wC (j - k) ∧ 1 - wC (j - k) ≤ 43 / 1000000000000000 := by
    rcases kj with rfl | rfl
    · rw [show j - j = 0 by omega, show wC 0 = 1 from rfl]
      constructor <;> grind
    · rw [show k + 1 - k = 1 by omega]
      exact ⟨one_w.1, one_w.2.1⟩
  have hl : x * x + y * y = (a + b) * (a + b) - 2 * (a * b) * (1 - wC (j - k)) := by rw [hx, hy, hs]; grind
  rw [hl] at hr
  clear hl hx hy hs u1 u2
  generalize 1 - wC (j - k) = o at *
  obtain ⟨h1, h2⟩ := hr
  have ab := rmul0 a0 b0
  have p := rmul0 ab o1
  have sq : 0 ≤ (a - b) * (a - b) := sqnn _
  have p2 := rmul (a := 2 * (a * b)) (b := (a + b) * (a + b) / 2) (c := o) (d := 43 / 1000000000000000) (by grind) (by grind) o1 o2
  refine len_near (c := 2 * (a * b) * o) (t := wtA) (by grind) r0 (by grind) (by unfold wtA; grind) (by grind) (by grind) (by grind) (by grind) (by grind)
theorem interp {l h y r E : Rat} (lh : l ≤ h) (r0 : 0 ≤ r) (e0 : 0 ≤ E) (h1 : l * r ≤ y + E) (h2 : y ≤ h * r + E) : ∃ s, l ≤ s ∧ s ≤ h ∧ Nr (s * r) y E := by
  by_cases c1 : y ≤ l * r
  · exact ⟨l, Rat.le_refl, lh, by constructor <;> grind⟩
  by_cases c2 : h * r ≤ y
  · exact ⟨h, lh, Rat.le_refl, by constructor <;> grind⟩
  have rp : 0 < r := by
    rcases Rat.le_iff_lt_or_eq.1 r0 with g | g
    · exact g
    · subst g; grind
  have e : y / r * r = y := Rat.div_mul_cancel (by grind)
  refine ⟨y / r, ?_, ?_, by rw [e]; constructor <;> grind⟩
  · refine Rat.le_of_mul_le_mul_right (c := r) ?_ rp
    rw [e]; grind
  · refine Rat.le_of_mul_le_mul_right (c := r) ?_ rp
    rw [e]; grind
theorem cone_in {l h : Int} {u v y a b r : Rat} (hl : -1073741824 ≤ l) (lh : l ≤ h) (hh : h ≤ 1073741824) (hu : InR l h u wtZ) (hv : InR l h v wtZ) (a0 : 0 ≤ a) (b0 : 0 ≤ b) (hy : y = a * u + b * v) (r0 : 0 ≤ r) (r1 : r ≤ 101 / 100)
    (q1 : a + b - r ≤ (a + b) * (22 / 1000000000000000) + 1 / 1000000000000000000) (q2 : r - (a + b) ≤ 1 / 1000000000000000000) : ∃ s, InR l h s 0 ∧ Nr (s * r) y wtE := by
  obtain ⟨u1, u2⟩ := hu
  obtain ⟨v1, v2⟩ := hv
  have L := castle hl
  have M := castle lh
  have H := castle hh
  push_cast at L H
  obtain ⟨q, hq⟩ : ∃ q, q = a + b := ⟨_, rfl⟩
  have p1 := rmul0 a0 (show 0 ≤ 1073741824 * u + wtZ - l by grind)
  have p2 := rmul0 b0 (show 0 ≤ 1073741824 * v + wtZ - l by grind)
  have p3 := rmul0 a0 (show 0 ≤ h + wtZ - 1073741824 * u by grind)
  have p4 := rmul0 b0 (show 0 ≤ h + wtZ - 1073741824 * v by grind)
  have z0 : (0 : Rat) ≤ wtZ ∧ wtZ ≤ 1 / 1000000000000000 := by unfold wtZ; constructor <;> grind
  have qb : q ≤ 102 / 100 := by grind
  have k1 := rabs (x := (l : Rat)) (y := q - r) (m := 1073741824) (f := 23 / 1000000000000000) L (by grind) (by grind) (by grind)
  have k2 := rabs (x := (h : Rat)) (y := q - r) (m := 1073741824) (f := 23 / 1000000000000000) (by grind) H (by grind) (by grind)
  have k3 := rmul (a := q) (b := 102 / 100) (c := wtZ) (d := 1 / 1000000000000000) (by grind) qb z0.1 z0.2
  have e1 : (l : Rat) * r = (a + b) * l - l * (q - r) := by rw [hq]; grind
  have e2 : a * (1073741824 * u + wtZ - l) + b * (1073741824 * v + wtZ - l) = 1073741824 * y + q * wtZ - (a + b) * l := by rw [hq, hy]; grind
  have e3 : (h : Rat) * r = (a + b) * h - h * (q - r) := by rw [hq]; grind
  have e4 : a * (h + wtZ - 1073741824 * u) + b * (h + wtZ - 1073741824 * v) = (a + b) * h + q * wtZ - 1073741824 * y := by rw [hq, hy]; grind
  obtain ⟨k11, k12⟩ := k1
  obtain ⟨k21, k22⟩ := k2
  have f1 : (l : Rat) * r ≤ 1073741824 * y + 1073741824 * wtE := by
    generalize (l : Rat) * (q - r) = A at *
    generalize a * (1073741824 * u + wtZ - l) = B at *
    generalize b * (1073741824 * v + wtZ - l) = C at *
    generalize (a + b) * (l : Rat) = D at *
    generalize (l : Rat) * r = F at *
    generalize q * wtZ = G at *
    clear k21 k22 e3 e4 hy hq q1 q2 p3 p4
    unfold wtE; grind
  have f2 : 1073741824 * y ≤ (h : Rat) * r + 1073741824 * wtE := by
    generalize (h : Rat) * (q - r) = A at *
    generalize a * (h + wtZ - 1073741824 * u) = B at *
    generalize b * (h + wtZ - 1073741824 * v) = C at *
    generalize (a + b) * (h : Rat) = D at *
    generalize (h : Rat) * r = F at *
    generalize q * wtZ = G at *
    clear k11 k12 e1 e2 hy hq q1 q2 p1 p2 f1
    unfold wtE; grind
  obtain ⟨s, s1, s2, s3⟩ := interp (l := (l : Rat)) (h := (h : Rat)) (y := 1073741824 * y) (r := r) (E := 1073741824 * wtE) M r0 (by unfold wtE; grind) f1 f2
  refine ⟨s / 1073741824, ⟨by grind, by grind⟩, ?_⟩
  obtain ⟨s3, s4⟩ := s3
  constructor <;> grind
theorem Cone.enc {n M k j : Int} (hn : n ≤ k) (hM : j ≤ M) (h0 : -5400000 ≤ n) (h1 : M ≤ 43200000) {x y a b r : Rat} (h : Cone k j x y a b) (r0 : 0 ≤ r) (r1 : r ≤ 101 / 100) (hr : Nr (r * r) (x * x + y * y) wtA) :
    (∃ s, InR (encL n M) (encH n M) s 0 ∧ Nr (s * r) y wtE) ∧ ∃ c, InR (cosL n M) (cosH n M) c 0 ∧ Nr (c * r) x wtE := by
  obtain ⟨q1, q2⟩ := h.len r0 hr
  obtain ⟨kj, a0, b0, hx, hy⟩ := h
  have e := enc_in (lo := n) (hi := M)
  have c := cos_in2 n M
  exact ⟨cone_in e.1 e.2.1 e.2.2 (sin_InY hn (by omega) (by omega) (by omega)) (sin_InY (n := j) (by omega) hM (by omega) (by omega)) a0 b0 hy r0 r1 q1 q2, cone_in c.1 c.2.1 c.2.2 (cos_InY hn (by omega) (by omega) (by omega)) (cos_InY (n := j) (by omega) hM (by omega) (by omega)) a0 b0 hx r0 r1 q1 q2⟩
end Go.Proofs.YtkhhdpndcidmgaaGreat
/- The altitude's arc: its sine contains the altitude's sine, its cosine the altitude's cosine. No program in sight. -/
namespace Go.Proofs.YtkhhdpndcidmgaaGreat
open Go.RowKit

theorem sin_InP {lo hi n : Int} (h1 : lo ≤ n) (h2 : n ≤ hi) : InR (encL lo hi) (encH lo hi) (wS (n % 21600000)) wtZ := by
  have hp := enc_part h1 (Int.le_refl n) h2
  rw [(enc_point n).1, (enc_point n).2] at hp
  have hc := cellw_far (n := n % 21600000) (by omega) (by omega)
  have hb := b_shift (n % 21600000) (n / 21600000)
  rw [show n % 21600000 + 21600000 * (n / 21600000) = n by omega] at hb
  have h : InR (bLo n) (bHi n) (wS (n % 21600000)) wtY := by rw [hb.1, hb.2]; exact ⟨hc.lo, hc.hi⟩
  exact h.mono hp.1 hp.2 wt_Y.2.2.2
theorem cos_InP {lo hi n : Int} (h1 : lo ≤ n) (h2 : n ≤ hi) : InR (cosL lo hi) (cosH lo hi) (wC (n % 21600000)) wtZ := by
  have hp := enc_part (lo := lo + 5400000) (hi := hi + 5400000) (show lo + 5400000 ≤ n + 5400000 by omega) (Int.le_refl _) (show n + 5400000 ≤ hi + 5400000 by omega)
  rw [(enc_point _).1, (enc_point _).2] at hp
  have hc := cellw_far (n := n % 21600000 + 5400000) (by omega) (by omega)
  have hb := b_shift (n % 21600000 + 5400000) (n / 21600000)
  rw [show n % 21600000 + 5400000 + 21600000 * (n / 21600000) = n + 5400000 by omega] at hb
  have h : InR (bLo (n + 5400000)) (bHi (n + 5400000)) (wS (n % 21600000 + 5400000)) wtY := by rw [hb.1, hb.2]; exact ⟨hc.lo, hc.hi⟩
  exact (InR.mono h hp.1 hp.2 Rat.le_refl).near (wC_quarter _).symm wt_Y.2.2.1
theorem root_le {C D s : Rat} (c0 : 0 ≤ C) (s0 : 0 ≤ s) (hd : -s ≤ D) (h : C * C ≤ D * D + s * s) : C ≤ D + 3 * s := by
  rcases (Rat.le_total : C ≤ D + 3 * s ∨ D + 3 * s ≤ C) with g | g
  · exact g
  · obtain ⟨d, hd2⟩ : ∃ d, d = D + s := ⟨_, rfl⟩
    have p1 := rmul0 (show 0 ≤ d by grind) s0
    have p2 := rmul0 (show 0 ≤ C - (D + 3 * s) by grind) (show 0 ≤ C + (D + 3 * s) by grind)
    have p3 := rmul0 s0 s0
    have p4 : (D + 3 * s) * (D + 3 * s) = D * D + 6 * (d * s) + 3 * (s * s) := by rw [hd2]; grind
    have p5 : s * s = 0 := by grind
    have p6 : s = 0 := by
      rcases Rat.le_iff_lt_or_eq.1 s0 with k | k
      · have := Rat.mul_pos k k; grind
      · exact k.symm
    subst p6
    have p7 : C * C ≤ D * D := by grind
    rcases (Rat.le_total : C ≤ D ∨ D ≤ C) with k | k
    · grind
    · have p8 := rmul0 (show 0 ≤ C - D by grind) (show 0 ≤ C - D by grind)
      have p9 := rmul0 (show 0 ≤ C - D by grind) (show 0 ≤ D by grind)
      have p10 : (C - D) * (C - D) = 0 := by grind
      have p11 : C - D = 0 := by
        rcases Rat.le_iff_lt_or_eq.1 (show 0 ≤ C - D by grind) with k2 | k2
        · have := Rat.mul_pos k2 k2; grind
        · exact k2.symm
      grind
def wtV : Rat := 1 / 10000000000000000000000000
def wtU : Rat := 1 / 1000000
def s16 : Rat := 1 / 10000000000000000
def e33 : Rat := 1 / 1000000000000000000000000000000000
theorem num_V : wtV + wtW ≤ 1073741824 * e33 ∧ 2 * e33 + e33 * e33 + wtA ≤ s16 * s16 ∧ 1073741824 * e33 + wtZ ≤ wtU ∧ 1073741824 * (3 * s16) + wtZ ≤ wtU ∧ 0 ≤ e33 ∧ 0 ≤ s16 ∧ 0 ≤ wtA ∧ 0 ≤ wtZ ∧ 0 ≤ wtU ∧ 0 ≤ wtV := by unfold wtV wtW wtU wtZ wtA s16 e33; decide +kernel
theorem wS_nn {n : Int} (h0 : 0 ≤ n) (h1 : n ≤ 10800000) : -(1 / 1000000000000000000000000000000000000) ≤ wS n := by
  have hc := (cellw_all (n := n) (by omega) (by omega)).lo
  have hb : 0 ≤ bLo n := by
    by_cases h : n ≤ 5400000
    · rw [(b_one h0 h).1]; omega
    · rw [(b_two (n := n) (by omega) h1).1]; omega
  have := castle hb
  push_cast at this
  unfold wtW at hc
  grind
theorem wC_nn {n : Int} (h0 : -5400000 ≤ n) (h1 : n ≤ 5400000) : -(1 / 100000000000000000000000000000000000) ≤ wC n := by
  have h := wS_nn (n := n + 5400000) (by omega) (by omega)
  obtain ⟨q1, q2⟩ := wC_quarter n
  unfold eW at q1 q2
  grind
theorem arc_sc {n m : Int} {S C : Rat} (b1 : -5400000 ≤ n) (b2 : n ≤ m) (b3 : m ≤ 5400000) (en : wS n ≤ S + e33) (em : S ≤ wS m + e33) (c0 : 0 ≤ C) (hc : Nr (C * C) (1 - S * S) wtA) :
    InR (encL n m) (encH n m) S wtU ∧ InR (cosL n m) (cosH n m) C wtU := by
  have sn := sin_InY (lo := n) (hi := m) (n := n) (Int.le_refl _) b2 b1 (by omega)
  have sm := sin_InY (lo := n) (hi := m) (n := m) b2 (Int.le_refl _) (by omega) (by omega)
  have kn := cos_InY (lo := n) (hi := m) (n := n) (Int.le_refl _) b2 (by omega) (by omega)
  have km := cos_InY (lo := n) (hi := m) (n := m) b2 (Int.le_refl _) (by omega) (by omega)
  obtain ⟨v1, v2, v3, v4, v5, v6, v7, v8, v9, v10⟩ := num_V
  refine ⟨⟨?_, ?_⟩, ?_, ?_⟩
  · have := sn.lo; grind
  · have := sm.hi; grind
  · obtain ⟨hc1, hc2⟩ := hc
    rcases (Rat.le_total : (0 : Rat) ≤ S ∨ S ≤ 0) with g | g
    · have p := rmul g em g em
      have u := W_unit m
      have z := (W_in m).1
      have q := rmul0 v5 (show 0 ≤ 1 - wS m by grind)
      have hk := km.lo
      rcases (Rat.le_total : (0 : Rat) ≤ wC m ∨ wC m ≤ 0) with d | d
      · have := root_le (C := wC m) (D := C) (s := s16) d v6 (by grind) (by grind)
        grind
      · grind
    · have p := rmul (a := -S) (b := -(wS n) + e33) (c := -S) (d := -(wS n) + e33) (by grind) (by grind) (by grind) (by grind)
      have u := W_unit n
      have z := (W_in n).1
      have q := rmul0 v5 (show 0 ≤ 1 + wS n by grind)
      have hk := kn.lo
      rcases (Rat.le_total : (0 : Rat) ≤ wC n ∨ wC n ≤ 0) with d | d
      · have := root_le (C := wC n) (D := C) (s := s16) d v6 (by grind) (by grind)
        grind
      · grind
  · obtain ⟨hc1, hc2⟩ := hc
    have sq : 0 ≤ S * S := sqnn S
    have ee := rmul0 v5 v5
    by_cases c : n ≤ 0 ∧ 0 ≤ m
    · have k0 := (cos_InY (lo := n) (hi := m) (n := 0) c.1 c.2 (by omega) (by omega)).hi
      rw [show wC 0 = 1 from rfl] at k0
      have := root_le (C := C) (D := 1) (s := s16) c0 v6 (by grind) (by grind)
      grind
    by_cases c2 : 0 < n
    · have hn := wS_nn (n := n) (by omega) (by omega)
      have gn := wC_nn (n := n) b1 (by omega)
      have u := W_unit n
      have z := (W_in n).1
      have q := rmul0 v5 (show 0 ≤ 1 - wS n by grind)
      have hk := kn.hi
      have key : C * C ≤ wC n * wC n + s16 * s16 := by
        rcases (Rat.le_total : (0 : Rat) ≤ wS n - e33 ∨ wS n - e33 ≤ 0) with d | d
        · have p := rmul (a := wS n - e33) (b := S) (c := wS n - e33) (d := S) d (by grind) d (by grind)
          grind
        · obtain ⟨p1, p2⟩ := rabs (x := wS n) (y := wS n) (m := e33) (f := e33) (by unfold e33; grind) (by grind) (by unfold e33; grind) (by grind)
          grind
      have := root_le (C := C) (D := wC n) (s := s16) c0 v6 (by unfold s16; grind) key
      grind
    · have hn := wS_nn (n := -m) (by omega) (by omega)
      rw [wS_neg] at hn
      have gn := wC_nn (n := m) (by omega) b3
      have u := W_unit m
      have z := (W_in m).1
      have q := rmul0 v5 (show 0 ≤ 1 + wS m by grind)
      have hk := km.hi
      have key : C * C ≤ wC m * wC m + s16 * s16 := by
        rcases (Rat.le_total : (0 : Rat) ≤ -(wS m) - e33 ∨ -(wS m) - e33 ≤ 0) with d | d
        · have p := rmul (a := -(wS m) - e33) (b := -S) (c := -(wS m) - e33) (d := -S) d (by grind) d (by grind)
          grind
        · obtain ⟨p1, p2⟩ := rabs (x := wS m) (y := wS m) (m := e33) (f := e33) (by grind) (by unfold e33; grind) (by grind) (by unfold e33; grind)
          grind
      have := root_le (C := C) (D := wC m) (s := s16) c0 v6 (by unfold s16; grind) key
      grind
theorem as_sc {S0 S1 : Int} {S C : Rat} (hE : asE S0 S1 = 0) (h : InR S0 S1 S wtV) (h0 : -1 ≤ S) (h1 : S ≤ 1) (c0 : 0 ≤ C) (hc : Nr (C * C) (1 - S * S) wtA) (hb : -5400000 ≤ asL S0 S1 ∧ asL S0 S1 ≤ asH S0 S1 ∧ asH S0 S1 ≤ 5400000) :
    InR (encL (asL S0 S1) (asH S0 S1)) (encH (asL S0 S1) (asH S0 S1)) S wtU ∧ InR (cosL (asL S0 S1) (asH S0 S1)) (cosH (asL S0 S1) (asH S0 S1)) C wtU := by
  obtain ⟨v1, v2, v3, v4, v5, v6, v7, v8, v9, v10⟩ := num_V
  obtain ⟨a1, a2⟩ := as_encl hE h h0 h1 v10
  obtain ⟨b1, b2, b3⟩ := hb
  have cn := (cellw_all (n := asL S0 S1) b1 (by omega)).hi
  have cm := (cellw_all (n := asH S0 S1) (by omega) (by omega)).lo
  exact arc_sc b1 b2 b3 (by grind) (by grind) c0 hc
end Go.Proofs.YtkhhdpndcidmgaaGreat
/- Directions of points: what the program's decisions mean for the finer rotation. No program in sight. -/
namespace Go.Proofs.YtkhhdpndcidmgaaGreat
open Go.RowKit

def eB : Rat := 1 / 100000000000000000000000000000000000
theorem wn_e {r : Nat} (h : r ≤ 2700000) : 64 * (r : Rat) / (k160 : Rat) ≤ eW := by
  have hr : (r : Rat) ≤ 2700000 := by exact_mod_cast h
  rw [show (k160 : Rat) = 1461501637330902918203684832716283019655932542976 from rfl]
  unfold eW
  grind
theorem sU_w {k : Nat} (hk : k ≤ 5400000) : Nr (sU k) (ws k) (4 * eW) ∧ Nr (cU k) (wc k) (4 * eW) := by
  have e0 : (0 : Rat) < eW ∧ eW ≤ 1 / 1000 := by unfold eW; constructor <;> grind
  unfold sU cU
  by_cases h : 2700000 < k
  · rw [if_pos h, if_pos h]
    obtain ⟨j, hj⟩ : ∃ j, 5400000 - k = j := ⟨_, rfl⟩
    rw [hj]
    obtain ⟨h1, h2⟩ := w_near (r := j) (by omega)
    have h3 := h1.le (wn_e (by omega))
    have h4 := h2.le (wn_e (by omega))
    obtain ⟨z1, z2⟩ := w_sub (a := 5400000) (b := j) (by omega)
    rw [show 5400000 - j = k by omega] at z1 z2
    obtain ⟨q1, q2, q3, q4⟩ := w_qnat
    have u := w_unit j
    obtain ⟨b1, b2⟩ := sq_one u
    obtain ⟨b3, b4⟩ := sq_one (x := wc j) (y := ws j) (by grind)
    rw [z1, z2]
    clear z1 z2 h1 h2 u
    generalize ws 5400000 = s at *
    generalize wc 5400000 = c at *
    generalize ws j = x at *
    generalize wc j = y at *
    generalize eW = e at *
    obtain ⟨p1, p2⟩ := rabs (x := s - 1) (y := y) (m := e) (f := 1) (by grind) (by grind) b3 b4
    obtain ⟨p3, p4⟩ := rabs (x := c) (y := x) (m := e) (f := 1) (by grind) (by grind) b1 b2
    obtain ⟨p5, p6⟩ := rabs (x := s - 1) (y := x) (m := e) (f := 1) (by grind) (by grind) b1 b2
    obtain ⟨p7, p8⟩ := rabs (x := c) (y := y) (m := e) (f := 1) (by grind) (by grind) b3 b4
    obtain ⟨n1, n2⟩ := h3
    obtain ⟨n3, n4⟩ := h4
    clear hj hk h
    generalize sinU j = f at *
    generalize cosU j = g at *
    constructor
    · constructor <;> grind
    · constructor <;> grind
  · rw [if_neg h, if_neg h]
    obtain ⟨h1, h2⟩ := w_near (r := k) (by omega)
    exact ⟨(h1.le (wn_e (by omega))).symm.le (by grind), (h2.le (wn_e (by omega))).symm.le (by grind)⟩
theorem siA_w {k : Nat} (hk : k ≤ 5400000) : Nr ((siA k : Rat) / (m192 : Rat)) (ws k) eB ∧ Nr ((coA k : Rat) / (m192 : Rat)) (wc k) eB := by
  obtain ⟨h1, h2⟩ := siM_near mok192 hk
  rw [(siM_A k).1] at h1
  rw [(siM_A k).2] at h2
  obtain ⟨h3, h4⟩ := sU_w hk
  have hm : 620 / (m192 : Rat) + tl50 + 4 * eW ≤ eB := by unfold tl50 eW eB; decide +kernel
  exact ⟨(h1.trans h3).le hm, (h2.trans h4).le hm⟩
theorem wc_half : 17 / 25 - eW ≤ wc 2700000 ∧ 0 ≤ wc 2700000 := by
  have h := (w_near (r := 2700000) (by decide)).2.le (wn_e (by decide))
  have hc := (cosU_in (n := 2700000) (by decide)).1
  have e0 : eW ≤ 1 / 1000 := by unfold eW; grind
  obtain ⟨h1, h2⟩ := h
  generalize cosU 2700000 = z at *
  generalize wc 2700000 = c at *
  constructor <;> grind
theorem half_w : Nr (ws 2700000) (wc 2700000) (1 / 10000000000000000000000000000000000) := by
  obtain ⟨-, a2⟩ := w_add 2700000 2700000
  rw [show (2700000 : Nat) + 2700000 = 5400000 from rfl] at a2
  obtain ⟨q1, q2, -, -⟩ := w_qnat
  rw [a2] at q1 q2
  clear a2
  have hs := (w_near (r := 2700000) (by decide)).1.le (wn_e (by decide))
  have hs0 := (sinU_in (n := 2700000) (by decide)).1
  have hc := wc_half.1
  have e0 : (0 : Rat) < eW ∧ eW ≤ 1 / 1000 ∧ 2 * eW ≤ 1 / 10000000000000000000000000000000000 := by unfold eW; refine ⟨?_, ?_, ?_⟩ <;> grind
  obtain ⟨n1, n2⟩ := hs
  generalize ws 2700000 = s at *
  generalize wc 2700000 = c at *
  generalize eW = e at *
  generalize sinU 2700000 = z at *
  have hp : 1 / 2 ≤ c + s := by grind
  constructor
  · rcases (Rat.le_total : s ≤ c ∨ c ≤ s) with g | g
    · grind
    · have := rmul (a := s - c) (b := s - c) (c := 1 / 2) (d := c + s) (by grind) Rat.le_refl (by grind) hp
      grind
  · rcases (Rat.le_total : s ≤ c ∨ c ≤ s) with g | g
    · have := rmul (a := c - s) (b := c - s) (c := 1 / 2) (d := c + s) (by grind) Rat.le_refl (by grind) hp
      grind
    · grind
def tolW : Rat := 1 / 1000000000000000000000000
theorem cross_w {u v : Int} {k : Nat} (hk : k ≤ 5400000) (u0 : -2147483648 ≤ u) (u1 : u ≤ 2147483648) (v0 : -2147483648 ≤ v) (v1 : v ≤ 2147483648) :
    Nr ((((siA k * u : Int) : Rat)) / (m192 : Rat)) ((u : Rat) * ws k) (1 / 10000000000000000000000000) ∧ Nr ((((coA k * v : Int) : Rat)) / (m192 : Rat)) ((v : Rat) * wc k) (1 / 10000000000000000000000000) := by
  obtain ⟨n1, n2⟩ := siA_w hk
  obtain ⟨a0, a1⟩ := bd31 u0 u1
  obtain ⟨c0, c1⟩ := bd31 v0 v1
  have e1 : (((siA k * u : Int) : Rat)) / (m192 : Rat) = (u : Rat) * ((siA k : Rat) / (m192 : Rat)) := by push_cast; grind
  have e2 : (((coA k * v : Int) : Rat)) / (m192 : Rat) = (v : Rat) * ((coA k : Rat) / (m192 : Rat)) := by push_cast; grind
  rw [e1, e2]
  generalize (siA k : Rat) / (m192 : Rat) = x at *
  generalize (coA k : Rat) / (m192 : Rat) = y at *
  obtain ⟨p1, p2⟩ := rabs (x := (u : Rat)) (y := x - ws k) (m := 2147483648) (f := eB) a0 a1 (by obtain ⟨a, b⟩ := n1; grind) (by obtain ⟨a, b⟩ := n1; grind)
  obtain ⟨p3, p4⟩ := rabs (x := (v : Rat)) (y := y - wc k) (m := 2147483648) (f := eB) c0 c1 (by obtain ⟨a, b⟩ := n2; grind) (by obtain ⟨a, b⟩ := n2; grind)
  unfold eB at *
  constructor
  · constructor <;> grind
  · constructor <;> grind
theorem rch_yesW {u v : Int} {k : Nat} (h0 : 0 < k) (hk : k < 5400000) (u0 : 0 ≤ u) (u1 : u ≤ 2147483648) (v0 : 0 ≤ v) (v1 : v ≤ 2147483648) (h : rchB u v k = true) : (u : Rat) * ws k ≤ (v : Rat) * wc k + tolW := by
  unfold rchB at h
  rw [if_neg (by omega)] at h
  by_cases c : k = 2700000
  · rw [if_pos c] at h
    subst c
    have hu := castle (of_decide_eq_true h)
    obtain ⟨a, b⟩ := half_w
    have z0 := wc_half.2
    have b0 : (0 : Rat) ≤ (u : Rat) := castle u0
    have b1 : (u : Rat) ≤ 2147483648 := castle u1
    have m1 := Rat.mul_le_mul_of_nonneg_left a b0
    have m2 := Rat.mul_le_mul_of_nonneg_right hu z0
    have m3 := Rat.mul_le_mul_of_nonneg_right b1 (show (0 : Rat) ≤ 1 / 10000000000000000000000000000000000 by grind)
    generalize ws 2700000 = x at *
    generalize wc 2700000 = y at *
    unfold tolW
    grind
  · rw [if_neg c] at h
    have hd := div_mono (of_decide_eq_true h)
    obtain ⟨⟨a, b⟩, c1, d⟩ := cross_w (u := u) (v := v) (k := k) (by omega) (by omega) u1 (by omega) v1
    unfold tolW
    grind
theorem rch_noW {u v : Int} {k : Nat} (h0 : 0 < k) (hk : k < 5400000) (u0 : 0 ≤ u) (u1 : u ≤ 2147483648) (v0 : 0 ≤ v) (v1 : v ≤ 2147483648) (h : rchB u v k = false) : (v : Rat) * wc k ≤ (u : Rat) * ws k + tolW := by
  unfold rchB at h
  rw [if_neg (by omega)] at h
  by_cases c : k = 2700000
  · rw [if_pos c] at h
    subst c
    have hu := castle (show v ≤ u by have := of_decide_eq_false h; omega)
    obtain ⟨a, b⟩ := half_w
    have z0 := wc_half.2
    have b0 : (0 : Rat) ≤ (u : Rat) := castle u0
    have b1 : (u : Rat) ≤ 2147483648 := castle u1
    have m1 := Rat.mul_le_mul_of_nonneg_left b b0
    have m2 := Rat.mul_le_mul_of_nonneg_right hu z0
    have m3 := Rat.mul_le_mul_of_nonneg_right b1 (show (0 : Rat) ≤ 1 / 10000000000000000000000000000000000 by grind)
    generalize ws 2700000 = x at *
    generalize wc 2700000 = y at *
    unfold tolW
    grind
  · rw [if_neg c] at h
    have hd := div_mono (show coA k * v ≤ siA k * u by have := of_decide_eq_false h; omega)
    obtain ⟨⟨a, b⟩, c1, d⟩ := cross_w (u := u) (v := v) (k := k) (by omega) (by omega) u1 (by omega) v1
    unfold tolW
    grind
end Go.Proofs.YtkhhdpndcidmgaaGreat
