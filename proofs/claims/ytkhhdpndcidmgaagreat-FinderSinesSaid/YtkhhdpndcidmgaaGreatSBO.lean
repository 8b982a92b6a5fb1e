/- Contracts and plain laws, several texts in one: WrE; WrF; WrG -/
import Derived.Test.YtkhhdpndcidmgaaGreatProg
import Derived.WalkKit
import Derived.WalkSpells
import Derived.WalkLawsBesides
import Derived.Lib.Hide
import Derived.BigQuiet
import Derived.Test.YtkhhdpndcidmgaaGreatSAC
import Derived.Test.YtkhhdpndcidmgaaGreatSAD
import Derived.Test.YtkhhdpndcidmgaaGreatSAE
import Derived.Test.YtkhhdpndcidmgaaGreatSAF
import Derived.Test.YtkhhdpndcidmgaaGreatSBG
import Derived.Test.YtkhhdpndcidmgaaGreatSBJ
import Derived.Test.YtkhhdpndcidmgaaGreatSBK
import Derived.Test.YtkhhdpndcidmgaaGreatSBN
/- Directions of points: what the program's decisions mean for the finer rotation. No program in sight. -/
namespace Go.Proofs.YtkhhdpndcidmgaaGreat
open Go.RowKit

def eB : Rat := 1 / 100000000000000000000000000000000000
theorem wn_e {r : Nat} (h : r ≤ 2700000) : 64 * (r : Rat) / (k160 : Rat) ≤ eW := by
  have hr : (r : Rat) ≤ 2700000 := by exact_mod_cast h
  rw [show (k160 : Rat) = 1461501637330902918203684832716283019655932542976 from rfl]
  unfold eW
  grind
theorem sU_w {k : Nat} (hk : k ≤ 5400000) : Nr (sU k) (ws k) (4 * eW) ∧ Nr (cU k) (wc k) (4 * eW) := by
  have e0 : (0 : Rat) < eW ∧ eW ≤ 1 / 1000 := by unfold eW; constructor <;> grind
  unfold sU cU
  by_cases h : 2700000 < k
  · rw [if_pos h, if_pos h]
    obtain ⟨j, hj⟩ : ∃ j, 5400000 - k = j := ⟨_, rfl⟩
    rw [hj]
    obtain ⟨h1, h2⟩ := w_near (r := j) (by omega)
    have h3 := h1.le (wn_e (by omega))
    have h4 := h2.le (wn_e (by omega))
    obtain ⟨z1, z2⟩ := w_sub (a := 5400000) (b := j) (by omega)
    rw [show 5400000 - j = k by omega] at z1 z2
    obtain ⟨q1, q2, q3, q4⟩ := w_qnat
    have u := w_unit j
    obtain ⟨b1, b2⟩ := sq_one u
    obtain ⟨b3, b4⟩ := sq_one (x := wc j) (y := ws j) (by grind)
    rw [z1, z2]
    clear z1 z2 h1 h2 u
    generalize ws 5400000 = s at *
    generalize wc 5400000 = c at *
    generalize ws j = x at *
    generalize wc j = y at *
    generalize eW = e at *
    obtain ⟨p1, p2⟩ := rabs (x := s - 1) (y := y) (m := e) (f := 1) (by grind) (by grind) b3 b4
    obtain ⟨p3, p4⟩ := rabs (x := c) (y := x) (m := e) (f := 1) (by grind) (by grind) b1 b2
    obtain ⟨p5, p6⟩ := rabs (x := s - 1) (y := x) (m := e) (f := 1) (by grind) (by grind) b1 b2
    obtain ⟨p7, p8⟩ := rabs (x := c) (y := y) (m := e) (f := 1) (by grind) (by grind) b3 b4
    obtain ⟨n1, n2⟩ := h3
    obtain ⟨n3, n4⟩ := h4
    clear hj hk h
    generalize sinU j = f at *
    generalize cosU j = g at *
    constructor
    · constructor <;> grind
    · constructor <;> grind
  · rw [if_neg h, if_neg h]
    obtain ⟨h1, h2⟩ := w_near (r := k) (by omega)
    exact ⟨(h1.le (wn_e (by omega))).symm.le (by grind), (h2.le (wn_e (by omega))).symm.le (by grind)⟩
theorem siA_w {k : Nat} (hk : k ≤ 5400000) : Nr ((siA k : Rat) / (m192 : Rat)) (ws k) eB ∧ Nr ((coA k : Rat) / (m192 : Rat)) (wc k) eB := by
  obtain ⟨h1, h2⟩ := siM_near mok192 hk
  rw [(siM_A k).1] at h1
  rw [(siM_A k).2] at h2
  obtain ⟨h3, h4⟩ := sU_w hk
  have hm : 620 / (m192 : Rat) + tl50 + 4 * eW ≤ eB := by unfold tl50 eW eB; decide +kernel
  exact ⟨(h1.trans h3).le hm, (h2.trans h4).le hm⟩
theorem wc_half : 17 / 25 - eW ≤ wc 2700000 ∧ 0 ≤ wc 2700000 := by
  have h := (w_near (r := 2700000) (by decide)).2.le (wn_e (by decide))
  have hc := (cosU_in (n := 2700000) (by decide)).1
  have e0 : eW ≤ 1 / 1000 := by unfold eW; grind
  obtain ⟨h1, h2⟩ := h
  generalize cosU 2700000 = z at *
  generalize wc 2700000 = c at *
  constructor <;> grind
theorem half_w : Nr (ws 2700000) (wc 2700000) (1 / 10000000000000000000000000000000000) := by
  obtain ⟨-, a2⟩ := w_add 2700000 2700000
  rw [show (2700000 : Nat) + 2700000 = 5400000 from rfl] at a2
  obtain ⟨q1, q2, -, -⟩ := w_qnat
  rw [a2] at q1 q2
  clear a2
  have hs := (w_near (r := 2700000) (by decide)).1.le (wn_e (by decide))
  have hs0 := (sinU_in (n := 2700000) (by decide)).1
  have hc := wc_half.1
  have e0 : (0 : Rat) < eW ∧ eW ≤ 1 / 1000 ∧ 2 * eW ≤ 1 / 10000000000000000000000000000000000 := by unfold eW; refine ⟨?_, ?_, ?_⟩ <;> grind
  obtain ⟨n1, n2⟩ := hs
  generalize ws 2700000 = s at *
  generalize wc 2700000 = c at *
  generalize eW = e at *
  generalize sinU 2700000 = z at *
  have hp : 1 / 2 ≤ c + s := by grind
  constructor
  · rcases (Rat.le_total : s ≤ c ∨ c ≤ s) with g | g
    · grind
    · have := rmul (a := s - c) (b := s - c) (c := 1 / 2) (d := c + s) (by grind) Rat.le_refl (by grind) hp
      grind
  · rcases (Rat.le_total : s ≤ c ∨ c ≤ s) with g | g
    · have := rmul (a := c - s) (b := c - s) (c := 1 / 2) (d := c + s) (by grind) Rat.le_refl (by grind) hp
      grind
    · grind
def tolW : Rat := 1 / 1000000000000000000000000
theorem cross_w {u v : Int} {k : Nat} (hk : k ≤ 5400000) (u0 : -2147483648 ≤ u) (u1 : u ≤ 2147483648) (v0 : -2147483648 ≤ v) (v1 : v ≤ 2147483648) :
    Nr ((((siA k * u : Int) : Rat)) / (m192 : Rat)) ((u : Rat) * ws k) (1 / 10000000000000000000000000) ∧ Nr ((((coA k * v : Int) : Rat)) / (m192 : Rat)) ((v : Rat) * wc k) (1 / 10000000000000000000000000) := by
  obtain ⟨n1, n2⟩ := siA_w hk
  obtain ⟨a0, a1⟩ := bd31 u0 u1
  obtain ⟨c0, c1⟩ := bd31 v0 v1
  have e1 : (((siA k * u : Int) : Rat)) / (m192 : Rat) = (u : Rat) * ((siA k : Rat) / (m192 : Rat)) := by push_cast; grind
  have e2 : (((coA k * v : Int) : Rat)) / (m192 : Rat) = (v : Rat) * ((coA k : Rat) / (m192 : Rat)) := by push_cast; grind
  rw [e1, e2]
  generalize (siA k : Rat) / (m192 : Rat) = x at *
  generalize (coA k : Rat) / (m192 : Rat) = y at *
  obtain ⟨p1, p2⟩ := rabs (x := (u : Rat)) (y := x - ws k) (m := 2147483648) (f := eB) a0 a1 (by obtain ⟨a, b⟩ := n1; grind) (by obtain ⟨a, b⟩ := n1; grind)
  obtain ⟨p3, p4⟩ := rabs (x := (v : Rat)) (y := y - wc k) (m := 2147483648) (f := eB) c0 c1 (by obtain ⟨a, b⟩ := n2; grind) (by obtain ⟨a, b⟩ := n2; grind)
  unfold eB at *
  constructor
  · constructor <;> grind
  · constructor <;> grind
theorem rch_yesW {u v : Int} {k : Nat} (h0 : 0 < k) (hk : k < 5400000) (u0 : 0 ≤ u) (u1 : u ≤ 2147483648) (v0 : 0 ≤ v) (v1 : v ≤ 2147483648) (h : rchB u v k = true) : (u : Rat) * ws k ≤ (v : Rat) * wc k + tolW := by
  unfold rchB at h
  rw [if_neg (by omega)] at h
  by_cases c : k = 2700000
  · rw [if_pos c] at h
    subst c
    have hu := castle (of_decide_eq_true h)
    obtain ⟨a, b⟩ := half_w
    have z0 := wc_half.2
    have b0 : (0 : Rat) ≤ (u : Rat) := castle u0
    have b1 : (u : Rat) ≤ 2147483648 := castle u1
    have m1 := Rat.mul_le_mul_of_nonneg_left a b0
    have m2 := Rat.mul_le_mul_of_nonneg_right hu z0
    have m3 := Rat.mul_le_mul_of_nonneg_right b1 (show (0 : Rat) ≤ 1 / 10000000000000000000000000000000000 by grind)
    generalize ws 2700000 = x at *
    generalize wc 2700000 = y at *
    unfold tolW
    grind
  · rw [if_neg c] at h
    have hd := div_mono (of_decide_eq_true h)
    obtain ⟨⟨a, b⟩, c1, d⟩ := cross_w (u := u) (v := v) (k := k) (by omega) (by omega) u1 (by omega) v1
    unfold tolW
    grind
theorem rch_noW {u v : Int} {k : Nat} (h0 : 0 < k) (hk : k < 5400000) (u0 : 0 ≤ u) (u1 : u ≤ 2147483648) (v0 : 0 ≤ v) (v1 : v ≤ 2147483648) (h : rchB u v k = false) : (v : Rat) * wc k ≤ (u : Rat) * ws k + tolW := by
  unfold rchB at h
  rw [if_neg (by omega)] at h
  by_cases c : k = 2700000
  · rw [if_pos c] at h
    subst c
    have hu := castle (show v ≤ u by have := of_decide_eq_false h; omega)
    obtain ⟨a, b⟩ := half_w
    have z0 := wc_half.2
    have b0 : (0 : Rat) ≤ (u : Rat) := castle u0
    have b1 : (u : Rat) ≤ 2147483648 := castle u1
    have m1 := Rat.mul_le_mul_of_nonneg_left b b0
    have m2 := Rat.mul_le_mul_of_nonneg_right hu z0
    have m3 := Rat.mul_le_mul_of_nonneg_right b1 (show (0 : Rat) ≤ 1 / 10000000000000000000000000000000000 by grind)
    generalize ws 2700000 = x at *
    generalize wc 2700000 = y at *
    unfold tolW
    grind
  · rw [if_neg c] at h
    have hd := div_mono (show coA k * v ≤ siA k * u by have := of_decide_eq_false h; omega)
    obtain ⟨⟨a, b⟩, c1, d⟩ := cross_w (u := u) (v := v) (k := k) (by omega) (by omega) u1 (by omega) v1
    unfold tolW
    grind
end Go.Proofs.YtkhhdpndcidmgaaGreat
/- The angle of a point of the first quadrant against the finer rotation. No program in sight. -/
namespace Go.Proofs.YtkhhdpndcidmgaaGreat
open Go.RowKit

theorem bisF_inv {u v : Int} : ∀ {f l h : Nat}, l < h → h - l ≤ 2 ^ f → (l = 0 ∨ rchB u v l = true) → (h = 5400000 ∨ rchB u v h = false) →
    (bisF u v f l h = 0 ∨ rchB u v (bisF u v f l h) = true) ∧ (bisF u v f l h + 1 = 5400000 ∨ rchB u v (bisF u v f l h + 1) = false)
  | 0, l, h, c, hf, hl, hh => by
    have : h = l + 1 := by simp at hf; omega
    subst this
    exact ⟨hl, hh⟩
  | f + 1, l, h, c, hf, hl, hh => by
    rw [Nat.pow_succ] at hf
    unfold bisF
    by_cases c1 : l + 1 < h
    · rw [if_pos c1]
      by_cases c2 : rchB u v ((l + h) / 2) = true
      · rw [if_pos c2]
        exact bisF_inv (by omega) (by omega) (.inr c2) hh
      · rw [if_neg c2]
        exact bisF_inv (by omega) (by omega) hl (.inr (by simpa using c2))
    · rw [if_neg c1]
      have : h = l + 1 := by omega
      subst this
      exact ⟨hl, hh⟩
theorem bisF_is (u v : Int) : (bisF u v 23 0 5400000 = 0 ∨ rchB u v (bisF u v 23 0 5400000) = true) ∧ (bisF u v 23 0 5400000 + 1 = 5400000 ∨ rchB u v (bisF u v 23 0 5400000 + 1) = false) :=
  bisF_inv (by decide) (by decide) (.inl rfl) (.inl rfl)
theorem ang_loW {u v : Int} {k : Nat} (hk : k = bisF u v 23 0 5400000) (u0 : 0 < u) (u1 : u ≤ 2147483648) (v0 : 0 ≤ v) (v1 : v ≤ 2147483648) : (u : Rat) * ws k ≤ (v : Rat) * wc k + tolW := by
  have hl : k < 5400000 := by rw [hk]; exact bisF_lt (by decide)
  have hb := (bisF_is u v).1
  rw [← hk] at hb
  by_cases c : k = 0
  · subst c
    rw [ws_0, wc_0]
    have : (0 : Rat) ≤ (v : Rat) := castle v0
    unfold tolW
    grind
  · exact rch_yesW (by omega) hl (by omega) u1 v0 v1 (hb.resolve_left c)
theorem ang_hiW {u v : Int} {k : Nat} (hk : k = bisF u v 23 0 5400000) (u0 : 0 < u) (u1 : u ≤ 2147483648) (v0 : 0 ≤ v) (v1 : v ≤ 2147483648) : (v : Rat) * wc (k + 1) ≤ (u : Rat) * ws (k + 1) + tolW := by
  have hl : k < 5400000 := by rw [hk]; exact bisF_lt (by decide)
  have hb := (bisF_is u v).2
  rw [← hk] at hb
  by_cases c : k + 1 = 5400000
  · rw [c]
    obtain ⟨q1, q2, q3, q4⟩ := w_qnat
    have a0 : (0 : Rat) ≤ (v : Rat) := castle v0
    have a1 : (v : Rat) ≤ 2147483648 := castle v1
    have b0 : (1 : Rat) ≤ (u : Rat) := castle (show (1 : Int) ≤ u by omega)
    have e0 : (0 : Rat) < eW ∧ eW ≤ 1 / 1000 ∧ 2147483648 * eW ≤ tolW := by unfold eW tolW; refine ⟨?_, ?_, ?_⟩ <;> grind
    generalize ws 5400000 = s at *
    generalize wc 5400000 = y at *
    generalize eW = e at *
    have m1 := Rat.mul_le_mul_of_nonneg_left q2 a0
    have m2 := Rat.mul_le_mul_of_nonneg_right a1 (Rat.le_of_lt e0.1)
    have m3 := rmul0 (show (0 : Rat) ≤ (u : Rat) by grind) (show 0 ≤ s by grind)
    grind
  · exact rch_noW (by omega) (by omega) (by omega) u1 v0 v1 (hb.resolve_left c)
theorem ang_exW {u v : Int} {k : Nat} (hx : exF u v k = true) (u0 : 0 < u) (u1 : u ≤ 2147483648) : (v : Rat) * wc k ≤ (u : Rat) * ws k + tolW := by
  unfold exF at hx
  simp only [Bool.or_eq_true, decide_eq_true_eq] at hx
  have a0 : (0 : Rat) ≤ (u : Rat) := castle (Int.le_of_lt u0)
  have a1 : (u : Rat) ≤ 2147483648 := castle u1
  rcases hx with ⟨rfl, rfl⟩ | ⟨rfl, rfl⟩
  · rw [ws_0, wc_0]
    unfold tolW
    push_cast
    grind
  · obtain ⟨h1, h2⟩ := half_w
    generalize ws 2700000 = s at *
    generalize wc 2700000 = c at *
    have m1 := Rat.mul_le_mul_of_nonneg_left h2 a0
    have m2 := Rat.mul_le_mul_of_nonneg_right a1 (show (0 : Rat) ≤ 1 / 10000000000000000000000000000000000 by grind)
    unfold tolW
    grind
def crW (n : Int) (x y : Rat) : Rat := y * wC n - x * wS n
def tolR : Rat := 1 / 1000000000000000000000000000
theorem crW_rot (n : Int) {x y : Rat} (x0 : -2147483648 ≤ x) (x1 : x ≤ 2147483648) (y0 : -2147483648 ≤ y) (y1 : y ≤ 2147483648) : Nr (crW (n + 5400000) (-y) x) (crW n x y) tolR := by
  obtain ⟨a1, a2⟩ := W_add n 5400000
  obtain ⟨q1, q2, q3, q4⟩ := wq_near
  obtain ⟨⟨z1, z2⟩, z3, z4⟩ := W_in n
  unfold crW
  rw [a1, a2]
  clear a1 a2
  have e0 : (0 : Rat) < eW ∧ 4 * (4294967296 * eW) ≤ tolR := by unfold eW tolR; constructor <;> grind
  generalize wS 5400000 = s at *
  generalize wC 5400000 = c at *
  generalize wS n = a at *
  generalize wC n = b at *
  generalize eW = e at *
  obtain ⟨p1, p2⟩ := rabs (x := x) (y := a) (m := 2147483648) (f := 1) x0 x1 z1 z2
  obtain ⟨p3, p4⟩ := rabs (x := x) (y := b) (m := 2147483648) (f := 1) x0 x1 z3 z4
  obtain ⟨p5, p6⟩ := rabs (x := y) (y := a) (m := 2147483648) (f := 1) y0 y1 z1 z2
  obtain ⟨p7, p8⟩ := rabs (x := y) (y := b) (m := 2147483648) (f := 1) y0 y1 z3 z4
  obtain ⟨r1, r2⟩ := rabs (x := y * b - x * a) (y := s - 1) (m := 4294967296) (f := e) (by grind) (by grind) (by grind) (by grind)
  obtain ⟨r3, r4⟩ := rabs (x := x * b + y * a) (y := c) (m := 4294967296) (f := e) (by grind) (by grind) q1 q2
  constructor <;> grind
theorem quad_crW {q u v : Int} (q0 : 0 ≤ q) (q3 : q ≤ 3) (m : Nat) (u0 : 0 ≤ u) (u1 : u ≤ 2147483648) (v0 : 0 ≤ v) (v1 : v ≤ 2147483648) : Nr (crW (5400000 * q + (m : Int)) ((qx q u v : Int) : Rat) ((qy q u v : Int) : Rat)) ((v : Rat) * wc m - (u : Rat) * ws m) (3 * tolR) := by
  have a0 : (0 : Rat) ≤ (u : Rat) := castle u0
  have a1 : (u : Rat) ≤ 2147483648 := castle u1
  have b0 : (0 : Rat) ≤ (v : Rat) := castle v0
  have b1 : (v : Rat) ≤ 2147483648 := castle v1
  have h0 : crW (m : Int) (u : Rat) (v : Rat) = (v : Rat) * wc m - (u : Rat) * ws m := by unfold crW; rw [wS_nat, wC_nat]
  have t0 : (0 : Rat) ≤ tolR := by unfold tolR; grind
  have h1 := crW_rot (m : Int) (x := (u : Rat)) (y := (v : Rat)) (by grind) a1 (by grind) b1
  have h2 := crW_rot ((m : Int) + 5400000) (x := -(v : Rat)) (y := (u : Rat)) (by grind) (by grind) (by grind) a1
  have h3 := crW_rot ((m : Int) + 5400000 + 5400000) (x := -(u : Rat)) (y := -(v : Rat)) (by grind) (by grind) (by grind) (by grind)
  rw [h0] at h1
  have k2 := h2.trans h1
  have k3 := h3.trans k2
  rcases (show q = 0 ∨ q = 1 ∨ q = 2 ∨ q = 3 by omega) with rfl | rfl | rfl | rfl
  · rw [show 5400000 * 0 + (m : Int) = (m : Int) by omega, show qx 0 u v = u from rfl, show qy 0 u v = v from rfl, h0]
    constructor <;> grind
  · rw [show 5400000 * 1 + (m : Int) = (m : Int) + 5400000 by omega, show qx 1 u v = -v from rfl, show qy 1 u v = u from rfl]
    push_cast
    exact h1.le (by grind)
  · rw [show 5400000 * 2 + (m : Int) = (m : Int) + 5400000 + 5400000 by omega, show qx 2 u v = -u from rfl, show qy 2 u v = -v from rfl]
    push_cast
    exact k2.le (by grind)
  · rw [show 5400000 * 3 + (m : Int) = (m : Int) + 5400000 + 5400000 + 5400000 by omega, show qx 3 u v = v from rfl, show qy 3 u v = -u from rfl]
    push_cast
    rw [show -(-(v : Rat)) = (v : Rat) by grind] at k3
    exact k3.le (by grind)
end Go.Proofs.YtkhhdpndcidmgaaGreat
/- The angle of a point against the finer rotation. No program in sight. -/
namespace Go.Proofs.YtkhhdpndcidmgaaGreat
open Go.RowKit

theorem quad_exW {X Y : Int} (h : ¬ (X = 0 ∧ Y = 0)) : ∃ q u v k, QuadP X Y q u v k ∧ (angF X Y).2 = exF u v k := by
  by_cases c0 : 0 < X ∧ 0 ≤ Y
  · exact ⟨0, X, Y, _, ⟨by decide, by decide, c0.1, c0.2, by simp [qx], by simp [qy], rfl, by unfold angF; rw [if_pos c0]; rfl⟩, by unfold angF; rw [if_pos c0]; rfl⟩
  · by_cases c1 : 0 < Y ∧ X ≤ 0
    · exact ⟨1, Y, -X, _, ⟨by decide, by decide, c1.1, by omega, by simp [qx], by simp [qy], rfl, by unfold angF; rw [if_neg c0, if_pos c1]; rfl⟩, by unfold angF; rw [if_neg c0, if_pos c1]; rfl⟩
    · by_cases c2 : X < 0 ∧ Y ≤ 0
      · exact ⟨2, -X, -Y, _, ⟨by decide, by decide, by omega, by omega, by simp [qx], by simp [qy], rfl, by unfold angF; rw [if_neg c0, if_neg c1, if_pos c2]; rfl⟩, by unfold angF; rw [if_neg c0, if_neg c1, if_pos c2]; rfl⟩
      · exact ⟨3, -Y, X, _, ⟨by decide, by decide, by omega, by omega, by simp [qx], by simp [qy], rfl, by unfold angF; rw [if_neg c0, if_neg c1, if_neg c2]; rfl⟩, by unfold angF; rw [if_neg c0, if_neg c1, if_neg c2]; rfl⟩
def tolD : Rat := 1 / 100000000000000000000000
theorem num_D : tolW + 3 * tolR ≤ tolD := by unfold tolW tolR tolD; grind
theorem ang_crW {X Y : Int} (h : ¬ (X = 0 ∧ Y = 0)) (hX : -2147483648 ≤ X ∧ X ≤ 2147483648) (hY : -2147483648 ≤ Y ∧ Y ≤ 2147483648) :
    -tolD ≤ crW (angF X Y).1 (X : Rat) (Y : Rat) ∧ crW ((angF X Y).1 + if (angF X Y).2 = true then 0 else 1) (X : Rat) (Y : Rat) ≤ tolD := by
  obtain ⟨q, u, v, k, ⟨q0, q3, u0, v0, x, y, kv, ang⟩, hex⟩ := quad_exW h
  have hu : u ≤ 2147483648 ∧ v ≤ 2147483648 := by
    unfold qx at x
    unfold qy at y
    split at x <;> split at y <;> omega
  have n := num_D
  have e : ∀ m : Nat, Nr (crW (5400000 * q + (m : Int)) (X : Rat) (Y : Rat)) ((v : Rat) * wc m - (u : Rat) * ws m) (3 * tolR) := fun m => by
    rw [x, y]
    exact quad_crW q0 q3 m (by omega) hu.1 v0 hu.2
  rw [ang, hex]
  constructor
  · have l := ang_loW kv u0 hu.1 v0 hu.2
    obtain ⟨e1, e2⟩ := e k
    grind
  · split
    · have l := ang_exW ‹_› u0 hu.1 (v := v)
      obtain ⟨e1, e2⟩ := e k
      rw [Int.add_zero]
      grind
    · have l := ang_hiW kv u0 hu.1 v0 hu.2
      obtain ⟨e1, e2⟩ := e (k + 1)
      rw [show 5400000 * q + ((k + 1 : Nat) : Int) = 5400000 * q + (k : Int) + 1 by omega] at e1 e2
      grind
end Go.Proofs.YtkhhdpndcidmgaaGreat
