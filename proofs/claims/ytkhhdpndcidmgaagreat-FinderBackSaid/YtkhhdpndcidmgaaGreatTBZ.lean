/- Contracts and plain laws, several texts in one: SnA; SnC -/
import Derived.Test.YtkhhdpndcidmgaaGreatProg
import Derived.WalkKit
import Derived.WalkSpells
import Derived.WalkLawsBesides
import Derived.Lib.Hide
import Derived.BigQuiet
import Derived.Test.YtkhhdpndcidmgaaGreatTAE
import Derived.Test.YtkhhdpndcidmgaaGreatTAF
import Derived.Test.YtkhhdpndcidmgaaGreatTAI
import Derived.Test.YtkhhdpndcidmgaaGreatTBL
import Derived.Test.YtkhhdpndcidmgaaGreatTBW
import Derived.Test.YtkhhdpndcidmgaaGreatTBX
/- A triangle's true values within the intervals of the altitude, the azimuth, the parallactic angle. No program in sight. -/
namespace Go.Proofs.YtkhhdpndcidmgaaGreat
open Go.RowKit

structure Iv (a0 a1 : Int) (s c e : Rat) : Prop where
  s : InR (sI a0 a1).1 (sI a0 a1).2 s e
  c : InR (cI a0 a1).1 (cI a0 a1).2 c e
theorem iv_of {a0 a1 n : Int} (h0 : a0 ≤ n) (h1 : n ≤ a1) : Iv a0 a1 (wS (n % 21600000)) (wC (n % 21600000)) wtZ := ⟨sin_InP h0 h1, cos_InP h0 h1⟩
theorem InR.mL {p q : Int × Int} {x y e f g : Rat} (hx : InR p.1 p.2 x e) (hy : InR q.1 q.2 y f) (up : UnI p) (uq : UnI q) (he : 0 ≤ e) (hf : 0 ≤ f) (hf1 : f ≤ 1073741824) (hg : 2 * e + f ≤ g) : InR (Go.Proofs.YtkhhdpndcidmgaaGreat.mL p q).1 (Go.Proofs.YtkhhdpndcidmgaaGreat.mL p q).2 (x * y) g := hx.mul hy up uq he hf hf1 hg
section
variable {a0 a1 b0 b1 c0 c1 : Int} {sf cf sd cd st ct e f g : Rat}
theorem alt_val (A : Iv a0 a1 sf cf e) (B : Iv b0 b1 sd cd f) (T : Iv c0 c1 st ct g) (he : 0 ≤ e) (hf : 0 ≤ f) (hg : 0 ≤ g) (_ : e ≤ 1) (hf1 : f ≤ 1) (hg1 : g ≤ 1) :
    InR (altS0 a0 a1 b0 b1 c0 c1) (altS1 a0 a1 b0 b1 c0 c1) (sf * sd + cf * cd * ct) (6 * e + 3 * f + g) := by
  have m1 := A.s.mL B.s (g := 2 * e + f) (sI_un _ _) (sI_un _ _) he hf (by grind) Rat.le_refl
  have m2 := A.c.mL B.c (g := 2 * e + f) (cI_un _ _) (cI_un _ _) he hf (by grind) Rat.le_refl
  have m3 := m2.mL T.c (g := 2 * (2 * e + f) + g) ((cI_un _ _).mul (cI_un _ _)) (cI_un _ _) (by grind) hg (by grind) Rat.le_refl
  exact (m1.add m3).mono (Int.le_refl _) (Int.le_refl _) (by grind)
theorem azY_val (B : Iv b0 b1 sd cd f) (T : Iv c0 c1 st ct g) (hf : 0 ≤ f) (hg : 0 ≤ g) (hg1 : g ≤ 1) : InR (azY b0 b1 c0 c1).1 (azY b0 b1 c0 c1).2 (-(cd * st)) (6 * (f + g)) := by
  have m := B.c.mL T.s (g := 2 * f + g) (cI_un _ _) (sI_un _ _) hf hg (by grind) Rat.le_refl
  exact m.neg.mono (Int.le_refl _) (Int.le_refl _) (by grind)
theorem azX_val (A : Iv a0 a1 sf cf e) (B : Iv b0 b1 sd cd f) (T : Iv c0 c1 st ct g) (he : 0 ≤ e) (hf : 0 ≤ f) (hg : 0 ≤ g) (he1 : e ≤ 1) (_ : f ≤ 1) (hg1 : g ≤ 1) :
    InR (azX a0 a1 b0 b1 c0 c1).1 (azX a0 a1 b0 b1 c0 c1).2 (sd * cf - cd * ct * sf) (6 * (e + f + g)) := by
  have m1 := B.s.mL A.c (g := 2 * f + e) (sI_un _ _) (cI_un _ _) hf he (by grind) Rat.le_refl
  have m2 := B.c.mL T.c (g := 2 * f + g) (cI_un _ _) (cI_un _ _) hf hg (by grind) Rat.le_refl
  have m3 := m2.mL A.s (g := 2 * (2 * f + g) + e) ((cI_un _ _).mul (cI_un _ _)) (sI_un _ _) (by grind) he (by grind) Rat.le_refl
  exact (m1.sub m3).mono (Int.le_refl _) (Int.le_refl _) (by grind)
end
theorem az_bd (a0 a1 b0 b1 c0 c1 : Int) : ((azX a0 a1 b0 b1 c0 c1).1 ≤ (azX a0 a1 b0 b1 c0 c1).2 ∧ (azY b0 b1 c0 c1).1 ≤ (azY b0 b1 c0 c1).2) ∧ Bd31 (azX a0 a1 b0 b1 c0 c1).1 ∧ Bd31 (azX a0 a1 b0 b1 c0 c1).2 ∧ Bd31 (azY b0 b1 c0 c1).1 ∧ Bd31 (azY b0 b1 c0 c1).2 := by
  have m1 := (sI_un b0 b1).mul (cI_un a0 a1)
  have m2 := ((cI_un b0 b1).mul (cI_un c0 c1)).mul (sI_un a0 a1)
  have m3 := (cI_un b0 b1).mul (sI_un c0 c1)
  unfold azX azY Bd31
  unfold UnI at m1 m2 m3
  dsimp only
  omega
theorem tri_az {sf cf sd cd st ct : Rat} (A : sf * sf + cf * cf = 1) (B : sd * sd + cd * cd = 1) (T : st * st + ct * ct = 1) : (sd * cf - cd * ct * sf) * (sd * cf - cd * ct * sf) + (-(cd * st)) * (-(cd * st)) = 1 - (sf * sd + cf * cd * ct) * (sf * sd + cf * cd * ct) := by
  have e1 : sd * sd * (sf * sf + cf * cf) = sd * sd := by rw [A]; grind
  have e2 : cd * cd * ct * ct * (sf * sf + cf * cf) = cd * cd * ct * ct := by rw [A]; grind
  have e3 : cd * cd * (st * st + ct * ct) = cd * cd := by rw [T]; grind
  grind
theorem tri_root {S x y : Rat} (h : x * x + y * y = 1 - S * S) : -1 ≤ S ∧ S ≤ 1 ∧ ∃ C, 0 ≤ C ∧ C ≤ 1 ∧ Nr (C * C) (1 - S * S) wtA := by
  have sx := sqnn x
  have sy := sqnn y
  have ss := sqnn S
  have a := le_sq (x := S) (c := 1) (by grind) (by grind)
  have b := le_sq (x := -S) (c := 1) (by grind) (by grind)
  obtain ⟨C, c0, -, hc, c2⟩ := root_ex (v := 1 - S * S) (by grind) (by grind)
  exact ⟨by grind, a, C, c0, le_sq (by grind) (by grind), hc⟩
def e6 : Rat := 1 / 100000000000000000000000
theorem num_6 : 6 * wtZ + 3 * wtZ + wtZ ≤ wtV ∧ 0 ≤ wtZ ∧ wtZ ≤ 1 ∧ wtV ≤ 1 / 100000 ∧ 0 ≤ wtU ∧ wtU ≤ 1 / 1000000 ∧ wtU + (6 * (wtZ + wtZ)) + 1073741824 * wtQ < 1 ∧ 0 ≤ wtQ ∧ 6 * (wtZ + wtZ + wtZ) ≤ 1 / 100000 := by unfold wtZ wtV wtU wtQ; decide +kernel
end Go.Proofs.YtkhhdpndcidmgaaGreat
/- FinderBack, plain law: a tenth's declination and direction are found from intervals that hold them nearly. No program in sight. -/
namespace Go.Proofs.YtkhhdpndcidmgaaGreat
open Go.RowKit

theorem sinQ_1 : 300 ≤ sinQ 1 := by decide +kernel
theorem sinQ_100 : 31000 ≤ sinQ 100 := by decide +kernel
theorem bLo_ge {k m : Nat} {n : Int} (hk : k ≤ 5400000) (h0 : (k : Int) ≤ n) (h1 : n ≤ 10800000 - (k : Int)) (hm : m ≤ sinQ k) : (m : Int) ≤ bLo n := by
  by_cases g : n ≤ 5400000
  · rw [(b_one (n := n) (by omega) g).1]
    have := sinQ_mono (a := k) (b := n.toNat) (by omega) (by omega)
    omega
  · rw [(b_two (n := n) (by omega) (by omega)).1]
    have := sinQ_mono (a := k) (b := (10800000 - n).toNat) (by omega) (by omega)
    omega
theorem wS_ge1 {n : Int} (h0 : 1 ≤ n) (h1 : n ≤ 10799999) : 27 / 100000000 ≤ wS n := by
  have h := (cellw_all (n := n) (by omega) (by omega)).lo
  have g0 : (300 : Int) ≤ bLo n := bLo_ge (k := 1) (m := 300) (n := n) (by decide) (by omega) (by omega) sinQ_1
  have g := castle g0
  have e : wtW ≤ 1 := by unfold wtW; grind
  push_cast at g
  grind
theorem wC_ge {n : Int} (h0 : -5399900 ≤ n) (h1 : n ≤ 5399900) : 30000 ≤ 1073741824 * wC n := by
  have h := (cellw_all (n := n + 5400000) (by omega) (by omega)).lo
  have g0 : (31000 : Int) ≤ bLo (n + 5400000) := bLo_ge (k := 100) (m := 31000) (n := n + 5400000) (by decide) (by omega) (by omega) sinQ_100
  have g := castle g0
  obtain ⟨q1, q2⟩ := wC_quarter n
  have e : wtW ≤ 1 := by unfold wtW; grind
  have e2 : eW ≤ 1 / 1000000000000000 := by unfold eW; grind
  push_cast at g
  grind
def wtR : Rat := 1 / 8000
theorem wS_grow {n : Int} (h0 : -5399900 ≤ n) (h1 : n ≤ 5399900) : 1073741824 * wS n + 1 / 1000 ≤ 1073741824 * wS (n + 1) := by
  have h := wC_ge h0 h1
  obtain ⟨a, -⟩ := W_add n 1
  obtain ⟨o1, o2, o3, o4⟩ := one_w
  obtain ⟨⟨z1, z2⟩, z3, z4⟩ := W_in n
  rw [a]
  clear a
  generalize wS n = s at *
  generalize wC n = c at *
  generalize wC 1 = c1 at *
  generalize wS 1 = s1 at *
  obtain ⟨p1, p2⟩ := rabs (x := s) (y := 1 - c1) (m := 1) (f := 43 / 1000000000000000) z1 z2 (by grind) o2
  have p3 := rmul (a := 30000 / 1073741824) (b := c) (c := 29 / 100000000) (d := s1) (by grind) (by grind) (by grind) o3
  grind
theorem asn_near {v d : Int} (d0 : -54000 ≤ d) (d1 : d ≤ 54000) (hv : -1073741824 ≤ v) (h : (v : Rat) ≤ 1073741824 * wS (100 * d) + wtR) : asnI v ≤ 100 * d := by
  have hR : wtR ≤ 1 / 4000 := by unfold wtR; grind
  by_cases c : d = 54000
  · subst c; exact (asnI_in hv).2
  by_cases c2 : d = -54000
  · subst c2
    have e : (1073741824 : Rat) * wS (100 * -54000) ≤ -1073741824 + 1 / 1000 := by
      obtain ⟨-, -, q3, -⟩ := wq_near
      have := wS_neg 5400000
      rw [show (100 : Int) * -54000 = -5400000 by decide, this]
      have hw : eW ≤ 1 / 1000000000000000 := by unfold eW; grind
      generalize wS 5400000 = s at *
      grind
    have k1 : (v : Rat) < ((-1073741823 : Int) : Rat) := by
      generalize wS (100 * -54000) = s at *
      rw [show ((-1073741823 : Int) : Rat) = -1073741823 from rfl]
      grind
    have k2 := castlt k1
    have hb : v < bHi (-5399999) := by
      rw [(b_four (n := -5399999) (by decide) (by decide)).2]
      have := sinQ_lt (n := (-(-5399999 : Int)).toNat) (by decide)
      omega
    have := asnI_lt hv (n := -5399999) (by decide) hb
    omega
  · have g := wS_grow (n := 100 * d) (by omega) (by omega)
    have hi := (cellw_all (n := 100 * d + 1) (by omega) (by omega)).hi
    have e : wtW ≤ 1 / 100000 := by unfold wtW; grind
    have k1 : (v : Rat) < ((bHi (100 * d + 1) : Int) : Rat) := by grind
    have k2 := castlt k1
    have := asnI_lt hv (n := 100 * d + 1) (by omega) k2
    omega
theorem as_near {S0 S1 d : Int} {X : Rat} (hE : asE S0 S1 = 0) (d0 : -54000 ≤ d) (d1 : d ≤ 54000) (h : InR S0 S1 X wtR) (hX : X = wS (100 * d)) : asL S0 S1 ≤ 100 * d ∧ 100 * d ≤ asH S0 S1 := by
  obtain ⟨a, b⟩ := h
  obtain ⟨⟨z1, z2⟩, -⟩ := W_in (100 * d)
  rw [hX] at a b
  have hR : 0 ≤ wtR := by unfold wtR; grind
  unfold asL asH
  rw [if_pos hE, if_pos hE]
  constructor
  · refine asn_near d0 d1 (by rw [mx_eq]; omega) ?_
    rcases (show mx S0 (-1073741824) = S0 ∨ mx S0 (-1073741824) = -1073741824 by rw [mx_eq]; omega) with g | g
    · rw [g]; exact a
    · rw [g]; push_cast; grind
  · have := asn_near (v := -(mn S1 1073741824)) (d := -d) (by omega) (by omega) (by rw [mn_eq]; omega) (by
      rw [show 100 * -d = -(100 * d) by omega, wS_neg]
      rcases (show mn S1 1073741824 = S1 ∨ mn S1 1073741824 = 1073741824 by rw [mn_eq]; omega) with g | g
      · rw [g]; push_cast; grind
      · rw [g, show ((-1073741824 : Int) : Rat) = -1073741824 from rfl]; grind)
    omega
theorem w_far (n t : Int) (h0 : -2 ≤ t) (h1 : t ≤ 2) : Nr (wS (n + 21600000 * t)) (wS n) (24 * eW) ∧ Nr (wC (n + 21600000 * t)) (wC n) (30 * eW) := by
  have e0 : 0 ≤ eW := by unfold eW; grind
  have key : ∀ n : Int, Nr (wS (n + 21600000 * t)) (wS n) (24 * eW) := fun n => by
    rcases (show t = -2 ∨ t = -1 ∨ t = 0 ∨ t = 1 ∨ t = 2 by omega) with rfl | rfl | rfl | rfl | rfl
    · have a := wS_turn (n + 21600000 * -2)
      have b := wS_turn (n + 21600000 * -2 + 21600000)
      have c := (b.trans a).symm
      rw [show n + 21600000 * -2 + 21600000 + 21600000 = n by omega] at c
      exact c.le (by grind)
    · have a := (wS_turn (n + 21600000 * -1)).symm
      rw [show n + 21600000 * -1 + 21600000 = n by omega] at a
      exact a.le (by grind)
    · rw [show n + 21600000 * 0 = n by omega]
      exact (Nr.refl _).le (by grind)
    · rw [show n + 21600000 * 1 = n + 21600000 by omega]
      exact (wS_turn n).le (by grind)
    · have a := wS_turn n
      have b := wS_turn (n + 21600000)
      rw [show n + 21600000 * 2 = n + 21600000 + 21600000 by omega]
      exact (b.trans a).le (by grind)
  refine ⟨key n, ?_⟩
  have a := wC_quarter (n + 21600000 * t)
  have b := key (n + 5400000)
  have c := wC_quarter n
  rw [show n + 21600000 * t + 5400000 = n + 5400000 + 21600000 * t by omega] at a
  exact (a.symm.trans (b.trans c)).le (by grind)
theorem num_t : 30 * eW ≤ 1 / 10000000000000000000000000 ∧ 0 ≤ eW ∧ 0 ≤ wtR ∧ wtR ≤ 1 / 8000 ∧ 0 ≤ eQ ∧ eQ ≤ 1 / 10000000000000000000000000 := by unfold eW wtR eQ; decide +kernel
set_option maxHeartbeats 1000000 in
theorem cone_tau {k j τ t : Int} {u v a b c : Rat} (h : Cone k j u v a b) (ht0 : -2 ≤ t) (ht1 : t ≤ 2) (hm0 : -5400000 ≤ k - (τ + 21600000 * t)) (hm1 : k - (τ + 21600000 * t) < 16200000) (c0 : 30000 ≤ c) (c1 : c ≤ 1073741824)
    (hu : Nr u (c * wC τ) (1 / 7000)) (hv : Nr v (c * wS τ) (1 / 7000)) : k ≤ τ + 21600000 * t ∧ τ + 21600000 * t ≤ j := by
  obtain ⟨n1, n2, n3, n4, n5, n6⟩ := num_t
  obtain ⟨f1, f2⟩ := w_far τ t ht0 ht1
  obtain ⟨σ, hσ⟩ : ∃ σ, σ = τ + 21600000 * t := ⟨_, rfl⟩
  rw [← hσ] at f1 f2 hm0 hm1 ⊢
  have hu' : Nr u (c * wC σ) (1 / 6000) := by
    obtain ⟨f1, f2⟩ := f2
    obtain ⟨u1, u2⟩ := hu
    obtain ⟨p1, p2⟩ := rabs (x := c) (y := wC σ - wC τ) (m := 1073741824) (f := 1 / 10000000000000000000000000) (by grind) c1 (by grind) (by grind)
    constructor <;> grind
  have hv' : Nr v (c * wS σ) (1 / 6000) := by
    obtain ⟨f1, f2⟩ := f1
    obtain ⟨v1, v2⟩ := hv
    obtain ⟨p1, p2⟩ := rabs (x := c) (y := wS σ - wS τ) (m := 1073741824) (f := 1 / 10000000000000000000000000) (by grind) c1 (by grind) (by grind)
    constructor <;> grind
  clear f1 f2 hu hv hσ
  obtain ⟨kj, a0, b0, hx, hy⟩ := h
  have un := W_unit σ
  obtain ⟨⟨z1, z2⟩, z3, z4⟩ := W_in σ
  obtain ⟨s1, s2⟩ := W_sub k σ
  obtain ⟨s3, s4⟩ := W_sub j σ
  -- the cross product and the scalar product
  have cr : v * wC σ - u * wS σ = a * wS (k - σ) + b * wS (j - σ) := by rw [hx, hy, s1, s3]; grind
  have dt : u * wC σ + v * wS σ = a * wC (k - σ) + b * wC (j - σ) := by rw [hx, hy, s2, s4]; grind
  have lk := W_unit k
  obtain ⟨⟨y1, y2⟩, y3, y4⟩ := W_in k
  obtain ⟨u1, u2⟩ := hu'
  obtain ⟨v1, v2⟩ := hv'
  obtain ⟨p1, p2⟩ := rabs (x := u - c * wC σ) (y := wS σ) (m := 1 / 6000) (f := 1) (by grind) (by grind) z1 z2
  obtain ⟨p3, p4⟩ := rabs (x := v - c * wS σ) (y := wC σ) (m := 1 / 6000) (f := 1) (by grind) (by grind) z3 z4
  obtain ⟨p5, p6⟩ := rabs (x := u - c * wC σ) (y := wC σ) (m := 1 / 6000) (f := 1) (by grind) (by grind) z3 z4
  obtain ⟨p7, p8⟩ := rabs (x := v - c * wS σ) (y := wS σ) (m := 1 / 6000) (f := 1) (by grind) (by grind) z1 z2
  have C1 : -(1 / 3000) ≤ a * wS (k - σ) + b * wS (j - σ) ∧ a * wS (k - σ) + b * wS (j - σ) ≤ 1 / 3000 := by rw [← cr]; constructor <;> grind
  have D1 : c - 1 / 3000 ≤ a * wC (k - σ) + b * wC (j - σ) := by
    have : c * (wS σ * wS σ + wC σ * wC σ) = c := by rw [un]; grind
    rw [← dt]; grind
  have ab1 : c - 1 / 3000 ≤ a + b := by
    obtain ⟨-, o3, o4⟩ := W_in (k - σ)
    obtain ⟨-, o5, o6⟩ := W_in (j - σ)
    have q1 := rmul0 a0 (show 0 ≤ 1 - wC (k - σ) by grind)
    have q2 := rmul0 b0 (show 0 ≤ 1 - wC (j - σ) by grind)
    grind
  clear cr dt p1 p2 p3 p4 p5 p6 p7 p8 s1 s2 s3 s4
  rcases (show k - σ = 0 ∨ (j = k + 1 ∧ k - σ = -1) ∨ (1 ≤ k - σ ∧ k - σ ≤ 10799998) ∨ (k - σ ≤ -1 ∧ j - σ ≤ -1) ∨ 10799999 ≤ k - σ by omega) with g | g | g | g | g
  · omega
  · omega
  · exfalso
    have w1 := wS_ge1 (n := k - σ) (by omega) (by omega)
    have w2 := wS_ge1 (n := j - σ) (by omega) (by omega)
    have q1 := rmul0 a0 (show 0 ≤ wS (k - σ) - 27 / 100000000 by grind)
    have q2 := rmul0 b0 (show 0 ≤ wS (j - σ) - 27 / 100000000 by grind)
    obtain ⟨-, C2⟩ := C1
    grind
  · exfalso
    have w1 := wS_ge1 (n := -(k - σ)) (by omega) (by omega)
    have w2 := wS_ge1 (n := -(j - σ)) (by omega) (by omega)
    rw [wS_neg] at w1 w2
    have q1 := rmul0 a0 (show 0 ≤ -(wS (k - σ)) - 27 / 100000000 by grind)
    have q2 := rmul0 b0 (show 0 ≤ -(wS (j - σ)) - 27 / 100000000 by grind)
    obtain ⟨C2, -⟩ := C1
    grind
  · exfalso
    have w1 := wC_np (n := k - σ) (by omega) (by omega)
    have w2 := wC_np (n := j - σ) (by omega) (by omega)
    have q1 := rmul0 a0 (show 0 ≤ eQ - wC (k - σ) by grind)
    have q2 := rmul0 b0 (show 0 ≤ eQ - wC (j - σ) by grind)
    -- how long the vector is at most
    have ub : u ≤ 1073741825 ∧ -1073741825 ≤ u ∧ v ≤ 1073741825 ∧ -1073741825 ≤ v := by
      obtain ⟨r1, r2⟩ := rabs (x := c) (y := wC σ) (m := 1073741824) (f := 1) (by grind) c1 z3 z4
      obtain ⟨r3, r4⟩ := rabs (x := c) (y := wS σ) (m := 1073741824) (f := 1) (by grind) c1 z1 z2
      refine ⟨?_, ?_, ?_, ?_⟩ <;> grind
    have tl : u * wC k + v * wS k = a + b * wC (j - k) := by
      rw [hx, hy, (W_sub j k).2]; 
      have : a * (wS k * wS k + wC k * wC k) = a := by rw [lk]; grind
      grind
    have wj : 1 / 2 ≤ wC (j - k) := by
      rcases kj with e | e
      · rw [show j - k = 0 by omega, show wC 0 = 1 from rfl]; grind
      · rw [show j - k = 1 by omega]
        obtain ⟨o1, o2, -, -⟩ := one_w
        generalize wC 1 = x at *
        grind
    have q3 := rmul0 b0 (show 0 ≤ wC (j - k) - 1 / 2 by grind)
    obtain ⟨r1, r2⟩ := rabs (x := u) (y := wC k) (m := 1073741825) (f := 1) (by grind) (by grind) y3 y4
    obtain ⟨r3, r4⟩ := rabs (x := v) (y := wS k) (m := 1073741825) (f := 1) (by grind) (by grind) y1 y2
    have ab : a + b ≤ 8589934600 := by grind
    have q4 := rmul (a := a + b) (b := 8589934600) (c := eQ) (d := 1 / 10000000000000000000000000) (by grind) ab n5 n6
    grind
end Go.Proofs.YtkhhdpndcidmgaaGreat
