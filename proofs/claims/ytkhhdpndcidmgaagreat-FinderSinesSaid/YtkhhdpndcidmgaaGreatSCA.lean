/- Contracts and plain laws, several texts in one: WrJ; SnA -/
import Derived.Test.YtkhhdpndcidmgaaGreatProg
import Derived.WalkKit
import Derived.WalkSpells
import Derived.WalkLawsBesides
import Derived.Lib.Hide
import Derived.BigQuiet
import Derived.Test.YtkhhdpndcidmgaaGreatSAC
import Derived.Test.YtkhhdpndcidmgaaGreatSAD
import Derived.Test.YtkhhdpndcidmgaaGreatSAE
import Derived.Test.YtkhhdpndcidmgaaGreatSBP
import Derived.Test.YtkhhdpndcidmgaaGreatSBW
import Derived.Test.YtkhhdpndcidmgaaGreatSBX
/- The arc of a box: its sine and cosine contain those of a point of the box. No program in sight. -/
namespace Go.Proofs.YtkhhdpndcidmgaaGreat
open Go.RowKit

theorem step_ex {v : Rat} {f : Nat → Rat} : ∀ K : Nat, f 0 ≤ v → v ≤ f K → 0 < K → ∃ i, i < K ∧ f i ≤ v ∧ v ≤ f (i + 1)
  | 0, _, _, h => absurd h (Nat.lt_irrefl 0)
  | K + 1, h0, h1, _ => by
    rcases (Rat.le_total : f K ≤ v ∨ v ≤ f K) with g | g
    · exact ⟨K, by omega, g, h1⟩
    · by_cases hK : K = 0
      · subst hK; exact ⟨0, by omega, h0, h1⟩
      · obtain ⟨i, a, b, c⟩ := step_ex K h0 g (by omega)
        exact ⟨i, by omega, b, c⟩
def e40 : Rat := 1 / 10000000000000000000000000000000000000000
theorem root_ex {v : Rat} (h0 : 0 ≤ v) (h1 : v ≤ 101 / 100) : ∃ r, 0 ≤ r ∧ r ≤ 101 / 100 ∧ Nr (r * r) v wtA ∧ r * r ≤ v := by
  obtain ⟨i, hi, a, b⟩ := step_ex (v := v) (f := fun i => ((i : Rat) * e40) * ((i : Rat) * e40)) 10100000000000000000000000000000000000000 (by
      have : ((0 : Nat) : Rat) = 0 := rfl
      rw [this]; grind) (by
      have : ((10100000000000000000000000000000000000000 : Nat) : Rat) * e40 = 101 / 100 := by decide +kernel
      rw [this]; grind) (by decide)
  have hc : ((i : Nat) : Rat) ≤ 10100000000000000000000000000000000000000 := by
    have := castle (show (i : Int) ≤ 10100000000000000000000000000000000000000 by omega)
    exact this
  have hi0 : (0 : Rat) ≤ (i : Rat) := castle (show (0 : Int) ≤ (i : Int) by omega)
  have he : 0 ≤ e40 ∧ 10100000000000000000000000000000000000000 * e40 = 101 / 100 := by decide +kernel
  have p := rmul0 hi0 he.1
  have q := rmul (a := (i : Rat)) (b := 10100000000000000000000000000000000000000) (c := e40) (d := e40) hi0 hc he.1 Rat.le_refl
  refine ⟨(i : Rat) * e40, p, by grind, ?_, a⟩
  rw [show ((i + 1 : Nat) : Rat) * e40 = (i : Rat) * e40 + e40 by push_cast; grind] at b
  have hw : 3 * e40 + e40 * e40 ≤ wtA := by unfold e40 wtA; decide +kernel
  generalize (i : Rat) * e40 = r at *
  have w := rmul (a := r) (b := 101 / 100) (c := e40) (d := e40) p (by grind) he.1 Rat.le_refl
  have hA : 0 ≤ wtA := by unfold wtA; grind
  constructor <;> grind
def e18 : Rat := 1 / 1000000000000000000
def e15 : Rat := 1 / 1000000000000000
def e14 : Rat := 1 / 50000000000000
theorem le_sq {x c : Rat} (c0 : 0 ≤ c) (h : x * x ≤ c * c) : x ≤ c := by
  rcases (Rat.le_total : x ≤ c ∨ c ≤ x) with g | g
  · exact g
  · have p1 := rmul0 (show 0 ≤ x - c by grind) (show 0 ≤ x - c by grind)
    have p2 := rmul0 (show 0 ≤ x - c by grind) c0
    have p3 : (x - c) * (x - c) = 0 := by grind
    have : x - c = 0 := by
      rcases Rat.le_iff_lt_or_eq.1 (show 0 ≤ x - c by grind) with k | k
      · have := Rat.mul_pos k k; grind
      · exact k.symm
    grind
theorem abs_le_root {x y C : Rat} (c0 : 0 ≤ C) (h : x * x + y * y ≤ C * C + wtA) : x ≤ C + e18 ∧ -(C + e18) ≤ x := by
  have hA : wtA = e18 * e18 ∧ 0 ≤ e18 := by unfold wtA e18; constructor <;> grind
  have s := sqnn y
  have p := rmul0 c0 hA.2
  have h2 : x * x ≤ (C + e18) * (C + e18) := by grind
  have a := le_sq (x := x) (c := C + e18) (by grind) h2
  have b := le_sq (x := -x) (c := C + e18) (by grind) (by grind)
  exact ⟨a, by grind⟩
theorem norm_lip {x y x' y' C r d : Rat} (c0 : 0 ≤ C) (r0 : 0 ≤ r) (d0 : 0 ≤ d) (d1 : d ≤ e14) (hC : C * C ≤ x * x + y * y + wtA ∧ x * x + y * y ≤ C * C + wtA) (hr : r * r ≤ x' * x' + y' * y' + wtA ∧ x' * x' + y' * y' ≤ r * r + wtA) (hx : Nr x' x d) (hy : Nr y' y d) : r ≤ C + 2 * d + e15 := by
  rcases (Rat.le_total : r ≤ C + 2 * d + e15 ∨ C + 2 * d + e15 ≤ r) with g | g
  · exact g
  exfalso
  obtain ⟨a1, a2⟩ := abs_le_root c0 hC.2
  obtain ⟨a3, a4⟩ := abs_le_root (x := y) (y := x) c0 (by grind)
  obtain ⟨b1, b2⟩ := abs_le_root r0 hr.2
  obtain ⟨b3, b4⟩ := abs_le_root (x := y') (y := x') r0 (by grind)
  obtain ⟨x1, x2⟩ := hx
  obtain ⟨y1, y2⟩ := hy
  obtain ⟨p1, p2⟩ := rabs (x := x' - x) (y := x' + x) (m := d) (f := r + C + 2 * e18) (by grind) (by grind) (by grind) (by grind)
  obtain ⟨p3, p4⟩ := rabs (x := y' - y) (y := y' + y) (m := d) (f := r + C + 2 * e18) (by grind) (by grind) (by grind) (by grind)
  have k : (r - C) * (r + C) ≤ 2 * (d * (r + C + 2 * e18)) + 2 * wtA := by grind
  have e0 : 0 ≤ e15 ∧ 0 ≤ e18 ∧ 0 ≤ e14 ∧ 4 * (e14 * e18) + 2 * wtA < e15 * e15 := by unfold e15 e18 wtA e14; decide +kernel
  have p5 := rmul (a := d) (b := e14) (c := e18) (d := e18) d0 d1 e0.2.1 Rat.le_refl
  have p6 := rmul (a := e15) (b := r - C - 2 * d) (c := e15) (d := r + C) e0.1 (by grind) e0.1 (by grind)
  grind
def wtQ : Rat := 1 / 10000000000000
theorem num_Q : 0 ≤ e15 ∧ (1 / 500000 + 1 / 100000) / 1073741824 ≤ e14 ∧ wtE + 4 * ((1 / 500000 + 1 / 100000) / 1073741824) + e15 ≤ wtQ := by unfold wtE e15 wtQ e14; decide +kernel
theorem br_enc {x0 x1 y0 y1 : Int} (hx : x0 ≤ x1) (hy : y0 ≤ y1) (bx0 : Bd31 x0) (bx1 : Bd31 x1) (by0 : Bd31 y0) (by1 : Bd31 y1) {x y C : Rat} (ix : InR x0 x1 x (1 / 100000)) (iy : InR y0 y1 y (1 / 100000)) (c0 : 0 ≤ C) (c1 : C ≤ 1) (hC : Nr (C * C) (x * x + y * y) wtA) :
    (∃ s, InR (encL (brF x0 x1 y0 y1).1 (brF x0 x1 y0 y1).2) (encH (brF x0 x1 y0 y1).1 (brF x0 x1 y0 y1).2) s 0 ∧ Nr (s * C) y wtQ) ∧
    ∃ c, InR (cosL (brF x0 x1 y0 y1).1 (brF x0 x1 y0 y1).2) (cosH (brF x0 x1 y0 y1).1 (brF x0 x1 y0 y1).2) c 0 ∧ Nr (c * C) x wtQ := by
  obtain ⟨X, X0, X1, X2, X3⟩ := clampR (castle hx) (X := 1073741824 * x) (e := 1 / 100000) ix.lo ix.hi (by grind)
  obtain ⟨Y, Y0, Y1, Y2, Y3⟩ := clampR (castle hy) (X := 1073741824 * y) (e := 1 / 100000) iy.lo iy.hi (by grind)
  obtain ⟨k, j, u, v, a, b, hk, hj, hc, hu, hv⟩ := br_cone hx hy bx0 bx1 by0 by1 X0 X1 Y0 Y1
  obtain ⟨n0, n1, n2⟩ := brF_bd x0 x1 y0 y1
  obtain ⟨u1, u2⟩ := hu
  obtain ⟨v1, v2⟩ := hv
  obtain ⟨q2, q3, q4⟩ := num_Q
  have hc' : Cone k j (u / 1073741824) (v / 1073741824) (a / 1073741824) (b / 1073741824) := by
    obtain ⟨h1, h2, h3, h4, h5⟩ := hc
    exact ⟨h1, by grind, by grind, by rw [h4]; grind, by rw [h5]; grind⟩
  obtain ⟨d, hd⟩ : ∃ d : Rat, d = (1 / 500000 + 1 / 100000) / 1073741824 := ⟨_, rfl⟩
  rw [← hd] at q3 q4
  have nu : Nr (u / 1073741824) x d := by constructor <;> grind
  have nv : Nr (v / 1073741824) y d := by constructor <;> grind
  have d0 : 0 ≤ d := by grind
  clear X0 X1 X2 X3 Y0 Y1 Y2 Y3 u1 u2 v1 v2 hc ix iy hd
  generalize u / 1073741824 = x' at *
  generalize v / 1073741824 = y' at *
  have hA : 0 ≤ wtA ∧ wtA ≤ 1 / 1000000 ∧ e14 ≤ 1 / 1000000 := by unfold wtA e14; decide +kernel
  have sx := sqnn x'
  have sy := sqnn y'
  obtain ⟨m1, m2⟩ := hC
  have cc := rmul (a := C) (b := 1) (c := C) (d := 1) c0 c1 c0 c1
  obtain ⟨a1, a2⟩ := abs_le_root c0 m2
  obtain ⟨a3, a4⟩ := abs_le_root (x := y) (y := x) c0 (by grind)
  have h18 : e18 ≤ 1 / 1000000 := by unfold e18; grind
  have bd : x' * x' + y' * y' ≤ 101 / 100 := by
    obtain ⟨x1, x2⟩ := nu
    obtain ⟨y1, y2⟩ := nv
    obtain ⟨p1, p2⟩ := rabs (x := x' - x) (y := x' + x) (m := d) (f := 3) (by grind) (by grind) (by grind) (by grind)
    obtain ⟨p3, p4⟩ := rabs (x := y' - y) (y := y' + y) (m := d) (f := 3) (by grind) (by grind) (by grind) (by grind)
    grind
  obtain ⟨r, r0, r1, hr, -⟩ := root_ex (v := x' * x' + y' * y') (by grind) bd
  obtain ⟨⟨s, s1, s2⟩, c, c2, c3⟩ := hc'.enc hk hj (by omega) n2 r0 r1 hr
  have l1 := norm_lip c0 r0 d0 q3 ⟨m1, m2⟩ hr nu nv
  have l2 := norm_lip r0 c0 d0 q3 hr ⟨m1, m2⟩ nu.symm nv.symm
  obtain ⟨nu1, nu2⟩ := nu
  obtain ⟨nv1, nv2⟩ := nv
  obtain ⟨i1, i2, i3⟩ := enc_in (lo := (brF x0 x1 y0 y1).1) (hi := (brF x0 x1 y0 y1).2)
  obtain ⟨j1, j2, j3⟩ := cos_in2 (brF x0 x1 y0 y1).1 (brF x0 x1 y0 y1).2
  have I1 := castle i1
  have I3 := castle i3
  have J1 := castle j1
  have J3 := castle j3
  push_cast at I1 I3 J1 J3
  obtain ⟨t1, t2⟩ := s1
  obtain ⟨t3, t4⟩ := c2
  obtain ⟨o1, o2⟩ := rabs (x := s) (y := r - C) (m := 1) (f := 2 * d + e15) (by grind) (by grind) (by grind) (by grind)
  obtain ⟨o3, o4⟩ := rabs (x := c) (y := r - C) (m := 1) (f := 2 * d + e15) (by grind) (by grind) (by grind) (by grind)
  obtain ⟨s2, s3⟩ := s2
  obtain ⟨c3, c4⟩ := c3
  refine ⟨⟨s, ⟨t1, t2⟩, ?_⟩, c, ⟨t3, t4⟩, ?_⟩
  · clear t1 t2 t3 t4 c3 c4 o3 o4 l1 l2 hr m1 m2 sx sy cc bd I1 I3 J1 J3
    constructor <;> grind
  · clear t1 t2 t3 t4 s2 s3 o1 o2 l1 l2 hr m1 m2 sx sy cc bd I1 I3 J1 J3
    constructor <;> grind
end Go.Proofs.YtkhhdpndcidmgaaGreat
/- A triangle's true values within the intervals of the altitude, the azimuth, the parallactic angle. No program in sight. -/
namespace Go.Proofs.YtkhhdpndcidmgaaGreat
open Go.RowKit

structure Iv (a0 a1 : Int) (s c e : Rat) : Prop where
  s : InR (sI a0 a1).1 (sI a0 a1).2 s e
  c : InR (cI a0 a1).1 (cI a0 a1).2 c e
theorem iv_of {a0 a1 n : Int} (h0 : a0 ≤ n) (h1 : n ≤ a1) : Iv a0 a1 (wS (n % 21600000)) (wC (n % 21600000)) wtZ := ⟨sin_InP h0 h1, cos_InP h0 h1⟩
theorem InR.mL {p q : Int × Int} {x y e f g : Rat} (hx : InR p.1 p.2 x e) (hy : InR q.1 q.2 y f) (up : UnI p) (uq : UnI q) (he : 0 ≤ e) (hf : 0 ≤ f) (hf1 : f ≤ 1073741824) (hg : 2 * e + f ≤ g) : InR (Go.Proofs.YtkhhdpndcidmgaaGreat.mL p q).1 (Go.Proofs.YtkhhdpndcidmgaaGreat.mL p q).2 (x * y) g := hx.mul hy up uq he hf hf1 hg
section
variable {a0 a1 b0 b1 c0 c1 : Int} {sf cf sd cd st ct e f g : Rat}
theorem alt_val (A : Iv a0 a1 sf cf e) (B : Iv b0 b1 sd cd f) (T : Iv c0 c1 st ct g) (he : 0 ≤ e) (hf : 0 ≤ f) (hg : 0 ≤ g) (_ : e ≤ 1) (hf1 : f ≤ 1) (hg1 : g ≤ 1) :
    InR (altS0 a0 a1 b0 b1 c0 c1) (altS1 a0 a1 b0 b1 c0 c1) (sf * sd + cf * cd * ct) (6 * e + 3 * f + g) := by
  have m1 := A.s.mL B.s (g := 2 * e + f) (sI_un _ _) (sI_un _ _) he hf (by grind) Rat.le_refl
  have m2 := A.c.mL B.c (g := 2 * e + f) (cI_un _ _) (cI_un _ _) he hf (by grind) Rat.le_refl
  have m3 := m2.mL T.c (g := 2 * (2 * e + f) + g) ((cI_un _ _).mul (cI_un _ _)) (cI_un _ _) (by grind) hg (by grind) Rat.le_refl
  exact (m1.add m3).mono (Int.le_refl _) (Int.le_refl _) (by grind)
theorem azY_val (B : Iv b0 b1 sd cd f) (T : Iv c0 c1 st ct g) (hf : 0 ≤ f) (hg : 0 ≤ g) (hg1 : g ≤ 1) : InR (azY b0 b1 c0 c1).1 (azY b0 b1 c0 c1).2 (-(cd * st)) (6 * (f + g)) := by
  have m := B.c.mL T.s (g := 2 * f + g) (cI_un _ _) (sI_un _ _) hf hg (by grind) Rat.le_refl
  exact m.neg.mono (Int.le_refl _) (Int.le_refl _) (by grind)
theorem azX_val (A : Iv a0 a1 sf cf e) (B : Iv b0 b1 sd cd f) (T : Iv c0 c1 st ct g) (he : 0 ≤ e) (hf : 0 ≤ f) (hg : 0 ≤ g) (he1 : e ≤ 1) (_ : f ≤ 1) (hg1 : g ≤ 1) :
    InR (azX a0 a1 b0 b1 c0 c1).1 (azX a0 a1 b0 b1 c0 c1).2 (sd * cf - cd * ct * sf) (6 * (e + f + g)) := by
  have m1 := B.s.mL A.c (g := 2 * f + e) (sI_un _ _) (cI_un _ _) hf he (by grind) Rat.le_refl
  have m2 := B.c.mL T.c (g := 2 * f + g) (cI_un _ _) (cI_un _ _) hf hg (by grind) Rat.le_refl
  have m3 := m2.mL A.s (g := 2 * (2 * f + g) + e) ((cI_un _ _).mul (cI_un _ _)) (sI_un _ _) (by grind) he (by grind) Rat.le_refl
  exact (m1.sub m3).mono (Int.le_refl _) (Int.le_refl _) (by grind)
theorem paY_val (A : Iv a0 a1 sf cf e) (T : Iv c0 c1 st ct g) (he : 0 ≤ e) (hg : 0 ≤ g) (hg1 : g ≤ 1) : InR (paY a0 a1 c0 c1).1 (paY a0 a1 c0 c1).2 (cf * st) (6 * (e + g)) := A.c.mL T.s (cI_un _ _) (sI_un _ _) he hg (by grind) (by grind)
theorem paX_val (A : Iv a0 a1 sf cf e) (B : Iv b0 b1 sd cd f) (T : Iv c0 c1 st ct g) (he : 0 ≤ e) (hf : 0 ≤ f) (hg : 0 ≤ g) (_ : e ≤ 1) (hf1 : f ≤ 1) (hg1 : g ≤ 1) :
    InR (paX a0 a1 b0 b1 c0 c1).1 (paX a0 a1 b0 b1 c0 c1).2 (sf * cd - cf * ct * sd) (6 * (e + f + g)) := by
  have m1 := A.s.mL B.c (g := 2 * e + f) (sI_un _ _) (cI_un _ _) he hf (by grind) Rat.le_refl
  have m2 := A.c.mL T.c (g := 2 * e + g) (cI_un _ _) (cI_un _ _) he hg (by grind) Rat.le_refl
  have m3 := m2.mL B.s (g := 2 * (2 * e + g) + f) ((cI_un _ _).mul (cI_un _ _)) (sI_un _ _) (by grind) hf (by grind) Rat.le_refl
  exact (m1.sub m3).mono (Int.le_refl _) (Int.le_refl _) (by grind)
end
theorem az_bd (a0 a1 b0 b1 c0 c1 : Int) : ((azX a0 a1 b0 b1 c0 c1).1 ≤ (azX a0 a1 b0 b1 c0 c1).2 ∧ (azY b0 b1 c0 c1).1 ≤ (azY b0 b1 c0 c1).2) ∧ Bd31 (azX a0 a1 b0 b1 c0 c1).1 ∧ Bd31 (azX a0 a1 b0 b1 c0 c1).2 ∧ Bd31 (azY b0 b1 c0 c1).1 ∧ Bd31 (azY b0 b1 c0 c1).2 := by
  have m1 := (sI_un b0 b1).mul (cI_un a0 a1)
  have m2 := ((cI_un b0 b1).mul (cI_un c0 c1)).mul (sI_un a0 a1)
  have m3 := (cI_un b0 b1).mul (sI_un c0 c1)
  unfold azX azY Bd31
  unfold UnI at m1 m2 m3
  dsimp only
  omega
theorem pa_bd (a0 a1 b0 b1 c0 c1 : Int) : ((paX a0 a1 b0 b1 c0 c1).1 ≤ (paX a0 a1 b0 b1 c0 c1).2 ∧ (paY a0 a1 c0 c1).1 ≤ (paY a0 a1 c0 c1).2) ∧ Bd31 (paX a0 a1 b0 b1 c0 c1).1 ∧ Bd31 (paX a0 a1 b0 b1 c0 c1).2 ∧ Bd31 (paY a0 a1 c0 c1).1 ∧ Bd31 (paY a0 a1 c0 c1).2 := by
  have m1 := (sI_un a0 a1).mul (cI_un b0 b1)
  have m2 := ((cI_un a0 a1).mul (cI_un c0 c1)).mul (sI_un b0 b1)
  have m3 := (cI_un a0 a1).mul (sI_un c0 c1)
  unfold paX paY Bd31
  unfold UnI at m1 m2 m3
  dsimp only
  omega
theorem tri_az {sf cf sd cd st ct : Rat} (A : sf * sf + cf * cf = 1) (B : sd * sd + cd * cd = 1) (T : st * st + ct * ct = 1) : (sd * cf - cd * ct * sf) * (sd * cf - cd * ct * sf) + (-(cd * st)) * (-(cd * st)) = 1 - (sf * sd + cf * cd * ct) * (sf * sd + cf * cd * ct) := by
  have e1 : sd * sd * (sf * sf + cf * cf) = sd * sd := by rw [A]; grind
  have e2 : cd * cd * ct * ct * (sf * sf + cf * cf) = cd * cd * ct * ct := by rw [A]; grind
  have e3 : cd * cd * (st * st + ct * ct) = cd * cd := by rw [T]; grind
  grind
theorem tri_pa {sf cf sd cd st ct : Rat} (A : sf * sf + cf * cf = 1) (B : sd * sd + cd * cd = 1) (T : st * st + ct * ct = 1) : (sf * cd - cf * ct * sd) * (sf * cd - cf * ct * sd) + (cf * st) * (cf * st) = 1 - (sf * sd + cf * cd * ct) * (sf * sd + cf * cd * ct) := by
  have e1 : sf * sf * (sd * sd + cd * cd) = sf * sf := by rw [B]; grind
  have e2 : cf * cf * ct * ct * (sd * sd + cd * cd) = cf * cf * ct * ct := by rw [B]; grind
  have e3 : cf * cf * (st * st + ct * ct) = cf * cf := by rw [T]; grind
  grind
theorem tri_root {S x y : Rat} (h : x * x + y * y = 1 - S * S) : -1 ≤ S ∧ S ≤ 1 ∧ ∃ C, 0 ≤ C ∧ C ≤ 1 ∧ Nr (C * C) (1 - S * S) wtA := by
  have sx := sqnn x
  have sy := sqnn y
  have ss := sqnn S
  have a := le_sq (x := S) (c := 1) (by grind) (by grind)
  have b := le_sq (x := -S) (c := 1) (by grind) (by grind)
  obtain ⟨C, c0, -, hc, c2⟩ := root_ex (v := 1 - S * S) (by grind) (by grind)
  exact ⟨by grind, a, C, c0, le_sq (by grind) (by grind), hc⟩
theorem meet_in {l1 h1 l2 h2 : Int} {v u e f d : Rat} (a : InR l1 h1 v e) (b : InR l2 h2 u f) (n : Nr v u d) (k : e + f + 1073741824 * d < 1) (o1 : l1 ≤ h1) (o2 : l2 ≤ h2) : max l1 l2 ≤ min h1 h2 := by
  obtain ⟨a1, a2⟩ := a
  obtain ⟨b1, b2⟩ := b
  obtain ⟨n1, n2⟩ := n
  have k1 : (l1 : Rat) < ((h2 + 1 : Int) : Rat) := by push_cast; grind
  have k2 : (l2 : Rat) < ((h1 + 1 : Int) : Rat) := by push_cast; grind
  have j1 : l1 < h2 + 1 := by exact_mod_cast k1
  have j2 : l2 < h1 + 1 := by exact_mod_cast k2
  omega
def e6 : Rat := 1 / 100000000000000000000000
theorem num_6 : 6 * wtZ + 3 * wtZ + wtZ ≤ wtV ∧ 0 ≤ wtZ ∧ wtZ ≤ 1 ∧ wtV ≤ 1 / 100000 ∧ 0 ≤ wtU ∧ wtU ≤ 1 / 1000000 ∧ wtU + (6 * (wtZ + wtZ)) + 1073741824 * wtQ < 1 ∧ 0 ≤ wtQ ∧ 6 * (wtZ + wtZ + wtZ) ≤ 1 / 100000 := by unfold wtZ wtV wtU wtQ; decide +kernel
end Go.Proofs.YtkhhdpndcidmgaaGreat
