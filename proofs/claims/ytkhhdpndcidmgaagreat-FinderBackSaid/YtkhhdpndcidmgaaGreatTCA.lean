/- Contracts and plain laws, several texts in one: SnD -/
import Derived.Test.YtkhhdpndcidmgaaGreatProg
import Derived.WalkKit
import Derived.WalkSpells
import Derived.WalkLawsBesides
import Derived.Lib.Hide
import Derived.BigQuiet
import Derived.Test.YtkhhdpndcidmgaaGreatTAE
import Derived.Test.YtkhhdpndcidmgaaGreatTAF
import Derived.Test.YtkhhdpndcidmgaaGreatTAI
import Derived.Test.YtkhhdpndcidmgaaGreatTAZ
import Derived.Test.YtkhhdpndcidmgaaGreatTBR
import Derived.Test.YtkhhdpndcidmgaaGreatTBZ
/- FinderBack, plain law: from the altitude and the azimuth back to the hour angle and the declination. No program in sight. -/
namespace Go.Proofs.YtkhhdpndcidmgaaGreat
open Go.RowKit

theorem turn_has {x y n : Int} (h0 : x ≤ n) (h1 : n ≤ y) : ∃ k, turnLo x y ≤ n + 21600000 * k ∧ n + 21600000 * k ≤ turnHi x y := by
  unfold turnLo turnHi
  by_cases c : 21600000 ≤ y - x
  · rw [if_pos c, if_pos c]
    exact ⟨-(n / 21600000), by omega, by omega⟩
  · rw [if_neg c, if_neg c]
    exact ⟨-(x / 21600000), by omega, by omega⟩
theorem iv_mod {a0 a1 n k : Int} (h0 : a0 ≤ n + 21600000 * k) (h1 : n + 21600000 * k ≤ a1) : Iv a0 a1 (wS (n % 21600000)) (wC (n % 21600000)) wtZ := by
  have := iv_of h0 h1
  rw [show (n + 21600000 * k) % 21600000 = n % 21600000 by omega] at this
  exact this
theorem iv_dir {a0 a1 n : Int} (h0 : a0 ≤ n) (h1 : n ≤ a1) (g0 : -5400000 ≤ n) (g1 : n ≤ 5400000) : Iv a0 a1 (wS n) (wC n) wtZ := ⟨sin_InY h0 h1 g0 (by omega), cos_InY h0 h1 (by omega) (by omega)⟩
theorem num_D2 : 6 * wtZ + 3 * wtU + 0 + 1073741824 * wtQ ≤ wtR ∧ 6 * (wtZ + wtU + 0) + 1073741824 * wtQ ≤ wtR ∧ 6 * (wtU + 0) + 1073741824 * wtQ ≤ wtR ∧ wtR + 1 / 500000 ≤ 1 / 7000 ∧ wtU ≤ 1 := by unfold wtZ wtU wtQ wtR; decide +kernel
theorem br_tau {x0 x1 y0 y1 d τ : Int} (hx : x0 ≤ x1) (hy : y0 ≤ y1) (bx0 : Bd31 x0) (bx1 : Bd31 x1) (by0 : Bd31 y0) (by1 : Bd31 y1) (d0 : -54000 ≤ d) (d1 : d ≤ 54000)
    (ix : InR x0 x1 (wC (100 * d) * wC (τ % 21600000)) wtR) (iy : InR y0 y1 (wC (100 * d) * wS (τ % 21600000)) wtR) : ∃ k, (brF x0 x1 y0 y1).1 ≤ τ + 21600000 * k ∧ τ + 21600000 * k ≤ (brF x0 x1 y0 y1).2 := by
  obtain ⟨n1, n2, n3, n4, n5, n6⟩ := num_t
  obtain ⟨-, -, -, m4, -⟩ := num_D2
  by_cases c : d = 54000 ∨ d = -54000
  · have hc : -eW ≤ wC (100 * d) ∧ wC (100 * d) ≤ eW := by
      obtain ⟨q1, q2, -, -⟩ := wq_near
      rcases c with rfl | rfl
      · exact ⟨q1, q2⟩
      · rw [show (100 : Int) * -54000 = -5400000 by decide, wC_neg]; exact ⟨q1, q2⟩
    obtain ⟨⟨z1, z2⟩, z3, z4⟩ := W_in (τ % 21600000)
    obtain ⟨p1, p2⟩ := rabs (x := wC (100 * d)) (y := wC (τ % 21600000)) (m := eW) (f := 1) hc.1 hc.2 z3 z4
    obtain ⟨p3, p4⟩ := rabs (x := wC (100 * d)) (y := wS (τ % 21600000)) (m := eW) (f := 1) hc.1 hc.2 z1 z2
    obtain ⟨x1', x2'⟩ := ix
    obtain ⟨y1', y2'⟩ := iy
    generalize wC (100 * d) * wC (τ % 21600000) = A at *
    generalize wC (100 * d) * wS (τ % 21600000) = B at *
    have one : ((1 : Int) : Rat) = 1 := rfl
    have mone : ((-1 : Int) : Rat) = -1 := rfl
    have k1 := castlt (a := x0) (b := 1) (by rw [one]; grind)
    have k2 := castlt (a := -1) (b := x1) (by rw [mone]; grind)
    have k3 := castlt (a := y0) (b := 1) (by rw [one]; grind)
    have k4 := castlt (a := -1) (b := y1) (by rw [mone]; grind)
    have hO : oriB x0 x1 y0 y1 := by unfold oriB; omega
    rw [show brF x0 x1 y0 y1 = (0, 21600000) from if_pos hO]
    exact ⟨-(τ / 21600000), by dsimp only; omega, by dsimp only; omega⟩
  · have hc := wC_ge (n := 100 * d) (by omega) (by omega)
    obtain ⟨-, -, hc1⟩ := W_in (100 * d)
    obtain ⟨X, X0, X1, X2, X3⟩ := clampR (castle hx) (X := 1073741824 * (wC (100 * d) * wC (τ % 21600000))) (e := wtR) ix.lo ix.hi n3
    obtain ⟨Y, Y0, Y1, Y2, Y3⟩ := clampR (castle hy) (X := 1073741824 * (wC (100 * d) * wS (τ % 21600000))) (e := wtR) iy.lo iy.hi n3
    obtain ⟨k, j, u, v, a, b, hk, hj, hc', hu, hv⟩ := br_cone hx hy bx0 bx1 by0 by1 X0 X1 Y0 Y1
    obtain ⟨o0, o1, o2⟩ := brF_bd x0 x1 y0 y1
    have kj := hc'.kj
    have g := cone_tau (τ := τ % 21600000) (t := (k - τ % 21600000 + 5400000) / 21600000) (c := 1073741824 * wC (100 * d)) hc' (by omega) (by omega) (by omega) (by omega) hc (by grind) (by
      obtain ⟨u1, u2⟩ := hu
      clear X0 X1 Y0 Y1 Y2 Y3 hv ix iy
      have e : 1073741824 * wC (100 * d) * wC (τ % 21600000) = 1073741824 * (wC (100 * d) * wC (τ % 21600000)) := by grind
      rw [e]
      generalize 1073741824 * (wC (100 * d) * wC (τ % 21600000)) = A at *
      constructor <;> grind) (by
      obtain ⟨u1, u2⟩ := hv
      clear X0 X1 Y0 Y1 X2 X3 hu ix iy
      have e : 1073741824 * wC (100 * d) * wS (τ % 21600000) = 1073741824 * (wC (100 * d) * wS (τ % 21600000)) := by grind
      rw [e]
      generalize 1073741824 * (wC (100 * d) * wS (τ % 21600000)) = A at *
      constructor <;> grind)
    exact ⟨(k - τ % 21600000 + 5400000) / 21600000 - τ / 21600000, by omega, by omega⟩
theorem az_iv {a0 a1 b0 b1 c0 c1 : Int} : 0 ≤ (azF a0 a1 b0 b1 c0 c1).1 ∧ (azF a0 a1 b0 b1 c0 c1).1 ≤ (azF a0 a1 b0 b1 c0 c1).2 ∧ (azF a0 a1 b0 b1 c0 c1).2 ≤ 43200000 := brF_bd (azX a0 a1 b0 b1 c0 c1).1 (azX a0 a1 b0 b1 c0 c1).2 (azY b0 b1 c0 c1).1 (azY b0 b1 c0 c1).2
set_option maxHeartbeats 1000000 in
theorem back_core {a0 a1 b0 b1 c0 c1 dec τ k : Int} (h : triB a0 a1 b0 b1 c0 c1 = true) (d0 : -54000 ≤ dec) (d1 : dec ≤ 54000) (hb0 : b0 ≤ 100 * dec) (hb1 : 100 * dec ≤ b1) (hc0 : c0 ≤ τ + 21600000 * k) (hc1 : τ + 21600000 * k ≤ c1) {H0 H1 z0 z1 : Int} (eH : alL a0 a1 b0 b1 c0 c1 = H0 ∧ alH a0 a1 b0 b1 c0 c1 = H1) (eZ : azF a0 a1 b0 b1 c0 c1 = (z0, z1)) :
    triB a0 a1 H0 H1 z0 z1 = true ∧ alL a0 a1 H0 H1 z0 z1 ≤ 100 * dec ∧ 100 * dec ≤ alH a0 a1 H0 H1 z0 z1 ∧ ∃ k, (azF a0 a1 H0 H1 z0 z1).1 ≤ τ + 21600000 * k ∧ τ + 21600000 * k ≤ (azF a0 a1 H0 H1 z0 z1).2 := by
  obtain ⟨v1, v2, v3, v4, v5, v6, v7, v8, v9⟩ := num_6
  obtain ⟨r1, r2, r3, -, r5⟩ := num_D2
  obtain ⟨h1, h2⟩ := al_bd h
  have hz := az_iv (a0 := a0) (a1 := a1) (b0 := b0) (b1 := b1) (c0 := c0) (c1 := c1)
  unfold triB at h
  simp only [Bool.and_eq_true] at h
  have ha := latB_iff.1 h.1.1
  have h' : triB a0 a1 H0 H1 z0 z1 = true := by
    rw [eZ] at hz
    dsimp only at hz
    rw [← eH.1, ← eH.2]
    unfold triB
    simp only [Bool.and_eq_true]
    exact ⟨⟨h.1.1, latB_iff.2 ⟨h2.2.1, h2.1, h2.2.2⟩⟩, validB_iff.2 (by omega)⟩
  have A := iv_of (a0 := a0) (a1 := a1) (Int.le_refl a0) ha.1
  have B := iv_dir (a0 := b0) (a1 := b1) hb0 hb1 (by omega) (by omega)
  have T := iv_mod hc0 hc1
  have uA := W_unit (a0 % 21600000)
  have uB := W_unit (100 * dec)
  have uT := W_unit (τ % 21600000)
  have id := tri_az uA uB uT
  obtain ⟨s0, s1, C, q0, q1, hC⟩ := tri_root id
  have V := alt_val A B T v2 v2 v2 v3 v3 v3
  have VX := azX_val A B T v2 v2 v2 v3 v3 v3
  have VY := azY_val B T v2 v2 v3
  obtain ⟨K1, K2⟩ := as_sc h1 (V.mono (Int.le_refl _) (Int.le_refl _) v1) s0 s1 q0 hC h2
  obtain ⟨⟨o1, o2⟩, p1, p2, p3, p4⟩ := az_bd a0 a1 b0 b1 c0 c1
  obtain ⟨⟨s, i1, i2⟩, c, i3, i4⟩ := br_enc o1 o2 p1 p2 p3 p4 (VX.mono (Int.le_refl _) (Int.le_refl _) (by grind)) (VY.mono (Int.le_refl _) (Int.le_refl _) (by grind)) q0 q1 (by rw [id]; exact hC)
  change InR (encL (azF a0 a1 b0 b1 c0 c1).1 (azF a0 a1 b0 b1 c0 c1).2) (encH (azF a0 a1 b0 b1 c0 c1).1 (azF a0 a1 b0 b1 c0 c1).2) s 0 at i1
  change InR (cosL (azF a0 a1 b0 b1 c0 c1).1 (azF a0 a1 b0 b1 c0 c1).2) (cosH (azF a0 a1 b0 b1 c0 c1).1 (azF a0 a1 b0 b1 c0 c1).2) c 0 at i3
  change InR (encL (alL a0 a1 b0 b1 c0 c1) (alH a0 a1 b0 b1 c0 c1)) (encH (alL a0 a1 b0 b1 c0 c1) (alH a0 a1 b0 b1 c0 c1)) _ _ at K1
  change InR (cosL (alL a0 a1 b0 b1 c0 c1) (alH a0 a1 b0 b1 c0 c1)) (cosH (alL a0 a1 b0 b1 c0 c1) (alH a0 a1 b0 b1 c0 c1)) _ _ at K2
  rw [eH.1, eH.2] at K1 K2
  rw [eZ] at i1 i3
  have B' : Iv H0 H1 _ C wtU := ⟨K1, K2⟩
  have T' : Iv z0 z1 s c 0 := ⟨i1, i3⟩
  have V' := alt_val A B' T' v2 v5 Rat.le_refl v3 r5 (by grind)
  have VX' := azX_val A B' T' v2 v5 Rat.le_refl v3 r5 (by grind)
  have VY' := azY_val B' T' v5 Rat.le_refl (by grind)
  obtain ⟨⟨zf1, zf2⟩, zf3, zf4⟩ := W_in (a0 % 21600000)
  clear A B T V VX VY K1 K2 i1 i3 B' T' hC q0 q1 s0 s1 o1 o2 p1 p2 p3 p4 id eH eZ hz h
  generalize wS (a0 % 21600000) = sf at *
  generalize wC (a0 % 21600000) = cf at *
  obtain ⟨i21, i22⟩ := i2
  obtain ⟨i41, i42⟩ := i4
  have J1 : InR (altS0 a0 a1 H0 H1 z0 z1) (altS1 a0 a1 H0 H1 z0 z1) (wS (100 * dec)) wtR := by
    refine V'.near (d := wtQ) ?_ r1
    clear V' VX' VY' uB uT h1 h2 i21 i22
    generalize wS (100 * dec) = sd at *
    generalize wC (100 * dec) = cd at *
    generalize wC (τ % 21600000) = ct at *
    obtain ⟨g1, g2⟩ := rabs (x := cf) (y := c * C - (sd * cf - cd * ct * sf)) (m := 1) (f := wtQ) zf3 zf4 (by grind) (by grind)
    have e : sd * (sf * sf + cf * cf) = sd := by rw [uA]; grind
    have e2 : sf * (sf * sd + cf * cd * ct) + cf * C * c = sd * (sf * sf + cf * cf) + cf * (c * C - (sd * cf - cd * ct * sf)) := by grind
    rw [e2, e]
    generalize cf * (c * C - (sd * cf - cd * ct * sf)) = G at *
    constructor <;> grind
  have J2 : InR (azX a0 a1 H0 H1 z0 z1).1 (azX a0 a1 H0 H1 z0 z1).2 (wC (100 * dec) * wC (τ % 21600000)) wtR := by
    refine VX'.near (d := wtQ) ?_ r2
    clear V' VX' VY' uB uT h1 h2 i21 i22 J1
    generalize wS (100 * dec) = sd at *
    generalize wC (100 * dec) = cd at *
    generalize wC (τ % 21600000) = ct at *
    obtain ⟨g1, g2⟩ := rabs (x := sf) (y := c * C - (sd * cf - cd * ct * sf)) (m := 1) (f := wtQ) zf1 zf2 (by grind) (by grind)
    have e : cd * ct * (sf * sf + cf * cf) = cd * ct := by rw [uA]; grind
    have e2 : (sf * sd + cf * cd * ct) * cf - C * c * sf = cd * ct * (sf * sf + cf * cf) - sf * (c * C - (sd * cf - cd * ct * sf)) := by grind
    rw [e2, e]
    generalize sf * (c * C - (sd * cf - cd * ct * sf)) = G at *
    constructor <;> grind
  have J3 : InR (azY H0 H1 z0 z1).1 (azY H0 H1 z0 z1).2 (wC (100 * dec) * wS (τ % 21600000)) wtR := by
    refine VY'.near (d := wtQ) ?_ r3
    clear V' VX' VY' uB uT h1 h2 i41 i42 J1 J2
    generalize wC (100 * dec) = cd at *
    generalize wS (τ % 21600000) = st at *
    constructor <;> grind
  obtain ⟨e1, e2⟩ := as_near (al_bd h').1 d0 d1 J1 rfl
  obtain ⟨⟨o1, o2⟩, p1, p2, p3, p4⟩ := az_bd a0 a1 H0 H1 z0 z1
  exact ⟨h', e1, e2, br_tau o1 o2 p1 p2 p3 p4 d0 d1 J2 J3⟩
theorem back_law {u v x y a b sha dec : Int} (hl : latB u v = true) (hx : validB x y = true) (hab : a ≤ b) (d0 : -54000 ≤ dec) (d1 : dec ≤ 54000) {l0 l1 H0 H1 z0 z1 : Int}
    (el : turnLo (sgL a b sha + turnLo x y) (sgH a b sha + turnHi x y) = l0 ∧ turnHi (sgL a b sha + turnLo x y) (sgH a b sha + turnHi x y) = l1)
    (eH : alL u v (dcL dec) (dcH dec) l0 l1 = H0 ∧ alH u v (dcL dec) (dcH dec) l0 l1 = H1) (eZ : azF u v (dcL dec) (dcH dec) l0 l1 = (z0, z1)) :
    triB u v (dcL dec) (dcH dec) l0 l1 = true ∧ triB u v H0 H1 z0 z1 = true ∧ alL u v H0 H1 z0 z1 ≤ 100 * dec ∧ 100 * dec ≤ alH u v H0 H1 z0 z1 ∧
    agrB (turnLo ((azF u v H0 H1 z0 z1).1 + -(turnHi x y) + -(turnHi (agL a b) (agH a b))) ((azF u v H0 H1 z0 z1).2 + -(turnLo x y) + -(turnLo (agL a b) (agH a b)))) (turnHi ((azF u v H0 H1 z0 z1).1 + -(turnHi x y) + -(turnHi (agL a b) (agH a b))) ((azF u v H0 H1 z0 z1).2 + -(turnLo x y) + -(turnLo (agL a b) (agH a b)))) (100 * sha) (100 * sha) = true := by
  have hx' := validB_iff.1 hx
  have tx := turn_bd hx'.1
  have ta := ag_bd hab
  have tg : agL a b + (100 * sha - 50) ≤ agH a b + (100 * sha + 50) := by omega
  have ts := turn_bd tg
  obtain ⟨k1, f1, f2⟩ := turn_has (x := agL a b + (100 * sha - 50)) (y := agH a b + (100 * sha + 50)) (n := agL a b + 100 * sha) (by omega) (by omega)
  change sgL a b sha ≤ _ at f1
  change _ ≤ sgH a b sha at f2
  change 0 ≤ sgL a b sha ∧ sgL a b sha ≤ 21599999 ∧ sgL a b sha ≤ sgH a b sha ∧ sgH a b sha ≤ sgL a b sha + 21600000 at ts
  have tl := turn_bd (show sgL a b sha + turnLo x y ≤ sgH a b sha + turnHi x y by omega)
  obtain ⟨k2, f3, f4⟩ := turn_has (x := sgL a b sha + turnLo x y) (y := sgH a b sha + turnHi x y) (n := agL a b + 100 * sha + 21600000 * k1 + turnLo x y) (by omega) (by omega)
  rw [el.1] at f3 tl
  rw [el.2] at f4 tl
  have hd : dcL dec ≤ 100 * dec ∧ 100 * dec ≤ dcH dec ∧ -5400000 ≤ dcL dec ∧ dcH dec ≤ 5400000 := by unfold dcL dcH; rw [mx_eq, mn_eq]; omega
  have ht : triB u v (dcL dec) (dcH dec) l0 l1 = true := by
    unfold triB
    simp only [Bool.and_eq_true]
    exact ⟨⟨hl, latB_iff.2 (by omega)⟩, validB_iff.2 (by omega)⟩
  obtain ⟨g1, g2, g3, k3, g4, g5⟩ := back_core (τ := agL a b + 100 * sha + turnLo x y) (k := k1 + k2) ht d0 d1 hd.1 hd.2.1 (by omega) (by omega) eH eZ
  have e := turn_bd (x := agL a b) (y := agH a b) (by omega)
  have eA : turnLo (agL a b) (agH a b) = agL a b ∧ turnHi (agL a b) (agH a b) = agH a b := by
    have : agH a b - agL a b ≤ 21600000 := by omega
    unfold agL agH turnLo turnHi
    split
    · constructor <;> rfl
    · rw [if_neg (by omega), if_neg (by omega)]; omega
  refine ⟨ht, g1, g2, g3, ?_⟩
  rw [eA.1, eA.2]
  obtain ⟨k4, q1, q2⟩ := turn_has (x := (azF u v H0 H1 z0 z1).1 + -(turnHi x y) + -(agH a b)) (y := (azF u v H0 H1 z0 z1).2 + -(turnLo x y) + -(agL a b)) (n := 100 * sha + 21600000 * k3) (by omega) (by omega)
  unfold agrB
  rw [Bool.or_eq_true, decide_eq_true_eq, decide_eq_true_eq]
  left
  omega
end Go.Proofs.YtkhhdpndcidmgaaGreat
