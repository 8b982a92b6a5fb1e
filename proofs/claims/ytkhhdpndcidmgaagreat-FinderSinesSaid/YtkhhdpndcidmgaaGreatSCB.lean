/- Contracts and plain laws, several texts in one: SnN; SnB; SnW -/
import Derived.Test.YtkhhdpndcidmgaaGreatProg
import Derived.WalkKit
import Derived.WalkSpells
import Derived.WalkLawsBesides
import Derived.Lib.Hide
import Derived.BigQuiet
import Derived.Test.YtkhhdpndcidmgaaGreatSAC
import Derived.Test.YtkhhdpndcidmgaaGreatSAD
import Derived.Test.YtkhhdpndcidmgaaGreatSAE
import Derived.Test.YtkhhdpndcidmgaaGreatSBY
import Derived.Test.YtkhhdpndcidmgaaGreatSBZ
import Derived.Test.YtkhhdpndcidmgaaGreatSCA
/- The arc of a mirrored box is the mirrored arc. No program in sight. -/
namespace Go.Proofs.YtkhhdpndcidmgaaGreat
open Go.RowKit

theorem brG_at (a c : Int × Int) : brG a c = ((angF a.1 a.2).1, nxI (angF c.1 c.2) + (if (angF c.1 c.2).1 < (angF a.1 a.2).1 then 21600000 else 0)) := by
  unfold brG nxI
  refine Prod.ext rfl ?_
  dsimp only
  split <;> split <;> omega
theorem nx_in (p : Int × Bool) : p.1 ≤ nxI p ∧ nxI p ≤ p.1 + 1 := by unfold nxI; split <;> omega
theorem br_mir {x0 x1 y0 y1 : Int} (hx : x0 ≤ x1) (hy : y0 ≤ y1) (bx0 : Bd31 x0) (bx1 : Bd31 x1) (by0 : Bd31 y0) (by1 : Bd31 y1) :
    brF x0 x1 (-y1) (-y0) = (turnLo (-(brF x0 x1 y0 y1).2) (-(brF x0 x1 y0 y1).1), turnHi (-(brF x0 x1 y0 y1).2) (-(brF x0 x1 y0 y1).1)) := by
  by_cases hO : oriB x0 x1 y0 y1
  · have hO' : oriB x0 x1 (-y1) (-y0) := by unfold oriB at *; omega
    rw [show brF x0 x1 y0 y1 = (0, 21600000) from if_pos hO, show brF x0 x1 (-y1) (-y0) = (0, 21600000) from if_pos hO']
    rfl
  have hO' : ¬ oriB x0 x1 (-y1) (-y0) := by unfold oriB at *; omega
  have hy' : -y1 ≤ -y0 := by omega
  rw [show brF x0 x1 y0 y1 = brG (fstC x0 x1 y0 y1 4) (lstC x0 x1 y0 y1 4) from if_neg hO, show brF x0 x1 (-y1) (-y0) = brG (fstC x0 x1 (-y1) (-y0) 4) (lstC x0 x1 (-y1) (-y0) 4) from if_neg hO']
  obtain ⟨α, β, hp⟩ := box_half hO
  have hp' : ∀ X Y, x0 ≤ X → X ≤ x1 → -y1 ≤ Y → Y ≤ -y0 → 0 < α * X + (-β) * Y := fun X Y a b c d => by
    have := hp X (-Y) a b (by omega) (by omega)
    rw [Int.mul_neg] at this
    rw [Int.neg_mul]
    exact this
  obtain ⟨⟨f1, f2⟩, f3, f4⟩ := fst_in hx hy 4 (x0 := x0) (x1 := x1) (y0 := y0) (y1 := y1)
  obtain ⟨⟨l1, l2⟩, l3, l4⟩ := lst_in hx hy 4 (x0 := x0) (x1 := x1) (y0 := y0) (y1 := y1)
  obtain ⟨⟨g1, g2⟩, g3, g4⟩ := fst_in hx hy' 4 (x0 := x0) (x1 := x1) (y0 := -y1) (y1 := -y0)
  obtain ⟨⟨m1, m2⟩, m3, m4⟩ := lst_in hx hy' 4 (x0 := x0) (x1 := x1) (y0 := -y1) (y1 := -y0)
  -- the first corner of the mirrored box has the direction of the mirrored last one
  have c1 := crs_box (fun j hj => fst_min hx hy' hp' 4 j hj) (X := (lstC x0 x1 y0 y1 4).1) (Y := -(lstC x0 x1 y0 y1 4).2) l1 l2 (by omega) (by omega)
  have c2 := crs_box' (fun j hj => lst_max hx hy hp 4 j hj) (X := (fstC x0 x1 (-y1) (-y0) 4).1) (Y := -(fstC x0 x1 (-y1) (-y0) 4).2) g1 g2 (by omega) (by omega)
  have c3 := crs_box (fun j hj => fst_min hx hy hp 4 j hj) (X := (lstC x0 x1 (-y1) (-y0) 4).1) (Y := -(lstC x0 x1 (-y1) (-y0) 4).2) m1 m2 (by omega) (by omega)
  have c4 := crs_box' (fun j hj => lst_max hx hy' hp' 4 j hj) (X := (fstC x0 x1 y0 y1 4).1) (Y := -(fstC x0 x1 y0 y1 4).2) f1 f2 (by omega) (by omega)
  have c5 := crs_box (fun j hj => fst_min hx hy hp 4 j hj) l1 l2 l3 l4
  have c6 := crs_box (fun j hj => fst_min hx hy' hp' 4 j hj) m1 m2 m3 m4
  have d1 := hp _ _ f1 f2 f3 f4
  have d2 := hp _ _ l1 l2 l3 l4
  have d3 := hp' _ _ g1 g2 g3 g4
  have d4 := hp' _ _ m1 m2 m3 m4
  have d5 := hp' (lstC x0 x1 y0 y1 4).1 (-(lstC x0 x1 y0 y1 4).2) l1 l2 (by omega) (by omega)
  have d6 := hp' (fstC x0 x1 y0 y1 4).1 (-(fstC x0 x1 y0 y1 4).2) f1 f2 (by omega) (by omega)
  rw [brG_at, brG_at]
  generalize fstC x0 x1 y0 y1 4 = F at *
  generalize lstC x0 x1 y0 y1 4 = L at *
  generalize fstC x0 x1 (-y1) (-y0) 4 = F' at *
  generalize lstC x0 x1 (-y1) (-y0) 4 = L' at *
  obtain ⟨fx, fy⟩ := F
  obtain ⟨lx, ly⟩ := L
  obtain ⟨fx', fy'⟩ := F'
  obtain ⟨lx', ly'⟩ := L'
  dsimp only at *
  clear hp hp'
  have nz : ∀ {γ δ X Y : Int}, 0 < γ * X + δ * Y → ¬ (X = 0 ∧ Y = 0) := fun h ⟨a, b⟩ => by rw [a, b] at h; simp at h
  have a1 := ang_same d3 d5 c1 (by unfold crs at *; grind)
  have a2 := ang_same d4 d6 (by unfold crs at *; grind) c4
  unfold Bd31 at *
  have M1 := ang_mir (nz d2) (by unfold Bd31; omega) (by unfold Bd31; omega)
  have M2 := ang_mir (nz d1) (by unfold Bd31; omega) (by unfold Bd31; omega)
  have w1 := ang_next d1 d2 c5
  have w2 := ang_next d3 d4 c6
  have w3 := ang_far (nz d1) (nz d2) c5
  have w4 := ang_far (nz d3) (nz d4) c6
  rw [a1] at w2 w4 ⊢
  rw [a2] at w2 w4 ⊢
  clear a1 a2 c1 c2 c3 c4 c5 c6 d1 d2 d3 d4 d5 d6 f1 f2 f3 f4 l1 l2 l3 l4 g1 g2 g3 g4 m1 m2 m3 m4 bx0 bx1 by0 by1 hO hO' hy' hx hy nz
  obtain ⟨o1, o2⟩ := angF_bd fx fy
  obtain ⟨o3, o4⟩ := angF_bd lx ly
  obtain ⟨o5, o6⟩ := angF_bd fx (-fy)
  obtain ⟨o7, o8⟩ := angF_bd lx (-ly)
  generalize angF fx fy = A at *
  generalize angF lx ly = B at *
  generalize angF fx (-fy) = A' at *
  generalize angF lx (-ly) = B' at *
  obtain ⟨n1, n2⟩ := nx_in A
  obtain ⟨n3, n4⟩ := nx_in B
  obtain ⟨n5, n6⟩ := nx_in A'
  obtain ⟨n7, n8⟩ := nx_in B'
  obtain ⟨M11, M12⟩ := M1
  obtain ⟨M21, M22⟩ := M2
  have e1 : nxI A - A.1 = nxI A' - A'.1 := by unfold nxI; rw [M21]; omega
  clear M11 M21
  generalize nxI A = NA at *
  generalize nxI B = NB at *
  generalize nxI A' = NA' at *
  generalize nxI B' = NB' at *
  generalize A.1 = a at *
  generalize B.1 = b at *
  generalize A'.1 = a' at *
  generalize B'.1 = b' at *
  unfold turnLo turnHi
  have k : ¬ 21600000 ≤ -a - -(NB + if b < a then 21600000 else 0) := by split <;> omega
  rw [if_neg k, if_neg k]
  refine Prod.ext ?_ ?_
  · dsimp only
    split <;> omega
  · dsimp only
    split <;> split <;> omega
end Go.Proofs.YtkhhdpndcidmgaaGreat
/- FinderSines, plain law: the sines are as the sides. No program in sight. -/
namespace Go.Proofs.YtkhhdpndcidmgaaGreat
open Go.RowKit

def MeetI (p q : Int × Int) : Prop := max p.1 q.1 ≤ min p.2 q.2
theorem sines_q {a0 a1 b0 b1 c0 c1 : Int} (h : triB a0 a1 b0 b1 c0 c1 = true) :
    MeetI (mL (sI (paF a0 a1 b0 b1 c0 c1).1 (paF a0 a1 b0 b1 c0 c1).2) (cI (alL a0 a1 b0 b1 c0 c1) (alH a0 a1 b0 b1 c0 c1))) (mL (cI a0 a1) (sI c0 c1)) := by
  obtain ⟨z1, z2, z3, z4, z5, z6, z7, z8, z9⟩ := num_6
  obtain ⟨h1, h2⟩ := al_bd h
  unfold triB at h
  simp only [Bool.and_eq_true] at h
  have ha := latB_iff.1 h.1.1
  have hb := latB_iff.1 h.1.2
  have hc := validB_iff.1 h.2
  have A := iv_of (a0 := a0) (a1 := a1) (Int.le_refl a0) ha.1
  have B := iv_of (a0 := b0) (a1 := b1) (Int.le_refl b0) hb.1
  have T := iv_of (a0 := c0) (a1 := c1) (Int.le_refl c0) hc.1
  have id := tri_pa (W_unit (a0 % 21600000)) (W_unit (b0 % 21600000)) (W_unit (c0 % 21600000))
  obtain ⟨s0, s1, C, d0, d1, hC⟩ := tri_root id
  have V := alt_val A B T z2 z2 z2 z3 z3 z3
  have VX := paX_val A B T z2 z2 z2 z3 z3 z3
  have VY := paY_val A T z2 z2 z3
  obtain ⟨-, K⟩ := as_sc h1 (V.mono (Int.le_refl _) (Int.le_refl _) z1) s0 s1 d0 hC h2
  obtain ⟨⟨o1, o2⟩, p1, p2, p3, p4⟩ := pa_bd a0 a1 b0 b1 c0 c1
  obtain ⟨⟨s, i1, i2⟩, -⟩ := br_enc o1 o2 p1 p2 p3 p4 (VX.mono (Int.le_refl _) (Int.le_refl _) (by grind)) (VY.mono (Int.le_refl _) (Int.le_refl _) (by grind)) d0 d1 (by rw [id]; exact hC)
  have m1 := InR.mL (p := sI (paF a0 a1 b0 b1 c0 c1).1 (paF a0 a1 b0 b1 c0 c1).2) (q := cI (alL a0 a1 b0 b1 c0 c1) (alH a0 a1 b0 b1 c0 c1)) (g := wtU) i1 K (sI_un _ _) (cI_un _ _) Rat.le_refl z5 (by grind) (by grind)
  exact meet_in m1 VY i2 z7 ((sI_un _ _).mul (cI_un _ _)).2.1 ((cI_un _ _).mul (sI_un _ _)).2.1
theorem sines_z {a0 a1 b0 b1 c0 c1 : Int} (h : triB a0 a1 b0 b1 c0 c1 = true) :
    MeetI (mL (sI (-(azF a0 a1 b0 b1 c0 c1).2) (-(azF a0 a1 b0 b1 c0 c1).1)) (cI (alL a0 a1 b0 b1 c0 c1) (alH a0 a1 b0 b1 c0 c1))) (mL (cI b0 b1) (sI c0 c1)) := by
  obtain ⟨z1, z2, z3, z4, z5, z6, z7, z8, z9⟩ := num_6
  obtain ⟨h1, h2⟩ := al_bd h
  unfold triB at h
  simp only [Bool.and_eq_true] at h
  have ha := latB_iff.1 h.1.1
  have hb := latB_iff.1 h.1.2
  have hc := validB_iff.1 h.2
  have A := iv_of (a0 := a0) (a1 := a1) (Int.le_refl a0) ha.1
  have B := iv_of (a0 := b0) (a1 := b1) (Int.le_refl b0) hb.1
  have T := iv_of (a0 := c0) (a1 := c1) (Int.le_refl c0) hc.1
  have id := tri_az (W_unit (a0 % 21600000)) (W_unit (b0 % 21600000)) (W_unit (c0 % 21600000))
  obtain ⟨s0, s1, C, d0, d1, hC⟩ := tri_root id
  have V := alt_val A B T z2 z2 z2 z3 z3 z3
  have VX := azX_val A B T z2 z2 z2 z3 z3 z3
  have VY := azY_val B T z2 z2 z3
  obtain ⟨-, K⟩ := as_sc h1 (V.mono (Int.le_refl _) (Int.le_refl _) z1) s0 s1 d0 hC h2
  obtain ⟨⟨o1, o2⟩, p1, p2, p3, p4⟩ := az_bd a0 a1 b0 b1 c0 c1
  obtain ⟨⟨s, i1, i2⟩, -⟩ := br_enc o1 o2 p1 p2 p3 p4 (VX.mono (Int.le_refl _) (Int.le_refl _) (by grind)) (VY.mono (Int.le_refl _) (Int.le_refl _) (by grind)) d0 d1 (by rw [id]; exact hC)
  change InR (encL (azF a0 a1 b0 b1 c0 c1).1 (azF a0 a1 b0 b1 c0 c1).2) (encH (azF a0 a1 b0 b1 c0 c1).1 (azF a0 a1 b0 b1 c0 c1).2) s 0 at i1
  have hb2 := brF_bd (azX a0 a1 b0 b1 c0 c1).1 (azX a0 a1 b0 b1 c0 c1).2 (azY b0 b1 c0 c1).1 (azY b0 b1 c0 c1).2
  change 0 ≤ (azF a0 a1 b0 b1 c0 c1).1 ∧ (azF a0 a1 b0 b1 c0 c1).1 ≤ (azF a0 a1 b0 b1 c0 c1).2 ∧ (azF a0 a1 b0 b1 c0 c1).2 ≤ 43200000 at hb2
  have i3 : InR (sI (-(azF a0 a1 b0 b1 c0 c1).2) (-(azF a0 a1 b0 b1 c0 c1).1)).1 (sI (-(azF a0 a1 b0 b1 c0 c1).2) (-(azF a0 a1 b0 b1 c0 c1).1)).2 (-s) 0 := by
    have e := enc_opp hb2.2.1
    unfold sI
    dsimp only
    rw [e.1, e.2]
    exact i1.neg
  have m1 := InR.mL (g := wtU) i3 K (sI_un _ _) (cI_un _ _) Rat.le_refl z5 (by grind) (by grind)
  have VZ := B.c.mL T.s (g := 6 * (wtZ + wtZ)) (cI_un _ _) (sI_un _ _) z2 z2 (by grind) (by grind)
  refine meet_in m1 VZ (d := wtQ) ?_ z7 ((sI_un _ _).mul (cI_un _ _)).2.1 ((cI_un _ _).mul (sI_un _ _)).2.1
  obtain ⟨n1, n2⟩ := i2
  constructor <;> grind
theorem sines_mir {a0 a1 b0 b1 c0 c1 : Int} (h : triB a0 a1 b0 b1 c0 c1 = true) : paF a0 a1 b0 b1 (-c1) (-c0) = (turnLo (-(paF a0 a1 b0 b1 c0 c1).2) (-(paF a0 a1 b0 b1 c0 c1).1), turnHi (-(paF a0 a1 b0 b1 c0 c1).2) (-(paF a0 a1 b0 b1 c0 c1).1)) := by
  unfold triB at h
  simp only [Bool.and_eq_true] at h
  have hc := validB_iff.1 h.2
  obtain ⟨⟨o1, o2⟩, p1, p2, p3, p4⟩ := pa_bd a0 a1 b0 b1 c0 c1
  have eS : sI (-c1) (-c0) = (-(sI c0 c1).2, -(sI c0 c1).1) := Prod.ext (enc_opp hc.1).1 (enc_opp hc.1).2
  have eC : cI (-c1) (-c0) = cI c0 c1 := Prod.ext (cos_opp hc.1).1 (cos_opp hc.1).2
  have eY : paY a0 a1 (-c1) (-c0) = (-(paY a0 a1 c0 c1).2, -(paY a0 a1 c0 c1).1) := by
    unfold paY
    rw [eS]
    exact Prod.ext (mul_opp _ _ _ _).1 (mul_opp _ _ _ _).2
  have eX : paX a0 a1 b0 b1 (-c1) (-c0) = paX a0 a1 b0 b1 c0 c1 := by unfold paX; rw [eC]
  have e := br_mir o1 o2 p1 p2 p3 p4
  unfold paF
  rw [eX, eY]
  exact e
end Go.Proofs.YtkhhdpndcidmgaaGreat
/- FinderSines: the walk. -/
namespace Go.Proofs.YtkhhdpndcidmgaaGreat
set_option maxHeartbeats 4000000
set_option maxRecDepth 100000
open Go.RowKit Go.Shelf

theorem fx_MeetG (a0 a1 b0 b1 : Int) (w : World) (ha : fxB a0 a1 = true) (hb : fxB b0 b1 = true) (hm : ¬ mn a1 b1 < mx a0 b0) :
    Calls Tryz.prog 12 #[(.agg #[.int .i64 (a0), .int .i64 (a1)]), (.agg #[.int .i64 (b0), .int .i64 (b1)])] w fun e w' => e = .returned (.tuple #[(.agg #[.int .i64 (mx a0 b0), .int .i64 (mn a1 b1)]), .int .i64 0]) ∧ ∃ d, w' = bw w d := by
  have HB := Lib.hid (fun W => fx_bothG a0 a1 b0 b1 W)
  rw [ha, hb, Bool.and_self] at HB
  clear ha hb
  refine lay_start ?_
  go_enter Tryz.func12, Tryz.ntmps12
  go_wp2_with (go_at_call 36; refine (HB.out _).mono ?_; rintro e w' ⟨rfl, dq, rfl⟩; rw [lay_bw])
  exact bodyPost_ret (v := .tuple #[(.agg #[.int .i64 (mx a0 b0), .int .i64 (mn a1 b1)]), .int .i64 0]) (by simp [results, Tryz.results12, go_sem]) rfl ⟨rfl, lay_ex _ _⟩
theorem law51_meet {a0 a1 b0 b1 c0 c1 d0 d1 m0 m1 n0 n1 : Int} (ua : UnI (a0, a1)) (ub : UnI (b0, b1)) (uc : UnI (c0, c1)) (ud : UnI (d0, d1)) (h1 : mL (a0, a1) (b0, b1) = (m0, m1)) (h2 : mL (c0, c1) (d0, d1) = (n0, n1)) (hm : MeetI (m0, m1) (n0, n1)) (w : World) :
    Calls Tryz.prog 10 #[(.agg #[.int .i64 (a0), .int .i64 (a1)]), (.agg #[.int .i64 (b0), .int .i64 (b1)]), (.agg #[.int .i64 (c0), .int .i64 (c1)]), (.agg #[.int .i64 (d0), .int .i64 (d1)])] w fun e w' => e = .returned (.bool true) ∧ ∃ d, w' = bw w d := by
  have e1 := (ua.mul ub).fx
  have e2 := (uc.mul ud).fx
  have H1 := Lib.hid (fun W => fx_MulG a0 a1 b0 b1 W ua.fx ub.fx e1)
  have H2 := Lib.hid (fun W => fx_MulG c0 c1 d0 d1 W uc.fx ud.fx e2)
  rw [show mulL a0 a1 b0 b1 = m0 from congrArg Prod.fst h1, show mulH a0 a1 b0 b1 = m1 from congrArg Prod.snd h1] at H1
  rw [show mulL c0 c1 d0 d1 = n0 from congrArg Prod.fst h2, show mulH c0 c1 d0 d1 = n1 from congrArg Prod.snd h2] at H2
  rw [h1] at e1
  rw [h2] at e2
  have H3 := Lib.hid (fun W => fx_MeetG m0 m1 n0 n1 W e1 e2 (by unfold MeetI at hm; rw [mn_eq, mx_eq]; dsimp only at hm; omega))
  generalize mx m0 n0 = p at *
  generalize mn m1 n1 = q at *
  clear e1 e2 h1 h2 hm ua ub uc ud
  refine lay_start ?_
  go_enter Tryz.func10, Tryz.ntmps10
  go_wp2_with (first | (go_at_call 11; first | ((with_reducible refine (H1.out _).mono ?_); rintro e w' ⟨rfl, dq, rfl⟩; rw [lay_bw]) | ((with_reducible refine (H2.out _).mono ?_); rintro e w' ⟨rfl, dq, rfl⟩; rw [lay_bw])) | (go_at_call 12; refine (H3.out _).mono ?_; rintro e w' ⟨rfl, dq, rfl⟩; rw [lay_bw]))
  go_ret
  exact ⟨rfl, lay_ex _ _⟩
theorem law51_Sines (a0 a1 b0 b1 c0 c1 : Int) (w : World) :
    Calls Tryz.prog 3 #[(.agg #[.int .i64 (a0), .int .i64 (a1), .int .i64 (b0), .int .i64 (b1), .int .i64 (c0), .int .i64 (c1)])] w fun e w' => e = .returned (.bool true) ∧ ∃ d, w' = bw w d := by
  have HA := Lib.hid (fun W => law51_awake W)
  have HV := Lib.hid (fun W => r25_Valid a0 a1 b0 b1 c0 c1 W)
  cases h : triB a0 a1 b0 b1 c0 c1
  · rw [h] at HV
    clear h
    refine lay_start ?_
    go_enter Tryz.func3, Tryz.ntmps3
    go_wp2_with (first | (go_at_call 5; refine (HA.out _).mono ?_; rintro e w' ⟨rfl, dq, rfl⟩; rw [lay_bw]) | (go_at_call 6; refine (HV.out _).mono ?_; rintro e w' ⟨rfl, dq, rfl⟩; rw [lay_bw]))
    go_ret
    exact ⟨rfl, lay_ex _ _⟩
  · rw [h] at HV
    have M1 := sines_q h
    have M2 := sines_z h
    have MM := sines_mir h
    have HP := Lib.hid (fun W => fn_Parallactic _ _ _ _ _ _ W h)
    have HS := Lib.hid (fun W => cos_Solve _ _ _ _ _ _ W h)
    have hB := al_bd h
    have bq := brF_bd (paX a0 a1 b0 b1 c0 c1).1 (paX a0 a1 b0 b1 c0 c1).2 (paY a0 a1 c0 c1).1 (paY a0 a1 c0 c1).2
    have bz := brF_bd (azX a0 a1 b0 b1 c0 c1).1 (azX a0 a1 b0 b1 c0 c1).2 (azY b0 b1 c0 c1).1 (azY b0 b1 c0 c1).2
    change 0 ≤ (paF a0 a1 b0 b1 c0 c1).1 ∧ (paF a0 a1 b0 b1 c0 c1).1 ≤ (paF a0 a1 b0 b1 c0 c1).2 ∧ (paF a0 a1 b0 b1 c0 c1).2 ≤ 43200000 at bq
    change 0 ≤ (azF a0 a1 b0 b1 c0 c1).1 ∧ (azF a0 a1 b0 b1 c0 c1).1 ≤ (azF a0 a1 b0 b1 c0 c1).2 ∧ (azF a0 a1 b0 b1 c0 c1).2 ≤ 43200000 at bz
    have h2 : triB a0 a1 b0 b1 (-c1) (-c0) = true := by
      unfold triB at h ⊢
      simp only [Bool.and_eq_true] at h ⊢
      have := validB_iff.1 h.2
      exact ⟨h.1, validB_iff.2 (by omega)⟩
    have HQ := Lib.hid (fun W => fn_Parallactic _ _ _ _ _ _ W h2)
    rw [MM] at HQ
    unfold triB at h
    simp only [Bool.and_eq_true] at h
    have va := latB_iff.1 h.1.1
    have vb := latB_iff.1 h.1.2
    have vc := validB_iff.1 h.2
    generalize paF a0 a1 b0 b1 c0 c1 = q at *
    generalize azF a0 a1 b0 b1 c0 c1 = z at *
    generalize alL a0 a1 b0 b1 c0 c1 = k0 at *
    generalize alH a0 a1 b0 b1 c0 c1 = k1 at *
    obtain ⟨q0, q1⟩ := q
    obtain ⟨z0, z1⟩ := z
    dsimp only at *
    have vq : validB (-q1) (-q0) = true := validB_iff.2 (by omega)
    have HT := Lib.hid (fun W => angle_Turn (-q1) (-q0) W vq)
    have S1 := Lib.hid (fun W => tg_Sin q0 q1 (validB_iff.2 (by omega)) W)
    have S2 := Lib.hid (fun W => tg_Sin c0 c1 h.2 W)
    have S3 := Lib.hid (fun W => tg_Sin (-z1) (-z0) (validB_iff.2 (by omega)) W)
    have C1 := Lib.hid (fun W => tg_Cos k0 k1 (validB_iff.2 (by omega)) W)
    have C2 := Lib.hid (fun W => tg_Cos a0 a1 (lat_valid h.1.1) W)
    have C3 := Lib.hid (fun W => tg_Cos b0 b1 (lat_valid h.1.2) W)
    have G1 := Lib.hid (fun W => law51_meet (sI_un q0 q1) (cI_un k0 k1) (cI_un a0 a1) (sI_un c0 c1) rfl rfl M1 W)
    have G2 := Lib.hid (fun W => law51_meet (sI_un (-z1) (-z0)) (cI_un k0 k1) (cI_un b0 b1) (sI_un c0 c1) rfl rfl M2 W)
    change Hid (∀ W, Calls _ _ _ W fun e w' => e = .returned (.tuple #[(.agg #[.int .i64 (cosL k0 k1), .int .i64 (cosH k0 k1)]), .int .i64 0]) ∧ _) at C1
    change Hid (∀ W, Calls _ _ _ W fun e w' => e = .returned (.tuple #[(.agg #[.int .i64 (cosL a0 a1), .int .i64 (cosH a0 a1)]), .int .i64 0]) ∧ _) at C2
    change Hid (∀ W, Calls _ _ _ W fun e w' => e = .returned (.tuple #[(.agg #[.int .i64 (cosL b0 b1), .int .i64 (cosH b0 b1)]), .int .i64 0]) ∧ _) at C3
    have e1 : IntKind.i64.wrap (-c1) = -c1 := IntWalk.i64_in _ (by omega)
    have e2 : IntKind.i64.wrap (-c0) = -c0 := IntWalk.i64_in _ (by omega)
    have e3 : IntKind.i64.wrap (-q1) = -q1 := IntWalk.i64_in _ (by omega)
    have e4 : IntKind.i64.wrap (-q0) = -q0 := IntWalk.i64_in _ (by omega)
    have e5 : IntKind.i64.wrap (-z1) = -z1 := IntWalk.i64_in _ (by omega)
    have e6' : IntKind.i64.wrap (-z0) = -z0 := IntWalk.i64_in _ (by omega)
    clear M1 M2 MM h h2 hB bq bz va vb vc vq
    generalize turnLo (-q1) (-q0) = r0 at *
    generalize turnHi (-q1) (-q0) = r1 at *
    refine lay_start ?_
    go_enter Tryz.func3, Tryz.ntmps3
    go_wp2_with (first | (go_at_call 5; refine (HA.out _).mono ?_; rintro e w' ⟨rfl, dq, rfl⟩; rw [lay_bw]) | (go_at_call 6; refine (HV.out _).mono ?_; rintro e w' ⟨rfl, dq, rfl⟩; rw [lay_bw]) | (go_at_call 7; first | ((with_reducible refine (HP.out _).mono ?_); rintro e w' ⟨rfl, dq, rfl⟩; rw [lay_bw]) | ((with_reducible refine (HQ.out _).mono ?_); rintro e w' ⟨rfl, dq, rfl⟩; rw [lay_bw])) | (go_at_call 8; refine (HT.out _).mono ?_; rintro e w' ⟨rfl, dq, rfl⟩; rw [lay_bw]) | (go_at_call 9; refine (HS.out _).mono ?_; rintro e w' ⟨rfl, dq, rfl⟩; rw [lay_bw]) | (go_at_call 13; first | ((with_reducible refine (S1.out _).mono ?_); rintro e w' ⟨rfl, dq, rfl⟩; rw [lay_bw]) | ((with_reducible refine (S2.out _).mono ?_); rintro e w' ⟨rfl, dq, rfl⟩; rw [lay_bw]) | ((with_reducible refine (S3.out _).mono ?_); rintro e w' ⟨rfl, dq, rfl⟩; rw [lay_bw])) | (go_at_call 14; first | ((with_reducible refine (C1.out _).mono ?_); rintro e w' ⟨rfl, dq, rfl⟩; rw [lay_bw]) | ((with_reducible refine (C2.out _).mono ?_); rintro e w' ⟨rfl, dq, rfl⟩; rw [lay_bw]) | ((with_reducible refine (C3.out _).mono ?_); rintro e w' ⟨rfl, dq, rfl⟩; rw [lay_bw])) | (go_at_call 10; first | ((with_reducible refine (G1.out _).mono ?_); rintro e w' ⟨rfl, dq, rfl⟩; rw [lay_bw]) | ((with_reducible refine (G2.out _).mono ?_); rintro e w' ⟨rfl, dq, rfl⟩; rw [lay_bw])))
    go_ret
    exact ⟨rfl, lay_ex _ _⟩
end Go.Proofs.YtkhhdpndcidmgaaGreat
