/- Contracts and plain laws, several texts in one: Fe2; Fk2; Ne5; Fd2; FeU -/
import Derived.Test.YtkhhdpndcidmgaaGreatProg
import Derived.WalkKit
import Derived.WalkSpells
import Derived.WalkLawsBesides
import Derived.Lib.Hide
import Derived.BigQuiet
import Derived.Test.YtkhhdpndcidmgaaGreatSAC
import Derived.Test.YtkhhdpndcidmgaaGreatSAD
import Derived.Test.YtkhhdpndcidmgaaGreatSAE
import Derived.Test.YtkhhdpndcidmgaaGreatSBL
import Derived.Test.YtkhhdpndcidmgaaGreatSBN
import Derived.Test.YtkhhdpndcidmgaaGreatSBW
/- finder: its chain, Parallactic, as a function. -/
namespace Go.Proofs.YtkhhdpndcidmgaaGreat
set_option maxHeartbeats 2000000
set_option maxRecDepth 100000
open Go.RowKit

theorem fc_circle (b : Nat) (lo hi : Int) (w : World) (hc : ChW b w) (hv : validB lo hi = true) :
    Calls Tryz.prog 28 #[.pointer (some ⟨b, 0, none⟩), (.agg #[.int .i64 (lo), .int .i64 (hi)])] w fun e w' => e = .returned (.tuple #[(.agg #[.int .i64 (encL lo hi), .int .i64 (encH lo hi)]), (.agg #[.int .i64 (cosL lo hi), .int .i64 (cosH lo hi)])]) ∧ ∃ d, w' = bw w d := by
  have HS := Lib.hid (fun W => tg_Sin lo hi hv W)
  have HT := Lib.hid (fun W => tg_Cos lo hi hv W)
  unfold cosL cosH
  generalize encL (lo + 5400000) (hi + 5400000) = p at *
  generalize encH (lo + 5400000) (hi + 5400000) = q at *
  generalize encL lo hi = r at *
  generalize encH lo hi = s at *
  have hb := hc.lt
  have h1 := hc.cell
  have h2 := hc.froz
  have h3 : ∀ L, (lay w L).setCell ⟨b, 0, none⟩ (.int .i64 0) = lay w L := fun L => (hc.lay L).set
  have hmx : mx 0 0 = 0 := by decide
  clear hv hc
  refine lay_start ?_
  go_enter Tryz.func28, Tryz.ntmps28
  go_wp2_with (first | (go_at_call 13; refine (HS.out _).mono ?_; rintro e w' ⟨rfl, d, rfl⟩; rw [lay_bw]) | (go_at_call 14; refine (HT.out _).mono ?_; rintro e w' ⟨rfl, d2, rfl⟩; rw [lay_bw]))
  go_region
  go_wp2_with fail
  refine bodyPost_ret (v := .tuple #[(.agg #[.int .i64 (r), .int .i64 (s)]), (.agg #[.int .i64 (p), .int .i64 (q)])]) (by simp [results, Tryz.results28, go_sem]) rfl ⟨rfl, ?_⟩
  rw [bw_drewExt, lay_bw]
  exact lay_ex _ _
theorem fc_do (b : Nat) (g : FuncId) (a0 a1 b0 b1 m0 m1 : Int) (w : World) (hc : ChW b w) (eI : ∀ args w, (callFunc g args).run Tryz.prog w = .ok (.enter g args) w)
    (hg : ∀ W, Calls Tryz.prog g #[(.agg #[.int .i64 (a0), .int .i64 (a1)]), (.agg #[.int .i64 (b0), .int .i64 (b1)])] W fun e w' => e = .returned (.tuple #[(.agg #[.int .i64 (m0), .int .i64 (m1)]), .int .i64 0]) ∧ ∃ d, w' = bw W d) :
    Calls Tryz.prog 29 #[.pointer (some ⟨b, 0, none⟩), .func (.func g) #[] #[], (.agg #[.int .i64 (a0), .int .i64 (a1)]), (.agg #[.int .i64 (b0), .int .i64 (b1)])] w fun e w' => e = .returned (.agg #[.int .i64 (m0), .int .i64 (m1)]) ∧ ∃ d, w' = bw w d := by
  have HG := Lib.hid hg
  have hb := hc.lt
  have h1 := hc.cell
  have h2 := hc.froz
  have h3 : ∀ L, (lay w L).setCell ⟨b, 0, none⟩ (.int .i64 0) = lay w L := fun L => (hc.lay L).set
  clear hg hc
  refine lay_start ?_
  go_enter Tryz.func29, Tryz.ntmps29
  go_wp2_with fail
  refine (HG.out _).mono ?_
  rintro e w' ⟨rfl, d1, rfl⟩
  rw [lay_bw]
  go_wp2_with fail
  exact bodyPost_ret (v := (.agg #[.int .i64 (m0), .int .i64 (m1)])) (by simp [results, Tryz.results29, go_sem]) rfl ⟨rfl, lay_ex _ _⟩
def paY (a0 a1 c0 c1 : Int) : Int × Int := mL (cI a0 a1) (sI c0 c1)
def paX (a0 a1 b0 b1 c0 c1 : Int) : Int × Int := ((mL (sI a0 a1) (cI b0 b1)).1 - (mL (mL (cI a0 a1) (cI c0 c1)) (sI b0 b1)).2, (mL (sI a0 a1) (cI b0 b1)).2 - (mL (mL (cI a0 a1) (cI c0 c1)) (sI b0 b1)).1)
def paF (a0 a1 b0 b1 c0 c1 : Int) : Int × Int := brF (paX a0 a1 b0 b1 c0 c1).1 (paX a0 a1 b0 b1 c0 c1).2 (paY a0 a1 c0 c1).1 (paY a0 a1 c0 c1).2
theorem fn_Parallactic (a0 a1 b0 b1 c0 c1 : Int) (w : World) (h : triB a0 a1 b0 b1 c0 c1 = true) :
    Calls Tryz.prog 7 #[(.agg #[.int .i64 (a0), .int .i64 (a1), .int .i64 (b0), .int .i64 (b1), .int .i64 (c0), .int .i64 (c1)])] w fun e w' => e = .returned (.tuple #[(.agg #[.int .i64 ((paF a0 a1 b0 b1 c0 c1).1), .int .i64 ((paF a0 a1 b0 b1 c0 c1).2)]), .int .i64 0]) ∧ ∃ d, w' = bw w d := by
  have HV := Lib.hid (fun W => cos_Valid a0 a1 b0 b1 c0 c1 W)
  rw [h] at HV
  unfold triB at h
  simp only [Bool.and_eq_true] at h
  have va := lat_valid h.1.1
  have vb := lat_valid h.1.2
  have vc := h.2
  have eM : ∀ args w, (callFunc 11 args).run Tryz.prog w = .ok (.enter 11 args) w := enters_of Tryz.func11 (by kernel_rfl) rfl
  have eS : ∀ args w, (callFunc 30 args).run Tryz.prog w = .ok (.enter 30 args) w := enters_of Tryz.func30 (by kernel_rfl) rfl
  have u1 := sI_un a0 a1
  have u2 := cI_un a0 a1
  have u3 := sI_un b0 b1
  have u4 := cI_un b0 b1
  have u5 := sI_un c0 c1
  have u6 := cI_un c0 c1
  have m1 := u2.mul u5
  have m2 := u1.mul u4
  have m3 := u2.mul u6
  have m4 := m3.mul u3
  have hx : fxB (paX a0 a1 b0 b1 c0 c1).1 (paX a0 a1 b0 b1 c0 c1).2 = true := by
    obtain ⟨h1, h2, h3⟩ := m2
    obtain ⟨h4, h5, h6⟩ := m4
    unfold paX
    rw [fxB_iff]; dsimp only; omega
  have HC1 := Lib.hid (fun b W (hc : ChW b W) => fc_circle b a0 a1 W hc va)
  have HC2 := Lib.hid (fun b W (hc : ChW b W) => fc_circle b b0 b1 W hc vb)
  have HC3 := Lib.hid (fun b W (hc : ChW b W) => fc_circle b c0 c1 W hc vc)
  have HM1 : Hid (∀ b W, ChW b W → Calls _ _ #[_, _, _, _] W fun e w' => e = .returned (.agg #[.int .i64 ((paY a0 a1 c0 c1).1), .int .i64 ((paY a0 a1 c0 c1).2)]) ∧ _) := Lib.hid (fun b W hc => fc_do b 11 (cosL a0 a1) (cosH a0 a1) (encL c0 c1) (encH c0 c1) _ _ W hc eM (fun W' => fx_MulG _ _ _ _ W' u2.fx u5.fx m1.fx))
  have HM2 : Hid (∀ b W, ChW b W → Calls _ _ #[_, _, _, _] W fun e w' => e = .returned (.agg #[.int .i64 ((mL (sI a0 a1) (cI b0 b1)).1), .int .i64 ((mL (sI a0 a1) (cI b0 b1)).2)]) ∧ _) := Lib.hid (fun b W hc => fc_do b 11 (encL a0 a1) (encH a0 a1) (cosL b0 b1) (cosH b0 b1) _ _ W hc eM (fun W' => fx_MulG _ _ _ _ W' u1.fx u4.fx m2.fx))
  have HM3 : Hid (∀ b W, ChW b W → Calls _ _ #[_, _, _, _] W fun e w' => e = .returned (.agg #[.int .i64 ((mL (cI a0 a1) (cI c0 c1)).1), .int .i64 ((mL (cI a0 a1) (cI c0 c1)).2)]) ∧ _) := Lib.hid (fun b W hc => fc_do b 11 (cosL a0 a1) (cosH a0 a1) (cosL c0 c1) (cosH c0 c1) _ _ W hc eM (fun W' => fx_MulG _ _ _ _ W' u2.fx u6.fx m3.fx))
  have HM4 : Hid (∀ b W, ChW b W → Calls _ _ #[_, _, _, _] W fun e w' => e = .returned (.agg #[.int .i64 ((mL (mL (cI a0 a1) (cI c0 c1)) (sI b0 b1)).1), .int .i64 ((mL (mL (cI a0 a1) (cI c0 c1)) (sI b0 b1)).2)]) ∧ _) := Lib.hid (fun b W hc => fc_do b 11 (mL (cI a0 a1) (cI c0 c1)).1 (mL (cI a0 a1) (cI c0 c1)).2 (encL b0 b1) (encH b0 b1) _ _ W hc eM (fun W' => fx_MulG _ _ _ _ W' m3.fx u3.fx m4.fx))
  have HD : Hid (∀ b W, ChW b W → Calls _ _ #[_, _, _, _] W fun e w' => e = .returned (.agg #[.int .i64 ((paX a0 a1 b0 b1 c0 c1).1), .int .i64 ((paX a0 a1 b0 b1 c0 c1).2)]) ∧ _) := Lib.hid (fun b W hc => fc_do b 30 (mL (sI a0 a1) (cI b0 b1)).1 (mL (sI a0 a1) (cI b0 b1)).2 (mL (mL (cI a0 a1) (cI c0 c1)) (sI b0 b1)).1 (mL (mL (cI a0 a1) (cI c0 c1)) (sI b0 b1)).2 _ _ W hc eS (fun W' => fx_SubG _ _ _ _ W' m2.fx m4.fx hx))
  have HB : Hid (∀ W, Calls _ _ #[_, _] W fun e w' => e = .returned (.tuple #[(.agg #[.int .i64 ((paF a0 a1 b0 b1 c0 c1).1), .int .i64 ((paF a0 a1 b0 b1 c0 c1).2)]), .int .i64 0]) ∧ _) := Lib.hid (fun W => ar_BearG (paY a0 a1 c0 c1).1 (paY a0 a1 c0 c1).2 (paX a0 a1 b0 b1 c0 c1).1 (paX a0 a1 b0 b1 c0 c1).2 m1.fx hx W)
  clear hx u1 u2 u3 u4 u5 u6 m1 m2 m3 m4 va vb vc h eM eS
  generalize (paF a0 a1 b0 b1 c0 c1).1 = u at *
  generalize (paF a0 a1 b0 b1 c0 c1).2 = v at *
  generalize (paX a0 a1 b0 b1 c0 c1).1 = x0 at *
  generalize (paX a0 a1 b0 b1 c0 c1).2 = x1 at *
  generalize (paY a0 a1 c0 c1).1 = y0 at *
  generalize (paY a0 a1 c0 c1).2 = y1 at *
  generalize (mL (mL (cI a0 a1) (cI c0 c1)) (sI b0 b1)).1 = g0 at *
  generalize (mL (mL (cI a0 a1) (cI c0 c1)) (sI b0 b1)).2 = g1 at *
  generalize (mL (cI a0 a1) (cI c0 c1)).1 = h0 at *
  generalize (mL (cI a0 a1) (cI c0 c1)).2 = h1 at *
  generalize (mL (sI a0 a1) (cI b0 b1)).1 = z0 at *
  generalize (mL (sI a0 a1) (cI b0 b1)).2 = z1 at *
  generalize encL a0 a1 = p1 at *
  generalize encH a0 a1 = q1 at *
  generalize encL b0 b1 = p2 at *
  generalize encH b0 b1 = q2 at *
  generalize encL c0 c1 = p3 at *
  generalize encH c0 c1 = q3 at *
  generalize cosL a0 a1 = r1 at *
  generalize cosH a0 a1 = t1 at *
  generalize cosL b0 b1 = r2 at *
  generalize cosH b0 b1 = t2 at *
  generalize cosL c0 c1 = r3 at *
  generalize cosH c0 c1 = t3 at *
  refine lay_start ?_
  go_enter Tryz.func7, Tryz.ntmps7
  go_wp2_with (go_at_call 27; refine (HV.out _).mono ?_; rintro e w' ⟨rfl, dV, rfl⟩; rw [lay_bw])
  have hc0 : ChW (posn w [dV.n, 1, 1]) (lay w [.inl (Obj.cells #[.int .i64 0] 72), .inr dV, .inl (Obj.cells #[.int .i64 0, .int .i64 0] 23), .inl (Obj.cells #[.int .i64 a0, .int .i64 a1, .int .i64 b0, .int .i64 b1, .int .i64 c0, .int .i64 c1] 25)]) := chW_new w _ _ _ rfl
  refine (HC1.out _ _ hc0).mono ?_
  rintro e w' ⟨rfl, e1, rfl⟩
  rw [lay_bw]
  have hc1 := hc0.on [.inl (Obj.cells #[.int .i64 r1, .int .i64 t1] 36), .inl (Obj.cells #[.int .i64 p1, .int .i64 q1] 36), .inr e1]
  simp only [List.cons_append, List.nil_append] at hc1
  go_wp2_with fail
  refine (HC2.out _ _ hc1).mono ?_
  rintro e w' ⟨rfl, e2, rfl⟩
  rw [lay_bw]
  have hc2 := hc1.on [.inl (Obj.cells #[.int .i64 r2, .int .i64 t2] 36), .inl (Obj.cells #[.int .i64 p2, .int .i64 q2] 36), .inr e2]
  simp only [List.cons_append, List.nil_append] at hc2
  go_wp2_with fail
  refine (HC3.out _ _ hc2).mono ?_
  rintro e w' ⟨rfl, e3, rfl⟩
  rw [lay_bw]
  have hc3 := hc2.on [.inl (Obj.cells #[.int .i64 r3, .int .i64 t3] 36), .inl (Obj.cells #[.int .i64 p3, .int .i64 q3] 36), .inr e3]
  simp only [List.cons_append, List.nil_append] at hc3
  go_wp2_with fail
  refine (HM1.out _ _ hc3).mono ?_
  rintro e w' ⟨rfl, e4, rfl⟩
  rw [lay_bw]
  go_wp2_with fail
  have HC := Lib.hid (fun e : Ext => hc3.on [.inr e, .inl (Obj.cells #[.int .i64 y0, .int .i64 y1] 36), .inr e4])
  simp only [List.cons_append, List.nil_append] at HC
  clear hc0 hc1 hc2 hc3
  refine region_mixW [0, 0, 0, 0, 0, 0, 0, 0, 0, 0, 0, 0, 0, 1, 1] (by kernel_rfl) (by kernel_rfl) (by kernel_rfl) ?_
  repeat (first | (refine wpM_quiet (fun K hK => ?_); go_simp; first | (refine hK _ ?_; clear hK K) | (apply Exists.intro; refine ⟨fun _ => ?_, hK _ ?_⟩; (first | (go_at_call 29; first | ((with_reducible refine bq (HM2.out _ _ (HC.out _)) ?_); first | exact (fun d => ⟨d, rfl⟩) | exact (fun d => lay_join _ _ _ d)) | ((with_reducible refine bq (HM3.out _ _ (HC.out _)) ?_); first | exact (fun d => ⟨d, rfl⟩) | exact (fun d => lay_join _ _ _ d)) | ((with_reducible refine bq (HM4.out _ _ (HC.out _)) ?_); first | exact (fun d => ⟨d, rfl⟩) | exact (fun d => lay_join _ _ _ d)) | ((with_reducible refine bq (HD.out _ _ (HC.out _)) ?_); first | exact (fun d => ⟨d, rfl⟩) | exact (fun d => lay_join _ _ _ d)))); clear hK K)) | (refine wpM_special (fun K hK d => ?_); go_simp; refine hK _ _ (by first | exact lay_in w [_] _ | exact lay_in w [_, _] _ | exact lay_in w [_, _, _] _ | exact lay_in w [_, _, _, _] _ | exact lay_in w [_, _, _, _, _] _ | exact lay_in w [_, _, _, _, _, _] _) ?_; clear hK K))
  refine wpM_nil ?_
  intro d
  rw [lay_bw]
  go_wp2_with (go_at_call 31; refine (HB.out _).mono ?_; rintro e w' ⟨rfl, d3, rfl⟩; rw [lay_bw])
  exact bodyPost_ret (v := .tuple #[(.agg #[.int .i64 (u), .int .i64 (v)]), .int .i64 0]) (by simp [results, Tryz.results7, go_sem]) rfl ⟨rfl, lay_ex _ _⟩
end Go.Proofs.YtkhhdpndcidmgaaGreat
/- Bearings of a box within another one agree; azimuths of wider arcs. No function of the program. -/
namespace Go.Proofs.YtkhhdpndcidmgaaGreat
open Go.RowKit

end Go.Proofs.YtkhhdpndcidmgaaGreat
/- The reference's choice of corners, and its arc: the program's. No walk. -/
namespace Go.Proofs.YtkhhdpndcidmgaaGreat
open Go.RowKit

section
variable {x0 x1 y0 y1 α β : Int}
end
theorem quad_ex2 {X Y : Int} (h : ¬ (X = 0 ∧ Y = 0)) : ∃ q u v k, QuadP X Y q u v k ∧ (angF X Y).2 = exF u v k := by
  by_cases c0 : 0 < X ∧ 0 ≤ Y
  · exact ⟨0, X, Y, _, ⟨by decide, by decide, c0.1, c0.2, by simp [qx], by simp [qy], rfl, by unfold angF; rw [if_pos c0]; rfl⟩, by unfold angF; rw [if_pos c0]; rfl⟩
  · by_cases c1 : 0 < Y ∧ X ≤ 0
    · exact ⟨1, Y, -X, _, ⟨by decide, by decide, c1.1, by omega, by simp [qx], by simp [qy], rfl, by unfold angF; rw [if_neg c0, if_pos c1]; rfl⟩, by unfold angF; rw [if_neg c0, if_pos c1]; rfl⟩
    · by_cases c2 : X < 0 ∧ Y ≤ 0
      · exact ⟨2, -X, -Y, _, ⟨by decide, by decide, by omega, by omega, by simp [qx], by simp [qy], rfl, by unfold angF; rw [if_neg c0, if_neg c1, if_pos c2]; rfl⟩, by unfold angF; rw [if_neg c0, if_neg c1, if_pos c2]; rfl⟩
      · exact ⟨3, -Y, X, _, ⟨by decide, by decide, by omega, by omega, by simp [qx], by simp [qy], rfl, by unfold angF; rw [if_neg c0, if_neg c1, if_neg c2]; rfl⟩, by unfold angF; rw [if_neg c0, if_neg c1, if_neg c2]; rfl⟩
theorem ang_same {X Y X' Y' α β : Int} (h1 : 0 < α * X + β * Y) (h2 : 0 < α * X' + β * Y') (c1 : 0 ≤ crs X Y X' Y') (c2 : 0 ≤ crs X' Y' X Y) : angF X Y = angF X' Y' := by
  have c0 : crs X Y X' Y' = 0 := by
    have := crs_anti X Y X' Y'
    omega
  obtain ⟨q, a, b, k, P, e1⟩ := quad_ex2 (X := X) (Y := Y) (by rintro ⟨rfl, rfl⟩; simp at h1)
  obtain ⟨q', c, d, k', P', e2⟩ := quad_ex2 (X := X') (Y := Y') (by rintro ⟨rfl, rfl⟩; simp at h2)
  obtain ⟨r0, r1, r2, r3⟩ := crs_quad P P'
  have a0 := P.u0
  have b0 := P.v0
  have c0' := P'.u0
  have d0 := P'.v0
  have p1 := Int.mul_pos a0 c0'
  have p2 := Int.mul_nonneg b0 d0
  have n1 : (q' - q) % 4 ≠ 3 := fun h => by have := r3 h; omega
  have n2 : (q' - q) % 4 ≠ 1 := fun h => by have := r1 h; omega
  have hq : q = 0 ∨ q = 1 ∨ q = 2 ∨ q = 3 := by have := P.q0; have := P.q3; omega
  have n3 : (q' - q) % 4 ≠ 2 := fun h => by
    have hz : a * d = b * c := by have := r2 h; omega
    have hsum : c * (α * X + β * Y) + a * (α * X' + β * Y') = 0 := by
      have hx := P.x
      have hy := P.y
      have gx := P'.x
      have gy := P'.y
      have gq : q' = 0 ∨ q' = 1 ∨ q' = 2 ∨ q' = 3 := by have := P'.q0; have := P'.q3; omega
      clear P P' e1 e2 r0 r1 r2 r3 c1 c2 c0 n1 n2 h1 h2 p1 p2
      rcases hq with rfl | rfl | rfl | rfl <;> rcases gq with rfl | rfl | rfl | rfl
      all_goals
        first
          | (exfalso; revert h; decide)
          | (simp only [qx, qy, Int.reduceEq, ↓reduceIte] at hx hy gx gy
             subst hx hy gx gy
             grind)
    have u1 := Int.mul_pos c0' h1
    have u2 := Int.mul_pos a0 h2
    omega
  have hD : (q' - q) % 4 = 0 := by omega
  have hqq : q' = q := by have := P.q0; have := P.q3; have := P'.q0; have := P'.q3; omega
  have hz : a * d = b * c := by have := r0 hD; omega
  have k1 := same_quad a0 c0' P.kv P'.kv (by have e1 : d * a = a * d := Int.mul_comm _ _; omega)
  have k2 := same_quad c0' a0 P'.kv P.kv (by have e1 : d * a = a * d := Int.mul_comm _ _; omega)
  have hk : k' = k := by omega
  have hex : exF a b k = exF c d k' := by
    rw [hk]
    unfold exF
    have t1 : b = 0 ↔ d = 0 := by
      constructor
      · rintro rfl
        rw [Int.zero_mul] at hz
        rcases Int.mul_eq_zero.1 hz with h | h
        · omega
        · exact h
      · rintro rfl
        rw [Int.mul_zero] at hz
        rcases Int.mul_eq_zero.1 hz.symm with h | h
        · exact h
        · omega
    have t2 : a = b ↔ c = d := by
      constructor
      · rintro rfl
        exact (Int.eq_of_mul_eq_mul_left (by omega) hz).symm
      · rintro rfl
        exact Int.eq_of_mul_eq_mul_right (by omega) hz
    rw [decide_eq_decide.2 (show (k = 0 ∧ b = 0) ↔ (k = 0 ∧ d = 0) by rw [t1]), decide_eq_decide.2 (show (k = 2700000 ∧ a = b) ↔ (k = 2700000 ∧ c = d) by rw [t2])]
  refine Prod.ext ?_ ?_
  · rw [P.ang, P'.ang, hqq, hk]
  · rw [e1, e2, hex]
theorem ang_next {X Y X' Y' α β : Int} (h1 : 0 < α * X + β * Y) (h2 : 0 < α * X' + β * Y') (c1 : 0 ≤ crs X Y X' Y') : (angF X' Y').1 + 1 ≠ (angF X Y).1 := by
  obtain ⟨q, a, b, k, P⟩ := quad_ex (X := X) (Y := Y) (by rintro ⟨rfl, rfl⟩; simp at h1)
  obtain ⟨q', c, d, k', P'⟩ := quad_ex (X := X') (Y := Y') (by rintro ⟨rfl, rfl⟩; simp at h2)
  obtain ⟨r0, r1, r2, r3⟩ := crs_quad P P'
  have a0 := P.u0
  have b0 := P.v0
  have c0' := P'.u0
  have d0 := P'.v0
  have p1 := Int.mul_pos a0 c0'
  have p2 := Int.mul_nonneg b0 d0
  have l1 := P.lt
  have l2 := P'.lt
  have n1 : (q' - q) % 4 ≠ 3 := fun h => by have := r3 h; omega
  have k1 : (q' - q) % 4 = 0 → k ≤ k' := fun h => same_quad a0 c0' P.kv P'.kv (by have := r0 h; have e1 : d * a = a * d := Int.mul_comm _ _; omega)
  rw [P.ang, P'.ang]
  have := P.q0
  have := P.q3
  have := P'.q0
  have := P'.q3
  clear r0 r1 r2 r3 p1 p2 P P'
  omega
end Go.Proofs.YtkhhdpndcidmgaaGreat
/- finder: given, latitude. -/
namespace Go.Proofs.YtkhhdpndcidmgaaGreat
open Go.RowKit Go.Shelf

set_option maxRecDepth 100000 in
theorem fn_given (bk : Nat) (a b u v x y : Int) (w : World) (ht : timB a b = true) (hp : plcW u v x y = true) :
    Calls Tryz.prog 68 #[.pointer (some ⟨bk, 0, none⟩), (.agg #[.int .i64 (a), .int .i64 (b)]), (.agg #[.int .i64 (u), .int .i64 (v), .int .i64 (x), .int .i64 (y)])] w fun e w' => e = .returned (.int .i64 0) ∧ ∃ d, w' = bw w d := by
  have HC := Lib.hid (fun W => clock_Valid a b W)
  have HP := Lib.hid (fun W => plc_Valid u v x y W)
  rw [ht] at HC
  rw [hp] at HP
  clear ht hp
  refine lay_start ?_
  go_enter Tryz.func68, Tryz.ntmps68
  go_wp2_with (first | (go_at_call 59; refine (HC.out _).mono ?_; rintro e w' ⟨rfl, d1, rfl⟩; rw [lay_bw]) | (go_at_call 106; refine (HP.out _).mono ?_; rintro e w' ⟨rfl, d2, rfl⟩; rw [lay_bw]))
  go_ret
  exact ⟨rfl, lay_ex _ _⟩
theorem fn_latitude (x0 y0 : Int) (w : World) :
    Calls Tryz.prog 66 #[(.agg #[.int .i64 (x0), .int .i64 (y0)])] w fun e w' => e = .returned (.bool (latB x0 y0)) ∧ ∃ d, w' = bw w d := by
  refine lay_start ?_
  go_enter Tryz.func66, Tryz.ntmps66
  go_wp2_with (go_at_call 32; refine (angle_Valid _ _ _).mono ?_; rintro e w' ⟨rfl, d, rfl⟩)
  all_goals go_ret
  all_goals exact ⟨ret_bool (by first | exact lat_w1 ‹_› ‹_› | exact lat_w2 ‹_› | exact lat_w3 ‹_›), lay_ex _ _⟩
end Go.Proofs.YtkhhdpndcidmgaaGreat
/- finder: Unknown, as a function. -/
namespace Go.Proofs.YtkhhdpndcidmgaaGreat
open Go.RowKit Go.Shelf

set_option maxHeartbeats 4000000 in
set_option maxRecDepth 100000 in
theorem fn_Unknown (a0 a1 b0 b1 c0 c1 g0 g1 l0 l1 z0 z1 p0 p1 q0 q1 : Int) (w : World) (h : triB a0 a1 b0 b1 c0 c1 = true) (hg : validB g0 g1 = true) (hl : validB l0 l1 = true) (hz : azF a0 a1 b0 b1 c0 c1 = (z0, z1))
    (hp : p0 = z0 + -(turnHi l0 l1) ∧ p1 = z1 + -(turnLo l0 l1)) (hq : q0 = p0 + -(turnHi g0 g1) ∧ q1 = p1 + -(turnLo g0 g1)) :
    Calls Tryz.prog 21 #[(.agg #[.int .i64 (a0), .int .i64 (a1)]), (.agg #[.int .i64 (b0), .int .i64 (b1)]), (.agg #[.int .i64 (c0), .int .i64 (c1)]), (.agg #[.int .i64 (g0), .int .i64 (g1)]), (.agg #[.int .i64 (l0), .int .i64 (l1)])] w fun e w' => e = .returned (.tuple #[(.agg #[.int .i64 (turnLo q0 q1), .int .i64 (turnHi q0 q1)]), (.agg #[.int .i64 (alL a0 a1 b0 b1 c0 c1), .int .i64 (alH a0 a1 b0 b1 c0 c1)]), .int .i64 0]) ∧ ∃ d, w' = bw w d := by
  have HS := Lib.hid (fun W => cos_Solve a0 a1 b0 b1 c0 c1 W h)
  have hb := brF_bd (azX a0 a1 b0 b1 c0 c1).1 (azX a0 a1 b0 b1 c0 c1).2 (azY b0 b1 c0 c1).1 (azY b0 b1 c0 c1).2
  change 0 ≤ (azF a0 a1 b0 b1 c0 c1).1 ∧ (azF a0 a1 b0 b1 c0 c1).1 ≤ (azF a0 a1 b0 b1 c0 c1).2 ∧ (azF a0 a1 b0 b1 c0 c1).2 ≤ 43200000 at hb
  rw [hz] at HS hb
  dsimp only at HS hb
  unfold triB at h
  simp only [Bool.and_eq_true] at h
  have HL1 := Lib.hid (fun W => fn_latitude a0 a1 W)
  have HL2 := Lib.hid (fun W => fn_latitude b0 b1 W)
  have HV1 := Lib.hid (fun W => angle_Valid c0 c1 W)
  have HV2 := Lib.hid (fun W => angle_Valid g0 g1 W)
  have HV3 := Lib.hid (fun W => angle_Valid l0 l1 W)
  rw [h.1.1] at HL1
  rw [h.1.2] at HL2
  rw [h.2] at HV1
  rw [hg] at HV2
  rw [hl] at HV3
  have tl := turn_bd (validB_iff.1 hl).1
  have tg := turn_bd (validB_iff.1 hg).1
  have vp : validB p0 p1 = true := validB_iff.2 (by omega)
  have vq : validB q0 q1 = true := validB_iff.2 (by omega)
  have vz : validB z0 z1 = true := validB_iff.2 (by omega)
  have HT1 := Lib.hid (fun W => angle_Turn l0 l1 W hl)
  have HT2 := Lib.hid (fun W => angle_Turn g0 g1 W hg)
  have HT3 := Lib.hid (fun W => angle_Turn q0 q1 W vq)
  have HS1 : Hid (∀ W, Calls _ _ #[_, _] W fun e w' => e = .returned (.tuple #[(.agg #[.int .i64 (p0), .int .i64 (p1)]), .int .i64 0]) ∧ _) := Lib.hid (fun W => by
    have := angle_Sub z0 z1 (turnLo l0 l1) (turnHi l0 l1) W vz (turn_valid (validB_iff.1 hl).1) (by rw [← hp.1, ← hp.2]; exact vp)
    rw [← hp.1, ← hp.2] at this
    exact this)
  have HS2 : Hid (∀ W, Calls _ _ #[_, _] W fun e w' => e = .returned (.tuple #[(.agg #[.int .i64 (q0), .int .i64 (q1)]), .int .i64 0]) ∧ _) := Lib.hid (fun W => by
    have := angle_Sub p0 p1 (turnLo g0 g1) (turnHi g0 g1) W vp (turn_valid (validB_iff.1 hg).1) (by rw [← hq.1, ← hq.2]; exact vq)
    rw [← hq.1, ← hq.2] at this
    exact this)
  clear h hg hl hz hp hq hb tl tg vp vq vz
  generalize alL a0 a1 b0 b1 c0 c1 = x0 at *
  generalize alH a0 a1 b0 b1 c0 c1 = x1 at *
  generalize turnLo q0 q1 = r0 at *
  generalize turnHi q0 q1 = r1 at *
  generalize turnLo l0 l1 = s0 at *
  generalize turnHi l0 l1 = s1 at *
  generalize turnLo g0 g1 = t0 at *
  generalize turnHi g0 g1 = t1 at *
  refine lay_start ?_
  go_enter Tryz.func21, Tryz.ntmps21
  go_wp2_with (first | (go_at_call 66; first | ((with_reducible refine (HL1.out _).mono ?_); rintro e w' ⟨rfl, dq, rfl⟩; rw [lay_bw]) | ((with_reducible refine (HL2.out _).mono ?_); rintro e w' ⟨rfl, dq, rfl⟩; rw [lay_bw])) | (go_at_call 32; first | ((with_reducible refine (HV1.out _).mono ?_); rintro e w' ⟨rfl, dq, rfl⟩; rw [lay_bw]) | ((with_reducible refine (HV2.out _).mono ?_); rintro e w' ⟨rfl, dq, rfl⟩; rw [lay_bw]) | ((with_reducible refine (HV3.out _).mono ?_); rintro e w' ⟨rfl, dq, rfl⟩; rw [lay_bw])) | (go_at_call 9; refine (HS.out _).mono ?_; rintro e w' ⟨rfl, dq, rfl⟩; rw [lay_bw]))
  refine wp_loop_rounds 3 ?_
  rw [rounds_succ]
  go_wp2_with (first | (go_at_call 8; refine (HT1.out _).mono ?_; rintro e w' ⟨rfl, dq, rfl⟩; rw [lay_bw]) | (go_at_call 67; refine (HS1.out _).mono ?_; rintro e w' ⟨rfl, dq, rfl⟩; rw [lay_bw]))
  rw [rounds_succ]
  go_wp2_with (first | (go_at_call 8; refine (HT2.out _).mono ?_; rintro e w' ⟨rfl, dq, rfl⟩; rw [lay_bw]) | (go_at_call 67; refine (HS2.out _).mono ?_; rintro e w' ⟨rfl, dq, rfl⟩; rw [lay_bw]))
  rw [rounds_succ]
  go_wp2_with (first | (go_at_call 8; refine (HT3.out _).mono ?_; rintro e w' ⟨rfl, dq, rfl⟩; rw [lay_bw]))
  go_region
  go_wp2_with fail
  refine bodyPost_ret (v := .tuple #[(.agg #[.int .i64 (r0), .int .i64 (r1)]), (.agg #[.int .i64 (x0), .int .i64 (x1)]), .int .i64 0]) (by simp [results, Tryz.results21, go_sem]) rfl ⟨rfl, ?_⟩
  rw [bw_drewExt, lay_bw]
  exact lay_ex _ _
end Go.Proofs.YtkhhdpndcidmgaaGreat
