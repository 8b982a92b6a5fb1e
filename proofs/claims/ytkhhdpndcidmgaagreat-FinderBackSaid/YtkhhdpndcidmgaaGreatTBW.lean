/- Contracts and plain laws, several texts in one: Fe2 -/
import Derived.Test.YtkhhdpndcidmgaaGreatProg
import Derived.WalkKit
import Derived.WalkSpells
import Derived.WalkLawsBesides
import Derived.Lib.Hide
import Derived.BigQuiet
import Derived.Test.YtkhhdpndcidmgaaGreatTAE
import Derived.Test.YtkhhdpndcidmgaaGreatTAF
import Derived.Test.YtkhhdpndcidmgaaGreatTAI
import Derived.Test.YtkhhdpndcidmgaaGreatTBV
/- finder: its chain, Parallactic, as a function. -/
namespace Go.Proofs.YtkhhdpndcidmgaaGreat
set_option maxHeartbeats 2000000
set_option maxRecDepth 100000
open Go.RowKit

theorem fc_circle (b : Nat) (lo hi : Int) (w : World) (hc : ChW b w) (hv : validB lo hi = true) :
    Calls Tryz.prog 28 #[.pointer (some ⟨b, 0, none⟩), (.agg #[.int .i64 (lo), .int .i64 (hi)])] w fun e w' => e = .returned (.tuple #[(.agg #[.int .i64 (encL lo hi), .int .i64 (encH lo hi)]), (.agg #[.int .i64 (cosL lo hi), .int .i64 (cosH lo hi)])]) ∧ ∃ d, w' = bw w d := by
  have HS := Lib.hid (fun W => tg_Sin lo hi hv W)
  have HT := Lib.hid (fun W => tg_Cos lo hi hv W)
  unfold cosL cosH
  generalize encL (lo + 5400000) (hi + 5400000) = p at *
  generalize encH (lo + 5400000) (hi + 5400000) = q at *
  generalize encL lo hi = r at *
  generalize encH lo hi = s at *
  have hb := hc.lt
  have h1 := hc.cell
  have h2 := hc.froz
  have h3 : ∀ L, (lay w L).setCell ⟨b, 0, none⟩ (.int .i64 0) = lay w L := fun L => (hc.lay L).set
  have hmx : mx 0 0 = 0 := by decide
  clear hv hc
  refine lay_start ?_
  go_enter Tryz.func28, Tryz.ntmps28
  go_wp2_with (first | (go_at_call 13; refine (HS.out _).mono ?_; rintro e w' ⟨rfl, d, rfl⟩; rw [lay_bw]) | (go_at_call 14; refine (HT.out _).mono ?_; rintro e w' ⟨rfl, d2, rfl⟩; rw [lay_bw]))
  go_region
  go_wp2_with fail
  refine bodyPost_ret (v := .tuple #[(.agg #[.int .i64 (r), .int .i64 (s)]), (.agg #[.int .i64 (p), .int .i64 (q)])]) (by simp [results, Tryz.results28, go_sem]) rfl ⟨rfl, ?_⟩
  rw [bw_drewExt, lay_bw]
  exact lay_ex _ _
theorem fc_do (b : Nat) (g : FuncId) (a0 a1 b0 b1 m0 m1 : Int) (w : World) (hc : ChW b w) (eI : ∀ args w, (callFunc g args).run Tryz.prog w = .ok (.enter g args) w)
    (hg : ∀ W, Calls Tryz.prog g #[(.agg #[.int .i64 (a0), .int .i64 (a1)]), (.agg #[.int .i64 (b0), .int .i64 (b1)])] W fun e w' => e = .returned (.tuple #[(.agg #[.int .i64 (m0), .int .i64 (m1)]), .int .i64 0]) ∧ ∃ d, w' = bw W d) :
    Calls Tryz.prog 29 #[.pointer (some ⟨b, 0, none⟩), .func (.func g) #[] #[], (.agg #[.int .i64 (a0), .int .i64 (a1)]), (.agg #[.int .i64 (b0), .int .i64 (b1)])] w fun e w' => e = .returned (.agg #[.int .i64 (m0), .int .i64 (m1)]) ∧ ∃ d, w' = bw w d := by
  have HG := Lib.hid hg
  have hb := hc.lt
  have h1 := hc.cell
  have h2 := hc.froz
  have h3 : ∀ L, (lay w L).setCell ⟨b, 0, none⟩ (.int .i64 0) = lay w L := fun L => (hc.lay L).set
  clear hg hc
  refine lay_start ?_
  go_enter Tryz.func29, Tryz.ntmps29
  go_wp2_with fail
  refine (HG.out _).mono ?_
  rintro e w' ⟨rfl, d1, rfl⟩
  rw [lay_bw]
  go_wp2_with fail
  exact bodyPost_ret (v := (.agg #[.int .i64 (m0), .int .i64 (m1)])) (by simp [results, Tryz.results29, go_sem]) rfl ⟨rfl, lay_ex _ _⟩
def paY (a0 a1 c0 c1 : Int) : Int × Int := mL (cI a0 a1) (sI c0 c1)
def paX (a0 a1 b0 b1 c0 c1 : Int) : Int × Int := ((mL (sI a0 a1) (cI b0 b1)).1 - (mL (mL (cI a0 a1) (cI c0 c1)) (sI b0 b1)).2, (mL (sI a0 a1) (cI b0 b1)).2 - (mL (mL (cI a0 a1) (cI c0 c1)) (sI b0 b1)).1)
def paF (a0 a1 b0 b1 c0 c1 : Int) : Int × Int := brF (paX a0 a1 b0 b1 c0 c1).1 (paX a0 a1 b0 b1 c0 c1).2 (paY a0 a1 c0 c1).1 (paY a0 a1 c0 c1).2
theorem fn_Parallactic (a0 a1 b0 b1 c0 c1 : Int) (w : World) (h : triB a0 a1 b0 b1 c0 c1 = true) :
    Calls Tryz.prog 7 #[(.agg #[.int .i64 (a0), .int .i64 (a1), .int .i64 (b0), .int .i64 (b1), .int .i64 (c0), .int .i64 (c1)])] w fun e w' => e = .returned (.tuple #[(.agg #[.int .i64 ((paF a0 a1 b0 b1 c0 c1).1), .int .i64 ((paF a0 a1 b0 b1 c0 c1).2)]), .int .i64 0]) ∧ ∃ d, w' = bw w d := by
  have HV := Lib.hid (fun W => cos_Valid a0 a1 b0 b1 c0 c1 W)
  rw [h] at HV
  unfold triB at h
  simp only [Bool.and_eq_true] at h
  have va := lat_valid h.1.1
  have vb := lat_valid h.1.2
  have vc := h.2
  have eM : ∀ args w, (callFunc 11 args).run Tryz.prog w = .ok (.enter 11 args) w := enters_of Tryz.func11 (by kernel_rfl) rfl
  have eS : ∀ args w, (callFunc 30 args).run Tryz.prog w = .ok (.enter 30 args) w := enters_of Tryz.func30 (by kernel_rfl) rfl
  have u1 := sI_un a0 a1
  have u2 := cI_un a0 a1
  have u3 := sI_un b0 b1
  have u4 := cI_un b0 b1
  have u5 := sI_un c0 c1
  have u6 := cI_un c0 c1
  have m1 := u2.mul u5
  have m2 := u1.mul u4
  have m3 := u2.mul u6
  have m4 := m3.mul u3
  have hx : fxB (paX a0 a1 b0 b1 c0 c1).1 (paX a0 a1 b0 b1 c0 c1).2 = true := by
    obtain ⟨h1, h2, h3⟩ := m2
    obtain ⟨h4, h5, h6⟩ := m4
    unfold paX
    rw [fxB_iff]; dsimp only; omega
  have HC1 := Lib.hid (fun b W (hc : ChW b W) => fc_circle b a0 a1 W hc va)
  have HC2 := Lib.hid (fun b W (hc : ChW b W) => fc_circle b b0 b1 W hc vb)
  have HC3 := Lib.hid (fun b W (hc : ChW b W) => fc_circle b c0 c1 W hc vc)
  have HM1 : Hid (∀ b W, ChW b W → Calls _ _ #[_, _, _, _] W fun e w' => e = .returned (.agg #[.int .i64 ((paY a0 a1 c0 c1).1), .int .i64 ((paY a0 a1 c0 c1).2)]) ∧ _) := Lib.hid (fun b W hc => fc_do b 11 (cosL a0 a1) (cosH a0 a1) (encL c0 c1) (encH c0 c1) _ _ W hc eM (fun W' => fx_MulG _ _ _ _ W' u2.fx u5.fx m1.fx))
  have HM2 : Hid (∀ b W, ChW b W → Calls _ _ #[_, _, _, _] W fun e w' => e = .returned (.agg #[.int .i64 ((mL (sI a0 a1) (cI b0 b1)).1), .int .i64 ((mL (sI a0 a1) (cI b0 b1)).2)]) ∧ _) := Lib.hid (fun b W hc => fc_do b 11 (encL a0 a1) (encH a0 a1) (cosL b0 b1) (cosH b0 b1) _ _ W hc eM (fun W' => fx_MulG _ _ _ _ W' u1.fx u4.fx m2.fx))
  have HM3 : Hid (∀ b W, ChW b W → Calls _ _ #[_, _, _, _] W fun e w' => e = .returned (.agg #[.int .i64 ((mL (cI a0 a1) (cI c0 c1)).1), .int .i64 ((mL (cI a0 a1) (cI c0 c1)).2)]) ∧ _) := Lib.hid (fun b W hc => fc_do b 11 (cosL a0 a1) (cosH a0 a1) (cosL c0 c1) (cosH c0 c1) _ _ W hc eM (fun W' => fx_MulG _ _ _ _ W' u2.fx u6.fx m3.fx))
  have HM4 : Hid (∀ b W, ChW b W → Calls _ _ #[_, _, _, _] W fun e w' => e = .returned (.agg #[.int .i64 ((mL (mL (cI a0 a1) (cI c0 c1)) (sI b0 b1)).1), .int .i64 ((mL (mL (cI a0 a1) (cI c0 c1)) (sI b0 b1)).2)]) ∧ _) := Lib.hid (fun b W hc => fc_do b 11 (mL (cI a0 a1) (cI c0 c1)).1 (mL (cI a0 a1) (cI c0 c1)).2 (encL b0 b1) (encH b0 b1) _ _ W hc eM (fun W' => fx_MulG _ _ _ _ W' m3.fx u3.fx m4.fx))
  have HD : Hid (∀ b W, ChW b W → Calls _ _ #[_, _, _, _] W fun e w' => e = .returned (.agg #[.int .i64 ((paX a0 a1 b0 b1 c0 c1).1), .int .i64 ((paX a0 a1 b0 b1 c0 c1).2)]) ∧ _) := Lib.hid (fun b W hc => fc_do b 30 (mL (sI a0 a1) (cI b0 b1)).1 (mL (sI a0 a1) (cI b0 b1)).2 (mL (mL (cI a0 a1) (cI c0 c1)) (sI b0 b1)).1 (mL (mL (cI a0 a1) (cI c0 c1)) (sI b0 b1)).2 _ _ W hc eS (fun W' => fx_SubG _ _ _ _ W' m2.fx m4.fx hx))
  have HB : Hid (∀ W, Calls _ _ #[_, _] W fun e w' => e = .returned (.tuple #[(.agg #[.int .i64 ((paF a0 a1 b0 b1 c0 c1).1), .int .i64 ((paF a0 a1 b0 b1 c0 c1).2)]), .int .i64 0]) ∧ _) := Lib.hid (fun W => ar_BearG (paY a0 a1 c0 c1).1 (paY a0 a1 c0 c1).2 (paX a0 a1 b0 b1 c0 c1).1 (paX a0 a1 b0 b1 c0 c1).2 m1.fx hx W)
  clear hx u1 u2 u3 u4 u5 u6 m1 m2 m3 m4 va vb vc h eM eS
  generalize (paF a0 a1 b0 b1 c0 c1).1 = u at *
  generalize (paF a0 a1 b0 b1 c0 c1).2 = v at *
  generalize (paX a0 a1 b0 b1 c0 c1).1 = x0 at *
  generalize (paX a0 a1 b0 b1 c0 c1).2 = x1 at *
  generalize (paY a0 a1 c0 c1).1 = y0 at *
  generalize (paY a0 a1 c0 c1).2 = y1 at *
  generalize (mL (mL (cI a0 a1) (cI c0 c1)) (sI b0 b1)).1 = g0 at *
  generalize (mL (mL (cI a0 a1) (cI c0 c1)) (sI b0 b1)).2 = g1 at *
  generalize (mL (cI a0 a1) (cI c0 c1)).1 = h0 at *
  generalize (mL (cI a0 a1) (cI c0 c1)).2 = h1 at *
  generalize (mL (sI a0 a1) (cI b0 b1)).1 = z0 at *
  generalize (mL (sI a0 a1) (cI b0 b1)).2 = z1 at *
  generalize encL a0 a1 = p1 at *
  generalize encH a0 a1 = q1 at *
  generalize encL b0 b1 = p2 at *
  generalize encH b0 b1 = q2 at *
  generalize encL c0 c1 = p3 at *
  generalize encH c0 c1 = q3 at *
  generalize cosL a0 a1 = r1 at *
  generalize cosH a0 a1 = t1 at *
  generalize cosL b0 b1 = r2 at *
  generalize cosH b0 b1 = t2 at *
  generalize cosL c0 c1 = r3 at *
  generalize cosH c0 c1 = t3 at *
  refine lay_start ?_
  go_enter Tryz.func7, Tryz.ntmps7
  go_wp2_with (go_at_call 27; refine (HV.out _).mono ?_; rintro e w' ⟨rfl, dV, rfl⟩; rw [lay_bw])
  have hc0 : ChW (posn w [dV.n, 1, 1]) (lay w [.inl (Obj.cells #[.int .i64 0] 72), .inr dV, .inl (Obj.cells #[.int .i64 0, .int .i64 0] 23), .inl (Obj.cells #[.int .i64 a0, .int .i64 a1, .int .i64 b0, .int .i64 b1, .int .i64 c0, .int .i64 c1] 25)]) := chW_new w _ _ _ rfl
  refine (HC1.out _ _ hc0).mono ?_
  rintro e w' ⟨rfl, e1, rfl⟩
  rw [lay_bw]
  have hc1 := hc0.on [.inl (Obj.cells #[.int .i64 r1, .int .i64 t1] 36), .inl (Obj.cells #[.int .i64 p1, .int .i64 q1] 36), .inr e1]
  simp only [List.cons_append, List.nil_append] at hc1
  go_wp2_with fail
  refine (HC2.out _ _ hc1).mono ?_
  rintro e w' ⟨rfl, e2, rfl⟩
  rw [lay_bw]
  have hc2 := hc1.on [.inl (Obj.cells #[.int .i64 r2, .int .i64 t2] 36), .inl (Obj.cells #[.int .i64 p2, .int .i64 q2] 36), .inr e2]
  simp only [List.cons_append, List.nil_append] at hc2
  go_wp2_with fail
  refine (HC3.out _ _ hc2).mono ?_
  rintro e w' ⟨rfl, e3, rfl⟩
  rw [lay_bw]
  have hc3 := hc2.on [.inl (Obj.cells #[.int .i64 r3, .int .i64 t3] 36), .inl (Obj.cells #[.int .i64 p3, .int .i64 q3] 36), .inr e3]
  simp only [List.cons_append, List.nil_append] at hc3
  go_wp2_with fail
  refine (HM1.out _ _ hc3).mono ?_
  rintro e w' ⟨rfl, e4, rfl⟩
  rw [lay_bw]
  go_wp2_with fail
  have HC := Lib.hid (fun e : Ext => hc3.on [.inr e, .inl (Obj.cells #[.int .i64 y0, .int .i64 y1] 36), .inr e4])
  simp only [List.cons_append, List.nil_append] at HC
  clear hc0 hc1 hc2 hc3
  refine region_mixW [0, 0, 0, 0, 0, 0, 0, 0, 0, 0, 0, 0, 0, 1, 1] (by kernel_rfl) (by kernel_rfl) (by kernel_rfl) ?_
  repeat (first | (refine wpM_quiet (fun K hK => ?_); go_simp; first | (refine hK _ ?_; clear hK K) | (apply Exists.intro; refine ⟨fun _ => ?_, hK _ ?_⟩; (first | (go_at_call 29; first | ((with_reducible refine bq (HM2.out _ _ (HC.out _)) ?_); first | exact (fun d => ⟨d, rfl⟩) | exact (fun d => lay_join _ _ _ d)) | ((with_reducible refine bq (HM3.out _ _ (HC.out _)) ?_); first | exact (fun d => ⟨d, rfl⟩) | exact (fun d => lay_join _ _ _ d)) | ((with_reducible refine bq (HM4.out _ _ (HC.out _)) ?_); first | exact (fun d => ⟨d, rfl⟩) | exact (fun d => lay_join _ _ _ d)) | ((with_reducible refine bq (HD.out _ _ (HC.out _)) ?_); first | exact (fun d => ⟨d, rfl⟩) | exact (fun d => lay_join _ _ _ d)))); clear hK K)) | (refine wpM_special (fun K hK d => ?_); go_simp; refine hK _ _ (by first | exact lay_in w [_] _ | exact lay_in w [_, _] _ | exact lay_in w [_, _, _] _ | exact lay_in w [_, _, _, _] _ | exact lay_in w [_, _, _, _, _] _ | exact lay_in w [_, _, _, _, _, _] _) ?_; clear hK K))
  refine wpM_nil ?_
  intro d
  rw [lay_bw]
  go_wp2_with (go_at_call 31; refine (HB.out _).mono ?_; rintro e w' ⟨rfl, d3, rfl⟩; rw [lay_bw])
  exact bodyPost_ret (v := .tuple #[(.agg #[.int .i64 (u), .int .i64 (v)]), .int .i64 0]) (by simp [results, Tryz.results7, go_sem]) rfl ⟨rfl, lay_ex _ _⟩
end Go.Proofs.YtkhhdpndcidmgaaGreat
