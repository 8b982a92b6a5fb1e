/- Contracts and plain laws, several texts in one: Fe2; Fd2; FeU; FeP; FgS; FgA -/
import Derived.Test.YtnnmfdeeicpdlaaGreatProg
import Derived.WalkKit
import Derived.WalkSpells
import Derived.WalkLawsBesides
import Derived.Lib.Hide
import Derived.BigQuiet
import Derived.Test.YtnnmfdeeicpdlaaGreatHAC
import Derived.Test.YtnnmfdeeicpdlaaGreatHAD
import Derived.Test.YtnnmfdeeicpdlaaGreatHAE
import Derived.Test.YtnnmfdeeicpdlaaGreatHBK
import Derived.Test.YtnnmfdeeicpdlaaGreatHBV
import Derived.Test.YtnnmfdeeicpdlaaGreatHBX
/- finder: its chain, Parallactic, as a function. -/
namespace Go.Proofs.YtnnmfdeeicpdlaaGreat
set_option maxHeartbeats 2000000
set_option maxRecDepth 100000
open Go.RowKit

theorem fc_circle (b : Nat) (lo hi : Int) (w : World) (hc : ChW b w) (hv : validB lo hi = true) :
    Calls Tryz.prog 83 #[.pointer (some ⟨b, 0, none⟩), (.agg #[.int .i64 (lo), .int .i64 (hi)])] w fun e w' => e = .returned (.tuple #[(.agg #[.int .i64 (encL lo hi), .int .i64 (encH lo hi)]), (.agg #[.int .i64 (cosL lo hi), .int .i64 (cosH lo hi)])]) ∧ ∃ d, w' = bw w d := by
  have HS := Lib.hid (fun W => tg_Sin lo hi hv W)
  have HT := Lib.hid (fun W => tg_Cos lo hi hv W)
  unfold cosL cosH
  generalize encL (lo + 5400000) (hi + 5400000) = p at *
  generalize encH (lo + 5400000) (hi + 5400000) = q at *
  generalize encL lo hi = r at *
  generalize encH lo hi = s at *
  have hb := hc.lt
  have h1 := hc.cell
  have h2 := hc.froz
  have h3 : ∀ L, (lay w L).setCell ⟨b, 0, none⟩ (.int .i64 0) = lay w L := fun L => (hc.lay L).set
  have hmx : mx 0 0 = 0 := by decide
  clear hv hc
  refine lay_start ?_
  go_enter Tryz.func83, Tryz.ntmps83
  go_wp2_with (first | (go_at_call 26; refine (HS.out _).mono ?_; rintro e w' ⟨rfl, d, rfl⟩; rw [lay_bw]) | (go_at_call 27; refine (HT.out _).mono ?_; rintro e w' ⟨rfl, d2, rfl⟩; rw [lay_bw]))
  go_region
  go_wp2_with fail
  refine bodyPost_ret (v := .tuple #[(.agg #[.int .i64 (r), .int .i64 (s)]), (.agg #[.int .i64 (p), .int .i64 (q)])]) (by simp [results, Tryz.results83, go_sem]) rfl ⟨rfl, ?_⟩
  rw [bw_drewExt, lay_bw]
  exact lay_ex _ _
theorem fc_do (b : Nat) (g : FuncId) (a0 a1 b0 b1 m0 m1 : Int) (w : World) (hc : ChW b w) (eI : ∀ args w, (callFunc g args).run Tryz.prog w = .ok (.enter g args) w)
    (hg : ∀ W, Calls Tryz.prog g #[(.agg #[.int .i64 (a0), .int .i64 (a1)]), (.agg #[.int .i64 (b0), .int .i64 (b1)])] W fun e w' => e = .returned (.tuple #[(.agg #[.int .i64 (m0), .int .i64 (m1)]), .int .i64 0]) ∧ ∃ d, w' = bw W d) :
    Calls Tryz.prog 84 #[.pointer (some ⟨b, 0, none⟩), .func (.func g) #[] #[], (.agg #[.int .i64 (a0), .int .i64 (a1)]), (.agg #[.int .i64 (b0), .int .i64 (b1)])] w fun e w' => e = .returned (.agg #[.int .i64 (m0), .int .i64 (m1)]) ∧ ∃ d, w' = bw w d := by
  have HG := Lib.hid hg
  have hb := hc.lt
  have h1 := hc.cell
  have h2 := hc.froz
  have h3 : ∀ L, (lay w L).setCell ⟨b, 0, none⟩ (.int .i64 0) = lay w L := fun L => (hc.lay L).set
  clear hg hc
  refine lay_start ?_
  go_enter Tryz.func84, Tryz.ntmps84
  go_wp2_with fail
  refine (HG.out _).mono ?_
  rintro e w' ⟨rfl, d1, rfl⟩
  rw [lay_bw]
  go_wp2_with fail
  exact bodyPost_ret (v := (.agg #[.int .i64 (m0), .int .i64 (m1)])) (by simp [results, Tryz.results84, go_sem]) rfl ⟨rfl, lay_ex _ _⟩
def paY (a0 a1 c0 c1 : Int) : Int × Int := mL (cI a0 a1) (sI c0 c1)
def paX (a0 a1 b0 b1 c0 c1 : Int) : Int × Int := ((mL (sI a0 a1) (cI b0 b1)).1 - (mL (mL (cI a0 a1) (cI c0 c1)) (sI b0 b1)).2, (mL (sI a0 a1) (cI b0 b1)).2 - (mL (mL (cI a0 a1) (cI c0 c1)) (sI b0 b1)).1)
def paF (a0 a1 b0 b1 c0 c1 : Int) : Int × Int := brF (paX a0 a1 b0 b1 c0 c1).1 (paX a0 a1 b0 b1 c0 c1).2 (paY a0 a1 c0 c1).1 (paY a0 a1 c0 c1).2
theorem fn_Parallactic (a0 a1 b0 b1 c0 c1 : Int) (w : World) (h : triB a0 a1 b0 b1 c0 c1 = true) :
    Calls Tryz.prog 16 #[(.agg #[.int .i64 (a0), .int .i64 (a1), .int .i64 (b0), .int .i64 (b1), .int .i64 (c0), .int .i64 (c1)])] w fun e w' => e = .returned (.tuple #[(.agg #[.int .i64 ((paF a0 a1 b0 b1 c0 c1).1), .int .i64 ((paF a0 a1 b0 b1 c0 c1).2)]), .int .i64 0]) ∧ ∃ d, w' = bw w d := by
  have HV := Lib.hid (fun W => cos_Valid a0 a1 b0 b1 c0 c1 W)
  rw [h] at HV
  unfold triB at h
  simp only [Bool.and_eq_true] at h
  have va := lat_valid h.1.1
  have vb := lat_valid h.1.2
  have vc := h.2
  have eM : ∀ args w, (callFunc 24 args).run Tryz.prog w = .ok (.enter 24 args) w := enters_of Tryz.func24 (by kernel_rfl) rfl
  have eS : ∀ args w, (callFunc 85 args).run Tryz.prog w = .ok (.enter 85 args) w := enters_of Tryz.func85 (by kernel_rfl) rfl
  have u1 := sI_un a0 a1
  have u2 := cI_un a0 a1
  have u3 := sI_un b0 b1
  have u4 := cI_un b0 b1
  have u5 := sI_un c0 c1
  have u6 := cI_un c0 c1
  have m1 := u2.mul u5
  have m2 := u1.mul u4
  have m3 := u2.mul u6
  have m4 := m3.mul u3
  have hx : fxB (paX a0 a1 b0 b1 c0 c1).1 (paX a0 a1 b0 b1 c0 c1).2 = true := by
    obtain ⟨h1, h2, h3⟩ := m2
    obtain ⟨h4, h5, h6⟩ := m4
    unfold paX
    rw [fxB_iff]; dsimp only; omega
  have HC1 := Lib.hid (fun b W (hc : ChW b W) => fc_circle b a0 a1 W hc va)
  have HC2 := Lib.hid (fun b W (hc : ChW b W) => fc_circle b b0 b1 W hc vb)
  have HC3 := Lib.hid (fun b W (hc : ChW b W) => fc_circle b c0 c1 W hc vc)
  have HM1 : Hid (∀ b W, ChW b W → Calls _ _ #[_, _, _, _] W fun e w' => e = .returned (.agg #[.int .i64 ((paY a0 a1 c0 c1).1), .int .i64 ((paY a0 a1 c0 c1).2)]) ∧ _) := Lib.hid (fun b W hc => fc_do b 24 (cosL a0 a1) (cosH a0 a1) (encL c0 c1) (encH c0 c1) _ _ W hc eM (fun W' => fx_MulG _ _ _ _ W' u2.fx u5.fx m1.fx))
  have HM2 : Hid (∀ b W, ChW b W → Calls _ _ #[_, _, _, _] W fun e w' => e = .returned (.agg #[.int .i64 ((mL (sI a0 a1) (cI b0 b1)).1), .int .i64 ((mL (sI a0 a1) (cI b0 b1)).2)]) ∧ _) := Lib.hid (fun b W hc => fc_do b 24 (encL a0 a1) (encH a0 a1) (cosL b0 b1) (cosH b0 b1) _ _ W hc eM (fun W' => fx_MulG _ _ _ _ W' u1.fx u4.fx m2.fx))
  have HM3 : Hid (∀ b W, ChW b W → Calls _ _ #[_, _, _, _] W fun e w' => e = .returned (.agg #[.int .i64 ((mL (cI a0 a1) (cI c0 c1)).1), .int .i64 ((mL (cI a0 a1) (cI c0 c1)).2)]) ∧ _) := Lib.hid (fun b W hc => fc_do b 24 (cosL a0 a1) (cosH a0 a1) (cosL c0 c1) (cosH c0 c1) _ _ W hc eM (fun W' => fx_MulG _ _ _ _ W' u2.fx u6.fx m3.fx))
  have HM4 : Hid (∀ b W, ChW b W → Calls _ _ #[_, _, _, _] W fun e w' => e = .returned (.agg #[.int .i64 ((mL (mL (cI a0 a1) (cI c0 c1)) (sI b0 b1)).1), .int .i64 ((mL (mL (cI a0 a1) (cI c0 c1)) (sI b0 b1)).2)]) ∧ _) := Lib.hid (fun b W hc => fc_do b 24 (mL (cI a0 a1) (cI c0 c1)).1 (mL (cI a0 a1) (cI c0 c1)).2 (encL b0 b1) (encH b0 b1) _ _ W hc eM (fun W' => fx_MulG _ _ _ _ W' m3.fx u3.fx m4.fx))
  have HD : Hid (∀ b W, ChW b W → Calls _ _ #[_, _, _, _] W fun e w' => e = .returned (.agg #[.int .i64 ((paX a0 a1 b0 b1 c0 c1).1), .int .i64 ((paX a0 a1 b0 b1 c0 c1).2)]) ∧ _) := Lib.hid (fun b W hc => fc_do b 85 (mL (sI a0 a1) (cI b0 b1)).1 (mL (sI a0 a1) (cI b0 b1)).2 (mL (mL (cI a0 a1) (cI c0 c1)) (sI b0 b1)).1 (mL (mL (cI a0 a1) (cI c0 c1)) (sI b0 b1)).2 _ _ W hc eS (fun W' => fx_SubG _ _ _ _ W' m2.fx m4.fx hx))
  have HB : Hid (∀ W, Calls _ _ #[_, _] W fun e w' => e = .returned (.tuple #[(.agg #[.int .i64 ((paF a0 a1 b0 b1 c0 c1).1), .int .i64 ((paF a0 a1 b0 b1 c0 c1).2)]), .int .i64 0]) ∧ _) := Lib.hid (fun W => ar_BearG (paY a0 a1 c0 c1).1 (paY a0 a1 c0 c1).2 (paX a0 a1 b0 b1 c0 c1).1 (paX a0 a1 b0 b1 c0 c1).2 m1.fx hx W)
  clear hx u1 u2 u3 u4 u5 u6 m1 m2 m3 m4 va vb vc h eM eS
  generalize (paF a0 a1 b0 b1 c0 c1).1 = u at *
  generalize (paF a0 a1 b0 b1 c0 c1).2 = v at *
  generalize (paX a0 a1 b0 b1 c0 c1).1 = x0 at *
  generalize (paX a0 a1 b0 b1 c0 c1).2 = x1 at *
  generalize (paY a0 a1 c0 c1).1 = y0 at *
  generalize (paY a0 a1 c0 c1).2 = y1 at *
  generalize (mL (mL (cI a0 a1) (cI c0 c1)) (sI b0 b1)).1 = g0 at *
  generalize (mL (mL (cI a0 a1) (cI c0 c1)) (sI b0 b1)).2 = g1 at *
  generalize (mL (cI a0 a1) (cI c0 c1)).1 = h0 at *
  generalize (mL (cI a0 a1) (cI c0 c1)).2 = h1 at *
  generalize (mL (sI a0 a1) (cI b0 b1)).1 = z0 at *
  generalize (mL (sI a0 a1) (cI b0 b1)).2 = z1 at *
  generalize encL a0 a1 = p1 at *
  generalize encH a0 a1 = q1 at *
  generalize encL b0 b1 = p2 at *
  generalize encH b0 b1 = q2 at *
  generalize encL c0 c1 = p3 at *
  generalize encH c0 c1 = q3 at *
  generalize cosL a0 a1 = r1 at *
  generalize cosH a0 a1 = t1 at *
  generalize cosL b0 b1 = r2 at *
  generalize cosH b0 b1 = t2 at *
  generalize cosL c0 c1 = r3 at *
  generalize cosH c0 c1 = t3 at *
  refine lay_start ?_
  go_enter Tryz.func16, Tryz.ntmps16
  go_wp2_with (go_at_call 82; refine (HV.out _).mono ?_; rintro e w' ⟨rfl, dV, rfl⟩; rw [lay_bw])
  have hc0 : ChW (posn w [dV.n, 1, 1]) (lay w [.inl (Obj.cells #[.int .i64 0] 143), .inr dV, .inl (Obj.cells #[.int .i64 0, .int .i64 0] 23), .inl (Obj.cells #[.int .i64 a0, .int .i64 a1, .int .i64 b0, .int .i64 b1, .int .i64 c0, .int .i64 c1] 45)]) := chW_new w _ _ _ rfl
  refine (HC1.out _ _ hc0).mono ?_
  rintro e w' ⟨rfl, e1, rfl⟩
  rw [lay_bw]
  have hc1 := hc0.on [.inl (Obj.cells #[.int .i64 r1, .int .i64 t1] 59), .inl (Obj.cells #[.int .i64 p1, .int .i64 q1] 59), .inr e1]
  simp only [List.cons_append, List.nil_append] at hc1
  go_wp2_with fail
  refine (HC2.out _ _ hc1).mono ?_
  rintro e w' ⟨rfl, e2, rfl⟩
  rw [lay_bw]
  have hc2 := hc1.on [.inl (Obj.cells #[.int .i64 r2, .int .i64 t2] 59), .inl (Obj.cells #[.int .i64 p2, .int .i64 q2] 59), .inr e2]
  simp only [List.cons_append, List.nil_append] at hc2
  go_wp2_with fail
  refine (HC3.out _ _ hc2).mono ?_
  rintro e w' ⟨rfl, e3, rfl⟩
  rw [lay_bw]
  have hc3 := hc2.on [.inl (Obj.cells #[.int .i64 r3, .int .i64 t3] 59), .inl (Obj.cells #[.int .i64 p3, .int .i64 q3] 59), .inr e3]
  simp only [List.cons_append, List.nil_append] at hc3
  go_wp2_with fail
  refine (HM1.out _ _ hc3).mono ?_
  rintro e w' ⟨rfl, e4, rfl⟩
  rw [lay_bw]
  go_wp2_with fail
  have HC := Lib.hid (fun e : Ext => hc3.on [.inr e, .inl (Obj.cells #[.int .i64 y0, .int .i64 y1] 59), .inr e4])
  simp only [List.cons_append, List.nil_append] at HC
  clear hc0 hc1 hc2 hc3
  refine region_mixW [0, 0, 0, 0, 0, 0, 0, 0, 0, 0, 0, 0, 0, 1, 1] (by kernel_rfl) (by kernel_rfl) (by kernel_rfl) ?_
  repeat (first | (refine wpM_quiet (fun K hK => ?_); go_simp; first | (refine hK _ ?_; clear hK K) | (apply Exists.intro; refine ⟨fun _ => ?_, hK _ ?_⟩; (first | (go_at_call 84; first | ((with_reducible refine bq (HM2.out _ _ (HC.out _)) ?_); first | exact (fun d => ⟨d, rfl⟩) | exact (fun d => lay_join _ _ _ d)) | ((with_reducible refine bq (HM3.out _ _ (HC.out _)) ?_); first | exact (fun d => ⟨d, rfl⟩) | exact (fun d => lay_join _ _ _ d)) | ((with_reducible refine bq (HM4.out _ _ (HC.out _)) ?_); first | exact (fun d => ⟨d, rfl⟩) | exact (fun d => lay_join _ _ _ d)) | ((with_reducible refine bq (HD.out _ _ (HC.out _)) ?_); first | exact (fun d => ⟨d, rfl⟩) | exact (fun d => lay_join _ _ _ d)))); clear hK K)) | (refine wpM_special (fun K hK d => ?_); go_simp; refine hK _ _ (by first | exact lay_in w [_] _ | exact lay_in w [_, _] _ | exact lay_in w [_, _, _] _ | exact lay_in w [_, _, _, _] _ | exact lay_in w [_, _, _, _, _] _ | exact lay_in w [_, _, _, _, _, _] _) ?_; clear hK K))
  refine wpM_nil ?_
  intro d
  rw [lay_bw]
  go_wp2_with (go_at_call 43; refine (HB.out _).mono ?_; rintro e w' ⟨rfl, d3, rfl⟩; rw [lay_bw])
  exact bodyPost_ret (v := .tuple #[(.agg #[.int .i64 (u), .int .i64 (v)]), .int .i64 0]) (by simp [results, Tryz.results16, go_sem]) rfl ⟨rfl, lay_ex _ _⟩
end Go.Proofs.YtnnmfdeeicpdlaaGreat
/- finder: given, latitude. -/
namespace Go.Proofs.YtnnmfdeeicpdlaaGreat
open Go.RowKit Go.Shelf

set_option maxRecDepth 100000 in
theorem fn_given (bk : Nat) (a b u v x y : Int) (w : World) (ht : timB a b = true) (hp : plcW u v x y = true) :
    Calls Tryz.prog 170 #[.pointer (some ⟨bk, 0, none⟩), (.agg #[.int .i64 (a), .int .i64 (b)]), (.agg #[.int .i64 (u), .int .i64 (v), .int .i64 (x), .int .i64 (y)])] w fun e w' => e = .returned (.int .i64 0) ∧ ∃ d, w' = bw w d := by
  have HC := Lib.hid (fun W => clock_Valid a b W)
  have HP := Lib.hid (fun W => plc_Valid u v x y W)
  rw [ht] at HC
  rw [hp] at HP
  clear ht hp
  refine lay_start ?_
  go_enter Tryz.func170, Tryz.ntmps170
  go_wp2_with (first | (go_at_call 106; refine (HC.out _).mono ?_; rintro e w' ⟨rfl, d1, rfl⟩; rw [lay_bw]) | (go_at_call 150; refine (HP.out _).mono ?_; rintro e w' ⟨rfl, d2, rfl⟩; rw [lay_bw]))
  go_ret
  exact ⟨rfl, lay_ex _ _⟩
theorem fn_latitude (x0 y0 : Int) (w : World) :
    Calls Tryz.prog 87 #[(.agg #[.int .i64 (x0), .int .i64 (y0)])] w fun e w' => e = .returned (.bool (latB x0 y0)) ∧ ∃ d, w' = bw w d := by
  refine lay_start ?_
  go_enter Tryz.func87, Tryz.ntmps87
  go_wp2_with (go_at_call 39; refine (angle_Valid _ _ _).mono ?_; rintro e w' ⟨rfl, d, rfl⟩)
  all_goals go_ret
  all_goals exact ⟨ret_bool (by first | exact lat_w1 ‹_› ‹_› | exact lat_w2 ‹_› | exact lat_w3 ‹_›), lay_ex _ _⟩
end Go.Proofs.YtnnmfdeeicpdlaaGreat
/- finder: Unknown, as a function. -/
namespace Go.Proofs.YtnnmfdeeicpdlaaGreat
open Go.RowKit Go.Shelf

set_option maxHeartbeats 4000000 in
set_option maxRecDepth 100000 in
theorem fn_Unknown (a0 a1 b0 b1 c0 c1 g0 g1 l0 l1 z0 z1 p0 p1 q0 q1 : Int) (w : World) (h : triB a0 a1 b0 b1 c0 c1 = true) (hg : validB g0 g1 = true) (hl : validB l0 l1 = true) (hz : azF a0 a1 b0 b1 c0 c1 = (z0, z1))
    (hp : p0 = z0 + -(turnHi l0 l1) ∧ p1 = z1 + -(turnLo l0 l1)) (hq : q0 = p0 + -(turnHi g0 g1) ∧ q1 = p1 + -(turnLo g0 g1)) :
    Calls Tryz.prog 19 #[(.agg #[.int .i64 (a0), .int .i64 (a1)]), (.agg #[.int .i64 (b0), .int .i64 (b1)]), (.agg #[.int .i64 (c0), .int .i64 (c1)]), (.agg #[.int .i64 (g0), .int .i64 (g1)]), (.agg #[.int .i64 (l0), .int .i64 (l1)])] w fun e w' => e = .returned (.tuple #[(.agg #[.int .i64 (turnLo q0 q1), .int .i64 (turnHi q0 q1)]), (.agg #[.int .i64 (alL a0 a1 b0 b1 c0 c1), .int .i64 (alH a0 a1 b0 b1 c0 c1)]), .int .i64 0]) ∧ ∃ d, w' = bw w d := by
  have HS := Lib.hid (fun W => cos_Solve a0 a1 b0 b1 c0 c1 W h)
  have hb := brF_bd (azX a0 a1 b0 b1 c0 c1).1 (azX a0 a1 b0 b1 c0 c1).2 (azY b0 b1 c0 c1).1 (azY b0 b1 c0 c1).2
  change 0 ≤ (azF a0 a1 b0 b1 c0 c1).1 ∧ (azF a0 a1 b0 b1 c0 c1).1 ≤ (azF a0 a1 b0 b1 c0 c1).2 ∧ (azF a0 a1 b0 b1 c0 c1).2 ≤ 43200000 at hb
  rw [hz] at HS hb
  dsimp only at HS hb
  unfold triB at h
  simp only [Bool.and_eq_true] at h
  have HL1 := Lib.hid (fun W => fn_latitude a0 a1 W)
  have HL2 := Lib.hid (fun W => fn_latitude b0 b1 W)
  have HV1 := Lib.hid (fun W => angle_Valid c0 c1 W)
  have HV2 := Lib.hid (fun W => angle_Valid g0 g1 W)
  have HV3 := Lib.hid (fun W => angle_Valid l0 l1 W)
  rw [h.1.1] at HL1
  rw [h.1.2] at HL2
  rw [h.2] at HV1
  rw [hg] at HV2
  rw [hl] at HV3
  have tl := turn_bd (validB_iff.1 hl).1
  have tg := turn_bd (validB_iff.1 hg).1
  have vp : validB p0 p1 = true := validB_iff.2 (by omega)
  have vq : validB q0 q1 = true := validB_iff.2 (by omega)
  have vz : validB z0 z1 = true := validB_iff.2 (by omega)
  have HT1 := Lib.hid (fun W => angle_Turn l0 l1 W hl)
  have HT2 := Lib.hid (fun W => angle_Turn g0 g1 W hg)
  have HT3 := Lib.hid (fun W => angle_Turn q0 q1 W vq)
  have HS1 : Hid (∀ W, Calls _ _ #[_, _] W fun e w' => e = .returned (.tuple #[(.agg #[.int .i64 (p0), .int .i64 (p1)]), .int .i64 0]) ∧ _) := Lib.hid (fun W => by
    have := angle_Sub z0 z1 (turnLo l0 l1) (turnHi l0 l1) W vz (turn_valid (validB_iff.1 hl).1) (by rw [← hp.1, ← hp.2]; exact vp)
    rw [← hp.1, ← hp.2] at this
    exact this)
  have HS2 : Hid (∀ W, Calls _ _ #[_, _] W fun e w' => e = .returned (.tuple #[(.agg #[.int .i64 (q0), .int .i64 (q1)]), .int .i64 0]) ∧ _) := Lib.hid (fun W => by
    have := angle_Sub p0 p1 (turnLo g0 g1) (turnHi g0 g1) W vp (turn_valid (validB_iff.1 hg).1) (by rw [← hq.1, ← hq.2]; exact vq)
    rw [← hq.1, ← hq.2] at this
    exact this)
  clear h hg hl hz hp hq hb tl tg vp vq vz
  generalize alL a0 a1 b0 b1 c0 c1 = x0 at *
  generalize alH a0 a1 b0 b1 c0 c1 = x1 at *
  generalize turnLo q0 q1 = r0 at *
  generalize turnHi q0 q1 = r1 at *
  generalize turnLo l0 l1 = s0 at *
  generalize turnHi l0 l1 = s1 at *
  generalize turnLo g0 g1 = t0 at *
  generalize turnHi g0 g1 = t1 at *
  refine lay_start ?_
  go_enter Tryz.func19, Tryz.ntmps19
  go_wp2_with (first | (go_at_call 87; first | ((with_reducible refine (HL1.out _).mono ?_); rintro e w' ⟨rfl, dq, rfl⟩; rw [lay_bw]) | ((with_reducible refine (HL2.out _).mono ?_); rintro e w' ⟨rfl, dq, rfl⟩; rw [lay_bw])) | (go_at_call 39; first | ((with_reducible refine (HV1.out _).mono ?_); rintro e w' ⟨rfl, dq, rfl⟩; rw [lay_bw]) | ((with_reducible refine (HV2.out _).mono ?_); rintro e w' ⟨rfl, dq, rfl⟩; rw [lay_bw]) | ((with_reducible refine (HV3.out _).mono ?_); rintro e w' ⟨rfl, dq, rfl⟩; rw [lay_bw])) | (go_at_call 22; refine (HS.out _).mono ?_; rintro e w' ⟨rfl, dq, rfl⟩; rw [lay_bw]))
  refine wp_loop_rounds 3 ?_
  rw [rounds_succ]
  go_wp2_with (first | (go_at_call 21; refine (HT1.out _).mono ?_; rintro e w' ⟨rfl, dq, rfl⟩; rw [lay_bw]) | (go_at_call 88; refine (HS1.out _).mono ?_; rintro e w' ⟨rfl, dq, rfl⟩; rw [lay_bw]))
  rw [rounds_succ]
  go_wp2_with (first | (go_at_call 21; refine (HT2.out _).mono ?_; rintro e w' ⟨rfl, dq, rfl⟩; rw [lay_bw]) | (go_at_call 88; refine (HS2.out _).mono ?_; rintro e w' ⟨rfl, dq, rfl⟩; rw [lay_bw]))
  rw [rounds_succ]
  go_wp2_with (first | (go_at_call 21; refine (HT3.out _).mono ?_; rintro e w' ⟨rfl, dq, rfl⟩; rw [lay_bw]))
  go_region
  go_wp2_with fail
  refine bodyPost_ret (v := .tuple #[(.agg #[.int .i64 (r0), .int .i64 (r1)]), (.agg #[.int .i64 (x0), .int .i64 (x1)]), .int .i64 0]) (by simp [results, Tryz.results19, go_sem]) rfl ⟨rfl, ?_⟩
  rw [bw_drewExt, lay_bw]
  exact lay_ex _ _
end Go.Proofs.YtnnmfdeeicpdlaaGreat
/- Values of the chapter's examples: the sine of 60 degrees, an altitude of 0, the bearings. -/
namespace Go.Proofs.YtnnmfdeeicpdlaaGreat
open Go.RowKit

theorem sinQ60 : sinQ 3600000 = 929887696 := by
  have e : sinQ 3600000 = octC (5400000 - 3600000) := by unfold sinQ; rw [if_neg (by decide), if_neg (by decide), if_neg (by decide), if_neg (by decide)]
  rw [e]
  exact (oct_of rot_1800000).2.trans (by decide +kernel)
theorem b60 : bLo 3600000 = 929887696 ∧ bHi 3600000 = 929887697 := by
  have e : foldT 3600000 = 3600000 := by decide +kernel
  have s : souB 3600000 = false := by decide +kernel
  have o : oneQ 3600000 = 1 := by decide +kernel
  unfold bLo bHi
  rw [e, s, sinQ60, o]
  exact ⟨rfl, rfl⟩
theorem b120 : bLo 7200000 = 929887696 ∧ bHi 7200000 = 929887697 := by
  have e : foldT 7200000 = 3600000 := by decide +kernel
  have s : souB 7200000 = false := by decide +kernel
  have o : oneQ 3600000 = 1 := by decide +kernel
  unfold bLo bHi
  rw [e, s, sinQ60, o]
  exact ⟨rfl, rfl⟩
theorem sI60 : sI 3600000 3600000 = (929887696, 929887697) := by
  have m1 : metB 3600000 3600000 16200000 = false := by decide +kernel
  have m2 : metB 3600000 3600000 5400000 = false := by decide +kernel
  unfold sI encL encH
  rw [m1, m2, b60.1, b60.2]
  rfl
theorem cI30 : cI 1800000 1800000 = (929887696, 929887697) := by
  have m1 : metB 7200000 7200000 16200000 = false := by decide +kernel
  have m2 : metB 7200000 7200000 5400000 = false := by decide +kernel
  unfold cI cosL cosH
  show (encL 7200000 7200000, encH 7200000 7200000) = _
  unfold encL encH
  rw [m1, m2, b120.1, b120.2]
  rfl
theorem sI0 : sI 0 0 = (0, 0) := by decide +kernel
theorem cI0 : cI 0 0 = (1073741824, 1073741824) := by decide +kernel
theorem sI30 : sI 1800000 1800000 = (536870912, 536870912) := by decide +kernel
theorem sI270 : sI 16200000 16200000 = (-1073741824, -1073741824) := by decide +kernel
theorem cI270 : cI 16200000 16200000 = (0, 0) := by decide +kernel
theorem mL_zero (p : Int × Int) : mL p (0, 0) = (0, 0) := by
  unfold mL mulL mulH m4 x4
  simp [mn, mx]
theorem pa_eg : paF 0 0 0 0 3600000 3600000 = (5400000, 5400000) := by
  have hx : paX 0 0 0 0 3600000 3600000 = (0, 0) := by
    unfold paX
    rw [sI0, mL_zero]
    have : mL (0, 0) (cI 0 0) = (0, 0) := by rw [cI0]; decide +kernel
    rw [this]
    rfl
  have hy : paY 0 0 3600000 3600000 = (929887696, 929887697) := by
    unfold paY
    rw [cI0, sI60]
    decide +kernel
  unfold paF
  rw [hx, hy]
  decide +kernel
theorem az_eg : azF 0 0 1800000 1800000 16200000 16200000 = (3599999, 3600001) := by
  have hx : azX 0 0 1800000 1800000 16200000 16200000 = (536870912, 536870912) := by
    unfold azX
    rw [sI0, mL_zero, sI30, cI0]
    decide +kernel
  have hy : azY 1800000 1800000 16200000 16200000 = (929887696, 929887697) := by
    unfold azY
    rw [cI30, sI270]
    decide +kernel
  unfold azF
  rw [hx, hy]
  decide +kernel
theorem asn0 : asnI 0 = 0 := by
  have h1 := asnI_ge (v := 0) (n := 0) (by decide) (by decide) (by decide +kernel)
  have h2 := asnI_lt (v := 0) (n := 1) (by decide) (by decide) (by rw [b_1]; decide)
  omega
theorem al_eg : alL 0 0 1800000 1800000 16200000 16200000 = 0 ∧ alH 0 0 1800000 1800000 16200000 16200000 = 0 := by
  have s0 : altS0 0 0 1800000 1800000 16200000 16200000 = 0 ∧ altS1 0 0 1800000 1800000 16200000 16200000 = 0 := by
    have h1 := congrArg Prod.fst sI0
    have h2 := congrArg Prod.snd sI0
    have h3 := congrArg Prod.fst cI270
    have h4 := congrArg Prod.snd cI270
    have k1 : encL 0 0 = 0 := h1
    have k2 : encH 0 0 = 0 := h2
    have k3 : cosL 16200000 16200000 = 0 := h3
    have k4 : cosH 16200000 16200000 = 0 := h4
    have z1 : ∀ a b, mulL 0 0 a b = 0 ∧ mulH 0 0 a b = 0 := fun a b => by unfold mulL mulH m4 x4; simp [mn, mx]
    have z2 : ∀ a b, mulL a b 0 0 = 0 ∧ mulH a b 0 0 = 0 := fun a b => by unfold mulL mulH m4 x4; simp [mn, mx]
    unfold altS0 altS1 ssL ssH c3L c3H
    rw [k1, k2, k3, k4, (z1 _ _).1, (z1 _ _).2, (z2 _ _).1, (z2 _ _).2]
    exact ⟨rfl, rfl⟩
  have e0 : asE 0 0 = 0 := by rw [asE_at]; decide +kernel
  unfold alL alH asL asH
  rw [s0.1, s0.2, if_pos e0, if_pos e0]
  have m1 : mx 0 (-1073741824) = 0 := by decide
  have m2 : mn 0 1073741824 = 0 := by decide
  rw [m1, m2]
  simp [asn0]
end Go.Proofs.YtnnmfdeeicpdlaaGreat
/- The example's book of one star: its candidates, its sky. -/
namespace Go.Proofs.YtnnmfdeeicpdlaaGreat
set_option maxHeartbeats 4000000
set_option maxRecDepth 100000
open Go.RowKit Go.Shelf

theorem eg_candidates (bk : Nat) (vd vs : Value) (W : World) (hB : Bk W bk vd (.slice none 0 0) vs) (hS : SlG stR W vs [vegaV]) (L : List (Obj ⊕ Ext)) :
    Calls Tryz.prog 171 #[.pointer (some ⟨bk, 0, none⟩), (.agg #[.int .i64 (0), .int .i64 (0)]), (.agg #[.int .i64 (0), .int .i64 (0), .int .i64 (0), .int .i64 (0)])] (lay W L) fun e w' => ∃ z : SeenV, z.s = vegaS ∧ -5400000 ≤ z.h1 ∧ RowE seenR (lay W L) [z] e w' := by
  have HW : Hid (∀ L', Calls Tryz.prog _ _ (lay (lay W L) L') fun e w' => e = .returned (.tuple #[(.agg #[.int .i64 (sgL 0 0 48000), .int .i64 (sgH 0 0 48000), .int .i64 (dcL 0), .int .i64 (dcH 0), .int .i64 (0), .int .i64 (0), .int .i64 (0), .int .i64 (0)]), .int .i64 0]) ∧ ∃ d, w' = bw _ d) :=
    Lib.hid (fun L' => alm_Where_star bk _ _ vs [vegaV] 0 vegaV vegaS 0 0 (lay (lay W L) L') ((hB.lay L).lay L') ((hS.lay L).lay L') rfl vega_find (by rw [vega_list]; rfl) (by decide) (by decide) (by decide) (by decide) (by decide) (by decide))
  rw [eg_sg.1, eg_sg.2] at HW
  have HBo : Hid (∀ L', Calls Tryz.prog _ _ (lay (lay W L) L') (StrOwn _ [ariesS, vegaS])) :=
    Lib.hid (fun L' => alm_Bodies bk _ _ vs [vegaV] [] (lay (lay W L) L') ((hB.lay L).lay L') ((hS.lay L).lay L') (fun L2 => tracked_nil_post bk _ vs _ (((hB.lay L).lay L').lay L2)) (by decide) (by decide))
  have HAd : Hid (∀ W', Calls Tryz.prog _ _ W' fun e w' => e = .returned (.tuple #[(.agg #[.int .i64 (10798017), .int .i64 (10798118)]), .int .i64 0]) ∧ ∃ d, w' = bw W' d) := Lib.hid (fun W' => angle_Add 10798017 10798118 0 0 W' (by decide) (by decide) (by decide))
  have hT : triB 0 0 (dcL 0) (dcH 0) 10798017 10798118 = true := by decide
  have HSo := Lib.hid (fun W' => cos_Solve 0 0 (dcL 0) (dcH 0) 10798017 10798118 W' hT)
  have hal := (al_bd hT).2
  have hA1 : (ariesS.toList == [65, 114, 105, 101, 115]) = true := by rw [aries_list]; rfl
  have hA2 : (vegaS.toList == [65, 114, 105, 101, 115]) = false := by rw [vega_list]; rfl
  have hz : vegaS.size ≤ 9223372036854775807 := by decide
  clear hB hS hT
  generalize alL 0 0 (dcL 0) (dcH 0) 10798017 10798118 = q1 at *
  generalize alH 0 0 (dcL 0) (dcH 0) 10798017 10798118 = q2 at *
  generalize (azF 0 0 (dcL 0) (dcH 0) 10798017 10798118).1 = q3 at *
  generalize (azF 0 0 (dcL 0) (dcH 0) 10798017 10798118).2 = q4 at *
  generalize dcL 0 = g3 at *
  generalize dcH 0 = g4 at *
  have hq : -5400000 ≤ q2 := by omega
  have HQ := Lib.hid hq
  clear hal hq
  generalize lay W L = w at *
  generalize vegaS = s2 at *
  generalize ariesS = s1 at *
  refine lay_start ?_
  go_enter Tryz.func171, Tryz.ntmps171
  go_wp2_with fail
  refine (HBo.out _).mono ?_
  rintro e w' ⟨vn, dN, rfl, rfl, hN⟩
  rw [lay_bw] at hN ⊢
  obtain ⟨g, c, rfl, -, hgs, -⟩ := hN.form1 (Nat.succ_pos _)
  have c1 : (lay w [.inr dN, .inl (.cells #[.int .i64 0, .int .i64 0, .int .i64 0, .int .i64 0] 65 (0, 0)), .inl (.cells #[.int .i64 0, .int .i64 0] 39 (0, 0))]).cell? ⟨g, 0, none⟩ = some (.string s1) := by simpa [strR] using hN.cell strOk (i := 0) (x := s1) rfl (j := 0) (u := .string s1) rfl
  have c2 : (lay w [.inr dN, .inl (.cells #[.int .i64 0, .int .i64 0, .int .i64 0, .int .i64 0] 65 (0, 0)), .inl (.cells #[.int .i64 0, .int .i64 0] 39 (0, 0))]).cell? ⟨g, 1, none⟩ = some (.string s2) := by simpa [strR] using hN.cell strOk (i := 1) (x := s2) rfl (j := 0) (u := .string s2) rfl
  have eL : [s1, s2].length = 2 := rfl
  rw [eL]
  clear hN
  go_wp2_with fail
  refine wp_loop_rounds 3 ?_
  rw [rounds_succ]
  go_wp2_with fail
  rw [rounds_succ]
  go_wp2_with fail
  refine (HW.out _).mono ?_
  rintro e w' ⟨rfl, d1, rfl⟩
  rw [lay_bw]
  go_wp2_with fail
  refine (HAd.out _).mono ?_
  rintro e w' ⟨rfl, d2, rfl⟩
  rw [lay_bw]
  go_wp2_with fail
  refine (HSo.out _).mono ?_
  rintro e w' ⟨rfl, d3, rfl⟩
  rw [lay_bw]
  go_wp2_with (at_builtin; refine push_rec seenOk rfl _ _ rfl (lay w [.inr dN, .inl (.cells #[.int .i64 0, .int .i64 0, .int .i64 0, .int .i64 0] 65 (0, 0)), .inl (.cells #[.int .i64 0, .int .i64 0] 39 (0, 0))]) _ ⟨s2, q1, q2, q3, q4⟩ #[.string s2, .int .i64 q1, .int .i64 q2, .int .i64 q3, .int .i64 q4] 140 _ _ [] (lay_belowG (A := [_, _, _, _, _, _, _])) (OwG.nil _ _ _) (lay_get w _ 0 _ rfl) rfl rfl rfl (by decide) hz ?_; intro v' d' hv')
  have HV := Lib.hid hv'
  clear hv'
  go_wp2_with fail
  rw [rounds_succ]
  go_wp2_with fail
  obtain ⟨zz, hz⟩ := lay_ex w [.inr d', .inr dN, .inl (.cells #[.int .i64 0, .int .i64 0, .int .i64 0, .int .i64 0] 65 (0, 0)), .inl (.cells #[.int .i64 0, .int .i64 0] 39 (0, 0))]
  have h := HV.out
  rw [lay_bw, hz] at h
  exact bodyPost_ret (v := .tuple #[_, .int .i64 0]) (by simp [results, Tryz.results171, go_sem]) rfl ⟨⟨s2, q1, q2, q3, q4⟩, rfl, HQ.out, _, zz, rfl, hz, h.le (lay_extends w _).size⟩
theorem eg_Sky (bk : Nat) (vd vs : Value) (W : World) (hB : Bk W bk vd (.slice none 0 0) vs) (hS : SlG stR W vs [vegaV]) (L : List (Obj ⊕ Ext)) :
    Calls Tryz.prog 81 #[.pointer (some ⟨bk, 0, none⟩), (.agg #[.int .i64 (0), .int .i64 (0)]), (.agg #[.int .i64 (0), .int .i64 (0), .int .i64 (0), .int .i64 (0)]), .int .i64 (-5400000)] (lay W L) fun e w' => ∃ z : SeenV, z.s = vegaS ∧ RowE seenR (lay W L) [z] e w' := by
  have HG := Lib.hid (fun W' => fn_given bk 0 0 0 0 0 0 W' (by decide) (by decide))
  have HC := Lib.hid (fun L' => eg_candidates bk vd vs (lay W L) (hB.lay L) (hS.lay L) L')
  have hz : vegaS.size ≤ 9223372036854775807 := by decide
  clear hB hS
  generalize lay W L = w at *
  generalize vegaS = s2 at *
  refine lay_start ?_
  go_enter Tryz.func81, Tryz.ntmps81
  go_wp2_with (go_at_call 170; refine (HG.out _).mono ?_; rintro e w' ⟨rfl, dg, rfl⟩; rw [lay_bw])
  refine (HC.out _).mono ?_
  rintro e w' ⟨⟨s, p1, p2, p3, p4⟩, rfl, hq, vc, dc, rfl, rfl, hN⟩
  dsimp only at hq hz
  rw [lay_bw] at hN ⊢
  obtain ⟨g, c, rfl, -, hgs, -⟩ := hN.form1 (Nat.succ_pos _)
  have c0 : (lay w [.inr dc, .inr dg, .inl (.cells #[.int .i64 0, .int .i64 0, .int .i64 0, .int .i64 0] 65 (0, 0)), .inl (.cells #[.int .i64 0, .int .i64 0] 39 (0, 0))]).cell? ⟨g, 0, none⟩ = some (.string s) := by simpa [seenR] using hN.cell seenOk (i := 0) rfl (j := 0) (u := .string s) rfl
  have c1 : (lay w [.inr dc, .inr dg, .inl (.cells #[.int .i64 0, .int .i64 0, .int .i64 0, .int .i64 0] 65 (0, 0)), .inl (.cells #[.int .i64 0, .int .i64 0] 39 (0, 0))]).cell? ⟨g, 1, none⟩ = some (.int .i64 p1) := by simpa [seenR] using hN.cell seenOk (i := 0) rfl (j := 1) (u := .int .i64 p1) rfl
  have c2 : (lay w [.inr dc, .inr dg, .inl (.cells #[.int .i64 0, .int .i64 0, .int .i64 0, .int .i64 0] 65 (0, 0)), .inl (.cells #[.int .i64 0, .int .i64 0] 39 (0, 0))]).cell? ⟨g, 2, none⟩ = some (.int .i64 p2) := by simpa [seenR] using hN.cell seenOk (i := 0) rfl (j := 2) (u := .int .i64 p2) rfl
  have c3 : (lay w [.inr dc, .inr dg, .inl (.cells #[.int .i64 0, .int .i64 0, .int .i64 0, .int .i64 0] 65 (0, 0)), .inl (.cells #[.int .i64 0, .int .i64 0] 39 (0, 0))]).cell? ⟨g, 3, none⟩ = some (.int .i64 p3) := by simpa [seenR] using hN.cell seenOk (i := 0) rfl (j := 3) (u := .int .i64 p3) rfl
  have c4 : (lay w [.inr dc, .inr dg, .inl (.cells #[.int .i64 0, .int .i64 0, .int .i64 0, .int .i64 0] 65 (0, 0)), .inl (.cells #[.int .i64 0, .int .i64 0] 39 (0, 0))]).cell? ⟨g, 4, none⟩ = some (.int .i64 p4) := by simpa [seenR] using hN.cell seenOk (i := 0) rfl (j := 4) (u := .int .i64 p4) rfl
  have eL : [(⟨s, p1, p2, p3, p4⟩ : SeenV)].length = 1 := rfl
  rw [eL]
  clear hN HG HC
  go_wp2_with fail
  refine wp_loop_rounds 2 ?_
  rw [rounds_succ]
  go_wp2_with (at_builtin; refine push_rec seenOk rfl _ _ rfl (lay w [.inr dc, .inr dg, .inl (.cells #[.int .i64 0, .int .i64 0, .int .i64 0, .int .i64 0] 65 (0, 0)), .inl (.cells #[.int .i64 0, .int .i64 0] 39 (0, 0))]) _ ⟨s, p1, p2, p3, p4⟩ #[.string s, .int .i64 p1, .int .i64 p2, .int .i64 p3, .int .i64 p4] 140 _ _ [] (lay_belowG (A := [_, _])) (OwG.nil _ _ _) (lay_get w _ 0 _ rfl) rfl rfl rfl (by decide) hz ?_; intro v' d' hv')
  have HV := Lib.hid hv'
  clear hv'
  go_wp2_with fail
  rw [rounds_succ]
  go_wp2_with fail
  obtain ⟨zz, hz⟩ := lay_ex w [.inr d', .inr dc, .inr dg, .inl (.cells #[.int .i64 0, .int .i64 0, .int .i64 0, .int .i64 0] 65 (0, 0)), .inl (.cells #[.int .i64 0, .int .i64 0] 39 (0, 0))]
  have h := HV.out
  rw [lay_bw, hz] at h
  exact bodyPost_ret (v := .tuple #[_, .int .i64 0]) (by simp [results, Tryz.results81, go_sem]) rfl ⟨⟨s, p1, p2, p3, p4⟩, rfl, _, zz, rfl, hz, h.le (lay_extends w _).size⟩
end Go.Proofs.YtnnmfdeeicpdlaaGreat
/- The example of chapter 51 (awake). -/
namespace Go.Proofs.YtnnmfdeeicpdlaaGreat
open Go.RowKit Go.Shelf

theorem law51_point (n : Int) (w : World) : Calls Tryz.prog 34 #[.int .i64 n] w fun e w' => e = .returned (.agg #[.int .i64 (n), .int .i64 (n)]) ∧ ∃ d, w' = bw w d := by
  refine lay_start ?_
  go_enter Tryz.func34, Tryz.ntmps34
  go_wp2
  exact bodyPost_ret (v := (.agg #[.int .i64 (n), .int .i64 (n)])) (by simp [results, Tryz.results34, go_sem]) rfl ⟨rfl, lay_ex _ _⟩
theorem eg_Parallactic (w : World) : Calls Tryz.prog 16 #[(.agg #[.int .i64 (0), .int .i64 (0), .int .i64 (0), .int .i64 (0), .int .i64 (3600000), .int .i64 (3600000)])] w fun e w' => e = .returned (.tuple #[(.agg #[.int .i64 (5400000), .int .i64 (5400000)]), .int .i64 0]) ∧ ∃ d, w' = bw w d := by
  have := fn_Parallactic 0 0 0 0 3600000 3600000 w (by decide)
  rw [pa_eg] at this
  exact this
theorem eg_Unknown (w : World) : Calls Tryz.prog 19 #[(.agg #[.int .i64 (0), .int .i64 (0)]), (.agg #[.int .i64 (1800000), .int .i64 (1800000)]), (.agg #[.int .i64 (16200000), .int .i64 (16200000)]), (.agg #[.int .i64 (1200000), .int .i64 (1200000)]), (.agg #[.int .i64 (0), .int .i64 (0)])] w fun e w' => e = .returned (.tuple #[(.agg #[.int .i64 (2399999), .int .i64 (2400001)]), (.agg #[.int .i64 (0), .int .i64 (0)]), .int .i64 0]) ∧ ∃ d, w' = bw w d := by
  have := fn_Unknown 0 0 1800000 1800000 16200000 16200000 1200000 1200000 0 0 3599999 3600001 3599999 3600001 2399999 2400001 w (by decide) (by decide) (by decide) az_eg (by decide) (by decide)
  rw [al_eg.1, al_eg.2, show turnLo 2399999 2400001 = 2399999 by decide, show turnHi 2399999 2400001 = 2400001 by decide] at this
  exact this
set_option maxHeartbeats 4000000 in
set_option maxRecDepth 100000 in
theorem law51_awake (w : World) : Calls Tryz.prog 15 #[] w fun e w' => e = .returned (.bool true) ∧ ∃ d, w' = bw w d := by
  have HP := Lib.hid (fun n W => law51_point n W)
  have HA := Lib.hid (fun W => eg_Parallactic W)
  have HU := Lib.hid (fun W => eg_Unknown W)
  refine lay_start ?_
  go_enter Tryz.func15, Tryz.ntmps15
  go_wp2_with fail
  refine (HP.out _ _).mono ?_
  rintro e w' ⟨rfl, p1, rfl⟩
  rw [lay_bw]
  go_wp2_with fail
  refine (HA.out _).mono ?_
  rintro e w' ⟨rfl, dA, rfl⟩
  rw [lay_bw]
  go_wp2_with fail
  refine (HP.out _ _).mono ?_
  rintro e w' ⟨rfl, p2, rfl⟩
  rw [lay_bw]
  go_wp2_with fail
  refine (HP.out _ _).mono ?_
  rintro e w' ⟨rfl, p3, rfl⟩
  rw [lay_bw]
  go_wp2_with fail
  refine (HP.out _ _).mono ?_
  rintro e w' ⟨rfl, p4, rfl⟩
  rw [lay_bw]
  go_wp2_with fail
  refine (HP.out _ _).mono ?_
  rintro e w' ⟨rfl, p5, rfl⟩
  rw [lay_bw]
  go_wp2_with fail
  refine (HP.out _ _).mono ?_
  rintro e w' ⟨rfl, p6, rfl⟩
  rw [lay_bw]
  go_wp2_with fail
  refine (HU.out _).mono ?_
  rintro e w' ⟨rfl, dU, rfl⟩
  rw [lay_bw]
  go_wp2_with fail
  refine (alm_New_nil3 _ [vegaV] _ (vega_lit w [.inl (.cells #[.int .i64 0, .int .i64 0] 23 (0, 0)), .inl (.cells #[.int .i64 2399999, .int .i64 2400001] 23 (0, 0)), .inr dU, .inr p6, .inr p5, .inr p4, .inr p3, .inr p2, .inl (.cells #[.int .i64 5400000, .int .i64 5400000] 23 (0, 0)), .inr dA, .inr p1]) vega_cat vega_notA).mono ?_
  rintro e w' ⟨bk, vs, d1, rfl, rfl, hB, hS⟩
  rw [lay_bw] at hB hS ⊢
  have HS := Lib.hid (fun L => eg_Sky bk _ vs _ hB hS L)
  simp only [← lay_appG] at HS
  clear hB hS
  go_wp2_with fail
  refine region_bw (by kernel_rfl) (by kernel_rfl) ?_
  repeat (go_big_quiet_step ((first | (go_at_call 34; first | exact bq (HP.out _ _) (fun d => ⟨d, rfl⟩) | exact bq (HP.out _ _) (fun d => lay_join _ _ _ d)))))
  refine wpQuiet_nil ?_
  rintro w' ⟨d, rfl⟩
  rw [lay_bw]
  go_wp2_with fail
  refine (HS.out [_]).mono ?_
  rintro e w' ⟨z, hz, v2, d2, rfl, rfl, hO⟩
  rw [lay_bw] at hO ⊢
  simp only [List.cons_append, List.nil_append] at hO ⊢
  obtain ⟨g, c, rfl, -, -, -⟩ := hO.form1 (by simp)
  have hc := hO.cell seenOk (i := 0) (x := z) rfl (j := 0) (u := .string z.s) rfl
  rw [hz] at hc
  have e0 : 0 * seenR.k + 0 = 0 := by simp
  rw [e0] at hc
  simp only [List.length_cons, List.length_nil, Nat.zero_add]
  go_wp2_with fail
  go_ret
  exact ⟨by simp [vega_list], lay_ex _ _⟩
end Go.Proofs.YtnnmfdeeicpdlaaGreat
