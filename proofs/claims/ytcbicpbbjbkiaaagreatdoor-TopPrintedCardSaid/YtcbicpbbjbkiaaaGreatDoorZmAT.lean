/- Contracts and plain laws, several texts in one: Fc1; DiP; Hzp; Fc2; TqL; ReA -/
import Derived.Test.YtcbicpbbjbkiaaaGreatDoorProg
import Derived.WalkKit
import Derived.WalkSpells
import Derived.WalkLawsBesides
import Derived.Lib.Hide
import Derived.BigQuiet
import Derived.Test.YtcbicpbbjbkiaaaGreatDoorZmAA
import Derived.Test.YtcbicpbbjbkiaaaGreatDoorZmAH
import Derived.Test.YtcbicpbbjbkiaaaGreatDoorZmAL
import Derived.Test.YtcbicpbbjbkiaaaGreatDoorZmAM
import Derived.Test.YtcbicpbbjbkiaaaGreatDoorZmAO
import Derived.Test.YtcbicpbbjbkiaaaGreatDoorZmAP
import Derived.Test.YtcbicpbbjbkiaaaGreatDoorZmAQ
import Derived.Test.YtcbicpbbjbkiaaaGreatDoorZmAR
namespace Go.Proofs.YtcbicpbbjbkiaaaGreatDoor
set_option maxRecDepth 100000
open Go.RowKit

theorem fx_NegG (a0 a1 : Int) (w : World) (ha : fxB a0 a1 = true) :
  Calls Tryz.prog 243 #[(.agg #[.int .i64 (a0), .int .i64 (a1)])] w fun e w' => e = .returned (.tuple #[(.agg #[.int .i64 (-a1), .int .i64 (-a0)]), .int .i64 0]) ∧ ∃ d, w' = bw w d := by
 have HB := Lib.hid (fun W => fx_ValidG a0 a1 W)
 rw [ha] at HB
 have hfa := fxB_iff.1 ha
 have k1 : IntKind.i64.wrap (-a1) = -a1 := IntWalk.i64_in _ (by omega)
 have k2 : IntKind.i64.wrap (-a0) = -a0 := IntWalk.i64_in _ (by omega)
 clear hfa ha
 refine lay_start ?_
 go_enter Tryz.func243, Tryz.ntmps243
 go_wp2_with (first | (go_at_call 103; refine (HB.out _).mono ?_; rintro e w' ⟨rfl, d, rfl⟩))
 exact bodyPost_ret (v := .tuple #[(.agg #[.int .i64 (-a1), .int .i64 (-a0)]), .int .i64 0]) (by simp [results, Tryz.results243, go_sem]) rfl ⟨rfl, lay_ex _ _⟩
theorem cc_sub (b : Nat) (a0 a1 b0 b1 : Int) (w : World) (hc : ChW b w) (ha : fxB a0 a1 = true) (hb : fxB b0 b1 = true) (hm : fxB (a0 - b1) (a1 - b0) = true) :
  Calls Tryz.prog 184 #[.pointer (some ⟨b, 0, none⟩), (.agg #[.int .i64 (a0), .int .i64 (a1)]), (.agg #[.int .i64 (b0), .int .i64 (b1)])] w fun e w' => e = .returned (.agg #[.int .i64 (a0 - b1), .int .i64 (a1 - b0)]) ∧ ∃ d, w' = bw w d := by
 have HK := Lib.hid (fun L => cc_keep b (a0 - b1) (a1 - b0) (lay w L) (hc.lay L))
 have HT := Lib.hid (fun W => fx_SubG a0 a1 b0 b1 W ha hb hm)
 generalize a0 - b1 = p at *
 generalize a1 - b0 = q at *
 clear hc ha hb hm
 refine lay_start ?_
 go_enter Tryz.func184, Tryz.ntmps184
 go_wp2_with (first | (go_at_call 244; refine (HT.out _).mono ?_; rintro e w' ⟨rfl, d, rfl⟩; rw [lay_bw]) | (go_at_call 240; refine (HK.out _).mono ?_; rintro e w' ⟨rfl, d2, rfl⟩))
 exact bodyPost_ret (v := (.agg #[.int .i64 (p), .int .i64 (q)])) (by simp [results, Tryz.results184, go_sem]) rfl ⟨rfl, lay_ex _ _⟩
theorem cc_neg (b : Nat) (a0 a1 : Int) (w : World) (hc : ChW b w) (ha : fxB a0 a1 = true) :
  Calls Tryz.prog 183 #[.pointer (some ⟨b, 0, none⟩), (.agg #[.int .i64 (a0), .int .i64 (a1)])] w fun e w' => e = .returned (.agg #[.int .i64 (-a1), .int .i64 (-a0)]) ∧ ∃ d, w' = bw w d := by
 have HK := Lib.hid (fun L => cc_keep b (-a1) (-a0) (lay w L) (hc.lay L))
 have HT := Lib.hid (fun W => fx_NegG a0 a1 W ha)
 generalize -a1 = p at *
 generalize -a0 = q at *
 clear hc ha
 refine lay_start ?_
 go_enter Tryz.func183, Tryz.ntmps183
 go_wp2_with (first | (go_at_call 243; refine (HT.out _).mono ?_; rintro e w' ⟨rfl, d, rfl⟩; rw [lay_bw]) | (go_at_call 240; refine (HK.out _).mono ?_; rintro e w' ⟨rfl, d2, rfl⟩))
 exact bodyPost_ret (v := (.agg #[.int .i64 (p), .int .i64 (q)])) (by simp [results, Tryz.results183, go_sem]) rfl ⟨rfl, lay_ex _ _⟩
def mL (p q : Int × Int) : Int × Int := (mulL p.1 p.2 q.1 q.2, mulH p.1 p.2 q.1 q.2)
def UnI (p : Int × Int) : Prop := -1073741824 ≤ p.1 ∧ p.1 ≤ p.2 ∧ p.2 ≤ 1073741824
theorem UnI.mul {p q : Int × Int} (h : UnI p) (k : UnI q) : UnI (mL p q) := mul_unit h.1 h.2.1 h.2.2 k.1 k.2.1 k.2.2
theorem UnI.fx {p : Int × Int} (h : UnI p) : fxB p.1 p.2 = true := unit_fx h
def sI (a b : Int) : Int × Int := (encL a b, encH a b)
def cI (a b : Int) : Int × Int := (cosL a b, cosH a b)
theorem sI_un (a b : Int) : UnI (sI a b) := enc_in
theorem cI_un (a b : Int) : UnI (cI a b) := cos_in2 a b
def azY (b0 b1 c0 c1 : Int) : Int × Int := (-(mL (cI b0 b1) (sI c0 c1)).2, -(mL (cI b0 b1) (sI c0 c1)).1)
def azX (a0 a1 b0 b1 c0 c1 : Int) : Int × Int := ((mL (sI b0 b1) (cI a0 a1)).1 - (mL (mL (cI b0 b1) (cI c0 c1)) (sI a0 a1)).2, (mL (sI b0 b1) (cI a0 a1)).2 - (mL (mL (cI b0 b1) (cI c0 c1)) (sI a0 a1)).1)
def azF (a0 a1 b0 b1 c0 c1 : Int) : Int × Int := brF (azX a0 a1 b0 b1 c0 c1).1 (azX a0 a1 b0 b1 c0 c1).2 (azY b0 b1 c0 c1).1 (azY b0 b1 c0 c1).2
set_option maxHeartbeats 2000000 in
theorem cos_azimuth (a0 a1 b0 b1 c0 c1 : Int) (w : World) (va : validB a0 a1 = true) (vb : validB b0 b1 = true) (vc : validB c0 c1 = true) :
  Calls Tryz.prog 98 #[(.agg #[.int .i64 (a0), .int .i64 (a1), .int .i64 (b0), .int .i64 (b1), .int .i64 (c0), .int .i64 (c1)])] w fun e w' => e = .returned (.tuple #[(.agg #[.int .i64 ((azF a0 a1 b0 b1 c0 c1).1), .int .i64 ((azF a0 a1 b0 b1 c0 c1).2)]), .int .i64 0]) ∧ ∃ d, w' = bw w d := by
 have HO := Lib.hid (fun b W hc => cc_of b a0 a1 b0 b1 c0 c1 W hc va vb vc)
 have u1 := sI_un a0 a1
 have u2 := cI_un a0 a1
 have u3 := sI_un b0 b1
 have u4 := cI_un b0 b1
 have u5 := sI_un c0 c1
 have u6 := cI_un c0 c1
 have m1 := u4.mul u5
 have m2 := u3.mul u2
 have m3 := u4.mul u6
 have m4 := m3.mul u1
 have hy : fxB (azY b0 b1 c0 c1).1 (azY b0 b1 c0 c1).2 = true := by
  obtain ⟨h1, h2, h3⟩ := m1
  unfold azY
  rw [fxB_iff]; dsimp only; omega
 have hx : fxB (azX a0 a1 b0 b1 c0 c1).1 (azX a0 a1 b0 b1 c0 c1).2 = true := by
  obtain ⟨h1, h2, h3⟩ := m2
  obtain ⟨h4, h5, h6⟩ := m4
  unfold azX
  rw [fxB_iff]; dsimp only; omega
 have HM1 : Hid (∀ b W, ChW b W → Calls _ _ #[_, _, _] W fun e w' => e = .returned (.agg #[.int .i64 ((mL (cI b0 b1) (sI c0 c1)).1), .int .i64 ((mL (cI b0 b1) (sI c0 c1)).2)]) ∧ _) := Lib.hid (fun b W hc => cc_mul b (cosL b0 b1) (cosH b0 b1) (encL c0 c1) (encH c0 c1) W hc u4.fx u5.fx m1.fx)
 have HN : Hid (∀ b W, ChW b W → Calls _ _ #[_, _] W fun e w' => e = .returned (.agg #[.int .i64 ((azY b0 b1 c0 c1).1), .int .i64 ((azY b0 b1 c0 c1).2)]) ∧ _) := Lib.hid (fun b W hc => cc_neg b (mL (cI b0 b1) (sI c0 c1)).1 (mL (cI b0 b1) (sI c0 c1)).2 W hc m1.fx)
 have HM2 : Hid (∀ b W, ChW b W → Calls _ _ #[_, _, _] W fun e w' => e = .returned (.agg #[.int .i64 ((mL (sI b0 b1) (cI a0 a1)).1), .int .i64 ((mL (sI b0 b1) (cI a0 a1)).2)]) ∧ _) := Lib.hid (fun b W hc => cc_mul b (encL b0 b1) (encH b0 b1) (cosL a0 a1) (cosH a0 a1) W hc u3.fx u2.fx m2.fx)
 have HM3 : Hid (∀ b W, ChW b W → Calls _ _ #[_, _, _] W fun e w' => e = .returned (.agg #[.int .i64 ((mL (cI b0 b1) (cI c0 c1)).1), .int .i64 ((mL (cI b0 b1) (cI c0 c1)).2)]) ∧ _) := Lib.hid (fun b W hc => cc_mul b (cosL b0 b1) (cosH b0 b1) (cosL c0 c1) (cosH c0 c1) W hc u4.fx u6.fx m3.fx)
 have HM4 : Hid (∀ b W, ChW b W → Calls _ _ #[_, _, _] W fun e w' => e = .returned (.agg #[.int .i64 ((mL (mL (cI b0 b1) (cI c0 c1)) (sI a0 a1)).1), .int .i64 ((mL (mL (cI b0 b1) (cI c0 c1)) (sI a0 a1)).2)]) ∧ _) := Lib.hid (fun b W hc => cc_mul b (mL (cI b0 b1) (cI c0 c1)).1 (mL (cI b0 b1) (cI c0 c1)).2 (encL a0 a1) (encH a0 a1) W hc m3.fx u1.fx m4.fx)
 have HD : Hid (∀ b W, ChW b W → Calls _ _ #[_, _, _] W fun e w' => e = .returned (.agg #[.int .i64 ((azX a0 a1 b0 b1 c0 c1).1), .int .i64 ((azX a0 a1 b0 b1 c0 c1).2)]) ∧ _) := Lib.hid (fun b W hc => cc_sub b (mL (sI b0 b1) (cI a0 a1)).1 (mL (sI b0 b1) (cI a0 a1)).2 (mL (mL (cI b0 b1) (cI c0 c1)) (sI a0 a1)).1 (mL (mL (cI b0 b1) (cI c0 c1)) (sI a0 a1)).2 W hc m2.fx m4.fx hx)
 have HB : Hid (∀ W, Calls _ _ #[_, _] W fun e w' => e = .returned (.tuple #[(.agg #[.int .i64 ((azF a0 a1 b0 b1 c0 c1).1), .int .i64 ((azF a0 a1 b0 b1 c0 c1).2)]), .int .i64 0]) ∧ _) := Lib.hid (fun W => ar_BearG (azY b0 b1 c0 c1).1 (azY b0 b1 c0 c1).2 (azX a0 a1 b0 b1 c0 c1).1 (azX a0 a1 b0 b1 c0 c1).2 hy hx W)
 clear hy hx u1 u2 u3 u4 u5 u6 m1 m2 m3 m4
 generalize (azF a0 a1 b0 b1 c0 c1).1 = u at *
 generalize (azF a0 a1 b0 b1 c0 c1).2 = v at *
 generalize (azX a0 a1 b0 b1 c0 c1).1 = x0 at *
 generalize (azX a0 a1 b0 b1 c0 c1).2 = x1 at *
 generalize (azY b0 b1 c0 c1).1 = y0 at *
 generalize (azY b0 b1 c0 c1).2 = y1 at *
 generalize (mL (mL (cI b0 b1) (cI c0 c1)) (sI a0 a1)).1 = g0 at *
 generalize (mL (mL (cI b0 b1) (cI c0 c1)) (sI a0 a1)).2 = g1 at *
 generalize (mL (cI b0 b1) (cI c0 c1)).1 = h0 at *
 generalize (mL (cI b0 b1) (cI c0 c1)).2 = h1 at *
 generalize (mL (sI b0 b1) (cI a0 a1)).1 = z0 at *
 generalize (mL (sI b0 b1) (cI a0 a1)).2 = z1 at *
 generalize (mL (cI b0 b1) (sI c0 c1)).1 = s0 at *
 generalize (mL (cI b0 b1) (sI c0 c1)).2 = s1 at *
 generalize encL a0 a1 = p1 at *
 generalize encH a0 a1 = q1 at *
 generalize encL b0 b1 = p2 at *
 generalize encH b0 b1 = q2 at *
 generalize encL c0 c1 = p3 at *
 generalize encH c0 c1 = q3 at *
 generalize cosL a0 a1 = r1 at *
 generalize cosH a0 a1 = t1 at *
 generalize cosL b0 b1 = r2 at *
 generalize cosH b0 b1 = t2 at *
 generalize cosL c0 c1 = r3 at *
 generalize cosH c0 c1 = t3 at *
 clear va vb vc
 refine lay_start ?_
 go_enter Tryz.func98, Tryz.ntmps98
 go_wp2_with fail
 have hch : ChW (posn w [1, 1]) (lay w [.inl (Obj.cells #[.int .i64 0] 256), .inl (Obj.cells #[.int .i64 0, .int .i64 0] 29), .inl (Obj.cells #[.int .i64 a0, .int .i64 a1, .int .i64 b0, .int .i64 b1, .int .i64 c0, .int .i64 c1] 33)]) := chW_new w _ _ _ rfl
 refine (HO.out _ _ hch).mono ?_
 rintro e w' ⟨rfl, d1, rfl⟩
 rw [lay_bw]
 have hc1 := hch.on [.inl (Obj.cells #[.int .i64 p1, .int .i64 q1, .int .i64 r1, .int .i64 t1, .int .i64 p2, .int .i64 q2, .int .i64 r2, .int .i64 t2, .int .i64 p3, .int .i64 q3, .int .i64 r3, .int .i64 t3] 258), .inr d1]
 simp only [List.cons_append, List.nil_append] at hc1
 go_wp2_with fail
 refine (HM1.out _ _ hc1).mono ?_
 rintro e w' ⟨rfl, d2, rfl⟩
 rw [lay_bw]
 have hc2 := hc1.on [.inr d2]
 simp only [List.cons_append, List.nil_append] at hc2
 go_wp2_with fail
 refine (HN.out _ _ hc2).mono ?_
 rintro e w' ⟨rfl, d3, rfl⟩
 rw [lay_bw]
 go_wp2_with fail
 have HC := Lib.hid (fun e : Ext => hc2.on [.inr e, .inl (Obj.cells #[.int .i64 y0, .int .i64 y1] 46), .inr d3])
 simp only [List.cons_append, List.nil_append] at HC
 clear hch hc1 hc2
 refine region_mixW [0, 0, 0, 0, 0, 0, 0, 0, 0, 0, 0, 0, 0, 0, 0, 0, 0, 0, 1, 1] (by kernel_rfl) (by kernel_rfl) (by kernel_rfl) ?_
 repeat (first | (refine wpM_quiet (fun K hK => ?_); go_simp; first | (refine hK _ ?_; clear hK K) | (apply Exists.intro; refine ⟨fun _ => ?_, hK _ ?_⟩; (first | (go_at_call 181; first | ((with_reducible refine bq (HM2.out _ _ (HC.out _)) ?_); first | exact (fun d => ⟨d, rfl⟩) | exact (fun d => lay_join _ _ _ d)) | ((with_reducible refine bq (HM3.out _ _ (HC.out _)) ?_); first | exact (fun d => ⟨d, rfl⟩) | exact (fun d => lay_join _ _ _ d)) | ((with_reducible refine bq (HM4.out _ _ (HC.out _)) ?_); first | exact (fun d => ⟨d, rfl⟩) | exact (fun d => lay_join _ _ _ d))) | (go_at_call 184; (with_reducible refine bq (HD.out _ _ (HC.out _)) ?_); first | exact (fun d => ⟨d, rfl⟩) | exact (fun d => lay_join _ _ _ d))); clear hK K)) | (refine wpM_special (fun K hK d => ?_); go_simp; refine hK _ _ (by first | exact lay_in w [_] _ | exact lay_in w [_, _] _ | exact lay_in w [_, _, _] _ | exact lay_in w [_, _, _, _] _ | exact lay_in w [_, _, _, _, _] _ | exact lay_in w [_, _, _, _, _, _] _) ?_; clear hK K))
 refine wpM_nil ?_
 intro d
 rw [lay_bw]
 go_wp2_with (go_at_call 47; refine (HB.out _).mono ?_; rintro e w' ⟨rfl, d3, rfl⟩; rw [lay_bw])
 exact bodyPost_ret (v := .tuple #[(.agg #[.int .i64 (u), .int .i64 (v)]), .int .i64 0]) (by simp [results, Tryz.results98, go_sem]) rfl ⟨rfl, lay_ex _ _⟩
end Go.Proofs.YtcbicpbbjbkiaaaGreatDoor
namespace Go.Proofs.YtcbicpbbjbkiaaaGreatDoor
open Go.RowKit

def Dia (x0 y0 x1 y1 : Int) : Prop := 21600000 ≤ y1 - x1 ∨ (y0 - x0 < 21600000 ∧ (x0 - x1) % 21600000 + (y0 - x0) ≤ y1 - x1)
theorem Dia.sub {x0 y0 x1 y1 : Int} (h1 : x1 ≤ x0) (_ : x0 ≤ y0) (h3 : y0 ≤ y1) : Dia x0 y0 x1 y1 := by unfold Dia; omega
theorem Dia.add {x0 y0 x1 y1 c d : Int} (h : Dia x0 y0 x1 y1) (hc : c ≤ d) : Dia (x0 + c) (y0 + d) (x1 + c) (y1 + d) := by
 unfold Dia at *
 rw [show x0 + c - (x1 + c) = x0 - x1 by omega]
 omega
theorem metB_sh (lo hi n k : Int) : metB (lo + 21600000 * k) (hi + 21600000 * k) n = metB lo hi n := by
 unfold metB
 rw [decide_eq_decide]
 omega
theorem enc_turn (lo hi k : Int) : encL (lo + 21600000 * k) (hi + 21600000 * k) = encL lo hi ∧ encH (lo + 21600000 * k) (hi + 21600000 * k) = encH lo hi := by
 rw [encL_at, encL_at, encH_at, encH_at, metB_sh, metB_sh, (b_shift lo k).1, (b_shift lo k).2, (b_shift hi k).1, (b_shift hi k).2]
 exact ⟨rfl, rfl⟩
theorem enc_dia {x0 y0 x1 y1 : Int} (h : x0 ≤ y0) (d : Dia x0 y0 x1 y1) : encL x1 y1 ≤ encL x0 y0 ∧ encH x0 y0 ≤ encH x1 y1 := by
 have e := @enc_in x0 y0
 rcases d with d | ⟨d1, d2⟩
 ·have m1 : metB x1 y1 16200000 = true := by unfold metB; rw [decide_eq_true_eq]; omega
  have m2 : metB x1 y1 5400000 = true := by unfold metB; rw [decide_eq_true_eq]; omega
  rw [encL_at x1, encH_at x1, m1, m2, if_pos rfl, if_pos rfl]
  omega
 ·have t := enc_turn x0 y0 (-((x0 - x1) / 21600000))
  have p := enc_part (lo := x1) (hi := y1) (x := x0 + 21600000 * (-((x0 - x1) / 21600000))) (y := y0 + 21600000 * (-((x0 - x1) / 21600000))) (by omega) (by omega) (by omega)
  rw [t.1, t.2] at p
  exact p
theorem cos_dia {x0 y0 x1 y1 : Int} (h : x0 ≤ y0) (d : Dia x0 y0 x1 y1) : cosL x1 y1 ≤ cosL x0 y0 ∧ cosH x0 y0 ≤ cosH x1 y1 := by
 unfold cosL cosH
 exact enc_dia (by omega) (d.add (Int.le_refl _))
theorem alt_part {a0 a1 b0 b1 c0 c1 p0 p1 q0 q1 r0 r1 : Int} (h0 : a0 ≤ p0) (h : p0 ≤ p1) (h1 : p1 ≤ a1) (g0 : b0 ≤ q0) (g : q0 ≤ q1) (g1 : q1 ≤ b1) (hc : r0 ≤ r1) (d : Dia r0 r1 c0 c1) :
  altS0 a0 a1 b0 b1 c0 c1 ≤ altS0 p0 p1 q0 q1 r0 r1 ∧ altS1 p0 p1 q0 q1 r0 r1 ≤ altS1 a0 a1 b0 b1 c0 c1 := by
 have e1 := enc_part h0 h h1
 have e2 := enc_part g0 g g1
 have c1' : cosL a0 a1 ≤ cosL p0 p1 ∧ cosH p0 p1 ≤ cosH a0 a1 := by unfold cosL cosH; exact enc_part (by omega) (by omega) (by omega)
 have c2' : cosL b0 b1 ≤ cosL q0 q1 ∧ cosH q0 q1 ≤ cosH b0 b1 := by unfold cosL cosH; exact enc_part (by omega) (by omega) (by omega)
 have c3' := cos_dia hc d
 have m1 := mul_part e1.1 enc_in.2.1 e1.2 e2.1 enc_in.2.1 e2.2
 have m2 : ccL a0 a1 b0 b1 ≤ ccL p0 p1 q0 q1 ∧ ccH p0 p1 q0 q1 ≤ ccH a0 a1 b0 b1 := mul_part c1'.1 (cos_in2 _ _).2.1 c1'.2 c2'.1 (cos_in2 _ _).2.1 c2'.2
 have m3 := mul_part m2.1 (cc_in _ _ _ _).2.1 m2.2 c3'.1 (cos_in2 _ _).2.1 c3'.2
 unfold altS0 altS1 ssL ssH c3L c3H
 omega
theorem as_part {L H l h : Int} (hE : asE L H = 0) (hl : l ≤ L) (hh : H ≤ h) (hf : fxB l h = true) : asE l h = 0 ∧ asL l h ≤ asL L H ∧ asH L H ≤ asH l h ∧ -5400000 ≤ asL l h ∧ asH l h ≤ 5400000 := by
 have hE2 : asE l h = 0 := by
  have hE' := hE
  rw [asE_at] at hE' ⊢
  rw [hf, if_neg (by decide)]
  rw [mn_eq, mx_eq] at *
  split at hE'
  ·omega
  ·split at hE' <;> split <;> omega
 have m1 := asnI_mono (v := mx l (-1073741824)) (u := mx L (-1073741824)) (by rw [mx_eq]; omega) (by rw [mx_eq, mx_eq]; omega)
 have m2 := asnI_mono (v := -(mn h 1073741824)) (u := -(mn H 1073741824)) (by rw [mn_eq]; omega) (by rw [mn_eq, mn_eq]; omega)
 have i1 := asnI_in (v := mx l (-1073741824)) (by rw [mx_eq]; omega)
 have i2 := asnI_in (v := -(mn h 1073741824)) (by rw [mn_eq]; omega)
 unfold asL asH
 rw [if_pos hE, if_pos hE, if_pos hE2, if_pos hE2]
 omega
theorem alt_someG {a0 a1 b0 b1 c0 c1 : Int} (ha : latB a0 a1 = true) (hb : latB b0 b1 = true) (hc : c0 ≤ c1) :
  asE (altS0 a0 a1 b0 b1 c0 c1) (altS1 a0 a1 b0 b1 c0 c1) = 0 ∧ -5400000 ≤ asL (altS0 a0 a1 b0 b1 c0 c1) (altS1 a0 a1 b0 b1 c0 c1) ∧ asL (altS0 a0 a1 b0 b1 c0 c1) (altS1 a0 a1 b0 b1 c0 c1) ≤ asH (altS0 a0 a1 b0 b1 c0 c1) (altS1 a0 a1 b0 b1 c0 c1) ∧ asH (altS0 a0 a1 b0 b1 c0 c1) (altS1 a0 a1 b0 b1 c0 c1) ≤ 5400000 := by
 obtain ⟨u1, u2, u3⟩ := latB_iff.1 ha
 obtain ⟨v1, v2, v3⟩ := latB_iff.1 hb
 have p := alt_some (lat := a0) (dec := b0) (lha := c0) u2 (by omega) v2 (by omega)
 have q := alt_part (Int.le_refl a0) (Int.le_refl a0) u1 (Int.le_refl b0) (Int.le_refl b0) v1 (Int.le_refl c0) (Dia.sub (x1 := c0) (y1 := c1) (Int.le_refl c0) (Int.le_refl c0) hc)
 have r := as_part p.1 q.1 q.2 (alt_fx _ _ _ _ _ _)
 omega
end Go.Proofs.YtcbicpbbjbkiaaaGreatDoor
namespace Go.Proofs.YtcbicpbbjbkiaaaGreatDoor
set_option maxHeartbeats 1000000
set_option maxRecDepth 100000
open Go.RowKit

theorem cos_Azimuth (a0 a1 b0 b1 c0 c1 : Int) (w : World) (h : triB a0 a1 b0 b1 c0 c1 = true) :
  Calls Tryz.prog 35 #[(.agg #[.int .i64 (a0), .int .i64 (a1), .int .i64 (b0), .int .i64 (b1), .int .i64 (c0), .int .i64 (c1)])] w fun e w' => e = .returned (.tuple #[(.agg #[.int .i64 ((azF a0 a1 b0 b1 c0 c1).1), .int .i64 ((azF a0 a1 b0 b1 c0 c1).2)]), .int .i64 0]) ∧ ∃ d, w' = bw w d := by
 have HV := Lib.hid (fun W => cos_Valid a0 a1 b0 b1 c0 c1 W)
 rw [h] at HV
 unfold triB at h
 simp only [Bool.and_eq_true] at h
 have HA := Lib.hid (fun W => cos_azimuth a0 a1 b0 b1 c0 c1 W (lat_valid h.1.1) (lat_valid h.1.2) h.2)
 generalize (azF a0 a1 b0 b1 c0 c1).1 = u at *
 generalize (azF a0 a1 b0 b1 c0 c1).2 = v at *
 clear h
 refine lay_start ?_
 go_enter Tryz.func35, Tryz.ntmps35
 go_wp2_with (first | (go_at_call 96; refine (HV.out _).mono ?_; rintro e w' ⟨rfl, d1, rfl⟩; rw [lay_bw]) | (go_at_call 98; refine (HA.out _).mono ?_; rintro e w' ⟨rfl, d2, rfl⟩; rw [lay_bw]))
 exact bodyPost_ret (v := .tuple #[(.agg #[.int .i64 (u), .int .i64 (v)]), .int .i64 0]) (by simp [results, Tryz.results35, go_sem]) rfl ⟨rfl, lay_ex _ _⟩
noncomputable def alL (a0 a1 b0 b1 c0 c1 : Int) : Int := asL (altS0 a0 a1 b0 b1 c0 c1) (altS1 a0 a1 b0 b1 c0 c1)
noncomputable def alH (a0 a1 b0 b1 c0 c1 : Int) : Int := asH (altS0 a0 a1 b0 b1 c0 c1) (altS1 a0 a1 b0 b1 c0 c1)
theorem al_bd {a0 a1 b0 b1 c0 c1 : Int} (h : triB a0 a1 b0 b1 c0 c1 = true) : asE (altS0 a0 a1 b0 b1 c0 c1) (altS1 a0 a1 b0 b1 c0 c1) = 0 ∧ -5400000 ≤ alL a0 a1 b0 b1 c0 c1 ∧ alL a0 a1 b0 b1 c0 c1 ≤ alH a0 a1 b0 b1 c0 c1 ∧ alH a0 a1 b0 b1 c0 c1 ≤ 5400000 := by
 unfold triB at h
 simp only [Bool.and_eq_true] at h
 exact alt_someG h.1.1 h.1.2 (validB_iff.1 h.2).1
theorem cos_Solve (a0 a1 b0 b1 c0 c1 : Int) (w : World) (h : triB a0 a1 b0 b1 c0 c1 = true) :
  Calls Tryz.prog 6 #[(.agg #[.int .i64 (a0), .int .i64 (a1), .int .i64 (b0), .int .i64 (b1), .int .i64 (c0), .int .i64 (c1)])] w fun e w' => e = .returned (.tuple #[(.agg #[.int .i64 (alL a0 a1 b0 b1 c0 c1), .int .i64 (alH a0 a1 b0 b1 c0 c1), .int .i64 ((azF a0 a1 b0 b1 c0 c1).1), .int .i64 ((azF a0 a1 b0 b1 c0 c1).2)]), .int .i64 0]) ∧ ∃ d, w' = bw w d := by
 have HA := Lib.hid (fun W => cos_Altitude a0 a1 b0 b1 c0 c1 W h)
 have HZ := Lib.hid (fun W => cos_Azimuth a0 a1 b0 b1 c0 c1 W h)
 rw [(al_bd h).1] at HA
 change Hid (∀ W, Calls _ _ _ W fun e w' => e = .returned (.tuple #[(.agg #[.int .i64 (alL a0 a1 b0 b1 c0 c1), .int .i64 (alH a0 a1 b0 b1 c0 c1)]), .int .i64 0]) ∧ _) at HA
 generalize alL a0 a1 b0 b1 c0 c1 = p at *
 generalize alH a0 a1 b0 b1 c0 c1 = q at *
 generalize (azF a0 a1 b0 b1 c0 c1).1 = u at *
 generalize (azF a0 a1 b0 b1 c0 c1).2 = v at *
 clear h
 refine lay_start ?_
 go_enter Tryz.func6, Tryz.ntmps6
 go_wp2_with (first | (go_at_call 34; refine (HA.out _).mono ?_; rintro e w' ⟨rfl, d1, rfl⟩; rw [lay_bw]) | (go_at_call 35; refine (HZ.out _).mono ?_; rintro e w' ⟨rfl, d2, rfl⟩; rw [lay_bw]))
 exact bodyPost_ret (v := .tuple #[(.agg #[.int .i64 (p), .int .i64 (q), .int .i64 (u), .int .i64 (v)]), .int .i64 0]) (by simp [results, Tryz.results6, go_sem]) rfl ⟨rfl, lay_ex _ _⟩
set_option maxRecDepth 100000
open Go.RowKit

theorem tp_r25Valid (a0 a1 b0 b1 c0 c1 : Int) (w : World) :
  Calls Tryz.prog 7 #[(.agg #[.int .i64 (a0), .int .i64 (a1), .int .i64 (b0), .int .i64 (b1), .int .i64 (c0), .int .i64 (c1)])] w fun e w' => e = .returned (.bool (triB a0 a1 b0 b1 c0 c1)) ∧ ∃ d, w' = bw w d := by
 have HA := Lib.hid (fun W => ref25_Latitude a0 a1 W)
 have HB := Lib.hid (fun W => ref25_Latitude b0 b1 W)
 have HC := Lib.hid (fun W => ref05_Valid c0 c1 W)
 unfold triB
 generalize latB a0 a1 = p at *
 generalize latB b0 b1 = q at *
 generalize validB c0 c1 = r at *
 refine lay_start ?_
 cases p
 ·simp only [Bool.false_and]
  go_enter Tryz.func7, Tryz.ntmps7
  go_wp2_with (first | (go_at_call 36; first | (with_reducible refine (HA.out _).mono ?_; rintro e w' ⟨rfl, d1, rfl⟩; rw [lay_bw]) | (with_reducible refine (HB.out _).mono ?_; rintro e w' ⟨rfl, d2, rfl⟩; rw [lay_bw])) | (go_at_call 37; refine (HC.out _).mono ?_; rintro e w' ⟨rfl, d3, rfl⟩; rw [lay_bw]))
  go_ret
  exact ⟨rfl, lay_ex _ _⟩
 ·cases q
  ·simp only [Bool.false_and, Bool.and_false]
   go_enter Tryz.func7, Tryz.ntmps7
   go_wp2_with (first | (go_at_call 36; first | (with_reducible refine (HA.out _).mono ?_; rintro e w' ⟨rfl, d1, rfl⟩; rw [lay_bw]) | (with_reducible refine (HB.out _).mono ?_; rintro e w' ⟨rfl, d2, rfl⟩; rw [lay_bw])) | (go_at_call 37; refine (HC.out _).mono ?_; rintro e w' ⟨rfl, d3, rfl⟩; rw [lay_bw]))
   go_ret
   exact ⟨rfl, lay_ex _ _⟩
  ·simp only [Bool.true_and]
   go_enter Tryz.func7, Tryz.ntmps7
   go_wp2_with (first | (go_at_call 36; first | (with_reducible refine (HA.out _).mono ?_; rintro e w' ⟨rfl, d1, rfl⟩; rw [lay_bw]) | (with_reducible refine (HB.out _).mono ?_; rintro e w' ⟨rfl, d2, rfl⟩; rw [lay_bw])) | (go_at_call 37; refine (HC.out _).mono ?_; rintro e w' ⟨rfl, d3, rfl⟩; rw [lay_bw]))
   go_ret
   exact ⟨rfl, lay_ex _ _⟩
theorem cos_SolveBad (a0 a1 b0 b1 c0 c1 : Int) (w : World) (h : triB a0 a1 b0 b1 c0 c1 = false) :
  Calls Tryz.prog 6 #[(.agg #[.int .i64 (a0), .int .i64 (a1), .int .i64 (b0), .int .i64 (b1), .int .i64 (c0), .int .i64 (c1)])] w fun e w' => e = .returned (.tuple #[(.agg #[.int .i64 (0), .int .i64 (0), .int .i64 (0), .int .i64 (0)]), .int .i64 1]) ∧ ∃ d, w' = bw w d := by
 have HA := Lib.hid (fun W => cos_AltitudeBad a0 a1 b0 b1 c0 c1 W h)
 clear h
 refine lay_start ?_
 go_enter Tryz.func6, Tryz.ntmps6
 go_wp2_with (go_at_call 34; refine (HA.out _).mono ?_; rintro e w' ⟨rfl, d1, rfl⟩; rw [lay_bw])
 exact bodyPost_ret (v := .tuple #[(.agg #[.int .i64 (0), .int .i64 (0), .int .i64 (0), .int .i64 (0)]), .int .i64 1]) (by simp [results, Tryz.results6, go_sem]) rfl ⟨rfl, lay_ex _ _⟩
theorem tq_sI0 : sI 0 0 = (0, 0) := by decide +kernel
theorem tq_cI54 : cI 5400000 5400000 = (0, 0) := by decide +kernel
theorem tq_asn0 : asnI 0 = 0 := by
 have h1 := asnI_ge (v := 0) (n := 0) (by decide) (by decide) (by decide +kernel)
 have h2 := asnI_lt (v := 0) (n := 1) (by decide) (by decide) (by rw [b_1]; decide)
 omega
theorem tq_al : alL 0 0 0 0 5400000 5400000 = 0 ∧ alH 0 0 0 0 5400000 5400000 = 0 := by
 have s0 : altS0 0 0 0 0 5400000 5400000 = 0 ∧ altS1 0 0 0 0 5400000 5400000 = 0 := by
  have h1 := congrArg Prod.fst tq_sI0
  have h2 := congrArg Prod.snd tq_sI0
  have h3 := congrArg Prod.fst tq_cI54
  have h4 := congrArg Prod.snd tq_cI54
  have k1 : encL 0 0 = 0 := h1
  have k2 : encH 0 0 = 0 := h2
  have k3 : cosL 5400000 5400000 = 0 := h3
  have k4 : cosH 5400000 5400000 = 0 := h4
  have z1 : ∀ a b, mulL 0 0 a b = 0 ∧ mulH 0 0 a b = 0 := fun a b => by unfold mulL mulH m4 x4; simp [mn, mx]
  have z2 : ∀ a b, mulL a b 0 0 = 0 ∧ mulH a b 0 0 = 0 := fun a b => by unfold mulL mulH m4 x4; simp [mn, mx]
  unfold altS0 altS1 ssL ssH c3L c3H
  rw [k1, k2, k3, k4, (z1 _ _).1, (z1 _ _).2, (z2 _ _).1, (z2 _ _).2]
  exact ⟨rfl, rfl⟩
 have e0 : asE 0 0 = 0 := by rw [asE_at]; decide +kernel
 unfold alL alH asL asH
 rw [s0.1, s0.2, if_pos e0, if_pos e0]
 have m1 : mx 0 (-1073741824) = 0 := by decide
 have m2 : mn 0 1073741824 = 0 := by decide
 rw [m1, m2]
 simp [tq_asn0]
theorem tq_quarter (w : World) : ∃ u v : Int, Calls Tryz.prog 6 #[(.agg #[.int .i64 (0), .int .i64 (0), .int .i64 (0), .int .i64 (0), .int .i64 (5400000), .int .i64 (5400000)])] w fun e w' => e = .returned (.tuple #[(.agg #[.int .i64 (0), .int .i64 (0), .int .i64 (u), .int .i64 (v)]), .int .i64 0]) ∧ ∃ d, w' = bw w d := by
 have h := cos_Solve 0 0 0 0 5400000 5400000 w (by decide +kernel)
 rw [tq_al.1, tq_al.2] at h
 exact ⟨_, _, h⟩
end Go.Proofs.YtcbicpbbjbkiaaaGreatDoor
namespace Go.Proofs.YtcbicpbbjbkiaaaGreatDoor
open Go.RowKit

theorem LogP.on {w : World} {g b : Nat} {v : Value} {l : List RcC} {B : List (Obj ⊕ Ext)} (h : LogP (Go.Proofs.YtcbicpbbjbkiaaaGreatDoor.lay w B) g b v l) (A : List (Obj ⊕ Ext)) : LogP (Go.Proofs.YtcbicpbbjbkiaaaGreatDoor.lay w (A ++ B)) g b v l := by
 rw [lay_appG]; exact h.lay A
def exS : ByteArray := ⟨#[49, 45, 48, 48, 46, 49, 32, 46, 46, 32, 49, 45, 48, 48, 46, 50]⟩
theorem ex_prn : strB (prnL 60149 60151) = exS := by
 have h : prnL 60149 60151 = exS.data.toList := by decide +kernel
 rw [h]; rfl
theorem ex_date : dateB ((2024 : Nat) : Int) ((2 : Nat) : Int) ((29 : Nat) : Int) = true := by decide +kernel
theorem ex_num : -300000 ≤ numI ((2024 : Nat) : Int) ((2 : Nat) : Int) ((29 : Nat) : Int) ∧ numI ((2024 : Nat) : Int) ((2 : Nat) : Int) ((29 : Nat) : Int) ≤ 300000 := by decide +kernel
theorem ex_pre : Lib.hasPrefix (strB (pagL 2024 2 29)).data.toList [112, 97, 103, 101, 32, 50, 48, 50, 52, 45, 48, 50, 45, 50, 57] = true := by
 rw [strB_list]
 decide +kernel
theorem ex_new (w : World) : Calls Tryz.prog 14 #[.slice none 0 0, .slice none 0 0] w fun e w' => ∃ bk, e = .returned (.tuple #[.pointer (some ⟨bk, 0, none⟩), .int .i64 0]) ∧ ∃ d, w' = bw w d := by
 refine (alm_New_nil3 (.slice none 0 0) [] w (SlG.nil _ _) (catB_iff.2 ⟨by decide, fun i x h => by simp at h⟩) rfl).mono ?_
 rintro e w' ⟨bk, vs, d, rfl, rfl, -⟩
 exact ⟨bk, rfl, d, rfl⟩
set_option maxHeartbeats 4000000 in
set_option maxRecDepth 100000 in
theorem rec_awake (w : World) (hT : TpW w) : Calls Tryz.prog 4 #[] w fun e w' => e = .returned (.bool true) ∧ ∃ d, w' = bw w d := by
 have HT := Lib.hid hT
 have HP := Lib.hid (fun W (h : TpW W) => tp_Print 60149 60151 (by decide) (by decide) (by decide) W h)
 rw [ex_prn] at HP
 unfold exS at HP
 have HN := Lib.hid (fun W => ex_new W)
 have HL := Lib.hid (fun b W => lg_New0 b W)
 have HF := Lib.hid (fun W => jn_Format W)
 clear hT
 refine lay_start ?_
 go_enter Tryz.func4, Tryz.ntmps4
 go_wp2_with fail
 refine (HP.out _ (HT.out.lay _)).mono ?_
 rintro e w' ⟨rfl, d1, rfl⟩
 rw [lay_bw]
 go_wp2_with fail
 refine (HN.out _).mono ?_
 rintro e w' ⟨bk, rfl, d2, rfl⟩
 rw [lay_bw]
 go_wp2_with fail
 refine (HL.out bk _).mono ?_
 rintro e w1 ⟨g, rfl, hg, hblk, d0, hw1⟩
 have HW : Hid (w.heap.size ≤ g ∧ LogP w1 g bk (.slice none 0 0) [] ∧ ∃ d, w1 = bw w d) := Lib.hid ⟨Nat.le_trans (lay_extends w [.inr d2, .inr d1]).size hg, ⟨hblk, SlG.nil _ _⟩, by rw [hw1, lay_bw]; exact lay_ex w _⟩
 clear hg hblk hw1
 rw [show w1 = lay w1 [] from rfl]
 go_wp2_with (go_at_call 16; refine (HF.out _).mono ?_; rintro e w' ⟨rfl, dF, rfl⟩; rw [lay_bw])
 have HAd := Lib.hid (fun L => lg_Add_x g bk (lay w1 L) (HW.out.2.1.lay L))
 unfold notV notC at HAd
 refine (HAd.out _).mono ?_
 rintro e w' ⟨rfl, v, d3, rfl, hv⟩
 have hgl := HW.out.2.1.lt
 rw [lay_setOld hgl] at hv ⊢
 have hp := posn_set w1 ⟨g, 3, none⟩ v
 obtain ⟨w2, hw2⟩ : ∃ w2, w2 = w1.setCell ⟨g, 3, none⟩ v := ⟨_, rfl⟩
 have HB2 : Hid (∃ d, w2 = bw w d) := Lib.hid (by
  obtain ⟨d, hd⟩ := HW.out.2.2
  obtain ⟨e, he⟩ := bw_set (W0 := w) (d := d) (b := g) (i := 3) (v := v) HW.out.1
  exact ⟨e, by rw [hw2, hd, he]⟩)
 have HL2 : Hid (LogP (lay w2 [.inr d3, .inl (.cells #[.slice none 0 0, .int .i64 0, .int .i64 (-1)] 70 (0, 0)), .inr dF]) g bk v [notX]) := Lib.hid (by
  refine logP_set (w1 := lay w1 [.inl (.cells #[.slice none 0 0, .int .i64 0, .int .i64 (-1)] 70 (0, 0)), .inr dF]) (d := d3) (HW.out.2.1.lay _) ?_ ((show OwG rR (lay w2 [.inr d3, .inl (.cells #[.slice none 0 0, .int .i64 0, .int .i64 (-1)] 70 (0, 0)), .inr dF]) _ v [notX] from by rw [hw2]; exact hv).sl rOk)
  rw [lay_setOld hgl, hw2, lay_bw])
 have HT2 : Hid (TpW w2) := Lib.hid (by obtain ⟨d, hd⟩ := HB2.out; rw [hd]; exact HT.out.bw d)
 rw [← hw2] at hp ⊢
 rw [hp]
 clear hv hp hw2 HAd hgl
 rw [lay_bw]
 go_wp2_with fail
 refine (lg_Save_x g bk v _ HL2.out).mono ?_
 rintro e w' ⟨u, d4, rfl, rfl, hu⟩
 obtain ⟨ua, uc, rfl⟩ := hu.form
 rw [nxF_len] at hu ⊢
 have HU := Lib.hid hu
 clear hu
 rw [lay_bw]
 go_wp2_with fail
 have hu2 := owG_swap (W2 := lay w2 [.inr d3, .inl (.cells #[.slice ua 28 uc, .int .i64 28, .int .i64 (-1)] 70 (0, 0)), .inr dF]) HU.out (Nat.le_refl _) (size_shp rfl)
 have HLo := Lib.hid (lg_Load_x bk (.slice ua 28 uc) (lay w2 [.inr d4, .inr d3, .inl (.cells #[.slice ua 28 uc, .int .i64 28, .int .i64 (-1)] 70 (0, 0)), .inr dF]) (hu2.sl bOk) (fun k hk => (hu2.1.lt k hk).2))
 clear hu2
 refine HLo.out.mono ?_
 rintro e w' ⟨g2, v2, rfl, -, hL3, d5, rfl⟩
 rw [lay_bw] at hL3 ⊢
 have HL3 := Lib.hid hL3
 clear hL3 HLo
 go_wp2_with fail
 refine (page_Text0 2024 2 29 ex_date ex_num _ (HT2.out.lay _)).mono ?_
 rintro e w' ⟨rfl, d6, rfl⟩
 rw [lay_bw]
 have HPre := Lib.hid ex_pre
 obtain ⟨T, hTT⟩ : ∃ T, T = strB (pagL 2024 2 29) := ⟨_, rfl⟩
 rw [← hTT] at HPre ⊢
 clear hTT
 go_wp2_with fail
 obtain ⟨z0, z1, hz⟩ := tq_quarter (lay w2 (.inr d6 :: .inr d5 :: [.inr d4, .inr d3, .inl (.cells #[.slice ua 28 uc, .int .i64 28, .int .i64 (-1)] 70 (0, 0)), .inr dF]))
 refine hz.mono ?_
 rintro e w' ⟨rfl, d7, rfl⟩
 rw [lay_bw]
 go_wp2_with fail
 refine (lg_Records_x g2 bk v2 _ (HL3.out.on [.inl _, .inr d7, .inr d6])).mono ?_
 rintro e w' ⟨ra, rc, d8, rfl, rfl⟩
 rw [lay_bw]
 go_wp2_with (go_at_call 22; refine (Tryz.strings_HasPrefix _ _ _).mono ?_; rintro e w' ⟨rfl, rfl⟩; rw [HPre.out])
 refine bodyPost_ret (v := .bool true) (by simp [results, Tryz.results4, go_sem]) rfl ⟨rfl, ?_⟩
 obtain ⟨e1, h1⟩ := HB2.out
 obtain ⟨e2, h2⟩ := lay_ex w2 (.inr d8 :: _)
 exact ⟨_, h2.trans (by rw [h1]; exact bw_bw _ _ _)⟩
end Go.Proofs.YtcbicpbbjbkiaaaGreatDoor
