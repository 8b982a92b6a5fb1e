/- Contracts and plain laws, several texts in one: FbE; Fc1 -/
import Derived.Test.YtkhhdpndcidmgaaGreatProg
import Derived.WalkKit
import Derived.WalkSpells
import Derived.WalkLawsBesides
import Derived.Lib.Hide
import Derived.BigQuiet
import Derived.Test.YtkhhdpndcidmgaaGreatTAE
import Derived.Test.YtkhhdpndcidmgaaGreatTAF
import Derived.Test.YtkhhdpndcidmgaaGreatTAI
import Derived.Test.YtkhhdpndcidmgaaGreatTBE
import Derived.Test.YtkhhdpndcidmgaaGreatTBF
import Derived.Test.YtkhhdpndcidmgaaGreatTBQ
import Derived.Test.YtkhhdpndcidmgaaGreatTBS
import Derived.Test.YtkhhdpndcidmgaaGreatTBT
import Derived.Test.YtkhhdpndcidmgaaGreatTBU
/- arctrig: Bearing, as a function. -/
namespace Go.Proofs.YtkhhdpndcidmgaaGreat
open Go.RowKit

set_option maxHeartbeats 4000000 in
set_option maxRecDepth 100000 in
theorem ar_BearO (y0 y1 x0 x1 : Int) (hy : fxB y0 y1 = true) (hx : fxB x0 x1 = true) (n1 : x0 ≤ 0) (n2 : 0 ≤ x1) (n3 : y0 ≤ 0) (n4 : 0 ≤ y1) (w : World) :
    Calls Tryz.prog 31 #[(.agg #[.int .i64 (y0), .int .i64 (y1)]), (.agg #[.int .i64 (x0), .int .i64 (x1)])] w fun e w' => e = .returned (.tuple #[(.agg #[.int .i64 (0), .int .i64 (21600000)]), .int .i64 0]) ∧ ∃ d, w' = bw w d := by
  have HV1 := Lib.hid (fun W => fx_ValidG x0 x1 W)
  have HV2 := Lib.hid (fun W => fx_ValidG y0 y1 W)
  rw [hx] at HV1
  rw [hy] at HV2
  clear hx hy
  refine lay_start ?_
  go_enter Tryz.func31, Tryz.ntmps31
  go_wp2_with (go_at_call 71; first | ((with_reducible refine (HV1.out _).mono ?_); rintro e w' ⟨rfl, d1, rfl⟩; rw [lay_bw]) | ((with_reducible refine (HV2.out _).mono ?_); rintro e w' ⟨rfl, d2, rfl⟩; rw [lay_bw]))
  exact bodyPost_ret (v := .tuple #[(.agg #[.int .i64 (0), .int .i64 (21600000)]), .int .i64 0]) (by simp [results, Tryz.results31, go_sem]) rfl ⟨rfl, lay_ex _ _⟩
theorem ar_BearG (y0 y1 x0 x1 : Int) (hy : fxB y0 y1 = true) (hx : fxB x0 x1 = true) (w : World) :
    Calls Tryz.prog 31 #[(.agg #[.int .i64 (y0), .int .i64 (y1)]), (.agg #[.int .i64 (x0), .int .i64 (x1)])] w fun e w' => e = .returned (.tuple #[(.agg #[.int .i64 ((brF x0 x1 y0 y1).1), .int .i64 ((brF x0 x1 y0 y1).2)]), .int .i64 0]) ∧ ∃ d, w' = bw w d := by
  by_cases n1 : x0 ≤ 0
  · by_cases n2 : 0 ≤ x1
    · by_cases n3 : y0 ≤ 0
      · by_cases n4 : 0 ≤ y1
        · have e : brF x0 x1 y0 y1 = (0, 21600000) := if_pos ⟨n1, n2, n3, n4⟩
          rw [e]
          exact ar_BearO y0 y1 x0 x1 hy hx n1 n2 n3 n4 w
        · refine (ar_BearD y0 y1 x0 x1 hy hx n1 n2 n3 n4 w).mono ?_
          rintro e w' ⟨m0, m1, rfl, h, d⟩; rw [h]; exact ⟨rfl, d⟩
      · refine (ar_BearC y0 y1 x0 x1 hy hx n1 n2 n3 w).mono ?_
        rintro e w' ⟨m0, m1, rfl, h, d⟩; rw [h]; exact ⟨rfl, d⟩
    · refine (ar_BearB y0 y1 x0 x1 hy hx n1 n2 w).mono ?_
      rintro e w' ⟨m0, m1, rfl, h, d⟩; rw [h]; exact ⟨rfl, d⟩
  · refine (ar_BearA y0 y1 x0 x1 hy hx n1 w).mono ?_
    rintro e w' ⟨m0, m1, rfl, h, d⟩; rw [h]; exact ⟨rfl, d⟩
end Go.Proofs.YtkhhdpndcidmgaaGreat
/- cosine: neg, sub, azimuth, Azimuth, Solve. -/
namespace Go.Proofs.YtkhhdpndcidmgaaGreat
set_option maxRecDepth 100000
open Go.RowKit

theorem fx_NegG (a0 a1 : Int) (w : World) (ha : fxB a0 a1 = true) :
    Calls Tryz.prog 148 #[(.agg #[.int .i64 (a0), .int .i64 (a1)])] w fun e w' => e = .returned (.tuple #[(.agg #[.int .i64 (-a1), .int .i64 (-a0)]), .int .i64 0]) ∧ ∃ d, w' = bw w d := by
  have HB := Lib.hid (fun W => fx_ValidG a0 a1 W)
  rw [ha] at HB
  have hfa := fxB_iff.1 ha
  have k1 : IntKind.i64.wrap (-a1) = -a1 := IntWalk.i64_in _ (by omega)
  have k2 : IntKind.i64.wrap (-a0) = -a0 := IntWalk.i64_in _ (by omega)
  clear hfa ha
  refine lay_start ?_
  go_enter Tryz.func148, Tryz.ntmps148
  go_wp2_with (first | (go_at_call 71; refine (HB.out _).mono ?_; rintro e w' ⟨rfl, d, rfl⟩))
  exact bodyPost_ret (v := .tuple #[(.agg #[.int .i64 (-a1), .int .i64 (-a0)]), .int .i64 0]) (by simp [results, Tryz.results148, go_sem]) rfl ⟨rfl, lay_ex _ _⟩
theorem cc_sub (b : Nat) (a0 a1 b0 b1 : Int) (w : World) (hc : ChW b w) (ha : fxB a0 a1 = true) (hb : fxB b0 b1 = true) (hm : fxB (a0 - b1) (a1 - b0) = true) :
    Calls Tryz.prog 114 #[.pointer (some ⟨b, 0, none⟩), (.agg #[.int .i64 (a0), .int .i64 (a1)]), (.agg #[.int .i64 (b0), .int .i64 (b1)])] w fun e w' => e = .returned (.agg #[.int .i64 (a0 - b1), .int .i64 (a1 - b0)]) ∧ ∃ d, w' = bw w d := by
  have HK := Lib.hid (fun L => cc_keep b (a0 - b1) (a1 - b0) (lay w L) (hc.lay L))
  have HT := Lib.hid (fun W => fx_SubG a0 a1 b0 b1 W ha hb hm)
  generalize a0 - b1 = p at *
  generalize a1 - b0 = q at *
  clear hc ha hb hm
  refine lay_start ?_
  go_enter Tryz.func114, Tryz.ntmps114
  go_wp2_with (first | (go_at_call 30; refine (HT.out _).mono ?_; rintro e w' ⟨rfl, d, rfl⟩; rw [lay_bw]) | (go_at_call 144; refine (HK.out _).mono ?_; rintro e w' ⟨rfl, d2, rfl⟩))
  exact bodyPost_ret (v := (.agg #[.int .i64 (p), .int .i64 (q)])) (by simp [results, Tryz.results114, go_sem]) rfl ⟨rfl, lay_ex _ _⟩
theorem cc_neg (b : Nat) (a0 a1 : Int) (w : World) (hc : ChW b w) (ha : fxB a0 a1 = true) :
    Calls Tryz.prog 113 #[.pointer (some ⟨b, 0, none⟩), (.agg #[.int .i64 (a0), .int .i64 (a1)])] w fun e w' => e = .returned (.agg #[.int .i64 (-a1), .int .i64 (-a0)]) ∧ ∃ d, w' = bw w d := by
  have HK := Lib.hid (fun L => cc_keep b (-a1) (-a0) (lay w L) (hc.lay L))
  have HT := Lib.hid (fun W => fx_NegG a0 a1 W ha)
  generalize -a1 = p at *
  generalize -a0 = q at *
  clear hc ha
  refine lay_start ?_
  go_enter Tryz.func113, Tryz.ntmps113
  go_wp2_with (first | (go_at_call 148; refine (HT.out _).mono ?_; rintro e w' ⟨rfl, d, rfl⟩; rw [lay_bw]) | (go_at_call 144; refine (HK.out _).mono ?_; rintro e w' ⟨rfl, d2, rfl⟩))
  exact bodyPost_ret (v := (.agg #[.int .i64 (p), .int .i64 (q)])) (by simp [results, Tryz.results113, go_sem]) rfl ⟨rfl, lay_ex _ _⟩
def mL (p q : Int × Int) : Int × Int := (mulL p.1 p.2 q.1 q.2, mulH p.1 p.2 q.1 q.2)
def UnI (p : Int × Int) : Prop := -1073741824 ≤ p.1 ∧ p.1 ≤ p.2 ∧ p.2 ≤ 1073741824
theorem UnI.mul {p q : Int × Int} (h : UnI p) (k : UnI q) : UnI (mL p q) := mul_unit h.1 h.2.1 h.2.2 k.1 k.2.1 k.2.2
theorem UnI.fx {p : Int × Int} (h : UnI p) : fxB p.1 p.2 = true := unit_fx h
def sI (a b : Int) : Int × Int := (encL a b, encH a b)
def cI (a b : Int) : Int × Int := (cosL a b, cosH a b)
theorem sI_un (a b : Int) : UnI (sI a b) := enc_in
theorem cI_un (a b : Int) : UnI (cI a b) := cos_in2 a b
def azY (b0 b1 c0 c1 : Int) : Int × Int := (-(mL (cI b0 b1) (sI c0 c1)).2, -(mL (cI b0 b1) (sI c0 c1)).1)
def azX (a0 a1 b0 b1 c0 c1 : Int) : Int × Int := ((mL (sI b0 b1) (cI a0 a1)).1 - (mL (mL (cI b0 b1) (cI c0 c1)) (sI a0 a1)).2, (mL (sI b0 b1) (cI a0 a1)).2 - (mL (mL (cI b0 b1) (cI c0 c1)) (sI a0 a1)).1)
def azF (a0 a1 b0 b1 c0 c1 : Int) : Int × Int := brF (azX a0 a1 b0 b1 c0 c1).1 (azX a0 a1 b0 b1 c0 c1).2 (azY b0 b1 c0 c1).1 (azY b0 b1 c0 c1).2
set_option maxHeartbeats 2000000 in
theorem cos_azimuth (a0 a1 b0 b1 c0 c1 : Int) (w : World) (va : validB a0 a1 = true) (vb : validB b0 b1 = true) (vc : validB c0 c1 = true) :
    Calls Tryz.prog 76 #[(.agg #[.int .i64 (a0), .int .i64 (a1), .int .i64 (b0), .int .i64 (b1), .int .i64 (c0), .int .i64 (c1)])] w fun e w' => e = .returned (.tuple #[(.agg #[.int .i64 ((azF a0 a1 b0 b1 c0 c1).1), .int .i64 ((azF a0 a1 b0 b1 c0 c1).2)]), .int .i64 0]) ∧ ∃ d, w' = bw w d := by
  have HO := Lib.hid (fun b W hc => cc_of b a0 a1 b0 b1 c0 c1 W hc va vb vc)
  have u1 := sI_un a0 a1
  have u2 := cI_un a0 a1
  have u3 := sI_un b0 b1
  have u4 := cI_un b0 b1
  have u5 := sI_un c0 c1
  have u6 := cI_un c0 c1
  have m1 := u4.mul u5
  have m2 := u3.mul u2
  have m3 := u4.mul u6
  have m4 := m3.mul u1
  have hy : fxB (azY b0 b1 c0 c1).1 (azY b0 b1 c0 c1).2 = true := by
    obtain ⟨h1, h2, h3⟩ := m1
    unfold azY
    rw [fxB_iff]; dsimp only; omega
  have hx : fxB (azX a0 a1 b0 b1 c0 c1).1 (azX a0 a1 b0 b1 c0 c1).2 = true := by
    obtain ⟨h1, h2, h3⟩ := m2
    obtain ⟨h4, h5, h6⟩ := m4
    unfold azX
    rw [fxB_iff]; dsimp only; omega
  have HM1 : Hid (∀ b W, ChW b W → Calls _ _ #[_, _, _] W fun e w' => e = .returned (.agg #[.int .i64 ((mL (cI b0 b1) (sI c0 c1)).1), .int .i64 ((mL (cI b0 b1) (sI c0 c1)).2)]) ∧ _) := Lib.hid (fun b W hc => cc_mul b (cosL b0 b1) (cosH b0 b1) (encL c0 c1) (encH c0 c1) W hc u4.fx u5.fx m1.fx)
  have HN : Hid (∀ b W, ChW b W → Calls _ _ #[_, _] W fun e w' => e = .returned (.agg #[.int .i64 ((azY b0 b1 c0 c1).1), .int .i64 ((azY b0 b1 c0 c1).2)]) ∧ _) := Lib.hid (fun b W hc => cc_neg b (mL (cI b0 b1) (sI c0 c1)).1 (mL (cI b0 b1) (sI c0 c1)).2 W hc m1.fx)
  have HM2 : Hid (∀ b W, ChW b W → Calls _ _ #[_, _, _] W fun e w' => e = .returned (.agg #[.int .i64 ((mL (sI b0 b1) (cI a0 a1)).1), .int .i64 ((mL (sI b0 b1) (cI a0 a1)).2)]) ∧ _) := Lib.hid (fun b W hc => cc_mul b (encL b0 b1) (encH b0 b1) (cosL a0 a1) (cosH a0 a1) W hc u3.fx u2.fx m2.fx)
  have HM3 : Hid (∀ b W, ChW b W → Calls _ _ #[_, _, _] W fun e w' => e = .returned (.agg #[.int .i64 ((mL (cI b0 b1) (cI c0 c1)).1), .int .i64 ((mL (cI b0 b1) (cI c0 c1)).2)]) ∧ _) := Lib.hid (fun b W hc => cc_mul b (cosL b0 b1) (cosH b0 b1) (cosL c0 c1) (cosH c0 c1) W hc u4.fx u6.fx m3.fx)
  have HM4 : Hid (∀ b W, ChW b W → Calls _ _ #[_, _, _] W fun e w' => e = .returned (.agg #[.int .i64 ((mL (mL (cI b0 b1) (cI c0 c1)) (sI a0 a1)).1), .int .i64 ((mL (mL (cI b0 b1) (cI c0 c1)) (sI a0 a1)).2)]) ∧ _) := Lib.hid (fun b W hc => cc_mul b (mL (cI b0 b1) (cI c0 c1)).1 (mL (cI b0 b1) (cI c0 c1)).2 (encL a0 a1) (encH a0 a1) W hc m3.fx u1.fx m4.fx)
  have HD : Hid (∀ b W, ChW b W → Calls _ _ #[_, _, _] W fun e w' => e = .returned (.agg #[.int .i64 ((azX a0 a1 b0 b1 c0 c1).1), .int .i64 ((azX a0 a1 b0 b1 c0 c1).2)]) ∧ _) := Lib.hid (fun b W hc => cc_sub b (mL (sI b0 b1) (cI a0 a1)).1 (mL (sI b0 b1) (cI a0 a1)).2 (mL (mL (cI b0 b1) (cI c0 c1)) (sI a0 a1)).1 (mL (mL (cI b0 b1) (cI c0 c1)) (sI a0 a1)).2 W hc m2.fx m4.fx hx)
  have HB : Hid (∀ W, Calls _ _ #[_, _] W fun e w' => e = .returned (.tuple #[(.agg #[.int .i64 ((azF a0 a1 b0 b1 c0 c1).1), .int .i64 ((azF a0 a1 b0 b1 c0 c1).2)]), .int .i64 0]) ∧ _) := Lib.hid (fun W => ar_BearG (azY b0 b1 c0 c1).1 (azY b0 b1 c0 c1).2 (azX a0 a1 b0 b1 c0 c1).1 (azX a0 a1 b0 b1 c0 c1).2 hy hx W)
  clear hy hx u1 u2 u3 u4 u5 u6 m1 m2 m3 m4
  generalize (azF a0 a1 b0 b1 c0 c1).1 = u at *
  generalize (azF a0 a1 b0 b1 c0 c1).2 = v at *
  generalize (azX a0 a1 b0 b1 c0 c1).1 = x0 at *
  generalize (azX a0 a1 b0 b1 c0 c1).2 = x1 at *
  generalize (azY b0 b1 c0 c1).1 = y0 at *
  generalize (azY b0 b1 c0 c1).2 = y1 at *
  generalize (mL (mL (cI b0 b1) (cI c0 c1)) (sI a0 a1)).1 = g0 at *
  generalize (mL (mL (cI b0 b1) (cI c0 c1)) (sI a0 a1)).2 = g1 at *
  generalize (mL (cI b0 b1) (cI c0 c1)).1 = h0 at *
  generalize (mL (cI b0 b1) (cI c0 c1)).2 = h1 at *
  generalize (mL (sI b0 b1) (cI a0 a1)).1 = z0 at *
  generalize (mL (sI b0 b1) (cI a0 a1)).2 = z1 at *
  generalize (mL (cI b0 b1) (sI c0 c1)).1 = s0 at *
  generalize (mL (cI b0 b1) (sI c0 c1)).2 = s1 at *
  generalize encL a0 a1 = p1 at *
  generalize encH a0 a1 = q1 at *
  generalize encL b0 b1 = p2 at *
  generalize encH b0 b1 = q2 at *
  generalize encL c0 c1 = p3 at *
  generalize encH c0 c1 = q3 at *
  generalize cosL a0 a1 = r1 at *
  generalize cosH a0 a1 = t1 at *
  generalize cosL b0 b1 = r2 at *
  generalize cosH b0 b1 = t2 at *
  generalize cosL c0 c1 = r3 at *
  generalize cosH c0 c1 = t3 at *
  clear va vb vc
  refine lay_start ?_
  go_enter Tryz.func76, Tryz.ntmps76
  go_wp2_with fail
  have hch : ChW (posn w [1, 1]) (lay w [.inl (Obj.cells #[.int .i64 0] 145), .inl (Obj.cells #[.int .i64 0, .int .i64 0] 23), .inl (Obj.cells #[.int .i64 a0, .int .i64 a1, .int .i64 b0, .int .i64 b1, .int .i64 c0, .int .i64 c1] 25)]) := chW_new w _ _ _ rfl
  refine (HO.out _ _ hch).mono ?_
  rintro e w' ⟨rfl, d1, rfl⟩
  rw [lay_bw]
  have hc1 := hch.on [.inl (Obj.cells #[.int .i64 p1, .int .i64 q1, .int .i64 r1, .int .i64 t1, .int .i64 p2, .int .i64 q2, .int .i64 r2, .int .i64 t2, .int .i64 p3, .int .i64 q3, .int .i64 r3, .int .i64 t3] 147), .inr d1]
  simp only [List.cons_append, List.nil_append] at hc1
  go_wp2_with fail
  refine (HM1.out _ _ hc1).mono ?_
  rintro e w' ⟨rfl, d2, rfl⟩
  rw [lay_bw]
  have hc2 := hc1.on [.inr d2]
  simp only [List.cons_append, List.nil_append] at hc2
  go_wp2_with fail
  refine (HN.out _ _ hc2).mono ?_
  rintro e w' ⟨rfl, d3, rfl⟩
  rw [lay_bw]
  go_wp2_with fail
  have HC := Lib.hid (fun e : Ext => hc2.on [.inr e, .inl (Obj.cells #[.int .i64 y0, .int .i64 y1] 36), .inr d3])
  simp only [List.cons_append, List.nil_append] at HC
  clear hch hc1 hc2
  refine region_mixW [0, 0, 0, 0, 0, 0, 0, 0, 0, 0, 0, 0, 0, 0, 0, 0, 0, 0, 1, 1] (by kernel_rfl) (by kernel_rfl) (by kernel_rfl) ?_
  repeat (first | (refine wpM_quiet (fun K hK => ?_); go_simp; first | (refine hK _ ?_; clear hK K) | (apply Exists.intro; refine ⟨fun _ => ?_, hK _ ?_⟩; (first | (go_at_call 111; first | ((with_reducible refine bq (HM2.out _ _ (HC.out _)) ?_); first | exact (fun d => ⟨d, rfl⟩) | exact (fun d => lay_join _ _ _ d)) | ((with_reducible refine bq (HM3.out _ _ (HC.out _)) ?_); first | exact (fun d => ⟨d, rfl⟩) | exact (fun d => lay_join _ _ _ d)) | ((with_reducible refine bq (HM4.out _ _ (HC.out _)) ?_); first | exact (fun d => ⟨d, rfl⟩) | exact (fun d => lay_join _ _ _ d))) | (go_at_call 114; (with_reducible refine bq (HD.out _ _ (HC.out _)) ?_); first | exact (fun d => ⟨d, rfl⟩) | exact (fun d => lay_join _ _ _ d))); clear hK K)) | (refine wpM_special (fun K hK d => ?_); go_simp; refine hK _ _ (by first | exact lay_in w [_] _ | exact lay_in w [_, _] _ | exact lay_in w [_, _, _] _ | exact lay_in w [_, _, _, _] _ | exact lay_in w [_, _, _, _, _] _ | exact lay_in w [_, _, _, _, _, _] _) ?_; clear hK K))
  refine wpM_nil ?_
  intro d
  rw [lay_bw]
  go_wp2_with (go_at_call 31; refine (HB.out _).mono ?_; rintro e w' ⟨rfl, d3, rfl⟩; rw [lay_bw])
  exact bodyPost_ret (v := .tuple #[(.agg #[.int .i64 (u), .int .i64 (v)]), .int .i64 0]) (by simp [results, Tryz.results76, go_sem]) rfl ⟨rfl, lay_ex _ _⟩
end Go.Proofs.YtkhhdpndcidmgaaGreat
