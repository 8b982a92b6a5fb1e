/- Contracts and plain laws, several texts in one: FbE; Fc1; Row; APlain -/
import Derived.Test.YtjfpgpipbooilaaGreatProg
import Derived.WalkKit
import Derived.WalkSpells
import Derived.WalkLawsBesides
import Derived.Lib.Hide
import Derived.BigQuiet
import Derived.Deep.Slices
import Derived.Deep.AppendLies
import Derived.Maps.AppendAt
import Derived.Laws.AppendOwnNone
import Derived.Laws.OwnMore
import Derived.WideShapes
import Derived.Lib.SmallJoins
import Derived.Test.YtjfpgpipbooilaaGreatVAA
import Derived.Test.YtjfpgpipbooilaaGreatVAB
import Derived.Test.YtjfpgpipbooilaaGreatVAI
import Derived.Test.YtjfpgpipbooilaaGreatVAK
import Derived.Test.YtjfpgpipbooilaaGreatVAT
import Derived.Test.YtjfpgpipbooilaaGreatVAU
import Derived.Test.YtjfpgpipbooilaaGreatVAV
import Derived.Test.YtjfpgpipbooilaaGreatVAW
/- arctrig: Bearing, as a function. -/
namespace Go.Proofs.YtjfpgpipbooilaaGreat
open Go.RowKit

set_option maxHeartbeats 4000000 in
set_option maxRecDepth 100000 in
theorem ar_BearO (y0 y1 x0 x1 : Int) (hy : fxB y0 y1 = true) (hx : fxB x0 x1 = true) (n1 : x0 ≤ 0) (n2 : 0 ≤ x1) (n3 : y0 ≤ 0) (n4 : 0 ≤ y1) (w : World) :
    Calls Tryz.prog 52 #[(.agg #[.int .i64 (y0), .int .i64 (y1)]), (.agg #[.int .i64 (x0), .int .i64 (x1)])] w fun e w' => e = .returned (.tuple #[(.agg #[.int .i64 (0), .int .i64 (21600000)]), .int .i64 0]) ∧ ∃ d, w' = bw w d := by
  have HV1 := Lib.hid (fun W => fx_ValidG x0 x1 W)
  have HV2 := Lib.hid (fun W => fx_ValidG y0 y1 W)
  rw [hx] at HV1
  rw [hy] at HV2
  clear hx hy
  refine lay_start ?_
  go_enter Tryz.func52, Tryz.ntmps52
  go_wp2_with (go_at_call 97; first | ((with_reducible refine (HV1.out _).mono ?_); rintro e w' ⟨rfl, d1, rfl⟩; rw [lay_bw]) | ((with_reducible refine (HV2.out _).mono ?_); rintro e w' ⟨rfl, d2, rfl⟩; rw [lay_bw]))
  exact bodyPost_ret (v := .tuple #[(.agg #[.int .i64 (0), .int .i64 (21600000)]), .int .i64 0]) (by simp [results, Tryz.results52, go_sem]) rfl ⟨rfl, lay_ex _ _⟩
theorem ar_BearG (y0 y1 x0 x1 : Int) (hy : fxB y0 y1 = true) (hx : fxB x0 x1 = true) (w : World) :
    Calls Tryz.prog 52 #[(.agg #[.int .i64 (y0), .int .i64 (y1)]), (.agg #[.int .i64 (x0), .int .i64 (x1)])] w fun e w' => e = .returned (.tuple #[(.agg #[.int .i64 ((brF x0 x1 y0 y1).1), .int .i64 ((brF x0 x1 y0 y1).2)]), .int .i64 0]) ∧ ∃ d, w' = bw w d := by
  by_cases n1 : x0 ≤ 0
  · by_cases n2 : 0 ≤ x1
    · by_cases n3 : y0 ≤ 0
      · by_cases n4 : 0 ≤ y1
        · have e : brF x0 x1 y0 y1 = (0, 21600000) := if_pos ⟨n1, n2, n3, n4⟩
          rw [e]
          exact ar_BearO y0 y1 x0 x1 hy hx n1 n2 n3 n4 w
        · refine (ar_BearD y0 y1 x0 x1 hy hx n1 n2 n3 n4 w).mono ?_
          rintro e w' ⟨m0, m1, rfl, h, d⟩; rw [h]; exact ⟨rfl, d⟩
      · refine (ar_BearC y0 y1 x0 x1 hy hx n1 n2 n3 w).mono ?_
        rintro e w' ⟨m0, m1, rfl, h, d⟩; rw [h]; exact ⟨rfl, d⟩
    · refine (ar_BearB y0 y1 x0 x1 hy hx n1 n2 w).mono ?_
      rintro e w' ⟨m0, m1, rfl, h, d⟩; rw [h]; exact ⟨rfl, d⟩
  · refine (ar_BearA y0 y1 x0 x1 hy hx n1 w).mono ?_
    rintro e w' ⟨m0, m1, rfl, h, d⟩; rw [h]; exact ⟨rfl, d⟩
end Go.Proofs.YtjfpgpipbooilaaGreat
/- cosine: neg, sub, azimuth, Azimuth, Solve. -/
namespace Go.Proofs.YtjfpgpipbooilaaGreat
set_option maxRecDepth 100000
open Go.RowKit

theorem fx_NegG (a0 a1 : Int) (w : World) (ha : fxB a0 a1 = true) :
    Calls Tryz.prog 178 #[(.agg #[.int .i64 (a0), .int .i64 (a1)])] w fun e w' => e = .returned (.tuple #[(.agg #[.int .i64 (-a1), .int .i64 (-a0)]), .int .i64 0]) ∧ ∃ d, w' = bw w d := by
  have HB := Lib.hid (fun W => fx_ValidG a0 a1 W)
  rw [ha] at HB
  have hfa := fxB_iff.1 ha
  have k1 : IntKind.i64.wrap (-a1) = -a1 := IntWalk.i64_in _ (by omega)
  have k2 : IntKind.i64.wrap (-a0) = -a0 := IntWalk.i64_in _ (by omega)
  clear hfa ha
  refine lay_start ?_
  go_enter Tryz.func178, Tryz.ntmps178
  go_wp2_with (first | (go_at_call 97; refine (HB.out _).mono ?_; rintro e w' ⟨rfl, d, rfl⟩))
  exact bodyPost_ret (v := .tuple #[(.agg #[.int .i64 (-a1), .int .i64 (-a0)]), .int .i64 0]) (by simp [results, Tryz.results178, go_sem]) rfl ⟨rfl, lay_ex _ _⟩
theorem cc_sub (b : Nat) (a0 a1 b0 b1 : Int) (w : World) (hc : ChW b w) (ha : fxB a0 a1 = true) (hb : fxB b0 b1 = true) (hm : fxB (a0 - b1) (a1 - b0) = true) :
    Calls Tryz.prog 137 #[.pointer (some ⟨b, 0, none⟩), (.agg #[.int .i64 (a0), .int .i64 (a1)]), (.agg #[.int .i64 (b0), .int .i64 (b1)])] w fun e w' => e = .returned (.agg #[.int .i64 (a0 - b1), .int .i64 (a1 - b0)]) ∧ ∃ d, w' = bw w d := by
  have HK := Lib.hid (fun L => cc_keep b (a0 - b1) (a1 - b0) (lay w L) (hc.lay L))
  have HT := Lib.hid (fun W => fx_SubG a0 a1 b0 b1 W ha hb hm)
  generalize a0 - b1 = p at *
  generalize a1 - b0 = q at *
  clear hc ha hb hm
  refine lay_start ?_
  go_enter Tryz.func137, Tryz.ntmps137
  go_wp2_with (first | (go_at_call 51; refine (HT.out _).mono ?_; rintro e w' ⟨rfl, d, rfl⟩; rw [lay_bw]) | (go_at_call 174; refine (HK.out _).mono ?_; rintro e w' ⟨rfl, d2, rfl⟩))
  exact bodyPost_ret (v := (.agg #[.int .i64 (p), .int .i64 (q)])) (by simp [results, Tryz.results137, go_sem]) rfl ⟨rfl, lay_ex _ _⟩
theorem cc_neg (b : Nat) (a0 a1 : Int) (w : World) (hc : ChW b w) (ha : fxB a0 a1 = true) :
    Calls Tryz.prog 136 #[.pointer (some ⟨b, 0, none⟩), (.agg #[.int .i64 (a0), .int .i64 (a1)])] w fun e w' => e = .returned (.agg #[.int .i64 (-a1), .int .i64 (-a0)]) ∧ ∃ d, w' = bw w d := by
  have HK := Lib.hid (fun L => cc_keep b (-a1) (-a0) (lay w L) (hc.lay L))
  have HT := Lib.hid (fun W => fx_NegG a0 a1 W ha)
  generalize -a1 = p at *
  generalize -a0 = q at *
  clear hc ha
  refine lay_start ?_
  go_enter Tryz.func136, Tryz.ntmps136
  go_wp2_with (first | (go_at_call 178; refine (HT.out _).mono ?_; rintro e w' ⟨rfl, d, rfl⟩; rw [lay_bw]) | (go_at_call 174; refine (HK.out _).mono ?_; rintro e w' ⟨rfl, d2, rfl⟩))
  exact bodyPost_ret (v := (.agg #[.int .i64 (p), .int .i64 (q)])) (by simp [results, Tryz.results136, go_sem]) rfl ⟨rfl, lay_ex _ _⟩
def mL (p q : Int × Int) : Int × Int := (mulL p.1 p.2 q.1 q.2, mulH p.1 p.2 q.1 q.2)
def UnI (p : Int × Int) : Prop := -1073741824 ≤ p.1 ∧ p.1 ≤ p.2 ∧ p.2 ≤ 1073741824
theorem UnI.mul {p q : Int × Int} (h : UnI p) (k : UnI q) : UnI (mL p q) := mul_unit h.1 h.2.1 h.2.2 k.1 k.2.1 k.2.2
theorem UnI.fx {p : Int × Int} (h : UnI p) : fxB p.1 p.2 = true := unit_fx h
def sI (a b : Int) : Int × Int := (encL a b, encH a b)
def cI (a b : Int) : Int × Int := (cosL a b, cosH a b)
theorem sI_un (a b : Int) : UnI (sI a b) := enc_in
theorem cI_un (a b : Int) : UnI (cI a b) := cos_in2 a b
def azY (b0 b1 c0 c1 : Int) : Int × Int := (-(mL (cI b0 b1) (sI c0 c1)).2, -(mL (cI b0 b1) (sI c0 c1)).1)
def azX (a0 a1 b0 b1 c0 c1 : Int) : Int × Int := ((mL (sI b0 b1) (cI a0 a1)).1 - (mL (mL (cI b0 b1) (cI c0 c1)) (sI a0 a1)).2, (mL (sI b0 b1) (cI a0 a1)).2 - (mL (mL (cI b0 b1) (cI c0 c1)) (sI a0 a1)).1)
def azF (a0 a1 b0 b1 c0 c1 : Int) : Int × Int := brF (azX a0 a1 b0 b1 c0 c1).1 (azX a0 a1 b0 b1 c0 c1).2 (azY b0 b1 c0 c1).1 (azY b0 b1 c0 c1).2
set_option maxHeartbeats 2000000 in
theorem cos_azimuth (a0 a1 b0 b1 c0 c1 : Int) (w : World) (va : validB a0 a1 = true) (vb : validB b0 b1 = true) (vc : validB c0 c1 = true) :
    Calls Tryz.prog 89 #[(.agg #[.int .i64 (a0), .int .i64 (a1), .int .i64 (b0), .int .i64 (b1), .int .i64 (c0), .int .i64 (c1)])] w fun e w' => e = .returned (.tuple #[(.agg #[.int .i64 ((azF a0 a1 b0 b1 c0 c1).1), .int .i64 ((azF a0 a1 b0 b1 c0 c1).2)]), .int .i64 0]) ∧ ∃ d, w' = bw w d := by
  have HO := Lib.hid (fun b W hc => cc_of b a0 a1 b0 b1 c0 c1 W hc va vb vc)
  have u1 := sI_un a0 a1
  have u2 := cI_un a0 a1
  have u3 := sI_un b0 b1
  have u4 := cI_un b0 b1
  have u5 := sI_un c0 c1
  have u6 := cI_un c0 c1
  have m1 := u4.mul u5
  have m2 := u3.mul u2
  have m3 := u4.mul u6
  have m4 := m3.mul u1
  have hy : fxB (azY b0 b1 c0 c1).1 (azY b0 b1 c0 c1).2 = true := by
    obtain ⟨h1, h2, h3⟩ := m1
    unfold azY
    rw [fxB_iff]; dsimp only; omega
  have hx : fxB (azX a0 a1 b0 b1 c0 c1).1 (azX a0 a1 b0 b1 c0 c1).2 = true := by
    obtain ⟨h1, h2, h3⟩ := m2
    obtain ⟨h4, h5, h6⟩ := m4
    unfold azX
    rw [fxB_iff]; dsimp only; omega
  have HM1 : Hid (∀ b W, ChW b W → Calls _ _ #[_, _, _] W fun e w' => e = .returned (.agg #[.int .i64 ((mL (cI b0 b1) (sI c0 c1)).1), .int .i64 ((mL (cI b0 b1) (sI c0 c1)).2)]) ∧ _) := Lib.hid (fun b W hc => cc_mul b (cosL b0 b1) (cosH b0 b1) (encL c0 c1) (encH c0 c1) W hc u4.fx u5.fx m1.fx)
  have HN : Hid (∀ b W, ChW b W → Calls _ _ #[_, _] W fun e w' => e = .returned (.agg #[.int .i64 ((azY b0 b1 c0 c1).1), .int .i64 ((azY b0 b1 c0 c1).2)]) ∧ _) := Lib.hid (fun b W hc => cc_neg b (mL (cI b0 b1) (sI c0 c1)).1 (mL (cI b0 b1) (sI c0 c1)).2 W hc m1.fx)
  have HM2 : Hid (∀ b W, ChW b W → Calls _ _ #[_, _, _] W fun e w' => e = .returned (.agg #[.int .i64 ((mL (sI b0 b1) (cI a0 a1)).1), .int .i64 ((mL (sI b0 b1) (cI a0 a1)).2)]) ∧ _) := Lib.hid (fun b W hc => cc_mul b (encL b0 b1) (encH b0 b1) (cosL a0 a1) (cosH a0 a1) W hc u3.fx u2.fx m2.fx)
  have HM3 : Hid (∀ b W, ChW b W → Calls _ _ #[_, _, _] W fun e w' => e = .returned (.agg #[.int .i64 ((mL (cI b0 b1) (cI c0 c1)).1), .int .i64 ((mL (cI b0 b1) (cI c0 c1)).2)]) ∧ _) := Lib.hid (fun b W hc => cc_mul b (cosL b0 b1) (cosH b0 b1) (cosL c0 c1) (cosH c0 c1) W hc u4.fx u6.fx m3.fx)
  have HM4 : Hid (∀ b W, ChW b W → Calls _ _ #[_, _, _] W fun e w' => e = .returned (.agg #[.int .i64 ((mL (mL (cI b0 b1) (cI c0 c1)) (sI a0 a1)).1), .int .i64 ((mL (mL (cI b0 b1) (cI c0 c1)) (sI a0 a1)).2)]) ∧ _) := Lib.hid (fun b W hc => cc_mul b (mL (cI b0 b1) (cI c0 c1)).1 (mL (cI b0 b1) (cI c0 c1)).2 (encL a0 a1) (encH a0 a1) W hc m3.fx u1.fx m4.fx)
  have HD : Hid (∀ b W, ChW b W → Calls _ _ #[_, _, _] W fun e w' => e = .returned (.agg #[.int .i64 ((azX a0 a1 b0 b1 c0 c1).1), .int .i64 ((azX a0 a1 b0 b1 c0 c1).2)]) ∧ _) := Lib.hid (fun b W hc => cc_sub b (mL (sI b0 b1) (cI a0 a1)).1 (mL (sI b0 b1) (cI a0 a1)).2 (mL (mL (cI b0 b1) (cI c0 c1)) (sI a0 a1)).1 (mL (mL (cI b0 b1) (cI c0 c1)) (sI a0 a1)).2 W hc m2.fx m4.fx hx)
  have HB : Hid (∀ W, Calls _ _ #[_, _] W fun e w' => e = .returned (.tuple #[(.agg #[.int .i64 ((azF a0 a1 b0 b1 c0 c1).1), .int .i64 ((azF a0 a1 b0 b1 c0 c1).2)]), .int .i64 0]) ∧ _) := Lib.hid (fun W => ar_BearG (azY b0 b1 c0 c1).1 (azY b0 b1 c0 c1).2 (azX a0 a1 b0 b1 c0 c1).1 (azX a0 a1 b0 b1 c0 c1).2 hy hx W)
  clear hy hx u1 u2 u3 u4 u5 u6 m1 m2 m3 m4
  generalize (azF a0 a1 b0 b1 c0 c1).1 = u at *
  generalize (azF a0 a1 b0 b1 c0 c1).2 = v at *
  generalize (azX a0 a1 b0 b1 c0 c1).1 = x0 at *
  generalize (azX a0 a1 b0 b1 c0 c1).2 = x1 at *
  generalize (azY b0 b1 c0 c1).1 = y0 at *
  generalize (azY b0 b1 c0 c1).2 = y1 at *
  generalize (mL (mL (cI b0 b1) (cI c0 c1)) (sI a0 a1)).1 = g0 at *
  generalize (mL (mL (cI b0 b1) (cI c0 c1)) (sI a0 a1)).2 = g1 at *
  generalize (mL (cI b0 b1) (cI c0 c1)).1 = h0 at *
  generalize (mL (cI b0 b1) (cI c0 c1)).2 = h1 at *
  generalize (mL (sI b0 b1) (cI a0 a1)).1 = z0 at *
  generalize (mL (sI b0 b1) (cI a0 a1)).2 = z1 at *
  generalize (mL (cI b0 b1) (sI c0 c1)).1 = s0 at *
  generalize (mL (cI b0 b1) (sI c0 c1)).2 = s1 at *
  generalize encL a0 a1 = p1 at *
  generalize encH a0 a1 = q1 at *
  generalize encL b0 b1 = p2 at *
  generalize encH b0 b1 = q2 at *
  generalize encL c0 c1 = p3 at *
  generalize encH c0 c1 = q3 at *
  generalize cosL a0 a1 = r1 at *
  generalize cosH a0 a1 = t1 at *
  generalize cosL b0 b1 = r2 at *
  generalize cosH b0 b1 = t2 at *
  generalize cosL c0 c1 = r3 at *
  generalize cosH c0 c1 = t3 at *
  clear va vb vc
  refine lay_start ?_
  go_enter Tryz.func89, Tryz.ntmps89
  go_wp2_with fail
  have hch : ChW (posn w [1, 1]) (lay w [.inl (Obj.cells #[.int .i64 0] 168), .inl (Obj.cells #[.int .i64 0, .int .i64 0] 26), .inl (Obj.cells #[.int .i64 a0, .int .i64 a1, .int .i64 b0, .int .i64 b1, .int .i64 c0, .int .i64 c1] 67)]) := chW_new w _ _ _ rfl
  refine (HO.out _ _ hch).mono ?_
  rintro e w' ⟨rfl, d1, rfl⟩
  rw [lay_bw]
  have hc1 := hch.on [.inl (Obj.cells #[.int .i64 p1, .int .i64 q1, .int .i64 r1, .int .i64 t1, .int .i64 p2, .int .i64 q2, .int .i64 r2, .int .i64 t2, .int .i64 p3, .int .i64 q3, .int .i64 r3, .int .i64 t3] 170), .inr d1]
  simp only [List.cons_append, List.nil_append] at hc1
  go_wp2_with fail
  refine (HM1.out _ _ hc1).mono ?_
  rintro e w' ⟨rfl, d2, rfl⟩
  rw [lay_bw]
  have hc2 := hc1.on [.inr d2]
  simp only [List.cons_append, List.nil_append] at hc2
  go_wp2_with fail
  refine (HN.out _ _ hc2).mono ?_
  rintro e w' ⟨rfl, d3, rfl⟩
  rw [lay_bw]
  go_wp2_with fail
  have HC := Lib.hid (fun e : Ext => hc2.on [.inr e, .inl (Obj.cells #[.int .i64 y0, .int .i64 y1] 100), .inr d3])
  simp only [List.cons_append, List.nil_append] at HC
  clear hch hc1 hc2
  refine region_mixW [0, 0, 0, 0, 0, 0, 0, 0, 0, 0, 0, 0, 0, 0, 0, 0, 0, 0, 1, 1] (by kernel_rfl) (by kernel_rfl) (by kernel_rfl) ?_
  repeat (first | (refine wpM_quiet (fun K hK => ?_); go_simp; first | (refine hK _ ?_; clear hK K) | (apply Exists.intro; refine ⟨fun _ => ?_, hK _ ?_⟩; (first | (go_at_call 134; first | ((with_reducible refine bq (HM2.out _ _ (HC.out _)) ?_); first | exact (fun d => ⟨d, rfl⟩) | exact (fun d => lay_join _ _ _ d)) | ((with_reducible refine bq (HM3.out _ _ (HC.out _)) ?_); first | exact (fun d => ⟨d, rfl⟩) | exact (fun d => lay_join _ _ _ d)) | ((with_reducible refine bq (HM4.out _ _ (HC.out _)) ?_); first | exact (fun d => ⟨d, rfl⟩) | exact (fun d => lay_join _ _ _ d))) | (go_at_call 137; (with_reducible refine bq (HD.out _ _ (HC.out _)) ?_); first | exact (fun d => ⟨d, rfl⟩) | exact (fun d => lay_join _ _ _ d))); clear hK K)) | (refine wpM_special (fun K hK d => ?_); go_simp; refine hK _ _ (by first | exact lay_in w [_] _ | exact lay_in w [_, _] _ | exact lay_in w [_, _, _] _ | exact lay_in w [_, _, _, _] _ | exact lay_in w [_, _, _, _, _] _ | exact lay_in w [_, _, _, _, _, _] _) ?_; clear hK K))
  refine wpM_nil ?_
  intro d
  rw [lay_bw]
  go_wp2_with (go_at_call 52; refine (HB.out _).mono ?_; rintro e w' ⟨rfl, d3, rfl⟩; rw [lay_bw])
  exact bodyPost_ret (v := .tuple #[(.agg #[.int .i64 (u), .int .i64 (v)]), .int .i64 0]) (by simp [results, Tryz.results89, go_sem]) rfl ⟨rfl, lay_ex _ _⟩
end Go.Proofs.YtjfpgpipbooilaaGreat
/- Rows of records of k cells: slices that read as a list, rows of the call's own, an append of one record or of a whole slice, a store into a record. No function of the program. -/
namespace Go.Proofs.YtjfpgpipbooilaaGreat
open Go.RowKit

structure RecT (α : Type) where
  E : TypeId
  S : TypeId
  k : Nat
  bytes : Nat
  enc : α → List Value
  wf : α → Prop
structure RecOk {α : Type} (R : RecT α) : Prop where
  len : ∀ x, (R.enc x).length = R.k
  one : ∀ x, ∀ u ∈ R.enc x, u.oneCell' = true
  pos : 0 < R.k
  und : Tryz.prog.underlying R.S = some (.slice R.E)
  info : ∃ i z, Tryz.prog.info? R.E = some i ∧ i.zero = some z ∧ i.size = R.k ∧ i.bytes = R.bytes ∧ z.cells.size = R.k
  small : R.bytes ≤ 1000
variable {α : Type} {R : RecT α}

theorem flat_len (hR : RecOk R) (l : List α) : (l.flatMap R.enc).length = l.length * R.k := by
  induction l with
  | nil => simp
  | cons x l ih => rw [List.flatMap_cons, List.length_append, hR.len, ih, List.length_cons, Nat.succ_mul, Nat.add_comm]
theorem flat_get (hR : RecOk R) : ∀ {l : List α} {i j : Nat} {x : α}, l[i]? = some x → j < R.k → (l.flatMap R.enc)[i * R.k + j]? = (R.enc x)[j]?
  | [], i, j, x, h, _ => by simp at h
  | y :: l, 0, j, x, h, hj => by
    simp only [List.getElem?_cons_zero, Option.some.injEq] at h
    subst h
    rw [List.flatMap_cons, List.getElem?_append_left (by rw [hR.len]; omega)]
    congr 1; omega
  | y :: l, i + 1, j, x, h, hj => by
    rw [List.getElem?_cons_succ] at h
    rw [List.flatMap_cons, List.getElem?_append_right (by rw [hR.len, Nat.succ_mul]; omega), hR.len]
    rw [show (i + 1) * R.k + j - R.k = i * R.k + j by rw [Nat.succ_mul]; omega]
    exact flat_get hR h hj
theorem flat_set (hR : RecOk R) : ∀ {l : List α} {i j : Nat} {x y : α} {u : Value}, l[i]? = some x → j < R.k → R.enc y = (R.enc x).set j u → (l.flatMap R.enc).set (i * R.k + j) u = (l.set i y).flatMap R.enc
  | [], i, j, x, y, u, h, _, _ => by simp at h
  | z :: l, 0, j, x, y, u, h, hj, he => by
    simp only [List.getElem?_cons_zero, Option.some.injEq] at h
    subst h
    rw [List.set_cons_zero, List.flatMap_cons, List.flatMap_cons, List.set_append, if_pos (by rw [hR.len]; omega), he]
    congr 2; omega
  | z :: l, i + 1, j, x, y, u, h, hj, he => by
    rw [List.getElem?_cons_succ] at h
    rw [List.set_cons_succ, List.flatMap_cons, List.flatMap_cons, List.set_append, if_neg (by rw [hR.len, Nat.succ_mul]; omega), hR.len]
    rw [show (i + 1) * R.k + j - R.k = i * R.k + j by rw [Nat.succ_mul]; omega, flat_set hR h hj he]

def SlG (R : RecT α) (w : World) (v : Value) (l : List α) : Prop :=
  ∃ a cap, v = .slice a l.length cap ∧ (l.length ≤ cap ∧ cap ≤ 9223372036854775807) ∧ (∀ x ∈ l, R.wf x) ∧
    (l ≠ [] → ∃ b o, a = some ⟨b, o, none⟩ ∧ b < w.heap.size ∧ ∀ (i : Nat) x, l[i]? = some x → ∀ (j : Nat) u, (R.enc x)[j]? = some u → w.cell? ⟨b, o + (i * R.k + j), none⟩ = some u)
theorem SlG.ext {w w' : World} {v : Value} {l : List α} (h : SlG R w v l) (hb : Below w.heap.size w w') : SlG R w' v l := by
  obtain ⟨a, cap, h1, h2, h0, h3⟩ := h
  refine ⟨a, cap, h1, h2, h0, fun hl => ?_⟩
  obtain ⟨b, o, h4, h5, h6⟩ := h3 hl
  exact ⟨b, o, h4, Nat.lt_of_lt_of_le h5 hb.size, fun i x hx j u hu => (hb.cell (p := ⟨b, o + (i * R.k + j), none⟩) h5).trans (h6 i x hx j u hu)⟩
theorem SlG.bw {w : World} {v : Value} {l : List α} (h : SlG R w v l) (d : Ext) : SlG R (bw w d) v l := h.ext (bw_below w d)
theorem SlG.lay {w : World} {v : Value} {l : List α} (h : SlG R w v l) (L : List (Obj ⊕ Ext)) : SlG R (lay w L) v l := h.ext (lay_extends w L)
theorem lay_appG (w : World) (A B : List (Obj ⊕ Ext)) : lay w (A ++ B) = lay (lay w B) A := by
  induction A with
  | nil => rfl
  | cons x A ih =>
    cases x with
    | inl o => exact congrArg (fun W => World.alloc W o) ih
    | inr d => exact congrArg (fun W => Go.Proofs.YtjfpgpipbooilaaGreat.bw W d) ih
theorem lay_belowG {w : World} {A B : List (Obj ⊕ Ext)} : Below (lay w B).heap.size (lay w B) (lay w (A ++ B)) := by rw [lay_appG]; exact lay_extends _ _
theorem slG_on {w : World} {v : Value} {l : List α} {A B : List (Obj ⊕ Ext)} (h : SlG R (lay w B) v l) : SlG R (lay w (A ++ B)) v l := h.ext lay_belowG
theorem SlG.nil (R : RecT α) (w : World) : SlG R w (.slice none 0 0) [] := ⟨none, 0, rfl, by simp, fun _ h => absurd h (List.not_mem_nil), fun h => absurd rfl h⟩
theorem slG_none {w : World} {a : Option Addr} {c : Nat} (hc : c ≤ 9223372036854775807) : SlG R w (.slice a 0 c) [] := ⟨a, c, rfl, ⟨Nat.zero_le _, hc⟩, fun _ h => absurd h (List.not_mem_nil), fun h => absurd rfl h⟩
theorem SlG.open {w : World} {v : Value} {l : List α} (h : SlG R w v l) (hl : 0 < l.length) :
    ∃ b o cap, v = .slice (some ⟨b, o, none⟩) l.length cap ∧ (l.length ≤ cap ∧ cap ≤ 9223372036854775807) ∧ b < w.heap.size ∧ ∀ (i : Nat) x, l[i]? = some x → ∀ (j : Nat) u, (R.enc x)[j]? = some u → w.cell? ⟨b, o + (i * R.k + j), none⟩ = some u := by
  obtain ⟨a, cap, rfl, h2, _, h3⟩ := h
  obtain ⟨b, o, rfl, h5, h6⟩ := h3 (by intro e; rw [e] at hl; exact Nat.lt_irrefl 0 hl)
  exact ⟨b, o, cap, rfl, h2, h5, h6⟩
theorem SlG.wf {w : World} {v : Value} {l : List α} (h : SlG R w v l) : ∀ x ∈ l, R.wf x := by
  obtain ⟨_, _, _, _, h, _⟩ := h; exact h
theorem SlG.form {w : World} {v : Value} {l : List α} (h : SlG R w v l) : ∃ a cap, v = .slice a l.length cap := by
  obtain ⟨a, c, e, _⟩ := h; exact ⟨a, c, e⟩
def OwG (R : RecT α) (w : World) (base : Nat) (v : Value) (l : List α) : Prop :=
  w.ownsRow base R.E R.k v l.length (l.flatMap R.enc) ∧ ∀ x ∈ l, R.wf x
theorem OwG.nil (R : RecT α) (w : World) (base : Nat) : OwG R w base (.slice none 0 0) [] := ⟨World.ownsRow_nil w base _ _, fun _ h => absurd h (List.not_mem_nil)⟩
theorem OwG.form {w : World} {base : Nat} {v : Value} {l : List α} (h : OwG R w base v l) : ∃ a cap, v = .slice a l.length cap := by
  rcases h.1.2 with ⟨rfl, hz⟩ | ⟨g, cap, cur, rfl, _⟩
  · exact ⟨none, 0, by rw [hz]⟩
  · exact ⟨_, cap, rfl⟩
theorem OwG.form1 {w : World} {base : Nat} {v : Value} {l : List α} (h : OwG R w base v l) (hl : 0 < l.length) : ∃ g cap, v = .slice (some ⟨g, 0, none⟩) l.length cap ∧ base ≤ g ∧ g < w.heap.size ∧ l.length ≤ cap ∧ cap ≤ 9223372036854775807 := by
  rcases h.1.2 with ⟨rfl, hz⟩ | ⟨g, cap, cur, rfl, h1, h2, h3, h4, _⟩
  · omega
  · have hM : maxLen = 9223372036854775807 := by decide
    exact ⟨g, cap, rfl, h1, (Array.getElem?_eq_some_iff.1 h2).1, h3, by omega⟩
theorem OwG.cell (hR : RecOk R) {w : World} {base g cap n : Nat} {l : List α} (h : OwG R w base (.slice (some ⟨g, 0, none⟩) n cap) l) {i j : Nat} {x : α} {u : Value} (hx : l[i]? = some x) (hu : (R.enc x)[j]? = some u) : w.cell? ⟨g, i * R.k + j, none⟩ = some u := by
  have hn : n = l.length := by
    obtain ⟨a, c, e⟩ := h.form
    cases e; rfl
  subst hn
  have hi := (List.getElem?_eq_some_iff.1 hx).1
  have hj : j < R.k := by have := (List.getElem?_eq_some_iff.1 hu).1; rw [hR.len] at this; exact this
  rw [h.1.cellAt _ (by have : (i + 1) * R.k ≤ l.length * R.k := Nat.mul_le_mul_right _ hi
                       rw [Nat.succ_mul] at this; omega), flat_get hR hx hj, hu]
theorem OwG.froz {w : World} {base g cap n : Nat} {l : List α} (h : OwG R w base (.slice (some ⟨g, 0, none⟩) n cap) l) (j : Nat) : w.frozen? ⟨g, j, none⟩ = false := by
  have hn : n = l.length := by
    obtain ⟨a, c, e⟩ := h.form
    cases e; rfl
  subst hn
  exact h.1.frozenAt j
theorem OwG.sl (hR : RecOk R) {w : World} {base : Nat} {v : Value} {l : List α} (h : OwG R w base v l) : SlG R w v l := by
  by_cases hl : l = []
  · subst hl
    rcases h.1.2 with ⟨rfl, hz⟩ | ⟨g, cap, cur, rfl, _, _, h3, h4, _⟩
    · exact SlG.nil R w
    · have hM : maxLen = 9223372036854775807 := by decide
      exact ⟨_, cap, rfl, ⟨h3, by omega⟩, h.2, fun hne => absurd rfl hne⟩
  · have hl' : 0 < l.length := List.length_pos_iff.2 hl
    obtain ⟨g, cap, rfl, h1, h2, h3⟩ := h.form1 hl'
    exact ⟨_, cap, rfl, h3, h.2, fun _ => ⟨g, 0, rfl, h2, fun i x hx j u hu => by rw [Nat.zero_add]; exact h.cell hR hx hu⟩⟩
theorem OwG.ext {w w' : World} {base : Nat} {v : Value} {l : List α} (h : OwG R w base v l) (hb : Below w.heap.size w w') : OwG R w' base v l := by
  refine ⟨⟨h.1.1, h.1.2.imp id ?_⟩, h.2⟩
  rintro ⟨g, cap, cur, e, h1, h2, h3⟩
  exact ⟨g, cap, cur, e, h1, (hb.block g (Array.getElem?_eq_some_iff.1 h2).1).trans h2, h3⟩
theorem OwG.lay {w : World} {base : Nat} {v : Value} {l : List α} (h : OwG R w base v l) (L : List (Obj ⊕ Ext)) : OwG R (lay w L) base v l := h.ext (lay_extends w L)
theorem OwG.bw {w : World} {base : Nat} {v : Value} {l : List α} (h : OwG R w base v l) (d : Ext) : OwG R (bw w d) base v l := h.ext (bw_below w d)
theorem OwG.le {w : World} {base base' : Nat} {v : Value} {l : List α} (h : OwG R w base v l) (hb : base' ≤ base) : OwG R w base' v l := ⟨⟨h.1.1, h.1.2.imp id fun ⟨g, cap, cur, e, h1, h2⟩ => ⟨g, cap, cur, e, Nat.le_trans hb h1, h2⟩⟩, h.2⟩
theorem owG_on {w : World} {base : Nat} {v : Value} {l : List α} {A B : List (Obj ⊕ Ext)} (h : OwG R (lay w B) base v l) : OwG R (lay w (A ++ B)) base v l := h.ext lay_belowG

theorem push_rec (hR : RecOk R) {ops : Array Oper} {rest : List Oper} {o : Oper} {a : Act} {Q : Exit → Act → World → Prop} (hgd : o.guard = none) (s x : Operand)
    (ho : o.op = .call { callee := .builtin .append, args := #[s, x], argTypes := #[R.S, R.S] })
    (W0 : World) (wb : World) (c : α) (cs : Array Value) (te : TypeId) (xb : Nat) (v : Value) (l : List α) (hw : Below W0.heap.size W0 wb) (hown : OwG R wb W0.heap.size v l)
    (hcell : wb.heap[xb]? = some (.cells cs te (0, 0))) (hcs : cs.toList = R.enc c) (hs : a.eval s = v) (hx : a.eval x = .slice (some ⟨xb, 0, none⟩) 1 1)
    (hn : l.length ≤ 1000000000) (hc : R.wf c)
    (h : ∀ v' d, OwG R (Go.Proofs.YtjfpgpipbooilaaGreat.bw W0 d) W0.heap.size v' (l ++ [c]) → wpList Tryz.prog ops Q rest (a.put o.dst v') (Go.Proofs.YtjfpgpipbooilaaGreat.bw W0 d)) :
    wpList Tryz.prog ops Q (o :: rest) a wb := by
  obtain ⟨i, z, hi, hz0, hz1, hz2, hz3⟩ := hR.info
  have hM : maxLen = 9223372036854775807 := by decide
  have hb := hR.small
  have hb2 : (l.length + 1) * R.bytes ≤ 1000000001 * 1000 := Nat.mul_le_mul (by omega) hb
  refine wpList_append_lies wb hgd s x R.S ho W0.heap.size R.E i z R.k R.bytes hR.und hi hz0 hz1 hz2 hz3 hR.pos v l.length (l.flatMap R.enc) hs hown.1 ⟨xb, 0, none⟩ 1 1 (R.enc c) hx (by rw [hR.len, Nat.one_mul]) (by rw [← hcs]; exact World.news_of_block hcell) (hR.one c) (by decide) (by omega) (by omega) hw.size wb.heap.size rfl ?_
  intro g cap w' hown' hg hat _
  obtain ⟨d, hd⟩ := bw_of (w := W0) (w' := w') (hw.grown hg hw.size (fun k hk => (hown.1.lt k hk).1))
  subst hd
  refine h _ d ⟨?_, fun y hy => ?_⟩
  · rw [List.flatMap_append, List.length_append]
    simpa using hown'
  · rcases List.mem_append.1 hy with hy | hy
    · exact hown.2 y hy
    · rw [List.mem_singleton.1 hy]; exact hc
theorem push_slG (hR : RecOk R) {ops : Array Oper} {rest : List Oper} {o : Oper} {a : Act} {Q : Exit → Act → World → Prop} (hgd : o.guard = none) (s x : Operand)
    (ho : o.op = .call { callee := .builtin .append, args := #[s, x], argTypes := #[R.S, R.S] })
    (W0 : World) (wb : World) (v1 : Value) (l1 : List α) (A : Option Addr) (n c : Nat) (l2 : List α) (hw : Below W0.heap.size W0 wb) (hown : OwG R wb W0.heap.size v1 l1)
    (hsrc : SlG R wb (.slice A n c) l2) (hA : A = none → c = 0) (hs : a.eval s = v1) (hx : a.eval x = .slice A n c) (hn : l1.length + l2.length ≤ 1000000000)
    (h : ∀ v' d, OwG R (Go.Proofs.YtjfpgpipbooilaaGreat.bw W0 d) W0.heap.size v' (l1 ++ l2) → wpList Tryz.prog ops Q rest (a.put o.dst v') (Go.Proofs.YtjfpgpipbooilaaGreat.bw W0 d)) :
    wpList Tryz.prog ops Q (o :: rest) a wb := by
  obtain ⟨i, z, hi, hz0, hz1, hz2, hz3⟩ := hR.info
  have hM : maxLen = 9223372036854775807 := by decide
  obtain ⟨a', cap', he, hcc, hwf, hcell⟩ := hsrc
  simp only [Value.slice.injEq] at he
  obtain ⟨rfl, rfl, rfl⟩ := he
  cases A with
  | none =>
    obtain rfl := hA rfl
    have hl2 : l2 = [] := by
      rcases List.eq_nil_or_concat l2 with h | ⟨_, _, h⟩
      · exact h
      · have : l2 ≠ [] := by rw [h]; simp
        obtain ⟨_, _, h, _⟩ := hcell this
        cases h
    subst hl2
    obtain ⟨d, rfl⟩ := bw_of hw
    refine wpList_append_own_none hgd s x R.S ho W0.heap.size R.E i R.k hR.und hi v1 l1.length (l1.flatMap R.enc) hs hown.1 hx ?_
    exact h v1 d (by rw [List.append_nil]; exact hown)
  | some ad =>
    have hb2 : (l1.length + l2.length) * R.bytes ≤ 1000000000 * 1000 := Nat.mul_le_mul hn hR.small
    refine wpList_append_own wb hgd s x R.S ho W0.heap.size R.E i z R.k R.bytes hR.und hi hz0 hz1 hz2 hz3 hR.pos v1 l1.length (l1.flatMap R.enc) hs hown.1 ad l2.length c (l2.flatMap R.enc) hx (flat_len hR l2) ?_ ?_ (by omega) (by omega) hw.size ?_
    · intro j u hu
      have hj : j < l2.length * R.k := by have := (List.getElem?_eq_some_iff.1 hu).1; rw [flat_len hR] at this; exact this
      have hne : l2 ≠ [] := by intro e; rw [e] at hj; simp at hj
      obtain ⟨b, o', e, _, hr⟩ := hcell hne
      cases e
      have hq : j / R.k < l2.length := Nat.div_lt_of_lt_mul (by rw [Nat.mul_comm]; exact hj)
      have hm : j % R.k < R.k := Nat.mod_lt _ hR.pos
      have e1 : j = j / R.k * R.k + j % R.k := by rw [Nat.mul_comm]; exact (Nat.div_add_mod j R.k).symm
      have hx' : l2[j / R.k]? = some l2[j / R.k] := List.getElem?_eq_getElem hq
      rw [e1, flat_get hR hx' hm] at hu
      have h3 := hr _ _ hx' _ _ hu
      rw [← e1] at h3
      have hadd : (⟨b, o', none⟩ : Addr).add j = ⟨b, o' + j, none⟩ := by
        unfold Addr.add
        split
        · rename_i h0
          have : j = 0 := by simpa using h0
          subst this; rfl
        · rfl
      rw [hadd]
      exact h3
    · intro u hu
      obtain ⟨y, _, hy⟩ := List.mem_flatMap.1 hu
      exact hR.one y u hy
    · intro v' w' hown' hg _
      obtain ⟨d, hd⟩ := bw_of (w := W0) (w' := w') (hw.grown hg hw.size (fun k hk => (hown.1.lt k hk).1))
      subst hd
      refine h v' d ⟨by rw [List.length_append, List.flatMap_append]; exact hown', fun y hy => ?_⟩
      rcases List.mem_append.1 hy with hy | hy
      · exact hown.2 y hy
      · exact hwf y hy
theorem owG_empty (R : RecT α) {w : World} {L : List (Obj ⊕ Ext)} : OwG R (Go.Proofs.YtjfpgpipbooilaaGreat.lay w (.inl (.cells #[] R.E (0, 0)) :: L)) (Go.Proofs.YtjfpgpipbooilaaGreat.lay w L).heap.size (.slice (some ⟨posn w (shp L), 0, none⟩) 0 0) [] := by
  rw [← lay_size w L]
  exact ⟨World.ownsRow_lit (Go.Proofs.YtjfpgpipbooilaaGreat.lay w L) #[] 0 (Nat.le_refl _) (by decide) (by simp), fun _ h => absurd h (List.not_mem_nil)⟩
theorem owG_lit (hR : RecOk R) {w : World} {L : List (Obj ⊕ Ext)} {cs : Array Value} (l : List α) (hc : cs.toList = l.flatMap R.enc) (hl : l.length ≤ 1000) (hw : ∀ x ∈ l, R.wf x) :
    OwG R (Go.Proofs.YtjfpgpipbooilaaGreat.lay w (.inl (.cells cs R.E (0, 0)) :: L)) (Go.Proofs.YtjfpgpipbooilaaGreat.lay w L).heap.size (.slice (some ⟨posn w (shp L), 0, none⟩) l.length l.length) l := by
  rw [← lay_size w L]
  refine ⟨?_, hw⟩
  have := World.ownsRow_lit (base := (Go.Proofs.YtjfpgpipbooilaaGreat.lay w L).heap.size) (e := R.E) (size := R.k) (Go.Proofs.YtjfpgpipbooilaaGreat.lay w L) cs l.length (Nat.le_refl _) (by unfold maxLen; omega) (by rw [← Array.length_toList, hc, flat_len hR])
  rw [hc] at this
  exact this
theorem owG_store (hR : RecOk R) {w : World} {base g cap n : Nat} {l : List α} (h : OwG R w base (.slice (some ⟨g, 0, none⟩) n cap) l) {i j : Nat} {x y : α} {u : Value} (hx : l[i]? = some x) (hj : j < R.k) (he : R.enc y = (R.enc x).set j u) (hy : R.wf y) :
    OwG R (w.setCell ⟨g, i * R.k + j, none⟩ u) base (.slice (some ⟨g, 0, none⟩) n cap) (l.set i y) := by
  have hn : n = l.length := by
    obtain ⟨a, c, e⟩ := h.form
    cases e; rfl
  subst hn
  refine ⟨by have := (h.1.stored (i * R.k + j) u).1; rw [flat_set hR hx hj he] at this; rw [List.length_set]; exact this, fun z hz => ?_⟩
  rcases List.mem_or_eq_of_mem_set hz with hz | hz
  · exact h.2 z hz
  · rw [hz]; exact hy
theorem bw_storeG {w : World} {d : Ext} {g i : Nat} {v : Value} (hg : w.heap.size ≤ g) : ∃ d', (Go.Proofs.YtjfpgpipbooilaaGreat.bw w d).setCell ⟨g, i, none⟩ v = Go.Proofs.YtjfpgpipbooilaaGreat.bw w d' := by
  refine bw_of ?_
  have h1 := bw_below w d
  refine ⟨h1.1, h1.2, h1.3, ?_, fun k hk => ?_⟩
  · rw [World.size_setCell]; exact h1.size
  · rw [heap_setCell_other _ ⟨g, i, none⟩ k v (by intro e; have : k = g := by simpa using e
                                                  omega)]
    exact h1.block k hk
end Go.Proofs.YtjfpgpipbooilaaGreat
/- Audit, the plain law: steps, differences, possible lists, repairs. No program in sight. -/
namespace Go.Proofs.YtjfpgpipbooilaaGreat
open Go.RowKit

def nth (g : List Int) (i : Nat) : Int := g.getD i 0
end Go.Proofs.YtjfpgpipbooilaaGreat
