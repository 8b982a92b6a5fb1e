/- Contracts and plain laws, several texts in one: CoW; Mde; Wh6; Wh7; Mdf; Nw3; Lwh; Lho; Agr; Stp; Lst; Prt; Hz0; Mk1; Mk2; Mk3; As8 -/
import Derived.Test.YtnnmfdeeicpdlaaGreatProg
import Derived.WalkKit
import Derived.WalkSpells
import Derived.WalkLawsBesides
import Derived.Lib.Hide
import Derived.BigQuiet
import Derived.Test.YtnnmfdeeicpdlaaGreatHAC
import Derived.Test.YtnnmfdeeicpdlaaGreatHAD
import Derived.Test.YtnnmfdeeicpdlaaGreatHAE
import Derived.Test.YtnnmfdeeicpdlaaGreatHAX
import Derived.Test.YtnnmfdeeicpdlaaGreatHBC
import Derived.Test.YtnnmfdeeicpdlaaGreatHBH
import Derived.Test.YtnnmfdeeicpdlaaGreatHBK
import Derived.Test.YtnnmfdeeicpdlaaGreatHBN
import Derived.Test.YtnnmfdeeicpdlaaGreatHBP
/- cosine.Valid, altitude, Altitude. -/
namespace Go.Proofs.YtnnmfdeeicpdlaaGreat
set_option maxRecDepth 100000
open Go.RowKit

theorem cos_latitude (x0 y0 : Int) (w : World) :
    Calls Tryz.prog 172 #[(.agg #[.int .i64 (x0), .int .i64 (y0)])] w fun e w' => e = .returned (.bool (latB x0 y0)) ∧ ∃ d, w' = bw w d := by
  refine lay_start ?_
  go_enter Tryz.func172, Tryz.ntmps172
  go_wp2_with (go_at_call 39; refine (angle_Valid _ _ _).mono ?_; rintro e w' ⟨rfl, d, rfl⟩)
  all_goals go_ret
  all_goals exact ⟨ret_bool (by first | exact lat_w1 ‹_› ‹_› | exact lat_w2 ‹_› | exact lat_w3 ‹_›), lay_ex _ _⟩
def triB (a0 a1 b0 b1 c0 c1 : Int) : Bool := latB a0 a1 && latB b0 b1 && validB c0 c1
theorem cos_Valid (a0 a1 b0 b1 c0 c1 : Int) (w : World) :
    Calls Tryz.prog 82 #[(.agg #[.int .i64 (a0), .int .i64 (a1), .int .i64 (b0), .int .i64 (b1), .int .i64 (c0), .int .i64 (c1)])] w fun e w' => e = .returned (.bool (triB a0 a1 b0 b1 c0 c1)) ∧ ∃ d, w' = bw w d := by
  have HA := Lib.hid (fun W => cos_latitude a0 a1 W)
  have HB := Lib.hid (fun W => cos_latitude b0 b1 W)
  have HC := Lib.hid (fun W => angle_Valid c0 c1 W)
  unfold triB
  generalize latB a0 a1 = p at *
  generalize latB b0 b1 = q at *
  generalize validB c0 c1 = r at *
  refine lay_start ?_
  cases p
  · simp only [Bool.false_and]
    go_enter Tryz.func82, Tryz.ntmps82
    go_wp2_with (first | (go_at_call 172; first | (with_reducible refine (HA.out _).mono ?_; rintro e w' ⟨rfl, d1, rfl⟩; rw [lay_bw]) | (with_reducible refine (HB.out _).mono ?_; rintro e w' ⟨rfl, d2, rfl⟩; rw [lay_bw])) | (go_at_call 39; refine (HC.out _).mono ?_; rintro e w' ⟨rfl, d3, rfl⟩; rw [lay_bw]))
    go_ret
    exact ⟨rfl, lay_ex _ _⟩
  · cases q
    · simp only [Bool.false_and, Bool.and_false]
      go_enter Tryz.func82, Tryz.ntmps82
      go_wp2_with (first | (go_at_call 172; first | (with_reducible refine (HA.out _).mono ?_; rintro e w' ⟨rfl, d1, rfl⟩; rw [lay_bw]) | (with_reducible refine (HB.out _).mono ?_; rintro e w' ⟨rfl, d2, rfl⟩; rw [lay_bw])) | (go_at_call 39; refine (HC.out _).mono ?_; rintro e w' ⟨rfl, d3, rfl⟩; rw [lay_bw]))
      go_ret
      exact ⟨rfl, lay_ex _ _⟩
    · simp only [Bool.true_and]
      go_enter Tryz.func82, Tryz.ntmps82
      go_wp2_with (first | (go_at_call 172; first | (with_reducible refine (HA.out _).mono ?_; rintro e w' ⟨rfl, d1, rfl⟩; rw [lay_bw]) | (with_reducible refine (HB.out _).mono ?_; rintro e w' ⟨rfl, d2, rfl⟩; rw [lay_bw])) | (go_at_call 39; refine (HC.out _).mono ?_; rintro e w' ⟨rfl, d3, rfl⟩; rw [lay_bw]))
      go_ret
      exact ⟨rfl, lay_ex _ _⟩
set_option maxHeartbeats 1000000 in
theorem cos_altitude (a0 a1 b0 b1 c0 c1 : Int) (w : World) (va : validB a0 a1 = true) (vb : validB b0 b1 = true) (vc : validB c0 c1 = true) :
    Calls Tryz.prog 178 #[(.agg #[.int .i64 (a0), .int .i64 (a1), .int .i64 (b0), .int .i64 (b1), .int .i64 (c0), .int .i64 (c1)])] w fun e w' => e = .returned (.tuple #[(.agg #[.int .i64 (asL (altS0 a0 a1 b0 b1 c0 c1) (altS1 a0 a1 b0 b1 c0 c1)), .int .i64 (asH (altS0 a0 a1 b0 b1 c0 c1) (altS1 a0 a1 b0 b1 c0 c1))]), .int .i64 (asE (altS0 a0 a1 b0 b1 c0 c1) (altS1 a0 a1 b0 b1 c0 c1))]) ∧ ∃ d, w' = bw w d := by
  have HO := Lib.hid (fun b W hc => cc_of b a0 a1 b0 b1 c0 c1 W hc va vb vc)
  have HM1 : Hid (∀ b W, ChW b W → Calls _ _ #[_, _, _] W fun e w' => e = .returned (.agg #[.int .i64 (ccL a0 a1 b0 b1), .int .i64 (ccH a0 a1 b0 b1)]) ∧ _) := Lib.hid (fun b W hc => cc_mul b (cosL a0 a1) (cosH a0 a1) (cosL b0 b1) (cosH b0 b1) W hc (unit_fx (cos_in2 _ _)) (unit_fx (cos_in2 _ _)) (unit_fx (cc_in _ _ _ _)))
  have HM2 : Hid (∀ b W, ChW b W → Calls _ _ #[_, _, _] W fun e w' => e = .returned (.agg #[.int .i64 (c3L a0 a1 b0 b1 c0 c1), .int .i64 (c3H a0 a1 b0 b1 c0 c1)]) ∧ _) := Lib.hid (fun b W hc => cc_mul b (ccL a0 a1 b0 b1) (ccH a0 a1 b0 b1) (cosL c0 c1) (cosH c0 c1) W hc (unit_fx (cc_in _ _ _ _)) (unit_fx (cos_in2 _ _)) (unit_fx (c3_in _ _ _ _ _ _)))
  have HM3 : Hid (∀ b W, ChW b W → Calls _ _ #[_, _, _] W fun e w' => e = .returned (.agg #[.int .i64 (ssL a0 a1 b0 b1), .int .i64 (ssH a0 a1 b0 b1)]) ∧ _) := Lib.hid (fun b W hc => cc_mul b (encL a0 a1) (encH a0 a1) (encL b0 b1) (encH b0 b1) W hc (unit_fx enc_in) (unit_fx enc_in) (unit_fx (ss_in _ _ _ _)))
  have HD : Hid (∀ b W, ChW b W → Calls _ _ #[_, _, _] W fun e w' => e = .returned (.agg #[.int .i64 (altS0 a0 a1 b0 b1 c0 c1), .int .i64 (altS1 a0 a1 b0 b1 c0 c1)]) ∧ _) := Lib.hid (fun b W hc => cc_add b (ssL a0 a1 b0 b1) (ssH a0 a1 b0 b1) (c3L a0 a1 b0 b1 c0 c1) (c3H a0 a1 b0 b1 c0 c1) W hc (unit_fx (ss_in _ _ _ _)) (unit_fx (c3_in _ _ _ _ _ _)) (alt_fx _ _ _ _ _ _))
  have HA := Lib.hid (fun W => ar_Asin (altS0 a0 a1 b0 b1 c0 c1) (altS1 a0 a1 b0 b1 c0 c1) W)
  generalize asL (altS0 a0 a1 b0 b1 c0 c1) (altS1 a0 a1 b0 b1 c0 c1) = u at *
  generalize asH (altS0 a0 a1 b0 b1 c0 c1) (altS1 a0 a1 b0 b1 c0 c1) = v at *
  generalize asE (altS0 a0 a1 b0 b1 c0 c1) (altS1 a0 a1 b0 b1 c0 c1) = k at *
  generalize altS0 a0 a1 b0 b1 c0 c1 = x0 at *
  generalize altS1 a0 a1 b0 b1 c0 c1 = x1 at *
  generalize c3L a0 a1 b0 b1 c0 c1 = y0 at *
  generalize c3H a0 a1 b0 b1 c0 c1 = y1 at *
  generalize ccL a0 a1 b0 b1 = z0 at *
  generalize ccH a0 a1 b0 b1 = z1 at *
  generalize ssL a0 a1 b0 b1 = s0 at *
  generalize ssH a0 a1 b0 b1 = s1 at *
  generalize encL a0 a1 = p1 at *
  generalize encH a0 a1 = q1 at *
  generalize encL b0 b1 = p2 at *
  generalize encH b0 b1 = q2 at *
  generalize encL c0 c1 = p3 at *
  generalize encH c0 c1 = q3 at *
  generalize cosL a0 a1 = r1 at *
  generalize cosH a0 a1 = t1 at *
  generalize cosL b0 b1 = r2 at *
  generalize cosH b0 b1 = t2 at *
  generalize cosL c0 c1 = r3 at *
  generalize cosH c0 c1 = t3 at *
  clear va vb vc
  refine lay_start ?_
  go_enter Tryz.func178, Tryz.ntmps178
  go_wp2_with fail
  have hch : ChW (posn w [1, 1]) (lay w [.inl (Obj.cells #[.int .i64 0] 230), .inl (Obj.cells #[.int .i64 0, .int .i64 0] 23), .inl (Obj.cells #[.int .i64 a0, .int .i64 a1, .int .i64 b0, .int .i64 b1, .int .i64 c0, .int .i64 c1] 45)]) := chW_new w _ _ _ rfl
  refine (HO.out _ _ hch).mono ?_
  rintro e w' ⟨rfl, d1, rfl⟩
  rw [lay_bw]
  go_wp2_with fail
  have HC := Lib.hid (fun e : Ext => hch.on [.inr e, .inl (Obj.cells #[.int .i64 p1, .int .i64 q1, .int .i64 r1, .int .i64 t1, .int .i64 p2, .int .i64 q2, .int .i64 r2, .int .i64 t2, .int .i64 p3, .int .i64 q3, .int .i64 r3, .int .i64 t3] 232), .inr d1])
  simp only [List.cons_append, List.nil_append] at HC
  clear hch
  refine region_mixW [0, 0, 0, 0, 0, 0, 0, 0, 0, 0, 0, 0, 0, 0, 0, 0, 0, 0, 1, 1] (by kernel_rfl) (by kernel_rfl) (by kernel_rfl) ?_
  repeat (first | (refine wpM_quiet (fun K hK => ?_); go_simp; first | (refine hK _ ?_; clear hK K) | (apply Exists.intro; refine ⟨fun _ => ?_, hK _ ?_⟩; (first | (go_at_call 231; first | ((with_reducible refine bq (HM1.out _ _ (HC.out _)) ?_); first | exact (fun d => ⟨d, rfl⟩) | exact (fun d => lay_join _ _ _ d)) | ((with_reducible refine bq (HM2.out _ _ (HC.out _)) ?_); first | exact (fun d => ⟨d, rfl⟩) | exact (fun d => lay_join _ _ _ d)) | ((with_reducible refine bq (HM3.out _ _ (HC.out _)) ?_); first | exact (fun d => ⟨d, rfl⟩) | exact (fun d => lay_join _ _ _ d))) | (go_at_call 230; (with_reducible refine bq (HD.out _ _ (HC.out _)) ?_); first | exact (fun d => ⟨d, rfl⟩) | exact (fun d => lay_join _ _ _ d))); clear hK K)) | (refine wpM_special (fun K hK d => ?_); go_simp; refine hK _ _ (by first | exact lay_in w [_] _ | exact lay_in w [_, _] _ | exact lay_in w [_, _, _] _ | exact lay_in w [_, _, _, _] _ | exact lay_in w [_, _, _, _, _] _ | exact lay_in w [_, _, _, _, _, _] _) ?_; clear hK K))
  refine wpM_nil ?_
  intro d
  rw [lay_bw]
  go_wp2_with (go_at_call 46; refine (HA.out _).mono ?_; rintro e w' ⟨rfl, d3, rfl⟩; rw [lay_bw])
  exact bodyPost_ret (v := .tuple #[(.agg #[.int .i64 (u), .int .i64 (v)]), .int .i64 k]) (by simp [results, Tryz.results178, go_sem]) rfl ⟨rfl, lay_ex _ _⟩
theorem cos_Altitude (a0 a1 b0 b1 c0 c1 : Int) (w : World) (h : triB a0 a1 b0 b1 c0 c1 = true) :
    Calls Tryz.prog 92 #[(.agg #[.int .i64 (a0), .int .i64 (a1), .int .i64 (b0), .int .i64 (b1), .int .i64 (c0), .int .i64 (c1)])] w fun e w' => e = .returned (.tuple #[(.agg #[.int .i64 (asL (altS0 a0 a1 b0 b1 c0 c1) (altS1 a0 a1 b0 b1 c0 c1)), .int .i64 (asH (altS0 a0 a1 b0 b1 c0 c1) (altS1 a0 a1 b0 b1 c0 c1))]), .int .i64 (asE (altS0 a0 a1 b0 b1 c0 c1) (altS1 a0 a1 b0 b1 c0 c1))]) ∧ ∃ d, w' = bw w d := by
  have HV := Lib.hid (fun W => cos_Valid a0 a1 b0 b1 c0 c1 W)
  rw [h] at HV
  unfold triB at h
  simp only [Bool.and_eq_true] at h
  have HA := Lib.hid (fun W => cos_altitude a0 a1 b0 b1 c0 c1 W (lat_valid h.1.1) (lat_valid h.1.2) h.2)
  generalize asL (altS0 a0 a1 b0 b1 c0 c1) (altS1 a0 a1 b0 b1 c0 c1) = u at *
  generalize asH (altS0 a0 a1 b0 b1 c0 c1) (altS1 a0 a1 b0 b1 c0 c1) = v at *
  generalize asE (altS0 a0 a1 b0 b1 c0 c1) (altS1 a0 a1 b0 b1 c0 c1) = k at *
  clear h
  refine lay_start ?_
  go_enter Tryz.func92, Tryz.ntmps92
  go_wp2_with (first | (go_at_call 82; refine (HV.out _).mono ?_; rintro e w' ⟨rfl, d1, rfl⟩; rw [lay_bw]) | (go_at_call 178; refine (HA.out _).mono ?_; rintro e w' ⟨rfl, d2, rfl⟩; rw [lay_bw]))
  exact bodyPost_ret (v := .tuple #[(.agg #[.int .i64 (u), .int .i64 (v)]), .int .i64 k]) (by simp [results, Tryz.results92, go_sem]) rfl ⟨rfl, lay_ex _ _⟩
end Go.Proofs.YtnnmfdeeicpdlaaGreat
/- The law's large and made, in full. -/
namespace Go.Proofs.YtnnmfdeeicpdlaaGreat
open Go.RowKit Go.Shelf

end Go.Proofs.YtnnmfdeeicpdlaaGreat
/- The reference's Where. -/
namespace Go.Proofs.YtnnmfdeeicpdlaaGreat
open Go.RowKit Go.Shelf

end Go.Proofs.YtnnmfdeeicpdlaaGreat
/- The reference's Where at tracks, and in full. -/
namespace Go.Proofs.YtnnmfdeeicpdlaaGreat
open Go.RowKit Go.Shelf

end Go.Proofs.YtnnmfdeeicpdlaaGreat
/- almanac.New by its error number; the law's made in full; a book that is made. -/
namespace Go.Proofs.YtnnmfdeeicpdlaaGreat
open Go.RowKit Go.Shelf

end Go.Proofs.YtnnmfdeeicpdlaaGreat
/- The example of chapter 17 (awake); right. -/
namespace Go.Proofs.YtnnmfdeeicpdlaaGreat
open Go.RowKit Go.Shelf

theorem tracked_nil_post (bk : Nat) (vd vs : Value) (w : World) (hB : Bk w bk vd (.slice none 0 0) vs) :
    Calls Tryz.prog 70 #[.pointer (some ⟨bk, 0, none⟩)] w (StrPost w []) :=
  (alm_tracked_nil bk vd vs w hB).mono fun _ _ ⟨h1, d, h2⟩ => ⟨none, 0, d, h1, h2, fun _ => rfl, SlG.nil _ _⟩
def vegaS : ByteArray := ⟨#[86, 101, 103, 97]⟩
def vegaV : StarV := ⟨vegaS, 48000, 0, 0⟩
theorem vega_name : nameB vegaS = true := by
  refine nameB_iff.2 ⟨by decide, by decide, fun i hi => ?_, by decide⟩
  have h4 : i < 4 := hi
  match i, h4 with
  | 0, _ => decide
  | 1, _ => decide
  | 2, _ => decide
  | 3, _ => decide
theorem vega_cat : catB [vegaV] = true := by
  refine catB_iff.2 ⟨by decide, fun i x hx => ?_⟩
  cases i with
  | zero =>
    simp only [List.getElem?_cons_zero, Option.some.injEq] at hx
    subst hx
    refine ⟨vega_name, by decide, ?_⟩
    show (if (vegaS.toList == vegaS.toList) then ((0 : Nat) : Int) else _) = _
    rw [if_pos (beq_self_eq_true _)]
  | succ i => simp at hx
theorem vega_find : fndS [vegaV] vegaS = ((0 : Nat) : Int) := by
  show (if (vegaS.toList == vegaS.toList) then ((0 : Nat) : Int) else _) = _
  rw [if_pos (beq_self_eq_true _)]
theorem vega_list : vegaS.toList = [86, 101, 103, 97] := by rw [ByteArray.toList_eq]; rfl
theorem vega_notA : [vegaV].any (fun x => isA x.s) = false := by
  show (isA vegaS || false) = false
  unfold isA
  rw [vega_list]
  rfl
theorem eg_sg : sgL 0 0 48000 = 10798017 ∧ sgH 0 0 48000 = 10798118 := by decide +kernel
theorem vega_lit (w : World) (L : List (Obj ⊕ Ext)) : SlG stR (lay w (.inl (.cells #[.string vegaS, .int .i64 48000, .int .i64 0, .int .i64 0] 32 (0, 0)) :: L)) (.slice (some ⟨posn w (shp L), 0, none⟩) 1 1) [vegaV] :=
  (owG_lit stOk [vegaV] rfl (by decide) (by intro x hx; rw [List.mem_singleton.1 hx]; exact ⟨by decide, by decide, by decide, by decide⟩)).sl stOk
end Go.Proofs.YtnnmfdeeicpdlaaGreat
/- The laws AlmanacWhere and AlmanacHours. -/
namespace Go.Proofs.YtnnmfdeeicpdlaaGreat
open Go.RowKit Go.Shelf

end Go.Proofs.YtnnmfdeeicpdlaaGreat
/- The local hour angle: the program's and the reference's; the law AlmanacHours. -/
namespace Go.Proofs.YtnnmfdeeicpdlaaGreat
open Go.RowKit Go.Shelf

end Go.Proofs.YtnnmfdeeicpdlaaGreat
/- angle.Agree. -/
namespace Go.Proofs.YtnnmfdeeicpdlaaGreat
open Go.RowKit

end Go.Proofs.YtnnmfdeeicpdlaaGreat
/- Plain law: a star goes with Aries, and is where it was after a sidereal day. No program in sight. -/
namespace Go.Proofs.YtnnmfdeeicpdlaaGreat

end Go.Proofs.YtnnmfdeeicpdlaaGreat
/- The walk of the law AlmanacStars. -/
namespace Go.Proofs.YtnnmfdeeicpdlaaGreat
open Go.RowKit Go.Shelf

end Go.Proofs.YtnnmfdeeicpdlaaGreat
/- A time has the places of its instants: the plain law. -/
namespace Go.Proofs.YtnnmfdeeicpdlaaGreat
open Go.RowKit Go.Shelf

def Dia (x0 y0 x1 y1 : Int) : Prop := 21600000 ≤ y1 - x1 ∨ (y0 - x0 < 21600000 ∧ (x0 - x1) % 21600000 + (y0 - x0) ≤ y1 - x1)
theorem Dia.sub {x0 y0 x1 y1 : Int} (h1 : x1 ≤ x0) (_ : x0 ≤ y0) (h3 : y0 ≤ y1) : Dia x0 y0 x1 y1 := by unfold Dia; omega
theorem Dia.add {x0 y0 x1 y1 c d : Int} (h : Dia x0 y0 x1 y1) (hc : c ≤ d) : Dia (x0 + c) (y0 + d) (x1 + c) (y1 + d) := by
  unfold Dia at *
  rw [show x0 + c - (x1 + c) = x0 - x1 by omega]
  omega
end Go.Proofs.YtnnmfdeeicpdlaaGreat
/- Altitudes of arcs: a part's altitude lies within the whole's. Plain Lean. -/
namespace Go.Proofs.YtnnmfdeeicpdlaaGreat
open Go.RowKit Go.Shelf

theorem metB_sh (lo hi n k : Int) : metB (lo + 21600000 * k) (hi + 21600000 * k) n = metB lo hi n := by
  unfold metB
  rw [decide_eq_decide]
  omega
theorem enc_turn (lo hi k : Int) : encL (lo + 21600000 * k) (hi + 21600000 * k) = encL lo hi ∧ encH (lo + 21600000 * k) (hi + 21600000 * k) = encH lo hi := by
  rw [encL_at, encL_at, encH_at, encH_at, metB_sh, metB_sh, (b_shift lo k).1, (b_shift lo k).2, (b_shift hi k).1, (b_shift hi k).2]
  exact ⟨rfl, rfl⟩
theorem enc_dia {x0 y0 x1 y1 : Int} (h : x0 ≤ y0) (d : Dia x0 y0 x1 y1) : encL x1 y1 ≤ encL x0 y0 ∧ encH x0 y0 ≤ encH x1 y1 := by
  have e := @enc_in x0 y0
  rcases d with d | ⟨d1, d2⟩
  · have m1 : metB x1 y1 16200000 = true := by unfold metB; rw [decide_eq_true_eq]; omega
    have m2 : metB x1 y1 5400000 = true := by unfold metB; rw [decide_eq_true_eq]; omega
    rw [encL_at x1, encH_at x1, m1, m2, if_pos rfl, if_pos rfl]
    omega
  · have t := enc_turn x0 y0 (-((x0 - x1) / 21600000))
    have p := enc_part (lo := x1) (hi := y1) (x := x0 + 21600000 * (-((x0 - x1) / 21600000))) (y := y0 + 21600000 * (-((x0 - x1) / 21600000))) (by omega) (by omega) (by omega)
    rw [t.1, t.2] at p
    exact p
theorem cos_dia {x0 y0 x1 y1 : Int} (h : x0 ≤ y0) (d : Dia x0 y0 x1 y1) : cosL x1 y1 ≤ cosL x0 y0 ∧ cosH x0 y0 ≤ cosH x1 y1 := by
  unfold cosL cosH
  exact enc_dia (by omega) (d.add (Int.le_refl _))
theorem alt_part {a0 a1 b0 b1 c0 c1 p0 p1 q0 q1 r0 r1 : Int} (h0 : a0 ≤ p0) (h : p0 ≤ p1) (h1 : p1 ≤ a1) (g0 : b0 ≤ q0) (g : q0 ≤ q1) (g1 : q1 ≤ b1) (hc : r0 ≤ r1) (d : Dia r0 r1 c0 c1) :
    altS0 a0 a1 b0 b1 c0 c1 ≤ altS0 p0 p1 q0 q1 r0 r1 ∧ altS1 p0 p1 q0 q1 r0 r1 ≤ altS1 a0 a1 b0 b1 c0 c1 := by
  have e1 := enc_part h0 h h1
  have e2 := enc_part g0 g g1
  have c1' : cosL a0 a1 ≤ cosL p0 p1 ∧ cosH p0 p1 ≤ cosH a0 a1 := by unfold cosL cosH; exact enc_part (by omega) (by omega) (by omega)
  have c2' : cosL b0 b1 ≤ cosL q0 q1 ∧ cosH q0 q1 ≤ cosH b0 b1 := by unfold cosL cosH; exact enc_part (by omega) (by omega) (by omega)
  have c3' := cos_dia hc d
  have m1 := mul_part e1.1 enc_in.2.1 e1.2 e2.1 enc_in.2.1 e2.2
  have m2 : ccL a0 a1 b0 b1 ≤ ccL p0 p1 q0 q1 ∧ ccH p0 p1 q0 q1 ≤ ccH a0 a1 b0 b1 := mul_part c1'.1 (cos_in2 _ _).2.1 c1'.2 c2'.1 (cos_in2 _ _).2.1 c2'.2
  have m3 := mul_part m2.1 (cc_in _ _ _ _).2.1 m2.2 c3'.1 (cos_in2 _ _).2.1 c3'.2
  unfold altS0 altS1 ssL ssH c3L c3H
  omega
theorem as_part {L H l h : Int} (hE : asE L H = 0) (hl : l ≤ L) (hh : H ≤ h) (hf : fxB l h = true) : asE l h = 0 ∧ asL l h ≤ asL L H ∧ asH L H ≤ asH l h ∧ -5400000 ≤ asL l h ∧ asH l h ≤ 5400000 := by
  have hE2 : asE l h = 0 := by
    have hE' := hE
    rw [asE_at] at hE' ⊢
    rw [hf, if_neg (by decide)]
    rw [mn_eq, mx_eq] at *
    split at hE'
    · omega
    · split at hE' <;> split <;> omega
  have m1 := asnI_mono (v := mx l (-1073741824)) (u := mx L (-1073741824)) (by rw [mx_eq]; omega) (by rw [mx_eq, mx_eq]; omega)
  have m2 := asnI_mono (v := -(mn h 1073741824)) (u := -(mn H 1073741824)) (by rw [mn_eq]; omega) (by rw [mn_eq, mn_eq]; omega)
  have i1 := asnI_in (v := mx l (-1073741824)) (by rw [mx_eq]; omega)
  have i2 := asnI_in (v := -(mn h 1073741824)) (by rw [mn_eq]; omega)
  unfold asL asH
  rw [if_pos hE, if_pos hE, if_pos hE2, if_pos hE2]
  omega
theorem alt_someG {a0 a1 b0 b1 c0 c1 : Int} (ha : latB a0 a1 = true) (hb : latB b0 b1 = true) (hc : c0 ≤ c1) :
    asE (altS0 a0 a1 b0 b1 c0 c1) (altS1 a0 a1 b0 b1 c0 c1) = 0 ∧ -5400000 ≤ asL (altS0 a0 a1 b0 b1 c0 c1) (altS1 a0 a1 b0 b1 c0 c1) ∧ asL (altS0 a0 a1 b0 b1 c0 c1) (altS1 a0 a1 b0 b1 c0 c1) ≤ asH (altS0 a0 a1 b0 b1 c0 c1) (altS1 a0 a1 b0 b1 c0 c1) ∧ asH (altS0 a0 a1 b0 b1 c0 c1) (altS1 a0 a1 b0 b1 c0 c1) ≤ 5400000 := by
  obtain ⟨u1, u2, u3⟩ := latB_iff.1 ha
  obtain ⟨v1, v2, v3⟩ := latB_iff.1 hb
  have p := alt_some (lat := a0) (dec := b0) (lha := c0) u2 (by omega) v2 (by omega)
  have q := alt_part (Int.le_refl a0) (Int.le_refl a0) u1 (Int.le_refl b0) (Int.le_refl b0) v1 (Int.le_refl c0) (Dia.sub (x1 := c0) (y1 := c1) (Int.le_refl c0) (Int.le_refl c0) hc)
  have r := as_part p.1 q.1 q.2 (alt_fx _ _ _ _ _ _)
  omega
variable {lp : List PgV} {ls : List StarV} {s : ByteArray}
end Go.Proofs.YtnnmfdeeicpdlaaGreat
/- Covers, the program's and the reference's; Pages and Stars. -/
namespace Go.Proofs.YtnnmfdeeicpdlaaGreat
open Go.RowKit Go.Shelf

end Go.Proofs.YtnnmfdeeicpdlaaGreat
/- Equal rows of stars, equal lists, equal pages. -/
namespace Go.Proofs.YtnnmfdeeicpdlaaGreat
open Go.RowKit Go.Shelf

end Go.Proofs.YtnnmfdeeicpdlaaGreat
/- The law AlmanacMakes. -/
namespace Go.Proofs.YtnnmfdeeicpdlaaGreat
open Go.RowKit Go.Shelf

end Go.Proofs.YtnnmfdeeicpdlaaGreat
/- The reference's arcsines: Floor. -/
namespace Go.Proofs.YtnnmfdeeicpdlaaGreat
open Go.RowKit

set_option maxHeartbeats 4000000 in
set_option maxRecDepth 100000 in
theorem r7_Floor (v : Int) (hv : -1073741824 ≤ v) (w : World) :
    Calls Tryz.prog 135 #[.int .i64 v] w fun e w' => e = .returned (.int .i64 (asnI v)) ∧ ∃ d, w' = bw w d := by
  have HB := Lib.hid (fun n W => r6_Below n v W)
  have HG := Lib.hid (fun W => r7_guess v W)
  obtain ⟨R, hR⟩ : ∃ R, asnI v = R := ⟨_, rfl⟩
  have HR : Hid (∀ r, IsAsn v r → R = r) := Lib.hid fun r h => by rw [← hR]; exact asnI_eq h
  rw [hR]
  have HV := Lib.hid hv
  clear hR hv
  refine lay_start ?_
  go_enter Tryz.func135, Tryz.ntmps135
  go_wp2_with (go_at_call 201; refine (HG.out _).mono ?_; rintro e w' ⟨⟨r0, rfl, hr1, hr2⟩, d0, rfl⟩; rw [lay_bw])
  go_loopw [3, 4] (fun v3 v4 wr => ∃ (l s : Int) (dd : Ext), v3 = .int .i64 l ∧ v4 = .int .i64 s ∧ wr = lay w [.inr dd] ∧ -5400000 ≤ l ∧ l ≤ 5400000 ∧ 1 ≤ s ∧ s ≤ 21600002 ∧ (l = -5400000 ∨ s ≤ 5400001 - l)) (fun v3 _ _ => (intOf v3 + 5400000).toNat)
  case atStart => exact ⟨r0, 1, d0, rfl, rfl, rfl, hr1, hr2, by decide, by decide, .inr (by omega)⟩
  case round =>
    obtain ⟨l, s, dd, rfl, rfl, rfl, hl, hl2, hs, hs2, hd⟩ := hrel
    have HI := belR_iff l v
    have HBl := Lib.hid (fun W => HB.out l W)
    generalize belR l v = r at *
    by_cases cb : 0 < r
    · have hne : l ≠ -5400000 := fun e => by
        subst e
        rw [b_bot] at HI
        have := HI.2 HV.out
        omega
      have hd2 : s ≤ 5400001 - l := by omega
      obtain ⟨m, hm⟩ : ∃ m, l - s = m := ⟨_, rfl⟩
      have k1 : IntKind.i64.wrap (l - s) = m := by rw [hm]; exact IntWalk.i64_in _ (by omega)
      have k2 : IntKind.i64.wrap (2 * s) = 2 * s := IntWalk.i64_in _ (by omega)
      have HF := Lib.hid (And.intro hl (And.intro hl2 (And.intro hs (And.intro hd2 (And.intro hm hne)))))
      clear HI hl hl2 hs hs2 hd hne hd2 hm
      by_cases cm : m < -5400000
      · go_wp2_with (go_at_call 202; refine (HBl.out _).mono ?_; rintro e w' ⟨rfl, d1, rfl⟩; rw [lay_bw])
        obtain ⟨f1, f2, f3, f4, f5, f6⟩ := HF.out
        obtain ⟨de, hde⟩ := lay_all w [.inr d1, .inr dd]
        exact ⟨⟨_, _, de, rfl, rfl, hde, by decide, by decide, by omega, by omega, .inl rfl⟩, by simp only [intOf]; omega⟩
      · go_wp2_with (go_at_call 202; refine (HBl.out _).mono ?_; rintro e w' ⟨rfl, d1, rfl⟩; rw [lay_bw])
        obtain ⟨f1, f2, f3, f4, f5, f6⟩ := HF.out
        obtain ⟨de, hde⟩ := lay_all w [.inr d1, .inr dd]
        exact ⟨⟨_, _, de, rfl, rfl, hde, by omega, by omega, by omega, by omega, .inr (by omega)⟩, by simp only [intOf]; omega⟩
    · have hle : bHi l ≤ v := HI.1 (by omega)
      have kl : IntKind.i64.wrap (l + 1) = l + 1 := IntWalk.i64_in _ (by omega)
      have HF := Lib.hid (And.intro hl (And.intro hl2 hle))
      clear HI hl hl2 hs hs2 hd hle HG hr1 hr2
      go_wp2_with (go_at_call 202; refine (HBl.out _).mono ?_; rintro e w' ⟨rfl, d1, rfl⟩; rw [lay_bw])
      clear HBl cb
      obtain ⟨de, hde⟩ := lay_all w [.inr d1, .inr dd]
      rw [hde]
      clear hde
      go_loopw [3, 5, 6] (fun v3 v5 v6 wr => ∃ (a b s : Int) (dd : Ext), v3 = .int .i64 a ∧ v5 = .int .i64 b ∧ v6 = .int .i64 s ∧ wr = lay w [.inr dd] ∧ -5400000 ≤ a ∧ a ≤ 5400000 ∧ a < b ∧ b ≤ 27000009 ∧ bHi a ≤ v ∧ (a < 5400000 → b ≤ 5400000) ∧ 1 ≤ s ∧ (s ≤ b + 5400001 ∨ (b = 5400000 ∧ s ≤ 21600004) ∨ 5400000 < b)) (fun v3 _ _ _ => (5400000 - intOf v3).toNat)
      case atStart =>
        obtain ⟨f1, f2, f3⟩ := HF.out
        exact ⟨_, _, 1, de, rfl, rfl, rfl, rfl, f1, f2, by omega, by omega, f3, by omega, by decide, .inl (by omega)⟩
      case round =>
        clear HF kl
        obtain ⟨a, b, s, de, rfl, rfl, rfl, rfl, ha, ha2, hab, hb2, hva, hk, hs, hd⟩ := hrel
        have HI := belR_iff b v
        have HBb := Lib.hid (fun W => HB.out b W)
        generalize belR b v = r at *
        by_cases c1 : b ≤ 5400000
        · by_cases c2 : r ≤ 0
          · have hvb := HI.1 c2
            obtain ⟨x, hx⟩ : ∃ x, b + s = x := ⟨_, rfl⟩
            have hs3 : s ≤ 21600004 := by omega
            have k1 : IntKind.i64.wrap (b + s) = x := by rw [hx]; exact IntWalk.i64_in _ (by omega)
            have k2 : IntKind.i64.wrap (2 * s) = 2 * s := IntWalk.i64_in _ (by omega)
            have HF := Lib.hid (And.intro ha (And.intro hab (And.intro hvb (And.intro hs (And.intro hd (And.intro hx c1))))))
            clear HI ha ha2 hab hb2 hva hk hs hd hx hvb hs3
            by_cases c3 : b < 5400000
            · by_cases c4 : 5400000 < x
              · go_wp2_with (go_at_call 202; refine (HBb.out _).mono ?_; rintro e w' ⟨rfl, d1, rfl⟩; rw [lay_bw])
                obtain ⟨f1, f2, f3, f4, f5, f6, f7⟩ := HF.out
                obtain ⟨df, hdf⟩ := lay_all w [.inr d1, .inr de]
                exact ⟨⟨_, _, _, df, rfl, rfl, rfl, hdf, by omega, by omega, by omega, by omega, f3, by omega, by omega, .inr (.inl ⟨rfl, by omega⟩)⟩, by simp only [intOf]; omega⟩
              · go_wp2_with (go_at_call 202; refine (HBb.out _).mono ?_; rintro e w' ⟨rfl, d1, rfl⟩; rw [lay_bw])
                obtain ⟨f1, f2, f3, f4, f5, f6, f7⟩ := HF.out
                obtain ⟨df, hdf⟩ := lay_all w [.inr d1, .inr de]
                exact ⟨⟨_, _, _, df, rfl, rfl, rfl, hdf, by omega, by omega, by omega, by omega, f3, by omega, by omega, .inl (by omega)⟩, by simp only [intOf]; omega⟩
            · go_wp2_with (go_at_call 202; refine (HBb.out _).mono ?_; rintro e w' ⟨rfl, d1, rfl⟩; rw [lay_bw])
              obtain ⟨f1, f2, f3, f4, f5, f6, f7⟩ := HF.out
              obtain ⟨df, hdf⟩ := lay_all w [.inr d1, .inr de]
              exact ⟨⟨_, _, _, df, rfl, rfl, rfl, hdf, by omega, by omega, by omega, by omega, f3, by omega, by omega, .inr (.inr (by omega))⟩, by simp only [intOf]; omega⟩
          · have hvb : v < bHi b := by omega
            clear HI hs hd
            by_cases c3 : a = 5400000
            · have hR := HR.out a ⟨ha, ha2, hva, .inl c3⟩
              have e1 : (a == 5400000) = true := beq_iff_eq.2 c3
              have HF := Lib.hid (And.intro hab c1)
              clear hva hk ha ha2 hab hb2
              subst hR
              exact absurd HF.out.1 (by have := HF.out.2; omega)
            · have hR : Hid (∀ r, IsAsn v r → R = r) := HR
              have e1 : (a == 5400000) = false := beq_eq_false_iff_ne.2 c3
              have HF := Lib.hid (And.intro ha (And.intro hab (And.intro c1 (And.intro hva hvb))))
              clear hva hk ha ha2 hab hb2 hvb
              go_wp2_with (go_at_call 202; refine (HBb.out _).mono ?_; rintro e w' ⟨rfl, d1, rfl⟩; rw [lay_bw])
              clear HBb c1 c2 c3 e1
              obtain ⟨df, hdf⟩ := lay_all w [.inr d1, .inr de]
              rw [hdf]
              clear hdf
              go_loopw [3, 5] (fun v3 v5 wr => ∃ (l h : Int) (dd : Ext), v3 = .int .i64 l ∧ v5 = .int .i64 h ∧ wr = lay w [.inr dd] ∧ -5400000 ≤ l ∧ l < h ∧ h ≤ 5400000 ∧ bHi l ≤ v ∧ v < bHi h) (fun v3 v5 _ => (intOf v5 - intOf v3).toNat)
              case atStart =>
                obtain ⟨f1, f2, f3, f4, f5⟩ := HF.out
                exact ⟨_, _, df, rfl, rfl, rfl, f1, f2, f3, f4, f5⟩
              case round =>
                clear HF
                obtain ⟨l, h, dd, rfl, rfl, rfl, hl, hlh, hh, hA, hB⟩ := hrel
                have k0 : IntKind.i64.wrap (l + 1) = l + 1 := IntWalk.i64_in _ (by omega)
                by_cases c : l + 1 < h
                · obtain ⟨X, hX⟩ : ∃ X, h - l = X := ⟨_, rfl⟩
                  have k1 : IntKind.i64.wrap (h - l) = X := by rw [hX]; exact IntWalk.i64_in _ (by omega)
                  have hq : X.tdiv 2 = X / 2 := Int.tdiv_eq_ediv_of_nonneg (by omega)
                  obtain ⟨q, hq2⟩ : ∃ q, X / 2 = q := ⟨_, rfl⟩
                  rw [hq2] at hq
                  have hq3 : 1 ≤ q ∧ q < h - l := by omega
                  have k3 : IntKind.i64.wrap q = q := IntWalk.i64_in _ (by omega)
                  obtain ⟨m, hm⟩ : ∃ m, l + q = m := ⟨_, rfl⟩
                  have k4 : IntKind.i64.wrap (l + q) = m := by rw [hm]; exact IntWalk.i64_in _ (by omega)
                  have HI := belR_iff m v
                  have HBm := Lib.hid (fun W => HB.out m W)
                  generalize belR m v = r at *
                  have HF := Lib.hid (And.intro hl (And.intro hlh (And.intro hh (And.intro hA (And.intro hB (show l < m ∧ m < h by omega))))))
                  by_cases cb : r ≤ 0
                  · have HLe := Lib.hid (HI.1 cb)
                    clear hX hl hlh hh hm hA hB hq2 hq3 HI
                    go_wp2_with (go_at_call 202; refine (HBm.out _).mono ?_; rintro e w' ⟨rfl, d1, rfl⟩; rw [lay_bw])
                    obtain ⟨f1, f2, f3, f4, f5, f6, f7⟩ := HF.out
                    obtain ⟨dg, hdg⟩ := lay_all w [.inr d1, .inr dd]
                    exact ⟨⟨_, _, dg, rfl, rfl, hdg, by omega, by omega, by omega, HLe.out, f5⟩, by simp only [intOf]; omega⟩
                  · have HLe : Hid (v < bHi m) := Lib.hid (by omega)
                    clear hX hl hlh hh hm hA hB hq2 hq3 HI
                    go_wp2_with (go_at_call 202; refine (HBm.out _).mono ?_; rintro e w' ⟨rfl, d1, rfl⟩; rw [lay_bw])
                    obtain ⟨f1, f2, f3, f4, f5, f6, f7⟩ := HF.out
                    obtain ⟨dg, hdg⟩ := lay_all w [.inr d1, .inr dd]
                    exact ⟨⟨_, _, dg, rfl, rfl, hdg, by omega, by omega, by omega, f4, HLe.out⟩, by simp only [intOf]; omega⟩
                · obtain rfl : h = l + 1 := by omega
                  have hR2 := HR.out l ⟨hl, by omega, hA, .inr hB⟩
                  clear hA hB hlh hh hl HB HR hR HV
                  subst hR2
                  go_wp2_with fail
                  go_ret
                  exact ⟨rfl, lay_ex _ _⟩
        · have haQ : a = 5400000 := by omega
          have e1 : (a == 5400000) = true := beq_iff_eq.2 haQ
          have hR := HR.out a ⟨ha, ha2, hva, .inl haQ⟩
          clear hva hk ha ha2 hab hb2 hs hd HI HB HR HV
          subst haQ
          subst hR
          go_wp2_with fail
          go_ret
          exact ⟨rfl, lay_ex _ _⟩
end Go.Proofs.YtnnmfdeeicpdlaaGreat
