/- Contracts and plain laws, several texts in one: Nw3; Lwh; Lho; Sub; Agr; Stp -/
import Derived.Test.YtjfpgpipbooilaaGreatProg
import Derived.WalkKit
import Derived.WalkSpells
import Derived.WalkLawsBesides
import Derived.Lib.Hide
import Derived.BigQuiet
import Derived.Test.YtjfpgpipbooilaaGreatWAA
import Derived.Test.YtjfpgpipbooilaaGreatWAB
import Derived.Test.YtjfpgpipbooilaaGreatWBD
import Derived.Test.YtjfpgpipbooilaaGreatWBG
import Derived.Test.YtjfpgpipbooilaaGreatWBN
import Derived.Test.YtjfpgpipbooilaaGreatWBR
import Derived.Test.YtjfpgpipbooilaaGreatWBS
/- The example of chapter 17 (awake); right. -/
namespace Go.Proofs.YtjfpgpipbooilaaGreat
open Go.RowKit Go.Shelf

def vegaS : ByteArray := ⟨#[86, 101, 103, 97]⟩
def vegaV : StarV := ⟨vegaS, 48000, 0, 0⟩
theorem vega_name : nameB vegaS = true := by
  refine nameB_iff.2 ⟨by decide, by decide, fun i hi => ?_, by decide⟩
  have h4 : i < 4 := hi
  match i, h4 with
  | 0, _ => decide
  | 1, _ => decide
  | 2, _ => decide
  | 3, _ => decide
theorem vega_cat : catB [vegaV] = true := by
  refine catB_iff.2 ⟨by decide, fun i x hx => ?_⟩
  cases i with
  | zero =>
    simp only [List.getElem?_cons_zero, Option.some.injEq] at hx
    subst hx
    refine ⟨vega_name, by decide, ?_⟩
    show (if (vegaS.toList == vegaS.toList) then ((0 : Nat) : Int) else _) = _
    rw [if_pos (beq_self_eq_true _)]
  | succ i => simp at hx
theorem vega_find : fndS [vegaV] vegaS = ((0 : Nat) : Int) := by
  show (if (vegaS.toList == vegaS.toList) then ((0 : Nat) : Int) else _) = _
  rw [if_pos (beq_self_eq_true _)]
theorem vega_list : vegaS.toList = [86, 101, 103, 97] := by rw [ByteArray.toList_eq]; rfl
theorem vega_lit (w : World) (L : List (Obj ⊕ Ext)) : SlG stR (lay w (.inl (.cells #[.string vegaS, .int .i64 48000, .int .i64 0, .int .i64 0] 75 (0, 0)) :: L)) (.slice (some ⟨posn w (shp L), 0, none⟩) 1 1) [vegaV] :=
  (owG_lit stOk [vegaV] rfl (by decide) (by intro x hx; rw [List.mem_singleton.1 hx]; exact ⟨by decide, by decide, by decide, by decide⟩)).sl stOk
end Go.Proofs.YtjfpgpipbooilaaGreat
/- The laws AlmanacWhere and AlmanacHours. -/
namespace Go.Proofs.YtjfpgpipbooilaaGreat
open Go.RowKit Go.Shelf

theorem gv_eta (G : GeoV) : gv G = (.agg #[.int .i64 (G.a), .int .i64 (G.b), .int .i64 (G.c), .int .i64 (G.d), .int .i64 (G.e), .int .i64 (G.f), .int .i64 (G.g), .int .i64 (G.h)]) := rfl
theorem RfL.lay {P : Nat → Prop} {w : World} {vp vs : Value} {lp : List PgV} {ls : List StarV} (h : RfL P w vp vs lp ls) (L : List (Obj ⊕ Ext)) : RfL P (lay w L) vp vs lp ls := ⟨h.pgs.lay L, h.sts.lay L, h.ok, h.few, h.cat⟩
end Go.Proofs.YtjfpgpipbooilaaGreat
/- The local hour angle: the program's and the reference's; the law AlmanacHours. -/
namespace Go.Proofs.YtjfpgpipbooilaaGreat
open Go.RowKit Go.Shelf

theorem bodyR_tf {lp : List PgV} {s : ByteArray} {a b : Int} (hok : ∀ p ∈ lp, PgOk p) (h : (bodyR lp s a b).2 = 0) : TF (bodyR lp s a b).1.a (bodyR lp s a b).1.b := by
  cases h1 : trkAt lp s (a / 86400000) with
  | none => rw [bodyR_no h1] at h; cases h
  | some t =>
    have o1 := trkAt_ok hok h1
    by_cases e : a / 86400000 = b / 86400000
    · rw [bodyR_one h1 e]; exact tf_turn (ghaO_le o1 _ _)
    · cases h2 : trkAt lp s (b / 86400000) with
      | none => rw [bodyR_no2 h1 e h2] at h; cases h
      | some u =>
        have o2 := trkAt_ok hok h2
        rw [bodyR_two h1 e h2]
        exact tf_turn (validB_iff.1 (hul_valid (tf_turn (ghaO_le o1 _ _)) (tf_turn (ghaO_le o2 _ _)))).1
theorem whR_tf {lp : List PgV} {ls : List StarV} {s : ByteArray} {a b : Int} (hok : ∀ p ∈ lp, PgOk p) (h : (whR lp ls s a b).2 = 0) : TF (whR lp ls s a b).1.a (whR lp ls s a b).1.b := by
  cases whW lp ls s a b with
  | bad k => rw [whR_bad k] at h; cases h
  | name t k => rw [whR_name t k] at h; cases h
  | wide t k d => rw [whR_wide t k d] at h; cases h
  | aries t d k => rw [whR_aries t d k]; exact tf_turn (ariF_le (timB_iff.1 t).1)
  | star i x t d k f g e =>
    rw [whR_star t d k f e]
    have := ag_bd (timB_iff.1 t).1
    exact tf_turn (by omega)
  | body t d k f g c =>
    rw [whR_body t d k g c] at h ⊢
    exact bodyR_tf hok h
end Go.Proofs.YtjfpgpipbooilaaGreat
/- The value over a part of a span lies within the value over the span. No program in sight. -/
namespace Go.Proofs.YtjfpgpipbooilaaGreat
open Go.RowKit

end Go.Proofs.YtjfpgpipbooilaaGreat
/- angle.Agree. -/
namespace Go.Proofs.YtjfpgpipbooilaaGreat
open Go.RowKit

def agrB (a0 a1 b0 b1 : Int) : Bool := decide ((b0 - a0) % 21600000 ≤ a1 - a0) || decide ((a0 - b0) % 21600000 ≤ b1 - b0)
set_option maxHeartbeats 1000000 in
theorem angle_Agree (a0 a1 b0 b1 : Int) (w : World) (va : validB a0 a1 = true) (vb : validB b0 b1 = true) :
    Calls Tryz.prog 32 #[(.agg #[.int .i64 (a0), .int .i64 (a1)]), (.agg #[.int .i64 (b0), .int .i64 (b1)])] w fun e w' => e = .returned (.tuple #[.bool (agrB a0 a1 b0 b1), .int .i64 0]) ∧ ∃ d, w' = bw w d := by
  have HV1 : Hid (∀ W, Calls Tryz.prog 30 #[(.agg #[.int .i64 (a0), .int .i64 (a1)])] W fun e w' => e = .returned (.bool true) ∧ ∃ d, w' = bw W d) := Lib.hid (fun W => by rw [← va]; exact angle_Valid a0 a1 W)
  have HV2 : Hid (∀ W, Calls Tryz.prog 30 #[(.agg #[.int .i64 (b0), .int .i64 (b1)])] W fun e w' => e = .returned (.bool true) ∧ ∃ d, w' = bw W d) := Lib.hid (fun W => by rw [← vb]; exact angle_Valid b0 b1 W)
  obtain ⟨p0, p1, p2⟩ := validB_iff.1 va
  obtain ⟨p3, p4, p5⟩ := validB_iff.1 vb
  have w1 : IntKind.i64.wrap (b0 - a0) = b0 - a0 := IntWalk.i64_in _ (by omega)
  have w2 : IntKind.i64.wrap (a1 - a0) = a1 - a0 := IntWalk.i64_in _ (by omega)
  have w3 : IntKind.i64.wrap (a0 - b0) = a0 - b0 := IntWalk.i64_in _ (by omega)
  have w4 : IntKind.i64.wrap (b1 - b0) = b1 - b0 := IntWalk.i64_in _ (by omega)
  have HW1 := Lib.hid (fun W => angle_Wrap (b0 - a0) W)
  have HW2 := Lib.hid (fun W => angle_Wrap (a0 - b0) W)
  unfold agrB
  clear va vb
  by_cases h1 : (b0 - a0) % 21600000 ≤ a1 - a0
  · have t1 : decide ((b0 - a0) % 21600000 ≤ a1 - a0) = true := decide_eq_true h1
    rw [t1, Bool.true_or]
    clear h1
    generalize (b0 - a0) % 21600000 = X at *
    refine lay_start ?_
    go_enter Tryz.func32, Tryz.ntmps32
    go_wp2_with (go_at_call 30; first | (with_reducible refine (HV1.out _).mono ?_; rintro e w' ⟨rfl, d, rfl⟩) | (with_reducible refine (HV2.out _).mono ?_; rintro e w' ⟨rfl, d, rfl⟩))
    refine region_bw (by kernel_rfl) (by kernel_rfl) ?_
    repeat (go_big_quiet_step ((first | (go_at_call 76; exact bqs (HW1.out _) ⟨_, rfl⟩))))
    refine wpQuiet_nil ?_
    rintro w' ⟨d, rfl⟩
    rw [lay_bw]
    go_wp2
    go_ret2
    exact ⟨rfl, lay_ex _ _⟩
  · have t1 : decide ((b0 - a0) % 21600000 ≤ a1 - a0) = false := decide_eq_false h1
    rw [t1, Bool.false_or]
    clear h1
    generalize (b0 - a0) % 21600000 = X at *
    generalize (a0 - b0) % 21600000 = Y at *
    refine lay_start ?_
    go_enter Tryz.func32, Tryz.ntmps32
    go_wp2_with (go_at_call 30; first | (with_reducible refine (HV1.out _).mono ?_; rintro e w' ⟨rfl, d, rfl⟩) | (with_reducible refine (HV2.out _).mono ?_; rintro e w' ⟨rfl, d, rfl⟩))
    refine region_bw (by kernel_rfl) (by kernel_rfl) ?_
    repeat (go_big_quiet_step ((first | (go_at_call 76; first | (with_reducible refine bqs (HW1.out _) ?_; exact ⟨_, rfl⟩) | (with_reducible refine bqs (HW2.out _) ?_; exact ⟨_, rfl⟩)))))
    refine wpQuiet_nil ?_
    rintro w' ⟨d, rfl⟩
    rw [lay_bw]
    go_wp2
    go_ret2
    exact ⟨rfl, lay_ex _ _⟩
end Go.Proofs.YtjfpgpipbooilaaGreat
/- Plain law: a star goes with Aries, and is where it was after a sidereal day. No program in sight. -/
namespace Go.Proofs.YtjfpgpipbooilaaGreat

end Go.Proofs.YtjfpgpipbooilaaGreat
