/- Contracts and plain laws, several texts in one: Nwc; Nwd; Mde; Rf2; Rf3; Rf6; Rf7; Sgn; Wh0; Wh1; Rf5; Rf8; Rf9; Rf10; Wh2; Wh3; Wh4; Wh5; Wh6; Wh7; Mdf; Lwh; Lho; Sub; Agr; Stp; Lst; Prt; Hz0; Mk1; Mk2; Mk3 -/
import Derived.Test.YtkhhdpndcidmgaaGreatProg
import Derived.WalkKit
import Derived.WalkSpells
import Derived.WalkLawsBesides
import Derived.Lib.Hide
import Derived.BigQuiet
import Derived.RangeFuncNested
import Derived.RangeFuncBound
import Derived.RangeFuncCalls
import Derived.RangeFuncLeaves
import Derived.Shelf.Abstract
import Derived.Shelf.RegionOpen
import Derived.OwnWalkIn
import Derived.TacticsInMore
import Derived.LoopNIn
import Derived.LoopIn
import Derived.Deep.RegionWith
import Derived.Test.YtkhhdpndcidmgaaGreatTAE
import Derived.Test.YtkhhdpndcidmgaaGreatTAF
import Derived.Test.YtkhhdpndcidmgaaGreatTAG
import Derived.Test.YtkhhdpndcidmgaaGreatTAI
import Derived.Test.YtkhhdpndcidmgaaGreatTAJ
import Derived.Test.YtkhhdpndcidmgaaGreatTAU
import Derived.Test.YtkhhdpndcidmgaaGreatTAZ
import Derived.Test.YtkhhdpndcidmgaaGreatTBA
import Derived.Test.YtkhhdpndcidmgaaGreatTBB
import Derived.Test.YtkhhdpndcidmgaaGreatTBD
import Derived.Test.YtkhhdpndcidmgaaGreatTBG
import Derived.Test.YtkhhdpndcidmgaaGreatTBP
/- almanac.New in full. -/
namespace Go.Proofs.YtkhhdpndcidmgaaGreat
open Go.RowKit Go.Shelf

end Go.Proofs.YtkhhdpndcidmgaaGreat
/- The reference's New in full. -/
namespace Go.Proofs.YtkhhdpndcidmgaaGreat
open Go.RowKit Go.Shelf

end Go.Proofs.YtkhhdpndcidmgaaGreat
/- The law's large and made, in full. -/
namespace Go.Proofs.YtkhhdpndcidmgaaGreat
open Go.RowKit Go.Shelf

end Go.Proofs.YtkhhdpndcidmgaaGreat
/- increments.pieces: the iterator's contract. -/
namespace Go.Proofs.YtkhhdpndcidmgaaGreat
open Go.RowKit Go.Shelf
attribute [local go_sem] Oper.semAt_some

end Go.Proofs.YtkhhdpndcidmgaaGreat
/- increments.over: the iterator made, the loop over it. -/
namespace Go.Proofs.YtkhhdpndcidmgaaGreat
open Go.RowKit Go.Shelf
attribute [local go_sem] Oper.semAt_some

@[local go_sem] theorem run_store_func {P : Program} {w : World} {a : Addr} {m : Mode} (f : Fn) (x y : Array Value) : (store a (.func f x y) m).run P w = stored P w a (.func f x y) m := run_store P w a _ m rfl
end Go.Proofs.YtkhhdpndcidmgaaGreat
/- increments.gha, dec: the arcs of hours, the values over a span. -/
namespace Go.Proofs.YtkhhdpndcidmgaaGreat
open Go.RowKit

end Go.Proofs.YtkhhdpndcidmgaaGreat
/- increments.instant, Gha, Dec, During. -/
namespace Go.Proofs.YtkhhdpndcidmgaaGreat
open Go.RowKit

end Go.Proofs.YtkhhdpndcidmgaaGreat
/- angle.Signed. -/
namespace Go.Proofs.YtkhhdpndcidmgaaGreat
open Go.RowKit

end Go.Proofs.YtkhhdpndcidmgaaGreat
/- Where a body is: the plain law (values). -/
namespace Go.Proofs.YtkhhdpndcidmgaaGreat
open Go.RowKit Go.Shelf

structure GeoV where
  a : Int
  b : Int
  c : Int
  d : Int
  e : Int
  f : Int
  g : Int
  h : Int
def g0 : GeoV := ⟨0, 0, 0, 0, 0, 0, 0, 0⟩
variable {lp : List PgV} {ls : List StarV} {s : ByteArray} {a b : Int}
end Go.Proofs.YtkhhdpndcidmgaaGreat
/- Days, the page of a day, the track of a body on a day: the program's and the reference's. -/
namespace Go.Proofs.YtkhhdpndcidmgaaGreat
open Go.RowKit Go.Shelf

end Go.Proofs.YtkhhdpndcidmgaaGreat
/- The reference's lists: Unwrapped, Declinations. -/
namespace Go.Proofs.YtkhhdpndcidmgaaGreat
open Go.RowKit

end Go.Proofs.YtkhhdpndcidmgaaGreat
/- The reference of layer 14: the arc at an instant. -/
namespace Go.Proofs.YtkhhdpndcidmgaaGreat
open Go.RowKit

end Go.Proofs.YtkhhdpndcidmgaaGreat
/- The reference of layer 14: Over. -/
namespace Go.Proofs.YtkhhdpndcidmgaaGreat
open Go.RowKit

end Go.Proofs.YtkhhdpndcidmgaaGreat
/- The reference of layer 14: Margin, Gha, Dec. -/
namespace Go.Proofs.YtkhhdpndcidmgaaGreat
open Go.RowKit

end Go.Proofs.YtkhhdpndcidmgaaGreat
/- Hulls, sizes, joins; where the body of a track is on a day: the program's and the reference's. -/
namespace Go.Proofs.YtkhhdpndcidmgaaGreat
open Go.RowKit Go.Shelf

end Go.Proofs.YtkhhdpndcidmgaaGreat
/- Where the body of a track is on a day: (*almanac.Book).during, body; the reference's track. -/
namespace Go.Proofs.YtkhhdpndcidmgaaGreat
open Go.RowKit Go.Shelf

end Go.Proofs.YtkhhdpndcidmgaaGreat
/- (*almanac.Book).during where there is a track; body. -/
namespace Go.Proofs.YtkhhdpndcidmgaaGreat
open Go.RowKit Go.Shelf

end Go.Proofs.YtkhhdpndcidmgaaGreat
/- (*almanac.Book).Where in full. -/
namespace Go.Proofs.YtkhhdpndcidmgaaGreat
open Go.RowKit Go.Shelf

end Go.Proofs.YtkhhdpndcidmgaaGreat
/- The reference's Where. -/
namespace Go.Proofs.YtkhhdpndcidmgaaGreat
open Go.RowKit Go.Shelf

end Go.Proofs.YtkhhdpndcidmgaaGreat
/- The reference's Where at tracks, and in full. -/
namespace Go.Proofs.YtkhhdpndcidmgaaGreat
open Go.RowKit Go.Shelf

end Go.Proofs.YtkhhdpndcidmgaaGreat
/- almanac.New by its error number; the law's made in full; a book that is made. -/
namespace Go.Proofs.YtkhhdpndcidmgaaGreat
open Go.RowKit Go.Shelf

end Go.Proofs.YtkhhdpndcidmgaaGreat
/- The laws AlmanacWhere and AlmanacHours. -/
namespace Go.Proofs.YtkhhdpndcidmgaaGreat
open Go.RowKit Go.Shelf

end Go.Proofs.YtkhhdpndcidmgaaGreat
/- The local hour angle: the program's and the reference's; the law AlmanacHours. -/
namespace Go.Proofs.YtkhhdpndcidmgaaGreat
open Go.RowKit Go.Shelf

end Go.Proofs.YtkhhdpndcidmgaaGreat
/- The value over a part of a span lies within the value over the span. No program in sight. -/
namespace Go.Proofs.YtkhhdpndcidmgaaGreat
open Go.RowKit

end Go.Proofs.YtkhhdpndcidmgaaGreat
/- angle.Agree. -/
namespace Go.Proofs.YtkhhdpndcidmgaaGreat
open Go.RowKit

def agrB (a0 a1 b0 b1 : Int) : Bool := decide ((b0 - a0) % 21600000 ≤ a1 - a0) || decide ((a0 - b0) % 21600000 ≤ b1 - b0)
set_option maxHeartbeats 1000000 in
theorem angle_Agree (a0 a1 b0 b1 : Int) (w : World) (va : validB a0 a1 = true) (vb : validB b0 b1 = true) :
    Calls Tryz.prog 22 #[(.agg #[.int .i64 (a0), .int .i64 (a1)]), (.agg #[.int .i64 (b0), .int .i64 (b1)])] w fun e w' => e = .returned (.tuple #[.bool (agrB a0 a1 b0 b1), .int .i64 0]) ∧ ∃ d, w' = bw w d := by
  have HV1 : Hid (∀ W, Calls Tryz.prog 32 #[(.agg #[.int .i64 (a0), .int .i64 (a1)])] W fun e w' => e = .returned (.bool true) ∧ ∃ d, w' = bw W d) := Lib.hid (fun W => by rw [← va]; exact angle_Valid a0 a1 W)
  have HV2 : Hid (∀ W, Calls Tryz.prog 32 #[(.agg #[.int .i64 (b0), .int .i64 (b1)])] W fun e w' => e = .returned (.bool true) ∧ ∃ d, w' = bw W d) := Lib.hid (fun W => by rw [← vb]; exact angle_Valid b0 b1 W)
  obtain ⟨p0, p1, p2⟩ := validB_iff.1 va
  obtain ⟨p3, p4, p5⟩ := validB_iff.1 vb
  have w1 : IntKind.i64.wrap (b0 - a0) = b0 - a0 := IntWalk.i64_in _ (by omega)
  have w2 : IntKind.i64.wrap (a1 - a0) = a1 - a0 := IntWalk.i64_in _ (by omega)
  have w3 : IntKind.i64.wrap (a0 - b0) = a0 - b0 := IntWalk.i64_in _ (by omega)
  have w4 : IntKind.i64.wrap (b1 - b0) = b1 - b0 := IntWalk.i64_in _ (by omega)
  have HW1 := Lib.hid (fun W => angle_Wrap (b0 - a0) W)
  have HW2 := Lib.hid (fun W => angle_Wrap (a0 - b0) W)
  unfold agrB
  clear va vb
  by_cases h1 : (b0 - a0) % 21600000 ≤ a1 - a0
  · have t1 : decide ((b0 - a0) % 21600000 ≤ a1 - a0) = true := decide_eq_true h1
    rw [t1, Bool.true_or]
    clear h1
    generalize (b0 - a0) % 21600000 = X at *
    refine lay_start ?_
    go_enter Tryz.func22, Tryz.ntmps22
    go_wp2_with (go_at_call 32; first | (with_reducible refine (HV1.out _).mono ?_; rintro e w' ⟨rfl, d, rfl⟩) | (with_reducible refine (HV2.out _).mono ?_; rintro e w' ⟨rfl, d, rfl⟩))
    refine region_bw (by kernel_rfl) (by kernel_rfl) ?_
    repeat (go_big_quiet_step ((first | (go_at_call 33; exact bqs (HW1.out _) ⟨_, rfl⟩))))
    refine wpQuiet_nil ?_
    rintro w' ⟨d, rfl⟩
    rw [lay_bw]
    go_wp2
    go_ret2
    exact ⟨rfl, lay_ex _ _⟩
  · have t1 : decide ((b0 - a0) % 21600000 ≤ a1 - a0) = false := decide_eq_false h1
    rw [t1, Bool.false_or]
    clear h1
    generalize (b0 - a0) % 21600000 = X at *
    generalize (a0 - b0) % 21600000 = Y at *
    refine lay_start ?_
    go_enter Tryz.func22, Tryz.ntmps22
    go_wp2_with (go_at_call 32; first | (with_reducible refine (HV1.out _).mono ?_; rintro e w' ⟨rfl, d, rfl⟩) | (with_reducible refine (HV2.out _).mono ?_; rintro e w' ⟨rfl, d, rfl⟩))
    refine region_bw (by kernel_rfl) (by kernel_rfl) ?_
    repeat (go_big_quiet_step ((first | (go_at_call 33; first | (with_reducible refine bqs (HW1.out _) ?_; exact ⟨_, rfl⟩) | (with_reducible refine bqs (HW2.out _) ?_; exact ⟨_, rfl⟩)))))
    refine wpQuiet_nil ?_
    rintro w' ⟨d, rfl⟩
    rw [lay_bw]
    go_wp2
    go_ret2
    exact ⟨rfl, lay_ex _ _⟩
end Go.Proofs.YtkhhdpndcidmgaaGreat
/- Plain law: a star goes with Aries, and is where it was after a sidereal day. No program in sight. -/
namespace Go.Proofs.YtkhhdpndcidmgaaGreat

end Go.Proofs.YtkhhdpndcidmgaaGreat
/- The walk of the law AlmanacStars. -/
namespace Go.Proofs.YtkhhdpndcidmgaaGreat
open Go.RowKit Go.Shelf

end Go.Proofs.YtkhhdpndcidmgaaGreat
/- A time has the places of its instants: the plain law. -/
namespace Go.Proofs.YtkhhdpndcidmgaaGreat
open Go.RowKit Go.Shelf

def Dia (x0 y0 x1 y1 : Int) : Prop := 21600000 ≤ y1 - x1 ∨ (y0 - x0 < 21600000 ∧ (x0 - x1) % 21600000 + (y0 - x0) ≤ y1 - x1)
theorem Dia.sub {x0 y0 x1 y1 : Int} (h1 : x1 ≤ x0) (_ : x0 ≤ y0) (h3 : y0 ≤ y1) : Dia x0 y0 x1 y1 := by unfold Dia; omega
theorem Dia.add {x0 y0 x1 y1 c d : Int} (h : Dia x0 y0 x1 y1) (hc : c ≤ d) : Dia (x0 + c) (y0 + d) (x1 + c) (y1 + d) := by
  unfold Dia at *
  rw [show x0 + c - (x1 + c) = x0 - x1 by omega]
  omega
end Go.Proofs.YtkhhdpndcidmgaaGreat
/- Altitudes of arcs: a part's altitude lies within the whole's. Plain Lean. -/
namespace Go.Proofs.YtkhhdpndcidmgaaGreat
open Go.RowKit Go.Shelf

theorem metB_sh (lo hi n k : Int) : metB (lo + 21600000 * k) (hi + 21600000 * k) n = metB lo hi n := by
  unfold metB
  rw [decide_eq_decide]
  omega
theorem enc_turn (lo hi k : Int) : encL (lo + 21600000 * k) (hi + 21600000 * k) = encL lo hi ∧ encH (lo + 21600000 * k) (hi + 21600000 * k) = encH lo hi := by
  rw [encL_at, encL_at, encH_at, encH_at, metB_sh, metB_sh, (b_shift lo k).1, (b_shift lo k).2, (b_shift hi k).1, (b_shift hi k).2]
  exact ⟨rfl, rfl⟩
theorem enc_dia {x0 y0 x1 y1 : Int} (h : x0 ≤ y0) (d : Dia x0 y0 x1 y1) : encL x1 y1 ≤ encL x0 y0 ∧ encH x0 y0 ≤ encH x1 y1 := by
  have e := @enc_in x0 y0
  rcases d with d | ⟨d1, d2⟩
  · have m1 : metB x1 y1 16200000 = true := by unfold metB; rw [decide_eq_true_eq]; omega
    have m2 : metB x1 y1 5400000 = true := by unfold metB; rw [decide_eq_true_eq]; omega
    rw [encL_at x1, encH_at x1, m1, m2, if_pos rfl, if_pos rfl]
    omega
  · have t := enc_turn x0 y0 (-((x0 - x1) / 21600000))
    have p := enc_part (lo := x1) (hi := y1) (x := x0 + 21600000 * (-((x0 - x1) / 21600000))) (y := y0 + 21600000 * (-((x0 - x1) / 21600000))) (by omega) (by omega) (by omega)
    rw [t.1, t.2] at p
    exact p
theorem cos_dia {x0 y0 x1 y1 : Int} (h : x0 ≤ y0) (d : Dia x0 y0 x1 y1) : cosL x1 y1 ≤ cosL x0 y0 ∧ cosH x0 y0 ≤ cosH x1 y1 := by
  unfold cosL cosH
  exact enc_dia (by omega) (d.add (Int.le_refl _))
theorem alt_part {a0 a1 b0 b1 c0 c1 p0 p1 q0 q1 r0 r1 : Int} (h0 : a0 ≤ p0) (h : p0 ≤ p1) (h1 : p1 ≤ a1) (g0 : b0 ≤ q0) (g : q0 ≤ q1) (g1 : q1 ≤ b1) (hc : r0 ≤ r1) (d : Dia r0 r1 c0 c1) :
    altS0 a0 a1 b0 b1 c0 c1 ≤ altS0 p0 p1 q0 q1 r0 r1 ∧ altS1 p0 p1 q0 q1 r0 r1 ≤ altS1 a0 a1 b0 b1 c0 c1 := by
  have e1 := enc_part h0 h h1
  have e2 := enc_part g0 g g1
  have c1' : cosL a0 a1 ≤ cosL p0 p1 ∧ cosH p0 p1 ≤ cosH a0 a1 := by unfold cosL cosH; exact enc_part (by omega) (by omega) (by omega)
  have c2' : cosL b0 b1 ≤ cosL q0 q1 ∧ cosH q0 q1 ≤ cosH b0 b1 := by unfold cosL cosH; exact enc_part (by omega) (by omega) (by omega)
  have c3' := cos_dia hc d
  have m1 := mul_part e1.1 enc_in.2.1 e1.2 e2.1 enc_in.2.1 e2.2
  have m2 : ccL a0 a1 b0 b1 ≤ ccL p0 p1 q0 q1 ∧ ccH p0 p1 q0 q1 ≤ ccH a0 a1 b0 b1 := mul_part c1'.1 (cos_in2 _ _).2.1 c1'.2 c2'.1 (cos_in2 _ _).2.1 c2'.2
  have m3 := mul_part m2.1 (cc_in _ _ _ _).2.1 m2.2 c3'.1 (cos_in2 _ _).2.1 c3'.2
  unfold altS0 altS1 ssL ssH c3L c3H
  omega
theorem as_part {L H l h : Int} (hE : asE L H = 0) (hl : l ≤ L) (hh : H ≤ h) (hf : fxB l h = true) : asE l h = 0 ∧ asL l h ≤ asL L H ∧ asH L H ≤ asH l h ∧ -5400000 ≤ asL l h ∧ asH l h ≤ 5400000 := by
  have hE2 : asE l h = 0 := by
    have hE' := hE
    rw [asE_at] at hE' ⊢
    rw [hf, if_neg (by decide)]
    rw [mn_eq, mx_eq] at *
    split at hE'
    · omega
    · split at hE' <;> split <;> omega
  have m1 := asnI_mono (v := mx l (-1073741824)) (u := mx L (-1073741824)) (by rw [mx_eq]; omega) (by rw [mx_eq, mx_eq]; omega)
  have m2 := asnI_mono (v := -(mn h 1073741824)) (u := -(mn H 1073741824)) (by rw [mn_eq]; omega) (by rw [mn_eq, mn_eq]; omega)
  have i1 := asnI_in (v := mx l (-1073741824)) (by rw [mx_eq]; omega)
  have i2 := asnI_in (v := -(mn h 1073741824)) (by rw [mn_eq]; omega)
  unfold asL asH
  rw [if_pos hE, if_pos hE, if_pos hE2, if_pos hE2]
  omega
theorem alt_someG {a0 a1 b0 b1 c0 c1 : Int} (ha : latB a0 a1 = true) (hb : latB b0 b1 = true) (hc : c0 ≤ c1) :
    asE (altS0 a0 a1 b0 b1 c0 c1) (altS1 a0 a1 b0 b1 c0 c1) = 0 ∧ -5400000 ≤ asL (altS0 a0 a1 b0 b1 c0 c1) (altS1 a0 a1 b0 b1 c0 c1) ∧ asL (altS0 a0 a1 b0 b1 c0 c1) (altS1 a0 a1 b0 b1 c0 c1) ≤ asH (altS0 a0 a1 b0 b1 c0 c1) (altS1 a0 a1 b0 b1 c0 c1) ∧ asH (altS0 a0 a1 b0 b1 c0 c1) (altS1 a0 a1 b0 b1 c0 c1) ≤ 5400000 := by
  obtain ⟨u1, u2, u3⟩ := latB_iff.1 ha
  obtain ⟨v1, v2, v3⟩ := latB_iff.1 hb
  have p := alt_some (lat := a0) (dec := b0) (lha := c0) u2 (by omega) v2 (by omega)
  have q := alt_part (Int.le_refl a0) (Int.le_refl a0) u1 (Int.le_refl b0) (Int.le_refl b0) v1 (Int.le_refl c0) (Dia.sub (x1 := c0) (y1 := c1) (Int.le_refl c0) (Int.le_refl c0) hc)
  have r := as_part p.1 q.1 q.2 (alt_fx _ _ _ _ _ _)
  omega
variable {lp : List PgV} {ls : List StarV} {s : ByteArray}
end Go.Proofs.YtkhhdpndcidmgaaGreat
/- Covers, the program's and the reference's; Pages and Stars. -/
namespace Go.Proofs.YtkhhdpndcidmgaaGreat
open Go.RowKit Go.Shelf

end Go.Proofs.YtkhhdpndcidmgaaGreat
/- Equal rows of stars, equal lists, equal pages. -/
namespace Go.Proofs.YtkhhdpndcidmgaaGreat
open Go.RowKit Go.Shelf

end Go.Proofs.YtkhhdpndcidmgaaGreat
/- The law AlmanacMakes. -/
namespace Go.Proofs.YtkhhdpndcidmgaaGreat
open Go.RowKit Go.Shelf

end Go.Proofs.YtkhhdpndcidmgaaGreat
