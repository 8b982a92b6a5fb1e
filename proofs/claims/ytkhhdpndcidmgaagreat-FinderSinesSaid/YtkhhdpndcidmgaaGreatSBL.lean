/- Contracts and plain laws, several texts in one: Mde; Wh6; Wh7; Mdf; Nw3; Lwh; Lho; Agr; Stp; Lst; Prt; Hz0; Nd2; Ne1; LcZ; Ne2; Ne3; Ne4; Mk1; Mk2; Mk3 -/
import Derived.Test.YtkhhdpndcidmgaaGreatProg
import Derived.WalkKit
import Derived.WalkSpells
import Derived.WalkLawsBesides
import Derived.Lib.Hide
import Derived.BigQuiet
import GoSem.Core.Next
import Derived.Test.YtkhhdpndcidmgaaGreatSAC
import Derived.Test.YtkhhdpndcidmgaaGreatSAD
import Derived.Test.YtkhhdpndcidmgaaGreatSAE
import Derived.Test.YtkhhdpndcidmgaaGreatSAF
import Derived.Test.YtkhhdpndcidmgaaGreatSAG
import Derived.Test.YtkhhdpndcidmgaaGreatSAH
import Derived.Test.YtkhhdpndcidmgaaGreatSAI
import Derived.Test.YtkhhdpndcidmgaaGreatSAJ
import Derived.Test.YtkhhdpndcidmgaaGreatSAK
import Derived.Test.YtkhhdpndcidmgaaGreatSAL
import Derived.Test.YtkhhdpndcidmgaaGreatSAM
import Derived.Test.YtkhhdpndcidmgaaGreatSAN
import Derived.Test.YtkhhdpndcidmgaaGreatSAO
import Derived.Test.YtkhhdpndcidmgaaGreatSAU
import Derived.Test.YtkhhdpndcidmgaaGreatSAW
import Derived.Test.YtkhhdpndcidmgaaGreatSAX
import Derived.Test.YtkhhdpndcidmgaaGreatSAY
import Derived.Test.YtkhhdpndcidmgaaGreatSAZ
import Derived.Test.YtkhhdpndcidmgaaGreatSBF
import Derived.Test.YtkhhdpndcidmgaaGreatSBG
import Derived.Test.YtkhhdpndcidmgaaGreatSBJ
import Derived.Test.YtkhhdpndcidmgaaGreatSBK
/- The law's large and made, in full. -/
namespace Go.Proofs.YtkhhdpndcidmgaaGreat
open Go.RowKit Go.Shelf

end Go.Proofs.YtkhhdpndcidmgaaGreat
/- The reference's Where. -/
namespace Go.Proofs.YtkhhdpndcidmgaaGreat
open Go.RowKit Go.Shelf

end Go.Proofs.YtkhhdpndcidmgaaGreat
/- The reference's Where at tracks, and in full. -/
namespace Go.Proofs.YtkhhdpndcidmgaaGreat
open Go.RowKit Go.Shelf

end Go.Proofs.YtkhhdpndcidmgaaGreat
/- almanac.New by its error number; the law's made in full; a book that is made. -/
namespace Go.Proofs.YtkhhdpndcidmgaaGreat
open Go.RowKit Go.Shelf

end Go.Proofs.YtkhhdpndcidmgaaGreat
/- The example of chapter 17 (awake); right. -/
namespace Go.Proofs.YtkhhdpndcidmgaaGreat
open Go.RowKit Go.Shelf

theorem tracked_nil_post (bk : Nat) (vd vs : Value) (w : World) (hB : Bk w bk vd (.slice none 0 0) vs) :
    Calls Tryz.prog 55 #[.pointer (some ⟨bk, 0, none⟩)] w (StrPost w []) :=
  (alm_tracked_nil bk vd vs w hB).mono fun _ _ ⟨h1, d, h2⟩ => ⟨none, 0, d, h1, h2, fun _ => rfl, SlG.nil _ _⟩
def vegaS : ByteArray := ⟨#[86, 101, 103, 97]⟩
def vegaV : StarV := ⟨vegaS, 48000, 0, 0⟩
theorem vega_name : nameB vegaS = true := by
  refine nameB_iff.2 ⟨by decide, by decide, fun i hi => ?_, by decide⟩
  have h4 : i < 4 := hi
  match i, h4 with
  | 0, _ => decide
  | 1, _ => decide
  | 2, _ => decide
  | 3, _ => decide
theorem vega_cat : catB [vegaV] = true := by
  refine catB_iff.2 ⟨by decide, fun i x hx => ?_⟩
  cases i with
  | zero =>
    simp only [List.getElem?_cons_zero, Option.some.injEq] at hx
    subst hx
    refine ⟨vega_name, by decide, ?_⟩
    show (if (vegaS.toList == vegaS.toList) then ((0 : Nat) : Int) else _) = _
    rw [if_pos (beq_self_eq_true _)]
  | succ i => simp at hx
theorem vega_find : fndS [vegaV] vegaS = ((0 : Nat) : Int) := by
  show (if (vegaS.toList == vegaS.toList) then ((0 : Nat) : Int) else _) = _
  rw [if_pos (beq_self_eq_true _)]
theorem vega_list : vegaS.toList = [86, 101, 103, 97] := by rw [ByteArray.toList_eq]; rfl
theorem vega_notA : [vegaV].any (fun x => isA x.s) = false := by
  show (isA vegaS || false) = false
  unfold isA
  rw [vega_list]
  rfl
theorem eg_sg : sgL 0 0 48000 = 10798017 ∧ sgH 0 0 48000 = 10798118 := by decide +kernel
theorem vega_lit (w : World) (L : List (Obj ⊕ Ext)) : SlG stR (lay w (.inl (.cells #[.string vegaS, .int .i64 48000, .int .i64 0, .int .i64 0] 42 (0, 0)) :: L)) (.slice (some ⟨posn w (shp L), 0, none⟩) 1 1) [vegaV] :=
  (owG_lit stOk [vegaV] rfl (by decide) (by intro x hx; rw [List.mem_singleton.1 hx]; exact ⟨by decide, by decide, by decide, by decide⟩)).sl stOk
end Go.Proofs.YtkhhdpndcidmgaaGreat
/- The laws AlmanacWhere and AlmanacHours. -/
namespace Go.Proofs.YtkhhdpndcidmgaaGreat
open Go.RowKit Go.Shelf

end Go.Proofs.YtkhhdpndcidmgaaGreat
/- The local hour angle: the program's and the reference's; the law AlmanacHours. -/
namespace Go.Proofs.YtkhhdpndcidmgaaGreat
open Go.RowKit Go.Shelf

end Go.Proofs.YtkhhdpndcidmgaaGreat
/- angle.Agree. -/
namespace Go.Proofs.YtkhhdpndcidmgaaGreat
open Go.RowKit

end Go.Proofs.YtkhhdpndcidmgaaGreat
/- Plain law: a star goes with Aries, and is where it was after a sidereal day. No program in sight. -/
namespace Go.Proofs.YtkhhdpndcidmgaaGreat

end Go.Proofs.YtkhhdpndcidmgaaGreat
/- The walk of the law AlmanacStars. -/
namespace Go.Proofs.YtkhhdpndcidmgaaGreat
open Go.RowKit Go.Shelf

end Go.Proofs.YtkhhdpndcidmgaaGreat
/- A time has the places of its instants: the plain law. -/
namespace Go.Proofs.YtkhhdpndcidmgaaGreat
open Go.RowKit Go.Shelf

def Dia (x0 y0 x1 y1 : Int) : Prop := 21600000 ≤ y1 - x1 ∨ (y0 - x0 < 21600000 ∧ (x0 - x1) % 21600000 + (y0 - x0) ≤ y1 - x1)
theorem Dia.sub {x0 y0 x1 y1 : Int} (h1 : x1 ≤ x0) (_ : x0 ≤ y0) (h3 : y0 ≤ y1) : Dia x0 y0 x1 y1 := by unfold Dia; omega
theorem Dia.add {x0 y0 x1 y1 c d : Int} (h : Dia x0 y0 x1 y1) (hc : c ≤ d) : Dia (x0 + c) (y0 + d) (x1 + c) (y1 + d) := by
  unfold Dia at *
  rw [show x0 + c - (x1 + c) = x0 - x1 by omega]
  omega
end Go.Proofs.YtkhhdpndcidmgaaGreat
/- Altitudes of arcs: a part's altitude lies within the whole's. Plain Lean. -/
namespace Go.Proofs.YtkhhdpndcidmgaaGreat
open Go.RowKit Go.Shelf

theorem metB_sh (lo hi n k : Int) : metB (lo + 21600000 * k) (hi + 21600000 * k) n = metB lo hi n := by
  unfold metB
  rw [decide_eq_decide]
  omega
theorem enc_turn (lo hi k : Int) : encL (lo + 21600000 * k) (hi + 21600000 * k) = encL lo hi ∧ encH (lo + 21600000 * k) (hi + 21600000 * k) = encH lo hi := by
  rw [encL_at, encL_at, encH_at, encH_at, metB_sh, metB_sh, (b_shift lo k).1, (b_shift lo k).2, (b_shift hi k).1, (b_shift hi k).2]
  exact ⟨rfl, rfl⟩
theorem enc_dia {x0 y0 x1 y1 : Int} (h : x0 ≤ y0) (d : Dia x0 y0 x1 y1) : encL x1 y1 ≤ encL x0 y0 ∧ encH x0 y0 ≤ encH x1 y1 := by
  have e := @enc_in x0 y0
  rcases d with d | ⟨d1, d2⟩
  · have m1 : metB x1 y1 16200000 = true := by unfold metB; rw [decide_eq_true_eq]; omega
    have m2 : metB x1 y1 5400000 = true := by unfold metB; rw [decide_eq_true_eq]; omega
    rw [encL_at x1, encH_at x1, m1, m2, if_pos rfl, if_pos rfl]
    omega
  · have t := enc_turn x0 y0 (-((x0 - x1) / 21600000))
    have p := enc_part (lo := x1) (hi := y1) (x := x0 + 21600000 * (-((x0 - x1) / 21600000))) (y := y0 + 21600000 * (-((x0 - x1) / 21600000))) (by omega) (by omega) (by omega)
    rw [t.1, t.2] at p
    exact p
theorem cos_dia {x0 y0 x1 y1 : Int} (h : x0 ≤ y0) (d : Dia x0 y0 x1 y1) : cosL x1 y1 ≤ cosL x0 y0 ∧ cosH x0 y0 ≤ cosH x1 y1 := by
  unfold cosL cosH
  exact enc_dia (by omega) (d.add (Int.le_refl _))
theorem alt_part {a0 a1 b0 b1 c0 c1 p0 p1 q0 q1 r0 r1 : Int} (h0 : a0 ≤ p0) (h : p0 ≤ p1) (h1 : p1 ≤ a1) (g0 : b0 ≤ q0) (g : q0 ≤ q1) (g1 : q1 ≤ b1) (hc : r0 ≤ r1) (d : Dia r0 r1 c0 c1) :
    altS0 a0 a1 b0 b1 c0 c1 ≤ altS0 p0 p1 q0 q1 r0 r1 ∧ altS1 p0 p1 q0 q1 r0 r1 ≤ altS1 a0 a1 b0 b1 c0 c1 := by
  have e1 := enc_part h0 h h1
  have e2 := enc_part g0 g g1
  have c1' : cosL a0 a1 ≤ cosL p0 p1 ∧ cosH p0 p1 ≤ cosH a0 a1 := by unfold cosL cosH; exact enc_part (by omega) (by omega) (by omega)
  have c2' : cosL b0 b1 ≤ cosL q0 q1 ∧ cosH q0 q1 ≤ cosH b0 b1 := by unfold cosL cosH; exact enc_part (by omega) (by omega) (by omega)
  have c3' := cos_dia hc d
  have m1 := mul_part e1.1 enc_in.2.1 e1.2 e2.1 enc_in.2.1 e2.2
  have m2 : ccL a0 a1 b0 b1 ≤ ccL p0 p1 q0 q1 ∧ ccH p0 p1 q0 q1 ≤ ccH a0 a1 b0 b1 := mul_part c1'.1 (cos_in2 _ _).2.1 c1'.2 c2'.1 (cos_in2 _ _).2.1 c2'.2
  have m3 := mul_part m2.1 (cc_in _ _ _ _).2.1 m2.2 c3'.1 (cos_in2 _ _).2.1 c3'.2
  unfold altS0 altS1 ssL ssH c3L c3H
  omega
theorem as_part {L H l h : Int} (hE : asE L H = 0) (hl : l ≤ L) (hh : H ≤ h) (hf : fxB l h = true) : asE l h = 0 ∧ asL l h ≤ asL L H ∧ asH L H ≤ asH l h ∧ -5400000 ≤ asL l h ∧ asH l h ≤ 5400000 := by
  have hE2 : asE l h = 0 := by
    have hE' := hE
    rw [asE_at] at hE' ⊢
    rw [hf, if_neg (by decide)]
    rw [mn_eq, mx_eq] at *
    split at hE'
    · omega
    · split at hE' <;> split <;> omega
  have m1 := asnI_mono (v := mx l (-1073741824)) (u := mx L (-1073741824)) (by rw [mx_eq]; omega) (by rw [mx_eq, mx_eq]; omega)
  have m2 := asnI_mono (v := -(mn h 1073741824)) (u := -(mn H 1073741824)) (by rw [mn_eq]; omega) (by rw [mn_eq, mn_eq]; omega)
  have i1 := asnI_in (v := mx l (-1073741824)) (by rw [mx_eq]; omega)
  have i2 := asnI_in (v := -(mn h 1073741824)) (by rw [mn_eq]; omega)
  unfold asL asH
  rw [if_pos hE, if_pos hE, if_pos hE2, if_pos hE2]
  omega
theorem alt_someG {a0 a1 b0 b1 c0 c1 : Int} (ha : latB a0 a1 = true) (hb : latB b0 b1 = true) (hc : c0 ≤ c1) :
    asE (altS0 a0 a1 b0 b1 c0 c1) (altS1 a0 a1 b0 b1 c0 c1) = 0 ∧ -5400000 ≤ asL (altS0 a0 a1 b0 b1 c0 c1) (altS1 a0 a1 b0 b1 c0 c1) ∧ asL (altS0 a0 a1 b0 b1 c0 c1) (altS1 a0 a1 b0 b1 c0 c1) ≤ asH (altS0 a0 a1 b0 b1 c0 c1) (altS1 a0 a1 b0 b1 c0 c1) ∧ asH (altS0 a0 a1 b0 b1 c0 c1) (altS1 a0 a1 b0 b1 c0 c1) ≤ 5400000 := by
  obtain ⟨u1, u2, u3⟩ := latB_iff.1 ha
  obtain ⟨v1, v2, v3⟩ := latB_iff.1 hb
  have p := alt_some (lat := a0) (dec := b0) (lha := c0) u2 (by omega) v2 (by omega)
  have q := alt_part (Int.le_refl a0) (Int.le_refl a0) u1 (Int.le_refl b0) (Int.le_refl b0) v1 (Int.le_refl c0) (Dia.sub (x1 := c0) (y1 := c1) (Int.le_refl c0) (Int.le_refl c0) hc)
  have r := as_part p.1 q.1 q.2 (alt_fx _ _ _ _ _ _)
  omega
variable {lp : List PgV} {ls : List StarV} {s : ByteArray}
end Go.Proofs.YtkhhdpndcidmgaaGreat
/- The reference's side of a direction of the first quadrant. -/
namespace Go.Proofs.YtkhhdpndcidmgaaGreat
open Go.RowKit

end Go.Proofs.YtkhhdpndcidmgaaGreat
/- The reference's guess of a direction: Rough, direction. -/
namespace Go.Proofs.YtkhhdpndcidmgaaGreat
open Go.RowKit

end Go.Proofs.YtkhhdpndcidmgaaGreat
/- No whole point is near to any direction, but the half one. No program in sight. -/
namespace Go.Proofs.YtkhhdpndcidmgaaGreat

set_option maxRecDepth 100000
theorem far_2700000 : FarN 2700000 1033437718471923706666374484006904511252095952351 1033437718471923706666374484006904511252095701200 := by
  have h := far_190000
  have h := h.next 100000 _ _ rf_290000 (b := 290000) rfl
  have h := h.next 100000 _ _ rf_390000 (b := 390000) rfl
  have h := h.next 100000 _ _ rf_490000 (b := 490000) rfl
  have h := h.next 100000 _ _ rf_590000 (b := 590000) rfl
  have h := h.next 100000 _ _ rf_690000 (b := 690000) rfl
  have h := h.next 100000 _ _ rf_790000 (b := 790000) rfl
  have h := h.next 100000 _ _ rf_890000 (b := 890000) rfl
  have h := h.next 100000 _ _ rf_990000 (b := 990000) rfl
  have h := h.next 100000 _ _ rf_1090000 (b := 1090000) rfl
  have h := h.next 100000 _ _ rf_1190000 (b := 1190000) rfl
  have h := h.next 100000 _ _ rf_1290000 (b := 1290000) rfl
  have h := h.next 100000 _ _ rf_1390000 (b := 1390000) rfl
  have h := h.next 100000 _ _ rf_1490000 (b := 1490000) rfl
  have h := h.next 100000 _ _ rf_1590000 (b := 1590000) rfl
  have h := h.next 100000 _ _ rf_1690000 (b := 1690000) rfl
  have h := h.next 100000 _ _ rf_1790000 (b := 1790000) rfl
  have h := h.next 100000 _ _ rf_1890000 (b := 1890000) rfl
  have h := h.next 100000 _ _ rf_1990000 (b := 1990000) rfl
  have h := h.next 100000 _ _ rf_2090000 (b := 2090000) rfl
  have h := h.next 100000 _ _ rf_2190000 (b := 2190000) rfl
  have h := h.next 100000 _ _ rf_2290000 (b := 2290000) rfl
  have h := h.next 100000 _ _ rf_2390000 (b := 2390000) rfl
  have h := h.next 100000 _ _ rf_2490000 (b := 2490000) rfl
  have h := h.next 100000 _ _ rf_2590000 (b := 2590000) rfl
  have h := h.next 110000 _ _ rf_2700000 (b := 2700000) rfl
  exact h
theorem far_all : FarU 2699999 := far_of_rot (by decide) far_2700000
end Go.Proofs.YtkhhdpndcidmgaaGreat
/- The reference's angle of a point of the first quadrant: direction, floor. -/
namespace Go.Proofs.YtkhhdpndcidmgaaGreat
open Go.RowKit

theorem sideV_0 {x y : Int} (y0 : 0 ≤ y) : sideV 0 x y ≤ 0 := by
  unfold sideV sgI
  rw [if_pos rfl]
  split
  · decide
  · rw [if_neg (by omega)]; decide
theorem sideV_q {x y : Int} (x0 : 0 < x) : sideV 5400000 x y = 1 := by
  unfold sideV sgI
  rw [if_neg (by decide), if_neg (by decide), if_pos rfl, if_neg (by omega), if_pos x0]
end Go.Proofs.YtkhhdpndcidmgaaGreat
/- The sides of a point grow with the direction: the reference's floor is the program's angle. No walk. -/
namespace Go.Proofs.YtkhhdpndcidmgaaGreat
open Go.RowKit

theorem one_num : 29 / 100000000 + 1 / (k160 : Rat) ≤ (s1U : Rat) / (k160 : Rat) ∧ 1 - 1 / 10000000000000 + 1 / (k160 : Rat) ≤ (c1U : Rat) / (k160 : Rat) ∧ (c1U : Rat) / (k160 : Rat) + 1 / (k160 : Rat) ≤ 1 - 1 / 100000000000000 ∧ 1 / (k160 : Rat) ≤ 1 / 10000000000000000000000000000000000000000 := by decide +kernel
theorem one_in : 29 / 100000000 ≤ sinU 1 ∧ 1 - 1 / 10000000000000 ≤ cosU 1 ∧ cosU 1 ≤ 1 - 1 / 100000000000000 := by
  obtain ⟨⟨a1, a2⟩, b1, b2⟩ := oneU_near
  obtain ⟨n1, n2, n3, n4⟩ := one_num
  generalize sinU 1 = s at *
  generalize cosU 1 = c at *
  generalize (s1U : Rat) / (k160 : Rat) = p at *
  generalize (c1U : Rat) / (k160 : Rat) = q at *
  generalize 1 / (k160 : Rat) = e at *
  refine ⟨?_, ?_, ?_⟩ <;> grind
theorem sinU_up {n : Nat} (h : n < 2700000) : sinU n + 1 / 10000000 ≤ sinU (n + 1) := by
  obtain ⟨h1, h2⟩ := sinU_step (n := n) (by omega)
  obtain ⟨i1, i2, i3⟩ := one_in
  have n4 := one_num.2.2.2
  obtain ⟨s0, s1⟩ := sinU_in (n := n) (by omega)
  obtain ⟨c0, c1⟩ := cosU_in (n := n) (by omega)
  have hx := (xi_in (n := n) (by omega)).2
  have m1 := rmul (show (0 : Rat) ≤ 17 / 25 by grind) c0 (show (0 : Rat) ≤ 29 / 100000000 by grind) i1
  have m2 := rmul s0 (show sinU n ≤ 4 / 5 by exact Rat.le_trans s1 hx) (show (0 : Rat) ≤ 1 - cosU 1 by generalize cosU 1 = c at *; grind) (show 1 - cosU 1 ≤ 1 / 10000000000000 by generalize cosU 1 = c at *; grind)
  generalize sinU (n + 1) = z at *
  generalize sinU n = s at *
  generalize cosU n = c at *
  generalize sinU 1 = p at *
  generalize cosU 1 = q at *
  generalize 1 / (k160 : Rat) = e at *
  clear i1 i2 i3 s1 hx
  grind
theorem cosU_dn {n : Nat} (h : n < 2700000) : cosU (n + 1) ≤ cosU n := by
  obtain ⟨h1, h2⟩ := cosU_step (n := n) (by omega)
  obtain ⟨i1, i2, i3⟩ := one_in
  have n4 := one_num.2.2.2
  obtain ⟨s0, s1⟩ := sinU_in (n := n) (by omega)
  obtain ⟨c0, c1⟩ := cosU_in (n := n) (by omega)
  have m1 := rmul (show (0 : Rat) ≤ 17 / 25 by grind) c0 (show (0 : Rat) ≤ 1 / 100000000000000 by grind) (show 1 / 100000000000000 ≤ 1 - cosU 1 by generalize cosU 1 = c at *; grind)
  have m2 := rmul0 s0 (show 0 ≤ sinU 1 by generalize sinU 1 = c at *; grind)
  generalize cosU (n + 1) = z at *
  generalize sinU n = s at *
  generalize cosU n = c at *
  generalize sinU 1 = p at *
  generalize cosU 1 = q at *
  generalize 1 / (k160 : Rat) = e at *
  clear i1 i2 i3 s1
  grind
theorem sinU_mono {a : Nat} : ∀ d : Nat, a + d ≤ 2700000 → sinU a ≤ sinU (a + d)
  | 0, _ => Rat.le_refl
  | d + 1, h => by
    have h1 := sinU_mono (a := a) d (by omega)
    have h2 := sinU_up (n := a + d) (by omega)
    rw [show a + (d + 1) = a + d + 1 by omega]
    generalize sinU (a + d + 1) = z at *
    generalize sinU (a + d) = y at *
    grind
theorem cosU_mono {a : Nat} : ∀ d : Nat, a + d ≤ 2700000 → cosU (a + d) ≤ cosU a
  | 0, _ => Rat.le_refl
  | d + 1, h => Rat.le_trans (by rw [show a + (d + 1) = a + d + 1 by omega]; exact cosU_dn (by omega)) (cosU_mono (a := a) d (by omega))
theorem sinU_le {a b : Nat} (h : a ≤ b) (hb : b ≤ 2700000) : sinU a ≤ sinU b := by
  have := sinU_mono (a := a) (b - a) (by omega)
  rwa [show a + (b - a) = b by omega] at this
theorem cosU_le {a b : Nat} (h : a ≤ b) (hb : b ≤ 2700000) : cosU b ≤ cosU a := by
  have := cosU_mono (a := a) (b - a) (by omega)
  rwa [show a + (b - a) = b by omega] at this
theorem mid_U : sinU 2700000 ≤ cosU 2700000 + 1 / 1000000000 := by
  obtain ⟨h1, h2⟩ := rotU_near (r := 2700000) (by decide)
  rw [show rotU 2700000 = _ from far_2700000.1] at h1 h2
  obtain ⟨a, b⟩ := h1
  obtain ⟨c, d⟩ := h2
  have hk : 64 * ((2700000 : Nat) : Rat) / (k160 : Rat) ≤ 1 / 10000000000 := by decide +kernel
  dsimp only at a b c d
  generalize sinU 2700000 = s at *
  generalize cosU 2700000 = t at *
  generalize 64 * ((2700000 : Nat) : Rat) / (k160 : Rat) = e at *
  generalize hp : ((_ : Nat) : Rat) / (k160 : Rat) = p at b
  generalize hq : ((_ : Nat) : Rat) / (k160 : Rat) = q at c
  have hpq : p ≤ q + 1 / 10000000000 := by rw [← hp, ← hq]; decide +kernel
  clear hp hq a d
  grind
theorem sin_cos_U {a b : Nat} (ha : a < 2700000) (hb : b ≤ 2700000) : sinU a + 9 / 100000000 ≤ cosU b := by
  have h1 := sinU_up ha
  have h2 := sinU_le (a := a + 1) (b := 2700000) (by omega) (Nat.le_refl _)
  have h3 := mid_U
  have h4 := cosU_le (a := b) (b := 2700000) hb (Nat.le_refl _)
  generalize sinU (a + 1) = z at *
  generalize sinU a = s at *
  generalize sinU 2700000 = m at *
  generalize cosU 2700000 = n at *
  generalize cosU b = t at *
  grind
theorem sU_mono {k1 k2 : Nat} (h : k1 < k2) (h2 : k2 < 5400000) (h3 : k1 ≠ 2700000) : sU k1 ≤ sU k2 ∧ cU k2 ≤ cU k1 := by
  unfold sU cU
  by_cases c2 : 2700000 < k2
  · rw [if_pos c2, if_pos c2]
    by_cases c1 : 2700000 < k1
    · rw [if_pos c1, if_pos c1]
      exact ⟨cosU_le (by omega) (by omega), sinU_le (by omega) (by omega)⟩
    · rw [if_neg c1, if_neg c1]
      constructor
      · have := sin_cos_U (a := k1) (b := 5400000 - k2) (by omega) (by omega)
        generalize sinU k1 = s at *
        generalize cosU (5400000 - k2) = t at *
        grind
      · have := sin_cos_U (a := 5400000 - k2) (b := k1) (by omega) (by omega)
        generalize sinU (5400000 - k2) = s at *
        generalize cosU k1 = t at *
        grind
  · rw [if_neg c2, if_neg c2, if_neg (by omega), if_neg (by omega)]
    exact ⟨sinU_le (by omega) (by omega), cosU_le (by omega) (by omega)⟩
theorem rpos {z : Int} (h : 0 ≤ z) : (0 : Rat) ≤ (z : Rat) := by exact_mod_cast h
theorem crU_mono {k1 k2 : Nat} (h : k1 < k2) (h2 : k2 < 5400000) (h3 : k1 ≠ 2700000) {u v : Int} (u0 : 0 ≤ u) (v0 : 0 ≤ v) : crU k1 u v ≤ crU k2 u v := by
  obtain ⟨a, b⟩ := sU_mono h h2 h3
  have m1 := Rat.mul_le_mul_of_nonneg_left a (rpos u0)
  have m2 := Rat.mul_le_mul_of_nonneg_left b (rpos v0)
  unfold crU
  generalize (u : Rat) = x at *
  generalize (v : Rat) = y at *
  grind
theorem side_gen {n : Nat} (h0 : n ≠ 0) (h1 : n ≠ 2700000) (h2 : n ≠ 5400000) (x y : Int) : sideV n x y = if 0 < crU n x y then 1 else -1 := by
  unfold sideV
  rw [if_neg h0, if_neg h1, if_neg h2]
theorem side_gen_le {n : Nat} (h0 : n ≠ 0) (h1 : n ≠ 2700000) (h2 : n ≠ 5400000) (x y : Int) : sideV n x y ≤ 0 ↔ ¬ 0 < crU n x y := by
  rw [side_gen h0 h1 h2]
  split
  · rename_i c
    exact ⟨fun h => by omega, fun h => absurd c h⟩
  · rename_i c
    exact ⟨fun _ => c, fun _ => by decide⟩
theorem side_half (x y : Int) : sideV 2700000 x y ≤ 0 ↔ x ≤ y := by
  unfold sideV sgI
  rw [if_neg (by decide), if_pos rfl]
  constructor
  · intro h
    rcases Int.lt_or_le y x with c | c
    · rw [if_neg (by omega), if_pos (by omega)] at h
      omega
    · exact c
  · intro h
    split
    · decide
    · rw [if_neg (by omega)]; decide
theorem sideV_mono {k1 k2 : Nat} (h : k1 < k2) (h2 : k2 ≤ 5400000) {u v : Int} (u0 : 0 < u) (v0 : 0 ≤ v) (hs : sideV k2 u v ≤ 0) : sideV k1 u v ≤ 0 := by
  by_cases z1 : k1 = 0
  · subst z1; exact sideV_0 v0
  · by_cases z2 : k2 = 5400000
    · subst z2
      rw [sideV_q u0] at hs
      omega
    · by_cases y2 : k2 = 2700000
      · subst y2
        have hu := (side_half u v).1 hs
        rw [side_gen_le z1 (by omega) (by omega)]
        have hc := sin_cos_U (a := k1) (b := k1) h (by omega)
        have s0 := (sinU_in (n := k1) (by omega)).1
        have hur := icast hu
        have m1 := Rat.mul_le_mul_of_nonneg_right hur s0
        have m2 := Rat.mul_le_mul_of_nonneg_left (show sinU k1 ≤ cosU k1 by generalize sinU k1 = s at *; generalize cosU k1 = c at *; grind) (rpos v0)
        unfold crU sU cU
        rw [if_neg (by omega), if_neg (by omega)]
        generalize sinU k1 = s at *
        generalize cosU k1 = c at *
        generalize (u : Rat) = x at *
        generalize (v : Rat) = y at *
        intro h
        clear hc hur
        grind
      · have g2 := (side_gen_le (by omega) y2 z2 u v).1 hs
        by_cases y1 : k1 = 2700000
        · subst y1
          rw [side_half]
          rcases Int.lt_or_le v u with c | c
          · exfalso
            apply g2
            have hc := sin_cos_U (a := 5400000 - k2) (b := 5400000 - k2) (by omega) (by omega)
            have s0 := (sinU_in (n := 5400000 - k2) (by omega)).1
            have hur := icast (Int.le_of_lt c)
            have u1 := icast (show (1 : Int) ≤ u by omega)
            have m1 := Rat.mul_le_mul_of_nonneg_right hur s0
            have m2 := Rat.mul_le_mul_of_nonneg_left hc (rpos (Int.le_of_lt u0))
            unfold crU sU cU
            rw [if_pos (by omega), if_pos (by omega)]
            generalize sinU (5400000 - k2) = s at *
            generalize cosU (5400000 - k2) = d at *
            rw [show ((1 : Int) : Rat) = 1 from rfl] at u1
            generalize (u : Rat) = x at *
            generalize (v : Rat) = y at *
            clear hc hur
            grind
          · exact c
        · rw [side_gen_le z1 y1 (by omega)]
          have := crU_mono h (by omega) y1 (Int.le_of_lt u0) v0
          generalize crU k1 u v = a at *
          generalize crU k2 u v = b at *
          grind
theorem rch_side {k : Nat} (hk : k < 5400000) {u v : Int} (u0 : 0 < u) (u1 : u ≤ 2147483648) (v0 : 0 ≤ v) (v1 : v ≤ 2147483648) : rchB u v k = decide (sideV k u v ≤ 0) := by
  unfold rchB
  by_cases z : k = 0
  · subst z
    rw [if_pos rfl, decide_eq_true (sideV_0 v0)]
  · rw [if_neg z]
    by_cases y : k = 2700000
    · subst y
      rw [if_pos rfl]
      exact decide_eq_decide.2 (side_half u v).symm
    · rw [if_neg y]
      refine decide_eq_decide.2 ?_
      have hf := far_cr far_all (k := k) (by omega) (Int.le_of_lt u0) u1 v0 v1 (.inl (by omega))
      rw [cr_prog (by omega) (Int.le_of_lt u0) u1 v0 v1 hf, side_gen_le z y (by omega)]
      unfold gU at hf
      generalize crU k u v = c at *
      constructor
      · intro h; grind
      · intro h; grind
theorem bisF_eq {u v : Int} {k : Nat} (hy : ∀ m, m ≤ k → rchB u v m = true) (hn : ∀ m, k < m → m < 5400000 → rchB u v m = false) : ∀ f l h : Nat, l ≤ k → k < h → h ≤ 5400000 → h - l ≤ 2 ^ f → bisF u v f l h = k
  | 0, l, h, h1, h2, h3, h4 => by
    simp at h4
    show l = k
    omega
  | f + 1, l, h, h1, h2, h3, h4 => by
    unfold bisF
    by_cases c : l + 1 < h
    · rw [if_pos c]
      rw [Nat.pow_succ] at h4
      by_cases d : (l + h) / 2 ≤ k
      · rw [if_pos (hy _ d)]
        exact bisF_eq hy hn f _ h d h2 h3 (by omega)
      · rw [hn _ (by omega) (by omega), if_neg (by decide)]
        exact bisF_eq hy hn f l _ h1 (by omega) (by omega) (by omega)
    · rw [if_neg c]
      omega
end Go.Proofs.YtkhhdpndcidmgaaGreat
/- The reference's Angle, before, Origin. -/
namespace Go.Proofs.YtkhhdpndcidmgaaGreat
open Go.RowKit

end Go.Proofs.YtkhhdpndcidmgaaGreat
/- Covers, the program's and the reference's; Pages and Stars. -/
namespace Go.Proofs.YtkhhdpndcidmgaaGreat
open Go.RowKit Go.Shelf

end Go.Proofs.YtkhhdpndcidmgaaGreat
/- Equal rows of stars, equal lists, equal pages. -/
namespace Go.Proofs.YtkhhdpndcidmgaaGreat
open Go.RowKit Go.Shelf

end Go.Proofs.YtkhhdpndcidmgaaGreat
/- The law AlmanacMakes. -/
namespace Go.Proofs.YtkhhdpndcidmgaaGreat
open Go.RowKit Go.Shelf

end Go.Proofs.YtkhhdpndcidmgaaGreat
