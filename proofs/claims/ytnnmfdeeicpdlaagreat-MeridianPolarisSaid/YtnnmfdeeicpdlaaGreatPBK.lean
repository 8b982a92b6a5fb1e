/- Contracts and plain laws, several texts in one: Mdf; Nw3; Lwh; Lho; Sub; Agr; Stp; Lst; Prt -/
import Derived.Test.YtnnmfdeeicpdlaaGreatProg
import Derived.WalkKit
import Derived.WalkSpells
import Derived.WalkLawsBesides
import Derived.Lib.Hide
import Derived.BigQuiet
import Derived.Test.YtnnmfdeeicpdlaaGreatPAA
import Derived.Test.YtnnmfdeeicpdlaaGreatPBE
import Derived.Test.YtnnmfdeeicpdlaaGreatPBF
import Derived.Test.YtnnmfdeeicpdlaaGreatPBH
import Derived.Test.YtnnmfdeeicpdlaaGreatPBI
import Derived.Test.YtnnmfdeeicpdlaaGreatPBJ
/- almanac.New by its error number; the law's made in full; a book that is made. -/
namespace Go.Proofs.YtnnmfdeeicpdlaaGreat
open Go.RowKit Go.Shelf

structure NewOk (lp : List PgV) (ls : List StarV) : Prop where
  few : lp.length ≤ 40
  ok : ∀ p ∈ lp, PgOk p
  cat : catB ls = true
  ord : OrdK lp lp.length
  tw : twB lp ls = false
theorem BkA.bw {w : World} {bk : Nat} {lp : List PgV} {ls : List StarV} {W : World} (h : BkA w bk lp ls W) (L : List (Obj ⊕ Ext)) : BkA w bk lp ls (lay W L) := by
  obtain ⟨h0, vd, vp, vs, h1, h2, h3, h4, h5, h6⟩ := h
  exact ⟨h0, vd, vp, vs, h1.lay L, h2.lay L, h3, h4.lay L, h5.lay L, h6⟩
theorem BkA.open {w : World} {bk : Nat} {lp : List PgV} {ls : List StarV} {W : World} (h : BkA w bk lp ls W) (k : NewOk lp ls) : ∃ vd vp vs, BkL (fun b => w.heap.size ≤ b ∧ b ≠ bk) W bk vd vp vs lp ∧ SlG stR W vs ls := by
  obtain ⟨h0, vd, vp, vs, h1, h2, h3, h4, h5, h6⟩ := h
  exact ⟨vd, vp, vs, ⟨h1, h2, h4, k.ord, k.ok, k.few⟩, h5⟩
end Go.Proofs.YtnnmfdeeicpdlaaGreat
/- The example of chapter 17 (awake); right. -/
namespace Go.Proofs.YtnnmfdeeicpdlaaGreat
open Go.RowKit Go.Shelf

end Go.Proofs.YtnnmfdeeicpdlaaGreat
/- The laws AlmanacWhere and AlmanacHours. -/
namespace Go.Proofs.YtnnmfdeeicpdlaaGreat
open Go.RowKit Go.Shelf

theorem RfL.lay {P : Nat → Prop} {w : World} {vp vs : Value} {lp : List PgV} {ls : List StarV} (h : RfL P w vp vs lp ls) (L : List (Obj ⊕ Ext)) : RfL P (lay w L) vp vs lp ls := ⟨h.pgs.lay L, h.sts.lay L, h.ok, h.few, h.cat⟩
end Go.Proofs.YtnnmfdeeicpdlaaGreat
/- The local hour angle: the program's and the reference's; the law AlmanacHours. -/
namespace Go.Proofs.YtnnmfdeeicpdlaaGreat
open Go.RowKit Go.Shelf

end Go.Proofs.YtnnmfdeeicpdlaaGreat
/- The value over a part of a span lies within the value over the span. No program in sight. -/
namespace Go.Proofs.YtnnmfdeeicpdlaaGreat
open Go.RowKit

end Go.Proofs.YtnnmfdeeicpdlaaGreat
/- angle.Agree. -/
namespace Go.Proofs.YtnnmfdeeicpdlaaGreat
open Go.RowKit

end Go.Proofs.YtnnmfdeeicpdlaaGreat
/- Plain law: a star goes with Aries, and is where it was after a sidereal day. No program in sight. -/
namespace Go.Proofs.YtnnmfdeeicpdlaaGreat

end Go.Proofs.YtnnmfdeeicpdlaaGreat
/- The walk of the law AlmanacStars. -/
namespace Go.Proofs.YtnnmfdeeicpdlaaGreat
open Go.RowKit Go.Shelf

end Go.Proofs.YtnnmfdeeicpdlaaGreat
/- A time has the places of its instants: the plain law. -/
namespace Go.Proofs.YtnnmfdeeicpdlaaGreat
open Go.RowKit Go.Shelf

def Dia (x0 y0 x1 y1 : Int) : Prop := 21600000 ≤ y1 - x1 ∨ (y0 - x0 < 21600000 ∧ (x0 - x1) % 21600000 + (y0 - x0) ≤ y1 - x1)
theorem Dia.sub {x0 y0 x1 y1 : Int} (h1 : x1 ≤ x0) (_ : x0 ≤ y0) (h3 : y0 ≤ y1) : Dia x0 y0 x1 y1 := by unfold Dia; omega
theorem Dia.turnR {x0 y0 x1 y1 : Int} (h : Dia x0 y0 x1 y1) : Dia x0 y0 (turnLo x1 y1) (turnHi x1 y1) := by
  unfold Dia at *
  unfold turnLo turnHi
  by_cases k : 21600000 ≤ y1 - x1
  · rw [if_pos k, if_pos k]; omega
  · rw [if_neg k, if_neg k]; omega
theorem Dia.add {x0 y0 x1 y1 c d : Int} (h : Dia x0 y0 x1 y1) (hc : c ≤ d) : Dia (x0 + c) (y0 + d) (x1 + c) (y1 + d) := by
  unfold Dia at *
  rw [show x0 + c - (x1 + c) = x0 - x1 by omega]
  omega
theorem Dia.monoR {x0 y0 x1 y1 x2 y2 : Int} (h : Dia x0 y0 x1 y1) (h1 : x2 ≤ x1) (h2 : y1 ≤ y2) : Dia x0 y0 x2 y2 := by unfold Dia at *; omega
theorem Dia.shiftR {x0 y0 x1 y1 x2 y2 : Int} (h : Dia x0 y0 x1 y1) (h1 : (x2 - x1) % 21600000 = 0) (h2 : y2 - x2 = y1 - x1) : Dia x0 y0 x2 y2 := by
  unfold Dia at *
  have : (x0 - x2) % 21600000 = (x0 - x1) % 21600000 := by omega
  rw [this]; omega
theorem sgn_mod (n : Int) : (sgnI n - n) % 21600000 = 0 := by unfold sgnI; split <;> omega
theorem Dia.joinL {x0 y0 a b c d : Int} (h : Dia x0 y0 a b) : Dia x0 y0 (turnLo (hulL a c) (hulH a b c d)) (turnHi (hulL a c) (hulH a b c d)) := by
  refine Dia.turnR (h.monoR ?_ ?_)
  · unfold hulL; rw [mn_eq]; omega
  · unfold hulH; rw [mx_eq]; omega
theorem Dia.joinR {x0 y0 a b c d : Int} (h : Dia x0 y0 c d) : Dia x0 y0 (turnLo (hulL a c) (hulH a b c d)) (turnHi (hulL a c) (hulH a b c d)) := by
  have hs := sgn_mod (c - a)
  refine Dia.turnR ((h.shiftR (x2 := a + sgnI (c - a)) (y2 := a + sgnI (c - a) + d - c) ?_ ?_).monoR ?_ ?_)
  · rw [show a + sgnI (c - a) - c = sgnI (c - a) - (c - a) by omega]; exact hs
  · omega
  · unfold hulL; rw [mn_eq]; omega
  · unfold hulH; rw [mx_eq]; omega
structure PartOk (x g : GeoV) : Prop where
  gha : Dia x.a x.b g.a g.b
  dec : g.c ≤ x.c ∧ x.d ≤ g.d
  semi : g.e ≤ x.e ∧ x.f ≤ g.f
  par : g.g ≤ x.g ∧ x.h ≤ g.h
theorem PartOk.left {x g h : GeoV} (k : PartOk x g) : PartOk x (joinV g h) := by
  obtain ⟨k1, k2, k3, k4⟩ := k
  refine ⟨k1.joinL, ?_, ?_, ?_⟩ <;> (unfold joinV; dsimp only; rw [mn_eq, mx_eq]; omega)
theorem PartOk.right {x g h : GeoV} (k : PartOk x h) : PartOk x (joinV g h) := by
  obtain ⟨k1, k2, k3, k4⟩ := k
  refine ⟨k1.joinR, ?_, ?_, ?_⟩ <;> (unfold joinV; dsimp only; rw [mn_eq, mx_eq]; omega)
end Go.Proofs.YtnnmfdeeicpdlaaGreat
