/- Contracts and plain laws, several texts in one: Rf3; Rf4; Rf6; Rf7; Sgn; Wh0; Wh1; Rf5; Rf8 -/
import Derived.RangeFuncNested
import Derived.RangeFuncBound
import Derived.RangeFuncCalls
import Derived.RangeFuncLeaves
import Derived.Shelf.Abstract
import Derived.Shelf.RegionOpen
import Derived.WalkKit
import Derived.OwnWalkIn
import Derived.TacticsInMore
import Derived.LoopNIn
import Derived.LoopIn
import Derived.Lib.Hide
import Derived.Test.YtnnmfdeeicpdlaaGreatProg
import Derived.WalkSpells
import Derived.WalkLawsBesides
import Derived.BigQuiet
import Derived.Deep.RegionWith
import Derived.Test.YtnnmfdeeicpdlaaGreatPAA
import Derived.Test.YtnnmfdeeicpdlaaGreatPAB
import Derived.Test.YtnnmfdeeicpdlaaGreatPAC
import Derived.Test.YtnnmfdeeicpdlaaGreatPAO
import Derived.Test.YtnnmfdeeicpdlaaGreatPBB
import Derived.Test.YtnnmfdeeicpdlaaGreatPBC
import Derived.Test.YtnnmfdeeicpdlaaGreatPBE
import Derived.Test.YtnnmfdeeicpdlaaGreatPBG
import Derived.Test.YtnnmfdeeicpdlaaGreatPBH
/- increments.over: the iterator made, the loop over it. -/
namespace Go.Proofs.YtnnmfdeeicpdlaaGreat
open Go.RowKit Go.Shelf
attribute [local go_sem] Oper.semAt_some

@[local go_sem] theorem run_store_func {P : Program} {w : World} {a : Addr} {m : Mode} (f : Fn) (x y : Array Value) : (store a (.func f x y) m).run P w = stored P w a (.func f x y) m := run_store P w a _ m rfl
def hull2 (a b : Int × Int) : Int × Int := (min a.1 b.1, max a.2 b.2)
theorem Kept.row {p : Nat → Prop} {W0 : World} (hp : ∀ k, p k → k < W0.heap.size) (W : World) (l : Nat) (o o' : Obj) (hl : W0.heap.size ≤ l) (_ : W.heap[l]? = some o) (_ : o.isCells = false) (_ : o.isWalk = false) : Kept p W (W.putObj l o') :=
  ⟨(grownBy_putObj' W l o').size, fun k hk => World.putObj_heap_other (by have := hp k hk; omega)⟩
theorem Kept.set {p : Nat → Prop} {A B : World} (h : Kept p A B) {b i : Nat} {v : Value} (hb : ∀ k, p k → k ≠ b) : Kept p A (B.setCell ⟨b, i, none⟩ v) :=
  ⟨by simp only [World.setCell, Array.size_modify]; exact h.size, fun k hk => (Below.heap_setCell B _ _ k (hb k hk)).trans (h.same k hk)⟩
def Bnd (x : Int × Int) : Prop := -1099511627776 ≤ x.1 ∧ x.1 ≤ x.2 ∧ x.2 ≤ 1099511627776
theorem Bnd.hull {x y : Int × Int} (h : Bnd x) (k : Bnd y) : Bnd (hull2 x y) := by unfold Bnd hull2 at *; dsimp only at *; omega
end Go.Proofs.YtnnmfdeeicpdlaaGreat
/- The unwrapped hour angles: increments.angles and the reference. -/
namespace Go.Proofs.YtnnmfdeeicpdlaaGreat
open Go.RowKit

def ang (g : List Int) : Nat → Int
  | 0 => 100 * nth g 0
  | k + 1 => ang g k + (100 * (nth g (k + 1) - nth g k)) % 21600000
end Go.Proofs.YtnnmfdeeicpdlaaGreat
/- increments.gha, dec: the arcs of hours, the values over a span. -/
namespace Go.Proofs.YtnnmfdeeicpdlaaGreat
open Go.RowKit

end Go.Proofs.YtnnmfdeeicpdlaaGreat
/- increments.instant, Gha, Dec, During. -/
namespace Go.Proofs.YtnnmfdeeicpdlaaGreat
open Go.RowKit

end Go.Proofs.YtnnmfdeeicpdlaaGreat
/- angle.Signed. -/
namespace Go.Proofs.YtnnmfdeeicpdlaaGreat
open Go.RowKit

def sgnI (n : Int) : Int := if n % 21600000 < 10800000 then n % 21600000 else n % 21600000 - 21600000
end Go.Proofs.YtnnmfdeeicpdlaaGreat
/- Where a body is: the plain law (values). -/
namespace Go.Proofs.YtnnmfdeeicpdlaaGreat
open Go.RowKit Go.Shelf

structure GeoV where
  a : Int
  b : Int
  c : Int
  d : Int
  e : Int
  f : Int
  g : Int
  h : Int
def g0 : GeoV := ⟨0, 0, 0, 0, 0, 0, 0, 0⟩
def hulL (a c : Int) : Int := mn a (a + sgnI (c - a))
def hulH (a b c d : Int) : Int := mx b (a + sgnI (c - a) + d - c)
def joinV (x y : GeoV) : GeoV :=
  ⟨turnLo (hulL x.a y.a) (hulH x.a x.b y.a y.b), turnHi (hulL x.a y.a) (hulH x.a x.b y.a y.b), mn x.c y.c, mx x.d y.d, mn x.e y.e, mx x.f y.f, mn x.g y.g, mx x.h y.h⟩
variable {lp : List PgV} {ls : List StarV} {s : ByteArray} {a b : Int}
end Go.Proofs.YtnnmfdeeicpdlaaGreat
/- Days, the page of a day, the track of a body on a day: the program's and the reference's. -/
namespace Go.Proofs.YtnnmfdeeicpdlaaGreat
open Go.RowKit Go.Shelf

structure BkL (P : Nat → Prop) (w : World) (bk : Nat) (vd vp vs : Value) (lp : List PgV) : Prop where
  bk : Bk w bk vd vp vs
  days : Sl w vd (dysL lp)
  pgs : PgsD P w vp lp
  ord : OrdK lp lp.length
  ok : ∀ p ∈ lp, PgOk p
  few : lp.length ≤ 40
theorem BkL.lay {P : Nat → Prop} {w : World} {bk : Nat} {vd vp vs : Value} {lp : List PgV} (h : BkL P w bk vd vp vs lp) (L : List (Obj ⊕ Ext)) : BkL P (lay w L) bk vd vp vs lp :=
  ⟨h.bk.lay L, h.days.lay L, h.pgs.lay L, h.ord, h.ok, h.few⟩
end Go.Proofs.YtnnmfdeeicpdlaaGreat
/- The reference's lists: Unwrapped, Declinations. -/
namespace Go.Proofs.YtnnmfdeeicpdlaaGreat
open Go.RowKit

end Go.Proofs.YtnnmfdeeicpdlaaGreat
/- The reference of layer 14: the arc at an instant. -/
namespace Go.Proofs.YtnnmfdeeicpdlaaGreat
open Go.RowKit

structure Row (w : World) (g : Nat) (f : Nat → Int) : Prop where
  lt : g < w.heap.size
  cell : ∀ k, k < 25 → w.cell? ⟨g, k, none⟩ = some (.int .i64 (f k))
  bd : ∀ i, i ≤ 24 → -1000000000000 ≤ f i ∧ f i ≤ 1000000000000
theorem Row.lay {w : World} {g : Nat} {f : Nat → Int} (h : Row w g f) (L : List (Obj ⊕ Ext)) : Row (lay w L) g f :=
  ⟨Nat.lt_of_lt_of_le h.lt (lay_extends w L).size, fun k hk => ((lay_extends w L).cell (p := ⟨g, k, none⟩) h.lt).trans (h.cell k hk), h.bd⟩
end Go.Proofs.YtnnmfdeeicpdlaaGreat
