/- Contracts and plain laws, several texts in one: Alm1; Alm2; Alm3; Alm4; RowS; RowB; Cln; Sta3; Sta4 -/
import Derived.Test.YtnnmfdeeicpdlaaGreatProg
import Derived.WalkKit
import Derived.WalkSpells
import Derived.WalkLawsBesides
import Derived.Lib.Hide
import Derived.BigQuiet
import Derived.Test.YtnnmfdeeicpdlaaGreatPAA
import Derived.Test.YtnnmfdeeicpdlaaGreatPAB
import Derived.Test.YtnnmfdeeicpdlaaGreatPAR
import Derived.Test.YtnnmfdeeicpdlaaGreatPBB
import Derived.Test.YtnnmfdeeicpdlaaGreatPBC
import Derived.Test.YtnnmfdeeicpdlaaGreatPBD
/- Contracts of package almanac: the arc for tenths. -/
namespace Go.Proofs.YtnnmfdeeicpdlaaGreat
open Go.RowKit

end Go.Proofs.YtnnmfdeeicpdlaaGreat
/- Sums of arcs (package angle). -/
namespace Go.Proofs.YtnnmfdeeicpdlaaGreat
open Go.RowKit

end Go.Proofs.YtnnmfdeeicpdlaaGreat
/- almanac.star: where a star is over a time. -/
namespace Go.Proofs.YtnnmfdeeicpdlaaGreat
open Go.RowKit

end Go.Proofs.YtnnmfdeeicpdlaaGreat
/- (*almanac.Book).Where for Aries and for stars. -/
namespace Go.Proofs.YtnnmfdeeicpdlaaGreat
open Go.RowKit

def ariesS : ByteArray := ⟨#[65, 114, 105, 101, 115]⟩
structure Bk (w : World) (b : Nat) (vd vp vs : Value) : Prop where
  lt : b < w.heap.size
  c0 : w.cell? ⟨b, 0, none⟩ = some vd
  c1 : w.cell? ⟨b, 1, none⟩ = some vp
  c2 : w.cell? ⟨b, 2, none⟩ = some vs
theorem Bk.lay {w : World} {b : Nat} {vd vp vs : Value} (h : Bk w b vd vp vs) (L : List (Obj ⊕ Ext)) : Bk (lay w L) b vd vp vs :=
  ⟨Nat.lt_of_lt_of_le h.lt (lay_extends w L).size, (lay_old w L 0 b h.lt).trans h.c0, (lay_old w L 1 b h.lt).trans h.c1, (lay_old w L 2 b h.lt).trans h.c2⟩
end Go.Proofs.YtnnmfdeeicpdlaaGreat
/- An append to a row of records, at a step of a region that draws its order. No function of the program. -/
namespace Go.Proofs.YtnnmfdeeicpdlaaGreat
open Go.RowKit
variable {α : Type} {R : RecT α}

end Go.Proofs.YtnnmfdeeicpdlaaGreat
/- Steps of a branching schedule: appends to a row of records. No function of the program. -/
namespace Go.Proofs.YtnnmfdeeicpdlaaGreat
open Go.RowKit
variable {α : Type} {R : RecT α}

end Go.Proofs.YtnnmfdeeicpdlaaGreat
/- slices.Clone at rows of records: a row of the call's own that holds the same records. -/
namespace Go.Proofs.YtnnmfdeeicpdlaaGreat
open Go.RowKit

end Go.Proofs.YtnnmfdeeicpdlaaGreat
/- Valid catalogues, in the program and in the reference. -/
namespace Go.Proofs.YtnnmfdeeicpdlaaGreat
open Go.RowKit Go.Shelf

def StOk1 (l : List StarV) (i : Nat) (x : StarV) : Prop := nameB x.s = true ∧ numB x.sha x.dec x.mag = true ∧ fndS l x.s = (i : Int)
structure Cat (l : List StarV) : Prop where
  len : l.length ≤ 100
  ok : ∀ i x, l[i]? = some x → StOk1 l i x
noncomputable def catB (l : List StarV) : Bool := @decide (Cat l) (Classical.propDecidable _)
theorem catB_iff {l : List StarV} : catB l = true ↔ Cat l := by unfold catB; simp
end Go.Proofs.YtnnmfdeeicpdlaaGreat
/- Valid catalogues in the reference. -/
namespace Go.Proofs.YtnnmfdeeicpdlaaGreat
open Go.RowKit Go.Shelf

end Go.Proofs.YtnnmfdeeicpdlaaGreat
