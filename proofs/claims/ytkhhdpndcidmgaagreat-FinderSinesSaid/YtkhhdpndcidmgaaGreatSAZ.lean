/- Contracts and plain laws, several texts in one: OpG; Opn; Idf; Pv2; Pv3; Unq; Nw2; Shs; Shs2; Trd; Tr2; Tr3; Rbd; Cln2; Cpy0; Cpy; Nwa; Nwb; Bnd; Nwc; Nwd; Opp; Rf6; Rf7; Sgn; Wh0; Rf5; Rf8; Rf9; Rf10; Sub -/
import Derived.Test.YtkhhdpndcidmgaaGreatProg
import Derived.WalkKit
import Derived.WalkSpells
import Derived.WalkLawsBesides
import Derived.Lib.Hide
import Derived.BigQuiet
import Derived.Deep.Slices
import Derived.Deep.Fields
import Derived.ChangeSame
import Derived.WideShapes
import Derived.ChangeShapes
import Derived.Lib.SmallJoins
import Derived.Sort.OwnSorted
import Derived.Lib.SlicesCompact
import Derived.Sort.Walk0
import Derived.Deep.RegionWith
import Derived.Test.YtkhhdpndcidmgaaGreatSAA
import Derived.Test.YtkhhdpndcidmgaaGreatSAC
import Derived.Test.YtkhhdpndcidmgaaGreatSAD
import Derived.Test.YtkhhdpndcidmgaaGreatSAE
import Derived.Test.YtkhhdpndcidmgaaGreatSAQ
import Derived.Test.YtkhhdpndcidmgaaGreatSAU
import Derived.Test.YtkhhdpndcidmgaaGreatSAW
import Derived.Test.YtkhhdpndcidmgaaGreatSAX
import Derived.Test.YtkhhdpndcidmgaaGreatSAY
/- A slice of records off an argument: whatever the record is. -/
namespace Go.Proofs.YtkhhdpndcidmgaaGreat
open Go.RowKit

section
variable {H : Type} {enc : TypeId × Value → H} {α : Type} {R : RecT α} {P : Program}
end
end Go.Proofs.YtkhhdpndcidmgaaGreat
/- Opening rows of records off an argument: a slice reads as a list of records, each with what its cells say. -/
namespace Go.Proofs.YtkhhdpndcidmgaaGreat
open Go.RowKit

section
variable {H : Type} {enc : TypeId × Value → H} {P : Program}

end
end Go.Proofs.YtkhhdpndcidmgaaGreat
/- slices.IndexFunc and ContainsFunc over pages and tracks, for whatever closure. -/
namespace Go.Proofs.YtkhhdpndcidmgaaGreat
open Go.RowKit

end Go.Proofs.YtkhhdpndcidmgaaGreat
/- The walk of page.Valid. -/
namespace Go.Proofs.YtkhhdpndcidmgaaGreat
open Go.RowKit Go.Maps

end Go.Proofs.YtkhhdpndcidmgaaGreat
/- Valid pages in the reference; Find. -/
namespace Go.Proofs.YtkhhdpndcidmgaaGreat
open Go.RowKit Go.Maps

end Go.Proofs.YtkhhdpndcidmgaaGreat
/- What a slice reads as is one; closures over pages that are said of the page's value. -/
namespace Go.Proofs.YtkhhdpndcidmgaaGreat
open Go.RowKit

end Go.Proofs.YtkhhdpndcidmgaaGreat
/- Without pages: the reference's New, the law's made, large. -/
namespace Go.Proofs.YtkhhdpndcidmgaaGreat
open Go.RowKit Go.Shelf

end Go.Proofs.YtkhhdpndcidmgaaGreat
/- The library's slice functions at strings. -/
namespace Go.Proofs.YtkhhdpndcidmgaaGreat
open Go.RowKit Go.Sort

end Go.Proofs.YtkhhdpndcidmgaaGreat
/- slices.Sort and Compact at strings; sorted lists of strings. -/
namespace Go.Proofs.YtkhhdpndcidmgaaGreat
open Go.RowKit Go.Sort

end Go.Proofs.YtkhhdpndcidmgaaGreat
/- (*almanac.Book).tracked: the names of the tracks, ascending, each once. -/
namespace Go.Proofs.YtkhhdpndcidmgaaGreat
open Go.RowKit Go.Sort

end Go.Proofs.YtkhhdpndcidmgaaGreat
/- The reference's names of tracks: has; insertion in order (plain law). -/
namespace Go.Proofs.YtkhhdpndcidmgaaGreat
open Go.RowKit Go.Sort

end Go.Proofs.YtkhhdpndcidmgaaGreat
/- The reference's names of tracks. -/
namespace Go.Proofs.YtkhhdpndcidmgaaGreat
open Go.RowKit Go.Sort

end Go.Proofs.YtkhhdpndcidmgaaGreat
/- The reference's bodies. -/
namespace Go.Proofs.YtkhhdpndcidmgaaGreat
open Go.RowKit Go.Sort

end Go.Proofs.YtkhhdpndcidmgaaGreat
/- slices.Clone at tracks, pages, ints. -/
namespace Go.Proofs.YtkhhdpndcidmgaaGreat
open Go.RowKit

end Go.Proofs.YtkhhdpndcidmgaaGreat
/- Deep copies of pages: what holds while the copy is made. No function of the program. -/
namespace Go.Proofs.YtkhhdpndcidmgaaGreat
open Go.RowKit

end Go.Proofs.YtkhhdpndcidmgaaGreat
/- almanac.copied: a deep copy of pages. -/
namespace Go.Proofs.YtkhhdpndcidmgaaGreat
open Go.RowKit

end Go.Proofs.YtkhhdpndcidmgaaGreat
/- almanac.New in full: the ways out ahead of the loop. -/
namespace Go.Proofs.YtkhhdpndcidmgaaGreat
open Go.RowKit Go.Shelf

end Go.Proofs.YtkhhdpndcidmgaaGreat
/- almanac.New in full: the book while its days are put in. -/
namespace Go.Proofs.YtkhhdpndcidmgaaGreat
open Go.RowKit Go.Shelf

end Go.Proofs.YtkhhdpndcidmgaaGreat
/- The blocks that a reading met lie in the world. -/
namespace Go.Proofs.YtkhhdpndcidmgaaGreat
open Go.RowKit

end Go.Proofs.YtkhhdpndcidmgaaGreat
/- almanac.New in full. -/
namespace Go.Proofs.YtkhhdpndcidmgaaGreat
open Go.RowKit Go.Shelf

end Go.Proofs.YtkhhdpndcidmgaaGreat
/- The reference's New in full. -/
namespace Go.Proofs.YtkhhdpndcidmgaaGreat
open Go.RowKit Go.Shelf

end Go.Proofs.YtkhhdpndcidmgaaGreat
/- Opening pages off an argument: tracks, pages, rows of both, each with what lies in memory. -/
namespace Go.Proofs.YtkhhdpndcidmgaaGreat
open Go.RowKit

section
variable {H : Type} {enc : TypeId × Value → H} {P : Program}
end
end Go.Proofs.YtkhhdpndcidmgaaGreat
/- increments.gha, dec: the arcs of hours, the values over a span. -/
namespace Go.Proofs.YtkhhdpndcidmgaaGreat
open Go.RowKit

end Go.Proofs.YtkhhdpndcidmgaaGreat
/- increments.instant, Gha, Dec, During. -/
namespace Go.Proofs.YtkhhdpndcidmgaaGreat
open Go.RowKit

end Go.Proofs.YtkhhdpndcidmgaaGreat
/- angle.Signed. -/
namespace Go.Proofs.YtkhhdpndcidmgaaGreat
open Go.RowKit

end Go.Proofs.YtkhhdpndcidmgaaGreat
/- Where a body is: the plain law (values). -/
namespace Go.Proofs.YtkhhdpndcidmgaaGreat
open Go.RowKit Go.Shelf

structure GeoV where
  a : Int
  b : Int
  c : Int
  d : Int
  e : Int
  f : Int
  g : Int
  h : Int
def g0 : GeoV := ⟨0, 0, 0, 0, 0, 0, 0, 0⟩
variable {lp : List PgV} {ls : List StarV} {s : ByteArray} {a b : Int}
end Go.Proofs.YtkhhdpndcidmgaaGreat
/- The reference's lists: Unwrapped, Declinations. -/
namespace Go.Proofs.YtkhhdpndcidmgaaGreat
open Go.RowKit

end Go.Proofs.YtkhhdpndcidmgaaGreat
/- The reference of layer 14: the arc at an instant. -/
namespace Go.Proofs.YtkhhdpndcidmgaaGreat
open Go.RowKit

end Go.Proofs.YtkhhdpndcidmgaaGreat
/- The reference of layer 14: Over. -/
namespace Go.Proofs.YtkhhdpndcidmgaaGreat
open Go.RowKit

end Go.Proofs.YtkhhdpndcidmgaaGreat
/- The reference of layer 14: Margin, Gha, Dec. -/
namespace Go.Proofs.YtkhhdpndcidmgaaGreat
open Go.RowKit

end Go.Proofs.YtkhhdpndcidmgaaGreat
/- The value over a part of a span lies within the value over the span. No program in sight. -/
namespace Go.Proofs.YtkhhdpndcidmgaaGreat
open Go.RowKit

end Go.Proofs.YtkhhdpndcidmgaaGreat
