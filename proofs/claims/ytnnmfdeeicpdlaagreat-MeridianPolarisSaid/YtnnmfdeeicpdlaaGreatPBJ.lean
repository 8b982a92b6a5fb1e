/- Contracts and plain laws, several texts in one: Rf9; Rf10; Wh2; Wh3; Wh4; Alm5; Wh5; Wh6; Wh7 -/
import Derived.Test.YtnnmfdeeicpdlaaGreatProg
import Derived.WalkKit
import Derived.WalkSpells
import Derived.WalkLawsBesides
import Derived.Lib.Hide
import Derived.BigQuiet
import Derived.Deep.RegionWith
import Derived.Test.YtnnmfdeeicpdlaaGreatPAA
import Derived.Test.YtnnmfdeeicpdlaaGreatPAB
import Derived.Test.YtnnmfdeeicpdlaaGreatPBB
import Derived.Test.YtnnmfdeeicpdlaaGreatPBE
import Derived.Test.YtnnmfdeeicpdlaaGreatPBG
import Derived.Test.YtnnmfdeeicpdlaaGreatPBH
import Derived.Test.YtnnmfdeeicpdlaaGreatPBI
/- The reference of layer 14: Over. -/
namespace Go.Proofs.YtnnmfdeeicpdlaaGreat
open Go.RowKit

end Go.Proofs.YtnnmfdeeicpdlaaGreat
/- The reference of layer 14: Margin, Gha, Dec. -/
namespace Go.Proofs.YtnnmfdeeicpdlaaGreat
open Go.RowKit

theorem Row.cons {w : World} {g : Nat} {f : Nat → Int} {L : List (Obj ⊕ Ext)} (h : Row (Go.Proofs.YtnnmfdeeicpdlaaGreat.lay w L) g f) (d : Ext) : Row (Go.Proofs.YtnnmfdeeicpdlaaGreat.lay w (.inr d :: L)) g f := h.lay [.inr d]
end Go.Proofs.YtnnmfdeeicpdlaaGreat
/- Hulls, sizes, joins; where the body of a track is on a day: the program's and the reference's. -/
namespace Go.Proofs.YtnnmfdeeicpdlaaGreat
open Go.RowKit Go.Shelf

end Go.Proofs.YtnnmfdeeicpdlaaGreat
/- Where the body of a track is on a day: (*almanac.Book).during, body; the reference's track. -/
namespace Go.Proofs.YtnnmfdeeicpdlaaGreat
open Go.RowKit Go.Shelf

end Go.Proofs.YtnnmfdeeicpdlaaGreat
/- (*almanac.Book).during where there is a track; body. -/
namespace Go.Proofs.YtnnmfdeeicpdlaaGreat
open Go.RowKit Go.Shelf

end Go.Proofs.YtnnmfdeeicpdlaaGreat
/- (*almanac.Book).Where at Aries, and Aries. -/
namespace Go.Proofs.YtnnmfdeeicpdlaaGreat
open Go.RowKit

end Go.Proofs.YtnnmfdeeicpdlaaGreat
/- (*almanac.Book).Where in full. -/
namespace Go.Proofs.YtnnmfdeeicpdlaaGreat
open Go.RowKit Go.Shelf

end Go.Proofs.YtnnmfdeeicpdlaaGreat
/- The reference's Where. -/
namespace Go.Proofs.YtnnmfdeeicpdlaaGreat
open Go.RowKit Go.Shelf

structure RfL (P : Nat → Prop) (w : World) (vp vs : Value) (lp : List PgV) (ls : List StarV) : Prop where
  pgs : PgsD P w vp lp
  sts : SlG stR w vs ls
  ok : ∀ p ∈ lp, PgOk p
  few : lp.length ≤ 40
  cat : catB ls = true
theorem RfL.fewL {P : Nat → Prop} {w : World} {vp vs : Value} {lp : List PgV} {ls : List StarV} (h : RfL P w vp vs lp ls) : Few lp := ⟨by have := h.few; omega, fun p hp => by have := (h.ok p hp).len; omega⟩
theorem RfL.bodies {P : Nat → Prop} {w : World} {vp vs : Value} {lp : List PgV} {ls : List StarV} (h : RfL P w vp vs lp ls) : Hid (∀ L, Calls Tryz.prog 140 #[.agg #[vp, vs]] (lay w L) (StrOwn (lay w L) ([ariesS] ++ tkL lp ++ ls.map StarV.s))) :=
  Lib.hid (fun L => ref17_Bodies vp vs lp ls (lay w L) (h.pgs.lay L) h.fewL (h.sts.lay L) (by have := (catB_iff.1 h.cat).len; omega))
end Go.Proofs.YtnnmfdeeicpdlaaGreat
/- The reference's Where at tracks, and in full. -/
namespace Go.Proofs.YtnnmfdeeicpdlaaGreat
open Go.RowKit Go.Shelf

end Go.Proofs.YtnnmfdeeicpdlaaGreat
