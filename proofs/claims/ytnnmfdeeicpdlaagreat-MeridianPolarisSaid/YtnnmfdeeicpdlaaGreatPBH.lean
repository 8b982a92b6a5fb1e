/- Contracts and plain laws, several texts in one: OpG; Opn; Opp; Mde; Inc1; Pg4; Pg5; Rf1; Rf2 -/
import Derived.Test.YtnnmfdeeicpdlaaGreatProg
import Derived.WalkKit
import Derived.WalkSpells
import Derived.WalkLawsBesides
import Derived.Lib.Hide
import Derived.BigQuiet
import Derived.Deep.Slices
import Derived.Deep.Fields
import Derived.ChangeSame
import Derived.WideShapes
import Derived.ChangeShapes
import Derived.Lib.SmallJoins
import Derived.Deep.RegionWith
import Derived.Maps.Own
import Derived.RangeFuncNested
import Derived.RangeFuncBound
import Derived.RangeFuncCalls
import Derived.RangeFuncLeaves
import Derived.Shelf.Abstract
import Derived.Shelf.RegionOpen
import Derived.OwnWalkIn
import Derived.TacticsInMore
import Derived.LoopNIn
import Derived.LoopIn
import Derived.Test.YtnnmfdeeicpdlaaGreatPAA
import Derived.Test.YtnnmfdeeicpdlaaGreatPBB
import Derived.Test.YtnnmfdeeicpdlaaGreatPBC
import Derived.Test.YtnnmfdeeicpdlaaGreatPBG
/- A slice of records off an argument: whatever the record is. -/
namespace Go.Proofs.YtnnmfdeeicpdlaaGreat
open Go.RowKit

section
variable {H : Type} {enc : TypeId × Value → H} {α : Type} {R : RecT α} {P : Program}
end
end Go.Proofs.YtnnmfdeeicpdlaaGreat
/- Opening rows of records off an argument: a slice reads as a list of records, each with what its cells say. -/
namespace Go.Proofs.YtnnmfdeeicpdlaaGreat
open Go.RowKit

section
variable {H : Type} {enc : TypeId × Value → H} {P : Program}

end
end Go.Proofs.YtnnmfdeeicpdlaaGreat
/- Opening pages off an argument: tracks, pages, rows of both, each with what lies in memory. -/
namespace Go.Proofs.YtnnmfdeeicpdlaaGreat
open Go.RowKit

section
variable {H : Type} {enc : TypeId × Value → H} {P : Program}
end
end Go.Proofs.YtnnmfdeeicpdlaaGreat
/- The law's large and made, in full. -/
namespace Go.Proofs.YtnnmfdeeicpdlaaGreat
open Go.RowKit Go.Shelf

end Go.Proofs.YtnnmfdeeicpdlaaGreat
/- Contracts of package increments: Linear, Increment, and their references. -/
namespace Go.Proofs.YtnnmfdeeicpdlaaGreat
open Go.RowKit

end Go.Proofs.YtnnmfdeeicpdlaaGreat
/- The first day of 2000; a page of one track. -/
namespace Go.Proofs.YtnnmfdeeicpdlaaGreat
open Go.RowKit

end Go.Proofs.YtnnmfdeeicpdlaaGreat
/- A page of one track is valid just if the track is. -/
namespace Go.Proofs.YtnnmfdeeicpdlaaGreat
open Go.RowKit

end Go.Proofs.YtnnmfdeeicpdlaaGreat
/- Increments at an instant: the functions that pieces hands on. -/
namespace Go.Proofs.YtnnmfdeeicpdlaaGreat
open Go.RowKit

end Go.Proofs.YtnnmfdeeicpdlaaGreat
/- increments.pieces: the iterator's contract. -/
namespace Go.Proofs.YtnnmfdeeicpdlaaGreat
open Go.RowKit Go.Shelf
attribute [local go_sem] Oper.semAt_some

structure Kept (p : Nat → Prop) (A B : World) : Prop where
  size : A.heap.size ≤ B.heap.size
  same : ∀ k, p k → B.heap[k]? = A.heap[k]?
theorem Kept.refl (p : Nat → Prop) (A : World) : Kept p A A := ⟨Nat.le_refl _, fun _ _ => rfl⟩
theorem Kept.trans {p : Nat → Prop} {A B C : World} (h : Kept p A B) (k : Kept p B C) : Kept p A C := ⟨Nat.le_trans h.size k.size, fun i hi => (k.same i hi).trans (h.same i hi)⟩
theorem Kept.cell {p : Nat → Prop} {A B : World} (h : Kept p A B) {b i : Nat} (hb : p b) : B.cell? ⟨b, i, none⟩ = A.cell? ⟨b, i, none⟩ := by unfold World.cell?; rw [h.same b hb]
theorem Kept.of_below {p : Nat → Prop} {A B : World} (h : Below A.heap.size A B) (hp : ∀ k, p k → k < A.heap.size) : Kept p A B := ⟨h.size, fun k hk => h.block k (hp k hk)⟩
theorem Kept.bw {p : Nat → Prop} {A B : World} (h : Kept p A B) (hp : ∀ k, p k → k < A.heap.size) (d : Ext) : Kept p A (bw B d) :=
  h.trans (Kept.of_below (bw_below B d) fun k hk => Nat.lt_of_lt_of_le (hp k hk) h.size)
theorem Kept.lay {p : Nat → Prop} {A B : World} (h : Kept p A B) (hp : ∀ k, p k → k < A.heap.size) (L : List (Obj ⊕ Ext)) : Kept p A (lay B L) := by
  obtain ⟨d, hd⟩ := lay_ex B L
  rw [hd]; exact h.bw hp d
end Go.Proofs.YtnnmfdeeicpdlaaGreat
