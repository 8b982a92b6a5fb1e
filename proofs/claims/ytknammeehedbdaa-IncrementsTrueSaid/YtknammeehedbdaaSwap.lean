/- A row behind a block is the same whatever the block holds. No program in sight. -/
import Derived.Test.YtknammeehedbdaaMixC
import Derived.Test.YtknammeehedbdaaTrk
namespace Go.Proofs.Ytknammeehedbdaa
open Go.RowKit

theorem swap_get (w : World) (T : List (Obj ⊕ Ext)) (o o' : Obj) (e : Ext) (k : Nat) (h : (lay w T).heap.size < k) :
    (lay w (.inr e :: .inl o :: T)).heap[k]? = (lay w (.inr e :: .inl o' :: T)).heap[k]? := by
  show ((lay w T).heap.push o ++ e.blocks)[k]? = ((lay w T).heap.push o' ++ e.blocks)[k]?
  rw [Array.getElem?_append, Array.getElem?_append, Array.size_push, Array.size_push]
  rw [if_neg (by omega), if_neg (by omega)]
theorem row_swap {w : World} {T : List (Obj ⊕ Ext)} {o : Obj} (o' : Obj) {e : Ext} {base n size : Nat} {t : TypeId} {v : Value} {xs : List Value} (hb : (lay w T).heap.size < base)
    (h : (lay w (.inr e :: .inl o :: T)).ownsRow base t size v n xs) : (lay w (.inr e :: .inl o' :: T)).ownsRow base t size v n xs :=
  ⟨h.1, h.2.imp id fun ⟨g, cap, cur, h1, h2, h3, h4⟩ => ⟨g, cap, cur, h1, h2, (swap_get w T o o' e g (by omega)).symm.trans h3, h4⟩⟩
/-- A full row of ints reads as a list. -/
theorem lst_row {w : World} {base g cap n : Nat} {t : TypeId} {l : Nat → Int} (h : w.ownsRow base t 1 (.slice (some ⟨g, 0, none⟩) n cap) n ((List.range n).map fun i => .int .i64 (l i))) (hn : n ≤ 1000) (hl : ∀ i, i < n → (Lit.int .i64 (l i)).wf = true) :
    Lst w (.slice (some ⟨g, 0, none⟩) n cap) ((List.range n).map l) := by
  refine lst_of_fn (a := ⟨g, 0, none⟩) (by omega) rfl (fun _ => (h.lt g rfl).2) l fun i hi => ⟨?_, hl i hi⟩
  show w.cell? ⟨g, 0 + i, none⟩ = _
  rw [Nat.zero_add, h.cellAt i (by omega)]
  simp [hi]
end Go.Proofs.Ytknammeehedbdaa
