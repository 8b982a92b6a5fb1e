/- Steps of a branching schedule: appends to a row of records. No function of the program. -/
import Derived.Test.YtlkphcjlgbimkaaGreatProg
import Derived.Test.YtlkphcjlgbimkaaGreatLay
import Derived.Test.YtlkphcjlgbimkaaGreatRegion
import Derived.Test.YtlkphcjlgbimkaaGreatMix
import Derived.WalkKit
import Derived.WalkSpells
import Derived.WalkLawsBesides
import Derived.Lib.Hide
import Derived.BigQuiet
import Derived.Test.YtlkphcjlgbimkaaGreatRowS
namespace Go.Proofs.YtlkphcjlgbimkaaGreat
open Go.RowKit
variable {α : Type} {R : RecT α}

theorem spB_sl (hR : RecOk R) {l : List Oper} {ops : Array Oper} {i : Nat} {X : Act → World → Prop} {a : Act} {W0 wb : World} {o : Oper} (hi : l[i]? = some o) (hgd : o.guard = none) (s x : Operand)
    (ho : o.op = .call { callee := .builtin .append, args := #[s, x], argTypes := #[R.S, R.S] }) (v1 : Value) (l1 : List α) (ad : Addr) (n c : Nat) (l2 : List α) (hw : Below W0.heap.size W0 wb) (hown : OwG R wb W0.heap.size v1 l1)
    (hsrc : SlG R wb (.slice (some ad) n c) l2) (hs : a.eval s = v1) (hx : a.eval x = .slice (some ad) n c) (hn : l1.length + l2.length ≤ 1000000000)
    (h : ∀ v' d, OwG R (bw W0 d) W0.heap.size v' (l1 ++ l2) → (∀ k, k < wb.heap.size → v1.ownBlock ≠ some k → (bw W0 d).heap[k]? = wb.heap[k]?) → X (a.put o.dst v') (bw W0 d)) :
    spB Tryz.prog l ops (fun d => bw W0 d) i X a wb :=
  spB_of hi fun _ hK d => sop_sl hR hgd s x ho W0 (bw wb d) v1 l1 ad n c l2 (below_bw hw hw.size) (hown.bw d) (hsrc.bw d) hs hx hn fun v' d' h1 h2 =>
    hK _ _ ⟨d', rfl⟩ (h v' d' h1 fun k hk hne => (h2 k (Nat.lt_of_lt_of_le hk (bw_le _ _)) hne).trans (bw_get wb d k hk))
theorem spB_nil (hR : RecOk R) {l : List Oper} {ops : Array Oper} {i : Nat} {X : Act → World → Prop} {a : Act} {W0 wb : World} {o : Oper} (hi : l[i]? = some o) (hgd : o.guard = none) (s x : Operand)
    (ho : o.op = .call { callee := .builtin .append, args := #[s, x], argTypes := #[R.S, R.S] }) (v1 : Value) (l1 : List α) (hw : Below W0.heap.size W0 wb) (hown : OwG R wb W0.heap.size v1 l1)
    (hs : a.eval s = v1) (hx : a.eval x = .slice none 0 0) (h : ∀ d, X (a.put o.dst v1) (bw wb d)) :
    spB Tryz.prog l ops (fun d => bw W0 d) i X a wb :=
  spB_of hi fun _ hK d => sop_nil hR hgd s x ho W0 (bw wb d) v1 l1 (below_bw hw hw.size) (hown.bw d) hs hx fun d' hd' => hK _ _ ⟨d', hd'⟩ (h d)
theorem spB_rec (hR : RecOk R) {l : List Oper} {ops : Array Oper} {i : Nat} {X : Act → World → Prop} {a : Act} {W0 wb : World} {o : Oper} (hi : l[i]? = some o) (hgd : o.guard = none) (s x : Operand)
    (ho : o.op = .call { callee := .builtin .append, args := #[s, x], argTypes := #[R.S, R.S] }) (v1 : Value) (l1 : List α) (c : α) (cs : Array Value) (te : TypeId) (xb : Nat) (hw : Below W0.heap.size W0 wb) (hown : OwG R wb W0.heap.size v1 l1)
    (hcell : wb.heap[xb]? = some (.cells cs te (0, 0))) (hcs : cs.toList = R.enc c) (hs : a.eval s = v1) (hx : a.eval x = .slice (some ⟨xb, 0, none⟩) 1 1) (hn : l1.length ≤ 100000000) (hc : R.wf c)
    (h : ∀ v' d, OwG R (bw W0 d) W0.heap.size v' (l1 ++ [c]) → X (a.put o.dst v') (bw W0 d)) :
    spB Tryz.prog l ops (fun d => bw W0 d) i X a wb :=
  spB_of hi fun _ hK d => sop_rec hR hgd s x ho W0 (bw wb d) v1 l1 c cs te xb (below_bw hw hw.size) (hown.bw d) ((bw_get wb d xb (Array.getElem?_eq_some_iff.1 hcell).1).trans hcell) hcs hs hx hn hc fun v' d' h1 _ =>
    hK _ _ ⟨d', rfl⟩ (h v' d' h1)
/-- An empty literal is a row behind any world before it. -/
theorem owG_empty' (R : RecT α) {w : World} {A B L : List (Obj ⊕ Ext)} : OwG R (Go.Proofs.YtlkphcjlgbimkaaGreat.lay w (A ++ .inl (.cells #[] R.E (0, 0)) :: (B ++ L))) (Go.Proofs.YtlkphcjlgbimkaaGreat.lay w L).heap.size (.slice (some ⟨posn w (shp (B ++ L)), 0, none⟩) 0 0) [] :=
  owG_on (A := A) (((owG_empty R (w := w) (L := B ++ L))).le (by rw [lay_appG]; exact (lay_extends _ B).size))
end Go.Proofs.YtlkphcjlgbimkaaGreat
