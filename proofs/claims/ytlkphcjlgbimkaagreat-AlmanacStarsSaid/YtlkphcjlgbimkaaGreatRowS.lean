/- An append to a row of records, at a step of a region that draws its order. No function of the program. -/
import Derived.Test.YtlkphcjlgbimkaaGreatProg
import Derived.Test.YtlkphcjlgbimkaaGreatLay
import Derived.Test.YtlkphcjlgbimkaaGreatRegion
import Derived.Test.YtlkphcjlgbimkaaGreatMix
import Derived.WalkKit
import Derived.WalkSpells
import Derived.WalkLawsBesides
import Derived.Lib.Hide
import Derived.BigQuiet
import Derived.Test.YtlkphcjlgbimkaaGreatRow
import Derived.Test.YtlkphcjlgbimkaaGreatMixB
namespace Go.Proofs.YtlkphcjlgbimkaaGreat
open Go.RowKit
variable {α : Type} {R : RecT α}

theorem sop_append (hR : RecOk R) {ops : Array Oper} {o : Oper} {a : Act} {K : Act → World → Prop} {E : Prop} (hgd : o.guard = none) (s x : Operand)
    (ho : o.op = .call { callee := .builtin .append, args := #[s, x], argTypes := #[R.S, R.S] })
    (W0 wb : World) (v1 : Value) (l1 : List α) (ad : Addr) (n c : Nat) (l2 : List α) (hw : Below W0.heap.size W0 wb) (hown : OwG R wb W0.heap.size v1 l1)
    (hl : n = l2.length) (hwf : ∀ y ∈ l2, R.wf y) (hnews : ∀ (j : Nat) u, (l2.flatMap R.enc)[j]? = some u → wb.cell? (ad.add j) = some u) (hs : a.eval s = v1) (hx : a.eval x = .slice (some ad) n c) (hn : l1.length + l2.length ≤ 1000000000)
    (h : ∀ v' d, OwG R (bw W0 d) W0.heap.size v' (l1 ++ l2) → (∀ k, k < wb.heap.size → v1.ownBlock ≠ some k → (bw W0 d).heap[k]? = wb.heap[k]?) → K (a.put o.dst v') (bw W0 d)) :
    if Region.wanted o (yielded ops a.tmps) = true then sOp Tryz.prog o a K wb else E := by
  have hwn : Region.wanted o (yielded ops a.tmps) = true := by simp [Region.wanted, hgd]
  rw [if_pos hwn]
  obtain ⟨i, z, hi, hz0, hz1, hz2, hz3⟩ := hR.info
  have hM : maxLen = 9223372036854775807 := by decide
  have hb2 : (l1.length + l2.length) * R.bytes ≤ 1000000000 * 1000 := Nat.mul_le_mul hn hR.small
  subst hl
  obtain ⟨v', w', hr, hown', hg, _⟩ := run_append_own (P := Tryz.prog) wb W0.heap.size R.S o.type R.E i z R.k R.bytes hR.und hi hz0 hz1 hz2 hz3 hR.pos v1 l1.length (l1.flatMap R.enc) hown.1 ad l2.length c (l2.flatMap R.enc) (flat_len hR l2) hnews (fun u hu => by
    obtain ⟨y, _, hy⟩ := List.mem_flatMap.1 hu
    exact hR.one y u hy) (by omega) (by omega) hw.size
  obtain ⟨d, hd⟩ := bw_of (w := W0) (w' := w') (hw.grown hg hw.size (fun k hk => (hown.1.lt k hk).1))
  subst hd
  unfold sOp execOp
  simp only [ho, resolve, invoke, builtin, Sem.run_bind, Sem.run_pure, Result.andThen_ok, List.map_toArray, List.map_cons, List.map_nil, hs, hx, hr]
  refine h v' d ⟨by rw [List.length_append, List.flatMap_append]; exact hown', fun y hy => ?_⟩ (fun k hk hne => hg.block k hk (fun e => hne e.symm))
  rcases List.mem_append.1 hy with hy | hy
  · exact hown.2 y hy
  · exact hwf y hy
theorem addr_add (b o j : Nat) : (⟨b, o, none⟩ : Addr).add j = ⟨b, o + j, none⟩ := by
  unfold Addr.add
  split
  · rename_i h0
    have : j = 0 := by simpa using h0
    subst this; rfl
  · rfl
theorem news_sl (hR : RecOk R) {w : World} {ad : Addr} {n c : Nat} {l2 : List α} (h : SlG R w (.slice (some ad) n c) l2) : ∀ (j : Nat) u, (l2.flatMap R.enc)[j]? = some u → w.cell? (ad.add j) = some u := by
  intro j u hu
  obtain ⟨a', cap', he, hcc, hwf, hcell⟩ := h
  simp only [Value.slice.injEq] at he
  obtain ⟨rfl, rfl, rfl⟩ := he
  have hj : j < l2.length * R.k := by have := (List.getElem?_eq_some_iff.1 hu).1; rw [flat_len hR] at this; exact this
  have hne : l2 ≠ [] := by intro e; rw [e] at hj; simp at hj
  obtain ⟨b, o', e, _, hr⟩ := hcell hne
  cases e
  have hq : j / R.k < l2.length := Nat.div_lt_of_lt_mul (by rw [Nat.mul_comm]; exact hj)
  have hm : j % R.k < R.k := Nat.mod_lt _ hR.pos
  have e1 : j = j / R.k * R.k + j % R.k := by rw [Nat.mul_comm]; exact (Nat.div_add_mod j R.k).symm
  have hx' : l2[j / R.k]? = some l2[j / R.k] := List.getElem?_eq_getElem hq
  rw [e1, flat_get hR hx' hm] at hu
  have h3 := hr _ _ hx' _ _ hu
  rw [← e1] at h3
  rw [addr_add]
  exact h3
/-- A whole slice. -/
theorem sop_sl (hR : RecOk R) {ops : Array Oper} {o : Oper} {a : Act} {K : Act → World → Prop} {E : Prop} (hgd : o.guard = none) (s x : Operand)
    (ho : o.op = .call { callee := .builtin .append, args := #[s, x], argTypes := #[R.S, R.S] })
    (W0 wb : World) (v1 : Value) (l1 : List α) (ad : Addr) (n c : Nat) (l2 : List α) (hw : Below W0.heap.size W0 wb) (hown : OwG R wb W0.heap.size v1 l1)
    (hsrc : SlG R wb (.slice (some ad) n c) l2) (hs : a.eval s = v1) (hx : a.eval x = .slice (some ad) n c) (hn : l1.length + l2.length ≤ 1000000000)
    (h : ∀ v' d, OwG R (bw W0 d) W0.heap.size v' (l1 ++ l2) → (∀ k, k < wb.heap.size → v1.ownBlock ≠ some k → (bw W0 d).heap[k]? = wb.heap[k]?) → K (a.put o.dst v') (bw W0 d)) :
    if Region.wanted o (yielded ops a.tmps) = true then sOp Tryz.prog o a K wb else E :=
  sop_append hR hgd s x ho W0 wb v1 l1 ad n c l2 hw hown (by obtain ⟨_, _, e, _⟩ := hsrc; cases e; rfl) hsrc.wf (news_sl hR hsrc) hs hx hn h
/-- Nothing of a nil slice. -/
theorem sop_nil (hR : RecOk R) {ops : Array Oper} {o : Oper} {a : Act} {K : Act → World → Prop} {E : Prop} (hgd : o.guard = none) (s x : Operand)
    (ho : o.op = .call { callee := .builtin .append, args := #[s, x], argTypes := #[R.S, R.S] })
    (W0 wb : World) (v1 : Value) (l1 : List α) (hw : Below W0.heap.size W0 wb) (hown : OwG R wb W0.heap.size v1 l1) (hs : a.eval s = v1) (hx : a.eval x = .slice none 0 0)
    (h : ∀ d, wb = bw W0 d → K (a.put o.dst v1) wb) :
    if Region.wanted o (yielded ops a.tmps) = true then sOp Tryz.prog o a K wb else E := by
  have hwn : Region.wanted o (yielded ops a.tmps) = true := by simp [Region.wanted, hgd]
  rw [if_pos hwn]
  obtain ⟨i, z, hi, hz0, hz1, hz2, hz3⟩ := hR.info
  obtain ⟨d, hd⟩ := bw_of hw
  have hr := run_append_owned_none (P := Tryz.prog) (w := wb) W0.heap.size R.S o.type R.E i R.k hR.und hi v1 l1.length (l1.flatMap R.enc) hown.1
  unfold sOp execOp
  simp only [ho, resolve, invoke, builtin, Sem.run_bind, Sem.run_pure, Result.andThen_ok, List.map_toArray, List.map_cons, List.map_nil, hs, hx, hr]
  exact h d hd
/-- One record that lies in a block of its own. -/
theorem sop_rec (hR : RecOk R) {ops : Array Oper} {o : Oper} {a : Act} {K : Act → World → Prop} {E : Prop} (hgd : o.guard = none) (s x : Operand)
    (ho : o.op = .call { callee := .builtin .append, args := #[s, x], argTypes := #[R.S, R.S] })
    (W0 wb : World) (v1 : Value) (l1 : List α) (c : α) (cs : Array Value) (te : TypeId) (xb : Nat) (hw : Below W0.heap.size W0 wb) (hown : OwG R wb W0.heap.size v1 l1)
    (hcell : wb.heap[xb]? = some (.cells cs te (0, 0))) (hcs : cs.toList = R.enc c) (hs : a.eval s = v1) (hx : a.eval x = .slice (some ⟨xb, 0, none⟩) 1 1) (hn : l1.length ≤ 100000000) (hc : R.wf c)
    (h : ∀ v' d, OwG R (bw W0 d) W0.heap.size v' (l1 ++ [c]) → (∀ k, k < wb.heap.size → v1.ownBlock ≠ some k → (bw W0 d).heap[k]? = wb.heap[k]?) → K (a.put o.dst v') (bw W0 d)) :
    if Region.wanted o (yielded ops a.tmps) = true then sOp Tryz.prog o a K wb else E :=
  sop_append hR hgd s x ho W0 wb v1 l1 ⟨xb, 0, none⟩ 1 1 [c] hw hown rfl (fun y hy => by rw [List.mem_singleton.1 hy]; exact hc) (by
    intro j u hu
    have : ([c] : List α).flatMap R.enc = cs.toList := by simp [hcs]
    rw [this] at hu
    exact World.news_of_block hcell j u hu) hs hx (by simp; omega) h
end Go.Proofs.YtlkphcjlgbimkaaGreat
