/- Contracts and plain laws, several texts in one: PuO; MixK; TwR -/
import Derived.Test.YtmomoeagnkjbiaaGreatProg
import Derived.WalkKit
import Derived.WalkSpells
import Derived.WalkLawsBesides
import Derived.Lib.Hide
import Derived.BigQuiet
import Derived.Deep.AppendLies
import Derived.Maps.AppendAt
import Derived.Test.YtmomoeagnkjbiaaGreatCAA
import Derived.Test.YtmomoeagnkjbiaaGreatCAB
import Derived.Test.YtmomoeagnkjbiaaGreatCAH
import Derived.Test.YtmomoeagnkjbiaaGreatCAU
/- An append of an int to a row of the call's own, beside other rows of the call's own. -/
namespace Go.Proofs.YtmomoeagnkjbiaaGreat
open Go.RowKit

/-- Rows in different blocks. -/
def Aprt (u v : Value) : Prop := ∀ k, u.ownBlock = some k → v.ownBlock ≠ some k
theorem Aprt.symm {u v : Value} (h : Aprt u v) : Aprt v u := fun k h1 h2 => h k h2 h1
theorem Aprt.nil (v : Value) : Aprt (.slice none 0 0) v := fun k h => by simp [Value.ownBlock] at h
theorem ow_kept2 {wb w' : World} {base : Nat} {u v : Value} {l : List Int} (h : Ow wb base u l) (hk : ∀ k, k < wb.heap.size → v.ownBlock ≠ some k → w'.heap[k]? = wb.heap[k]?) (ha : Aprt u v) : Ow w' base u l := by
  refine ⟨⟨h.1.1, h.1.2.imp id ?_⟩, h.2⟩
  rintro ⟨g, cap, cur, rfl, h1, h2, h3⟩
  exact ⟨g, cap, cur, rfl, h1, (hk g (Array.getElem?_eq_some_iff.1 h2).1 (ha g rfl)).trans h2, h3⟩
theorem push_intO {ops : Array Oper} {rest : List Oper} {o : Oper} {a : Act} {Q : Exit → Act → World → Prop} (hgd : o.guard = none) (s x : Operand)
    (ho : o.op = .call { callee := .builtin .append, args := #[s, x], argTypes := #[41, 41] })
    (W0 : World) (wb : World) (c : Int) (te : TypeId) (xb : Nat) (v : Value) (l : List Int) (us : List (Value × List Int)) (hw : Below W0.heap.size W0 wb) (hown : Ow wb W0.heap.size v l)
    (hother : ∀ u ∈ us, Ow wb W0.heap.size u.1 u.2 ∧ Aprt v u.1)
    (hcell : wb.heap[xb]? = some (.cells #[.int .i64 c] te (0, 0))) (hs : a.eval s = v) (hx : a.eval x = .slice (some ⟨xb, 0, none⟩) 1 1)
    (hn : l.length ≤ 1000000000) (hc : (Lit.int .i64 c).wf = true)
    (h : ∀ v' d, Ow (Go.Proofs.YtmomoeagnkjbiaaGreat.bw W0 d) W0.heap.size v' (l ++ [c]) → (∀ u ∈ us, Ow (Go.Proofs.YtmomoeagnkjbiaaGreat.bw W0 d) W0.heap.size u.1 u.2 ∧ Aprt v' u.1) → wpList Tryz.prog ops Q rest (a.put o.dst v') (Go.Proofs.YtmomoeagnkjbiaaGreat.bw W0 d)) :
    wpList Tryz.prog ops Q (o :: rest) a wb := by
  obtain ⟨i, hi, hz0, hz1, hz2⟩ := info_parts info_intS
  have hM : maxLen = 9223372036854775807 := by decide
  refine wpList_append_lies wb hgd s x 41 ho W0.heap.size 3 i (.int .i64 0) 1 8 Tryz.underlying41 hi hz0 hz1 hz2 rfl (by decide) v l.length (l.map (Value.int .i64)) hs hown.1 ⟨xb, 0, none⟩ 1 1 [.int .i64 c] hx rfl (World.news_of_block (cs := #[.int .i64 c]) hcell) (by simp [Value.oneCell']) (by decide) (by omega) (by omega) hw.size wb.heap.size rfl ?_
  intro g cap w' hown' hg hat _
  obtain ⟨d, hd⟩ := bw_of (w := W0) (w' := w') (hw.grown hg hw.size (fun k hk => (hown.1.lt k hk).1))
  subst hd
  refine h _ d ⟨by simpa using hown', ow_append hown.2 hc⟩ fun u hu => ?_
  obtain ⟨ho1, hap⟩ := hother u hu
  refine ⟨ow_kept2 ho1 (fun k hk hne => hg.block k hk (fun e => hne e.symm)) hap.symm, fun k hk hu => ?_⟩
  have hkg : g = k := by simpa [Value.ownBlock] using hk
  subst hkg
  rcases hat with hat | hat
  · exact hap _ hat hu
  · have := (ho1.1.lt _ hu).2; omega
end Go.Proofs.YtmomoeagnkjbiaaGreat
/- Regions that draw their order, by a branching schedule over a class of worlds of one's own; an append of an int at such a step, beside other rows. -/
namespace Go.Proofs.YtmomoeagnkjbiaaGreat
open Go.RowKit

/-- What lies behind a world and keeps one block: a class of worlds. -/
structure KE (W : World) (P : Nat) (O : Obj) where
  d : Ext
  h : (bw W d).heap[P]? = some O
theorem region_mixK {P : Program} {κ : Type} {id : Nat} {Q : Exit → Act → World → Prop} {a : Act} {w : World} {l : List Oper} (Cl : κ → World) (hCl : ∀ k d, ∃ k', bw (Cl k) d = Cl k') (hw : ∃ k, w = Cl k)
    (n : Nat) (s : Sch) (hm : P.follows .mixedOrders = true) (hsel : Region.noSelect l.toArray = true)
    (hs : Region.sinkB .any l.toArray n = true) (hc : Region.chainB .any l.toArray n = true) (hn : n < l.toArray.size)
    (hB : lexMB .any l.toArray n (l.toArray.size - n) n s (Array.replicate l.toArray.size false) = true)
    (h : wpMB P l l.toArray Cl (fun a w => wpList P l.toArray Q (l.drop n) a w) s a w) : (Code.region id l.toArray true).wp P Q a w := by
  have hdl : (l.drop n).length = l.toArray.size - n := by simp
  have inv0 : HeadInv .any l.toArray n (Array.replicate l.toArray.size false) :=
    ⟨by simp, fun j oj _ hl => (by rw [getD_replicate_false] at hl; cases hl), fun t _ ht => getD_in (by simpa using ht) (getD_replicate_false _ _)⟩
  have H := mixT_of_wpMB (md := .any) (g := l.toArray.size - n) hCl (fun j => by simp) hsel hs hc hn n s _ a w inv0 hw hB h
  refine wp_region_any hm ?_
  have := mixT_ext (⟨#[], w.drawn + 1⟩ : Ext) H
  rw [← bw_drewExt] at this
  have := mixT_sound (Q' := Q) (g := l.toArray.size - n) (fun listed a' w' hL => by
    have := wpAny_of_seq (md := .any) (Q' := Q) (l.drop n) n listed a' w' (fun j => by simp [List.getElem?_drop]) (by rw [hdl]; exact hL.1) hL.2
    rwa [hdl] at this) _ _ _ _ this
  rw [show n + (l.toArray.size - n) = l.toArray.size by omega] at this
  exact this
theorem sop_intO {ops : Array Oper} {o : Oper} {a : Act} {K : Act → World → Prop} {E : Prop} (hgd : o.guard = none) (s x : Operand)
    (ho : o.op = .call { callee := .builtin .append, args := #[s, x], argTypes := #[41, 41] })
    (W0 wb : World) (c : Int) (te : TypeId) (xb : Nat) (v : Value) (l : List Int) (us : List (Value × List Int)) (hw : Below W0.heap.size W0 wb) (hown : Ow wb W0.heap.size v l)
    (hother : ∀ u ∈ us, Ow wb W0.heap.size u.1 u.2 ∧ Aprt v u.1)
    (hcell : wb.heap[xb]? = some (.cells #[.int .i64 c] te (0, 0))) (hs : a.eval s = v) (hx : a.eval x = .slice (some ⟨xb, 0, none⟩) 1 1)
    (hn : l.length ≤ 1000000000) (hc : (Lit.int .i64 c).wf = true)
    (h : ∀ v' d, Ow (Go.Proofs.YtmomoeagnkjbiaaGreat.bw W0 d) W0.heap.size v' (l ++ [c]) → (∀ u ∈ us, Ow (Go.Proofs.YtmomoeagnkjbiaaGreat.bw W0 d) W0.heap.size u.1 u.2 ∧ Aprt v' u.1) → (∀ k, k < wb.heap.size → v.ownBlock ≠ some k → (Go.Proofs.YtmomoeagnkjbiaaGreat.bw W0 d).heap[k]? = wb.heap[k]?) → K (a.put o.dst v') (Go.Proofs.YtmomoeagnkjbiaaGreat.bw W0 d)) :
    if Region.wanted o (yielded ops a.tmps) = true then sOp Tryz.prog o a K wb else E := by
  have hwn : Region.wanted o (yielded ops a.tmps) = true := by simp [Region.wanted, hgd]
  rw [if_pos hwn]
  obtain ⟨i, hi, hz0, hz1, hz2⟩ := info_parts info_intS
  have hM : maxLen = 9223372036854775807 := by decide
  obtain ⟨v', w', hr, hown', hg, _, hat⟩ := run_append_own_at (P := Tryz.prog) (w := wb) W0.heap.size 41 o.type 3 i (.int .i64 0) 1 8 Tryz.underlying41 hi hz0 hz1 hz2 rfl (by decide) v l.length (l.map (Value.int .i64)) hown.1 ⟨xb, 0, none⟩ 1 1 [.int .i64 c] rfl (World.news_of_block (cs := #[.int .i64 c]) hcell) (by simp [Value.oneCell']) (by omega) (by omega) hw.size
  obtain ⟨d, hd⟩ := bw_of (w := W0) (w' := w') (hw.grown hg hw.size (fun k hk => (hown.1.lt k hk).1))
  subst hd
  unfold sOp execOp
  simp only [ho, resolve, invoke, builtin, Sem.run_bind, Sem.run_pure, Result.andThen_ok, List.map_toArray, List.map_cons, List.map_nil, hs, hx, hr]
  refine h v' d ⟨by simpa using hown', ow_append hown.2 hc⟩ (fun u hu => ?_) (fun k hk hne => hg.block k hk (fun e => hne e.symm))
  obtain ⟨ho1, hap⟩ := hother u hu
  refine ⟨ow_kept2 ho1 (fun k hk hne => hg.block k hk (fun e => hne e.symm)) hap.symm, fun k hk hu => ?_⟩
  rcases hat with hat | hat
  · exact hap k (hat.symm.trans hk) hu
  · rw [hat] at hk
    have hkk : wb.heap.size = k := by simpa using hk
    have := (ho1.1.lt _ hu).2; omega
theorem spB_intO {κ : Type} {Cl : κ → World} {l : List Oper} {ops : Array Oper} {i : Nat} {X : Act → World → Prop} {a : Act} {W0 wb : World} {o : Oper} (hi : l[i]? = some o) (hgd : o.guard = none) (s x : Operand)
    (ho : o.op = .call { callee := .builtin .append, args := #[s, x], argTypes := #[41, 41] }) (c : Int) (te : TypeId) (xb : Nat) (v : Value) (ls : List Int) (us : List (Value × List Int)) (hw : Below W0.heap.size W0 wb) (hown : Ow wb W0.heap.size v ls)
    (hother : ∀ u ∈ us, Ow wb W0.heap.size u.1 u.2 ∧ Aprt v u.1)
    (hcell : wb.heap[xb]? = some (.cells #[.int .i64 c] te (0, 0))) (hs : a.eval s = v) (hx : a.eval x = .slice (some ⟨xb, 0, none⟩) 1 1) (hn : ls.length ≤ 1000000000) (hc : (Lit.int .i64 c).wf = true)
    (hin : ∀ d, (∀ k, k < wb.heap.size → v.ownBlock ≠ some k → (Go.Proofs.YtmomoeagnkjbiaaGreat.bw W0 d).heap[k]? = wb.heap[k]?) → ∃ k, Go.Proofs.YtmomoeagnkjbiaaGreat.bw W0 d = Cl k)
    (h : ∀ v' d, Ow (Go.Proofs.YtmomoeagnkjbiaaGreat.bw W0 d) W0.heap.size v' (ls ++ [c]) → (∀ u ∈ us, Ow (Go.Proofs.YtmomoeagnkjbiaaGreat.bw W0 d) W0.heap.size u.1 u.2 ∧ Aprt v' u.1) → (∀ k, k < wb.heap.size → v.ownBlock ≠ some k → (Go.Proofs.YtmomoeagnkjbiaaGreat.bw W0 d).heap[k]? = wb.heap[k]?) → X (a.put o.dst v') (Go.Proofs.YtmomoeagnkjbiaaGreat.bw W0 d)) :
    spB Tryz.prog l ops Cl i X a wb :=
  spB_of hi fun _ hK d => sop_intO hgd s x ho W0 (Go.Proofs.YtmomoeagnkjbiaaGreat.bw wb d) c te xb v ls us (below_bw hw hw.size) (hown.bw d) (fun u hu => ⟨(hother u hu).1.bw d, (hother u hu).2⟩) ((bw_get wb d xb (Array.getElem?_eq_some_iff.1 hcell).1).trans hcell) hs hx hn hc
    fun v' d' h1 h2 h3 => by
      have hk : ∀ k, k < wb.heap.size → v.ownBlock ≠ some k → (Go.Proofs.YtmomoeagnkjbiaaGreat.bw W0 d').heap[k]? = wb.heap[k]? := fun k hk hne => (h3 k (Nat.lt_of_lt_of_le hk (bw_le _ _)) hne).trans (bw_get wb d k hk)
      exact hK _ _ (hin d' hk) (h v' d' h1 h2 hk)
end Go.Proofs.YtmomoeagnkjbiaaGreat
/- Two rows of ints that grow side by side. -/
namespace Go.Proofs.YtmomoeagnkjbiaaGreat
open Go.RowKit

/-- Two rows that grow side by side. -/
structure TwR (W : World) (base : Nat) (v1 v2 : Value) (l1 l2 : List Int) : Prop where
  o1 : Ow W base v1 l1
  o2 : Ow W base v2 l2
  a12 : Aprt v1 v2
theorem TwR.nil (W : World) (base : Nat) : TwR W base (.slice none 0 0) (.slice none 0 0) [] [] := ⟨Ow.nil _ _, Ow.nil _ _, Aprt.nil _⟩
theorem TwR.on {w : World} {base : Nat} {v1 v2 : Value} {l1 l2 : List Int} {A B : List (Obj ⊕ Ext)} (h : TwR (lay w B) base v1 v2 l1 l2) : TwR (lay w (A ++ B)) base v1 v2 l1 l2 := ⟨ow_on h.o1, ow_on h.o2, h.a12⟩
theorem TwR.others1 {W : World} {base : Nat} {v1 v2 : Value} {l1 l2 : List Int} (h : TwR W base v1 v2 l1 l2) : ∀ u ∈ [(v2, l2)], Ow W base u.1 u.2 ∧ Aprt v1 u.1 := by
  intro u hu
  rw [List.mem_singleton.1 hu]; exact ⟨h.o2, h.a12⟩
theorem TwR.others2 {W : World} {base : Nat} {v1 v2 : Value} {l1 l2 : List Int} (h : TwR W base v1 v2 l1 l2) : ∀ u ∈ [(v1, l1)], Ow W base u.1 u.2 ∧ Aprt v2 u.1 := by
  intro u hu
  rw [List.mem_singleton.1 hu]; exact ⟨h.o1, h.a12.symm⟩
theorem twR1 {W : World} {base : Nat} {v1 v2 : Value} {l1 l2 : List Int} (h1 : Ow W base v1 l1) (h : ∀ u ∈ [(v2, l2)], Ow W base u.1 u.2 ∧ Aprt v1 u.1) : TwR W base v1 v2 l1 l2 :=
  ⟨h1, (h (v2, l2) (by simp)).1, (h (v2, l2) (by simp)).2⟩
theorem twR2 {W : World} {base : Nat} {v1 v2 : Value} {l1 l2 : List Int} (h1 : Ow W base v2 l2) (h : ∀ u ∈ [(v1, l1)], Ow W base u.1 u.2 ∧ Aprt v2 u.1) : TwR W base v1 v2 l1 l2 :=
  ⟨(h (v1, l1) (by simp)).1, h1, (h (v1, l1) (by simp)).2.symm⟩
end Go.Proofs.YtmomoeagnkjbiaaGreat
