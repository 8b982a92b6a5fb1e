/- Regions that draw their order, by a schedule in an order of one's own, in a class of worlds of one's own; an append at a step of such a region. No program in sight. -/
import Derived.Test.YtlkphcjlgbimkaaGreatMixP
namespace Go.Proofs.YtlkphcjlgbimkaaGreat
open Go.RowKit

section
variable {P : Program} {md : Region.Mode} {κ : Type} {Cl : κ → World} {l : List Oper} {ops : Array Oper}

def lexMC (md : Region.Mode) (ops : Array Oper) : List (Nat × Nat) → Array Bool → Bool
  | [], listed => (Region.ready md ops listed).isEmpty
  | (i, 0) :: s, listed => (Region.ready md ops listed).contains i && Region.free md ops listed i && lexMC md ops s (listed.setIfInBounds i true)
  | (i, 1) :: s, listed => decide (Region.ready md ops listed = [i]) && lexMC md ops s (listed.setIfInBounds i true)
  | (_, _ + 2) :: _, _ => false

theorem wpC_of_wpMP {Q : Act → World → Prop} (hCl : ∀ k d, ∃ k', bw (Cl k) d = Cl k') (hl : ∀ j : Nat, l[j]? = ops[j]?) (hsel : Region.noSelect ops = true) :
    ∀ (s : List (Nat × Nat)) (listed : Array Bool) (a : Act) (w : World), (∃ k, w = Cl k) → lexMC md ops s listed = true → wpMP P l ops Cl Q s a w → wpC P md ops Cl Q s.length listed a w
  | [], listed, a, w, hw, hB, h => by
    simp only [lexMC, List.isEmpty_iff] at hB
    exact ⟨hB, h⟩
  | (k, 0) :: s, listed, a, w, hw, hB, h => by
    simp only [lexMC, Bool.and_eq_true] at hB
    obtain ⟨⟨hr, hf⟩, hB'⟩ := hB
    obtain ⟨o, ho, h⟩ := h
    have h0 : ops[k]? = some o := (hl k).symm.trans ho
    have hr' : k ∈ Region.ready md ops listed := by simpa using hr
    have hy : ∃ v, YieldsM P ops Cl o v a ∧ wpMP P l ops Cl Q s (a.put o.dst v) w := by
      by_cases hw1 : Region.wanted o (yielded ops a.tmps) = true
      · rw [if_pos hw1] at h
        obtain ⟨v, h1, h2⟩ := h
        exact ⟨v, .inl ⟨hw1, h1⟩, h2⟩
      · rw [if_neg hw1] at h
        exact ⟨undef, .inr ⟨by simpa using hw1, rfl⟩, h⟩
    obtain ⟨v, hy, hK⟩ := hy
    exact wpC_first hCl h0 (Region.noSelect_spec hsel) s.length listed a w hw (Region.free_spec h0 hf) hr' hy (wpC_of_wpMP hCl hl hsel s _ _ w hw hB' hK)
  | (k, 1) :: s, listed, a, w, hw, hB, h => by
    simp only [lexMC, Bool.and_eq_true, decide_eq_true_eq] at hB
    obtain ⟨hr, hB'⟩ := hB
    obtain ⟨o, ho, h⟩ := h
    have h0 : ops[k]? = some o := (hl k).symm.trans ho
    refine ⟨by rw [hr]; simp, fun i hi d => ?_⟩
    rw [hr] at hi
    obtain rfl : i = k := by simpa using hi
    have hd := h d
    rw [oneOp_some h0]
    split
    · rename_i hw1; rw [if_pos hw1] at hd
      exact sOp_mono (fun a' w' hk => ⟨hk.1, wpC_of_wpMP hCl hl hsel s _ _ w' hk.1 hB' hk.2⟩) hd
    · rename_i hw1; rw [if_neg hw1] at hd
      exact ⟨hd.1, wpC_of_wpMP hCl hl hsel s _ _ _ hd.1 hB' hd.2⟩
  | (_, _ + 2) :: _, _, _, _, _, hB, _ => by simp [lexMC] at hB

/-- The class: worlds that extend W0 (whose own blocks the region's own row is not among). -/
theorem region_mixC {id : Nat} {Q : Exit → Act → World → Prop} {a : Act} {w : World} {l : List Oper} (s : List (Nat × Nat)) (W0 : World) (hm : P.follows .mixedOrders = true) (hsel : Region.noSelect l.toArray = true)
    (hB : lexMC .any l.toArray s (Array.replicate l.toArray.size false) = true) (hn : s.length = l.toArray.size) (hw : ∃ k, w = bw W0 k)
    (h : wpMP P l l.toArray (fun d => bw W0 d) (fun a w => Q .normal a w) s a w) : (Code.region id l.toArray true).wp P Q a w := by
  refine wp_region_any hm ?_
  have := wpC_of_wpMP (md := .any) (fun k d => ⟨_, bw_bw W0 k d⟩) (fun j => by simp) hsel s _ a w hw hB h
  have := wpC_ext (⟨#[], w.drawn + 1⟩ : Ext) this
  rw [← bw_drewExt] at this
  have := wpC_sound (Q' := Q) _ _ _ _ this
  rwa [hn] at this
end
/-- An append at a step of such a region: the row is longer, in some world that extends W0; the blocks but the row's own lie as they lay. -/
theorem sOp_push {P : Program} {o : Oper} {a : Act} {K : Act → World → Prop} (s x : Operand) (t : TypeId)
    (ho : o.op = .call { callee := .builtin .append, args := #[s, x], argTypes := #[t, t] })
    (e : TypeId) (i : TypeInfo) (z : Value) (size bytes : Nat) (ht : P.underlying t = some (.slice e)) (hi : P.info? e = some i) (hz : i.zero = some z)
    (hsize : i.size = size) (hby : i.bytes = bytes) (hzs : z.cells.size = size) (hsz : 0 < size)
    (w0 wb : World) (c : Array Value) (te : TypeId) (xb : Nat) (v : Value) (n : Nat) (xs : List Value) (hw : Below w0.heap.size w0 wb) (hown : wb.ownsRow w0.heap.size e size v n xs)
    (hcell : wb.heap[xb]? = some (.cells c te (0, 0))) (hs : a.eval s = v) (hx : a.eval x = .slice (some ⟨xb, 0, none⟩) 1 1) (hc : c.size = size) (h1 : ∀ u ∈ c.toList, u.oneCell' = true)
    (hn : n + 1 ≤ maxLen) (hb : (n + 1) * bytes ≤ 140737488355328)
    (h : ∀ g cap d, (bw w0 d).ownsRow w0.heap.size e size (.slice (some ⟨g, 0, none⟩) (n + 1) cap) (n + 1) (xs ++ c.toList) → wb.grownBy (bw w0 d) v.ownBlock → (v.ownBlock = some g ∨ g = wb.heap.size) →
      K (a.put o.dst (.slice (some ⟨g, 0, none⟩) (n + 1) cap)) (bw w0 d)) : sOp P o a K wb := by
  obtain ⟨g, cap, w', hr, h2, h3, h4, h5⟩ := run_append_lies (P := P) wb t o.type w0.heap.size e i z size bytes ht hi hz hsize hby hzs hsz v n xs hown ⟨xb, 0, none⟩ 1 1 c.toList (by simp [hc]) (World.news_of_block hcell) h1 (by decide) hn hb hw.size wb.heap.size rfl
  obtain ⟨d, hd⟩ := bw_of (w := w0) (w' := w') (hw.grown h3 hw.size (fun k hk => (hown.lt k hk).1))
  subst hd
  unfold sOp execOp
  simp only [ho, resolve, invoke, builtin, Sem.run_bind, Sem.run_pure, Result.andThen_ok, List.map_toArray, List.map_cons, List.map_nil, hs, hx, hr]
  exact h g cap d h2 h3 h4
/-- Own order, own class, with a tail. -/
theorem region_mixQ {P : Program} {id : Nat} {Q : Exit → Act → World → Prop} {a : Act} {w : World} {l : List Oper} (s : List (Nat × Nat)) (W0 : World) (hm : P.follows .mixedOrders = true) (hsel : Region.noSelect l.toArray = true)
    (hs : Region.sinkB .any l.toArray s.length = true) (hc : Region.chainB .any l.toArray s.length = true) (hn : s.length < l.toArray.size)
    (hB : lexMP .any l.toArray s.length (l.toArray.size - s.length) s (Array.replicate l.toArray.size false) = true) (hw : ∃ k, w = bw W0 k)
    (h : wpMP P l l.toArray (fun d => bw W0 d) (fun a w => wpList P l.toArray Q (l.drop s.length) a w) s a w) : (Code.region id l.toArray true).wp P Q a w := by
  have hn' : s.length < l.length := by simpa using hn
  have hdl : (l.drop s.length).length = l.toArray.size - s.length := by simp
  have inv0 : HeadInv .any l.toArray s.length (Array.replicate l.toArray.size false) :=
    ⟨by simp, fun j oj _ hl => (by rw [getD_replicate_false] at hl; cases hl), fun t _ ht => getD_in (by simpa using ht) (getD_replicate_false _ _)⟩
  have H := mixT_of_wpMP (md := .any) (g := l.toArray.size - s.length) (fun k d => ⟨_, bw_bw W0 k d⟩) (fun j => by simp) hsel hs hc hn s _ a w inv0 hw hB h
  refine wp_region_any hm ?_
  have := mixT_ext (⟨#[], w.drawn + 1⟩ : Ext) H
  rw [← bw_drewExt] at this
  have := mixT_sound (Q' := Q) (g := l.toArray.size - s.length) (fun listed a' w' hL => by
    have := wpAny_of_seq (md := .any) (Q' := Q) (l.drop s.length) s.length listed a' w' (fun j => by simp [List.getElem?_drop]) (by rw [hdl]; exact hL.1) hL.2
    rwa [hdl] at this) _ _ _ _ this
  rw [show s.length + (l.toArray.size - s.length) = l.toArray.size by omega] at this
  exact this
/-- As wpList_push2, and the blocks but the row's own lie as they lay. -/
theorem wpList_push3 {P : Program} {ops : Array Oper} {rest : List Oper} {o : Oper} {a : Act} {Q : Exit → Act → World → Prop} (hgd : o.guard = none) (s x : Operand) (t : TypeId)
    (ho : o.op = .call { callee := .builtin .append, args := #[s, x], argTypes := #[t, t] })
    (e : TypeId) (i : TypeInfo) (z : Value) (size bytes : Nat) (ht : P.underlying t = some (.slice e)) (hi : P.info? e = some i) (hz : i.zero = some z)
    (hsize : i.size = size) (hby : i.bytes = bytes) (hzs : z.cells.size = size) (hsz : 0 < size)
    (w0 wb : World) (c : Array Value) (te : TypeId) (xb : Nat) (v : Value) (n : Nat) (xs : List Value) (hw : Below w0.heap.size w0 wb) (hown : wb.ownsRow w0.heap.size e size v n xs)
    (hcell : wb.heap[xb]? = some (.cells c te (0, 0))) (hs : a.eval s = v) (hx : a.eval x = .slice (some ⟨xb, 0, none⟩) 1 1) (hc : c.size = size) (h1 : ∀ u ∈ c.toList, u.oneCell' = true)
    (hn : n + 1 ≤ maxLen) (hb : (n + 1) * bytes ≤ 140737488355328)
    (h : ∀ g cap d, (bw w0 d).ownsRow w0.heap.size e size (.slice (some ⟨g, 0, none⟩) (n + 1) cap) (n + 1) (xs ++ c.toList) → wb.grownBy (bw w0 d) v.ownBlock → (v.ownBlock = some g ∨ g = wb.heap.size) →
      wpList P ops Q rest (a.put o.dst (.slice (some ⟨g, 0, none⟩) (n + 1) cap)) (bw w0 d)) :
    wpList P ops Q (o :: rest) a wb := by
  refine wpList_append_lies wb hgd s x t ho w0.heap.size e i z size bytes ht hi hz hsize hby hzs hsz v n xs hs hown ⟨xb, 0, none⟩ 1 1 c.toList hx (by simp [hc]) (World.news_of_block hcell) h1 (by decide) hn hb hw.size wb.heap.size rfl ?_
  intro g cap w' hown' hg hat _
  obtain ⟨d, hd⟩ := bw_of (w := w0) (w' := w') (hw.grown hg hw.size (fun k hk => (hown.lt k hk).1))
  subst hd
  exact h g cap d hown' hg hat
/-- Another row of the call's own lies as it lay behind an append. -/
theorem row_other {w w' : World} {base n size : Nat} {e : TypeId} {v : Value} {xs : List Value} {row : Option Nat} (h : w.ownsRow base e size v n xs) (hg : w.grownBy w' row) (hne : v.ownBlock = none ∨ v.ownBlock ≠ row) : w'.ownsRow base e size v n xs := h.kept hg hne
end Go.Proofs.YtlkphcjlgbimkaaGreat
