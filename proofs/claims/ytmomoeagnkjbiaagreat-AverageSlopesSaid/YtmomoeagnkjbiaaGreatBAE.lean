/- Contracts and plain laws, several texts in one: MixC; MixS; SoP; So1 -/
import Derived.Test.YtmomoeagnkjbiaaGreatProg
import Derived.WalkKit
import Derived.WalkSpells
import Derived.WalkLawsBesides
import Derived.Lib.Hide
import Derived.BigQuiet
import Derived.Test.YtmomoeagnkjbiaaGreatBAA
import Derived.Test.YtmomoeagnkjbiaaGreatBAB
import Derived.Test.YtmomoeagnkjbiaaGreatBAC
import Derived.Test.YtmomoeagnkjbiaaGreatBAD
/- Regions that draw their order, by a schedule in an order of one's own, in a class of worlds of one's own; an append at a step of such a region. No program in sight. -/
namespace Go.Proofs.YtmomoeagnkjbiaaGreat
open Go.RowKit

section
variable {P : Program} {md : Region.Mode} {κ : Type} {Cl : κ → World} {l : List Oper} {ops : Array Oper}

def lexMC (md : Region.Mode) (ops : Array Oper) : List (Nat × Nat) → Array Bool → Bool
  | [], listed => (Region.ready md ops listed).isEmpty
  | (i, 0) :: s, listed => (Region.ready md ops listed).contains i && Region.free md ops listed i && lexMC md ops s (listed.setIfInBounds i true)
  | (i, 1) :: s, listed => decide (Region.ready md ops listed = [i]) && lexMC md ops s (listed.setIfInBounds i true)
  | (_, _ + 2) :: _, _ => false

theorem wpC_of_wpMP {Q : Act → World → Prop} (hCl : ∀ k d, ∃ k', bw (Cl k) d = Cl k') (hl : ∀ j : Nat, l[j]? = ops[j]?) (hsel : Region.noSelect ops = true) :
    ∀ (s : List (Nat × Nat)) (listed : Array Bool) (a : Act) (w : World), (∃ k, w = Cl k) → lexMC md ops s listed = true → wpMP P l ops Cl Q s a w → wpC P md ops Cl Q s.length listed a w
  | [], listed, a, w, hw, hB, h => by
    simp only [lexMC, List.isEmpty_iff] at hB
    exact ⟨hB, h⟩
  | (k, 0) :: s, listed, a, w, hw, hB, h => by
    simp only [lexMC, Bool.and_eq_true] at hB
    obtain ⟨⟨hr, hf⟩, hB'⟩ := hB
    obtain ⟨o, ho, h⟩ := h
    have h0 : ops[k]? = some o := (hl k).symm.trans ho
    have hr' : k ∈ Region.ready md ops listed := by simpa using hr
    have hy : ∃ v, YieldsM P ops Cl o v a ∧ wpMP P l ops Cl Q s (a.put o.dst v) w := by
      by_cases hw1 : Region.wanted o (yielded ops a.tmps) = true
      · rw [if_pos hw1] at h
        obtain ⟨v, h1, h2⟩ := h
        exact ⟨v, .inl ⟨hw1, h1⟩, h2⟩
      · rw [if_neg hw1] at h
        exact ⟨undef, .inr ⟨by simpa using hw1, rfl⟩, h⟩
    obtain ⟨v, hy, hK⟩ := hy
    exact wpC_first hCl h0 (Region.noSelect_spec hsel) s.length listed a w hw (Region.free_spec h0 hf) hr' hy (wpC_of_wpMP hCl hl hsel s _ _ w hw hB' hK)
  | (k, 1) :: s, listed, a, w, hw, hB, h => by
    simp only [lexMC, Bool.and_eq_true, decide_eq_true_eq] at hB
    obtain ⟨hr, hB'⟩ := hB
    obtain ⟨o, ho, h⟩ := h
    have h0 : ops[k]? = some o := (hl k).symm.trans ho
    refine ⟨by rw [hr]; simp, fun i hi d => ?_⟩
    rw [hr] at hi
    obtain rfl : i = k := by simpa using hi
    have hd := h d
    rw [oneOp_some h0]
    split
    · rename_i hw1; rw [if_pos hw1] at hd
      exact sOp_mono (fun a' w' hk => ⟨hk.1, wpC_of_wpMP hCl hl hsel s _ _ w' hk.1 hB' hk.2⟩) hd
    · rename_i hw1; rw [if_neg hw1] at hd
      exact ⟨hd.1, wpC_of_wpMP hCl hl hsel s _ _ _ hd.1 hB' hd.2⟩
  | (_, _ + 2) :: _, _, _, _, _, hB, _ => by simp [lexMC] at hB

/-- The class: worlds that extend W0 (whose own blocks the region's own row is not among). -/
theorem region_mixC {id : Nat} {Q : Exit → Act → World → Prop} {a : Act} {w : World} {l : List Oper} (s : List (Nat × Nat)) (W0 : World) (hm : P.follows .mixedOrders = true) (hsel : Region.noSelect l.toArray = true)
    (hB : lexMC .any l.toArray s (Array.replicate l.toArray.size false) = true) (hn : s.length = l.toArray.size) (hw : ∃ k, w = bw W0 k)
    (h : wpMP P l l.toArray (fun d => bw W0 d) (fun a w => Q .normal a w) s a w) : (Code.region id l.toArray true).wp P Q a w := by
  refine wp_region_any hm ?_
  have := wpC_of_wpMP (md := .any) (fun k d => ⟨_, bw_bw W0 k d⟩) (fun j => by simp) hsel s _ a w hw hB h
  have := wpC_ext (⟨#[], w.drawn + 1⟩ : Ext) this
  rw [← bw_drewExt] at this
  have := wpC_sound (Q' := Q) _ _ _ _ this
  rwa [hn] at this
end
/-- An append at a step of such a region: the row is longer, in some world that extends W0; the blocks but the row's own lie as they lay. -/
theorem sOp_push {P : Program} {o : Oper} {a : Act} {K : Act → World → Prop} (s x : Operand) (t : TypeId)
    (ho : o.op = .call { callee := .builtin .append, args := #[s, x], argTypes := #[t, t] })
    (e : TypeId) (i : TypeInfo) (z : Value) (size bytes : Nat) (ht : P.underlying t = some (.slice e)) (hi : P.info? e = some i) (hz : i.zero = some z)
    (hsize : i.size = size) (hby : i.bytes = bytes) (hzs : z.cells.size = size) (hsz : 0 < size)
    (w0 wb : World) (c : Array Value) (te : TypeId) (xb : Nat) (v : Value) (n : Nat) (xs : List Value) (hw : Below w0.heap.size w0 wb) (hown : wb.ownsRow w0.heap.size e size v n xs)
    (hcell : wb.heap[xb]? = some (.cells c te (0, 0))) (hs : a.eval s = v) (hx : a.eval x = .slice (some ⟨xb, 0, none⟩) 1 1) (hc : c.size = size) (h1 : ∀ u ∈ c.toList, u.oneCell' = true)
    (hn : n + 1 ≤ maxLen) (hb : (n + 1) * bytes ≤ 140737488355328)
    (h : ∀ g cap d, (bw w0 d).ownsRow w0.heap.size e size (.slice (some ⟨g, 0, none⟩) (n + 1) cap) (n + 1) (xs ++ c.toList) → wb.grownBy (bw w0 d) v.ownBlock → (v.ownBlock = some g ∨ g = wb.heap.size) →
      K (a.put o.dst (.slice (some ⟨g, 0, none⟩) (n + 1) cap)) (bw w0 d)) : sOp P o a K wb := by
  obtain ⟨g, cap, w', hr, h2, h3, h4, h5⟩ := run_append_lies (P := P) wb t o.type w0.heap.size e i z size bytes ht hi hz hsize hby hzs hsz v n xs hown ⟨xb, 0, none⟩ 1 1 c.toList (by simp [hc]) (World.news_of_block hcell) h1 (by decide) hn hb hw.size wb.heap.size rfl
  obtain ⟨d, hd⟩ := bw_of (w := w0) (w' := w') (hw.grown h3 hw.size (fun k hk => (hown.lt k hk).1))
  subst hd
  unfold sOp execOp
  simp only [ho, resolve, invoke, builtin, Sem.run_bind, Sem.run_pure, Result.andThen_ok, List.map_toArray, List.map_cons, List.map_nil, hs, hx, hr]
  exact h g cap d h2 h3 h4
/-- Own order, own class, with a tail. -/
theorem region_mixQ {P : Program} {id : Nat} {Q : Exit → Act → World → Prop} {a : Act} {w : World} {l : List Oper} (s : List (Nat × Nat)) (W0 : World) (hm : P.follows .mixedOrders = true) (hsel : Region.noSelect l.toArray = true)
    (hs : Region.sinkB .any l.toArray s.length = true) (hc : Region.chainB .any l.toArray s.length = true) (hn : s.length < l.toArray.size)
    (hB : lexMP .any l.toArray s.length (l.toArray.size - s.length) s (Array.replicate l.toArray.size false) = true) (hw : ∃ k, w = bw W0 k)
    (h : wpMP P l l.toArray (fun d => bw W0 d) (fun a w => wpList P l.toArray Q (l.drop s.length) a w) s a w) : (Code.region id l.toArray true).wp P Q a w := by
  have hn' : s.length < l.length := by simpa using hn
  have hdl : (l.drop s.length).length = l.toArray.size - s.length := by simp
  have inv0 : HeadInv .any l.toArray s.length (Array.replicate l.toArray.size false) :=
    ⟨by simp, fun j oj _ hl => (by rw [getD_replicate_false] at hl; cases hl), fun t _ ht => getD_in (by simpa using ht) (getD_replicate_false _ _)⟩
  have H := mixT_of_wpMP (md := .any) (g := l.toArray.size - s.length) (fun k d => ⟨_, bw_bw W0 k d⟩) (fun j => by simp) hsel hs hc hn s _ a w inv0 hw hB h
  refine wp_region_any hm ?_
  have := mixT_ext (⟨#[], w.drawn + 1⟩ : Ext) H
  rw [← bw_drewExt] at this
  have := mixT_sound (Q' := Q) (g := l.toArray.size - s.length) (fun listed a' w' hL => by
    have := wpAny_of_seq (md := .any) (Q' := Q) (l.drop s.length) s.length listed a' w' (fun j => by simp [List.getElem?_drop]) (by rw [hdl]; exact hL.1) hL.2
    rwa [hdl] at this) _ _ _ _ this
  rw [show s.length + (l.toArray.size - s.length) = l.toArray.size by omega] at this
  exact this
/-- As wpList_push2, and the blocks but the row's own lie as they lay. -/
theorem wpList_push3 {P : Program} {ops : Array Oper} {rest : List Oper} {o : Oper} {a : Act} {Q : Exit → Act → World → Prop} (hgd : o.guard = none) (s x : Operand) (t : TypeId)
    (ho : o.op = .call { callee := .builtin .append, args := #[s, x], argTypes := #[t, t] })
    (e : TypeId) (i : TypeInfo) (z : Value) (size bytes : Nat) (ht : P.underlying t = some (.slice e)) (hi : P.info? e = some i) (hz : i.zero = some z)
    (hsize : i.size = size) (hby : i.bytes = bytes) (hzs : z.cells.size = size) (hsz : 0 < size)
    (w0 wb : World) (c : Array Value) (te : TypeId) (xb : Nat) (v : Value) (n : Nat) (xs : List Value) (hw : Below w0.heap.size w0 wb) (hown : wb.ownsRow w0.heap.size e size v n xs)
    (hcell : wb.heap[xb]? = some (.cells c te (0, 0))) (hs : a.eval s = v) (hx : a.eval x = .slice (some ⟨xb, 0, none⟩) 1 1) (hc : c.size = size) (h1 : ∀ u ∈ c.toList, u.oneCell' = true)
    (hn : n + 1 ≤ maxLen) (hb : (n + 1) * bytes ≤ 140737488355328)
    (h : ∀ g cap d, (bw w0 d).ownsRow w0.heap.size e size (.slice (some ⟨g, 0, none⟩) (n + 1) cap) (n + 1) (xs ++ c.toList) → wb.grownBy (bw w0 d) v.ownBlock → (v.ownBlock = some g ∨ g = wb.heap.size) →
      wpList P ops Q rest (a.put o.dst (.slice (some ⟨g, 0, none⟩) (n + 1) cap)) (bw w0 d)) :
    wpList P ops Q (o :: rest) a wb := by
  refine wpList_append_lies wb hgd s x t ho w0.heap.size e i z size bytes ht hi hz hsize hby hzs hsz v n xs hs hown ⟨xb, 0, none⟩ 1 1 c.toList hx (by simp [hc]) (World.news_of_block hcell) h1 (by decide) hn hb hw.size wb.heap.size rfl ?_
  intro g cap w' hown' hg hat _
  obtain ⟨d, hd⟩ := bw_of (w := w0) (w' := w') (hw.grown hg hw.size (fun k hk => (hown.lt k hk).1))
  subst hd
  exact h g cap d hown' hg hat
/-- Another row of the call's own lies as it lay behind an append. -/
theorem row_other {w w' : World} {base n size : Nat} {e : TypeId} {v : Value} {xs : List Value} {row : Option Nat} (h : w.ownsRow base e size v n xs) (hg : w.grownBy w' row) (hne : v.ownBlock = none ∨ v.ownBlock ≠ row) : w'.ownsRow base e size v n xs := h.kept hg hne
end Go.Proofs.YtmomoeagnkjbiaaGreat
/- Regions that draw their order and store into memory that was there: a schedule in an order of one's own. Operations: 0: quiet, all of them ahead of the store st; 2: pure (the same value in every world), at any time; 1: it alone may come now (ahead of the store); 3: it alone may come now (the store, or behind it). No program in sight. -/
namespace Go.Proofs.YtmomoeagnkjbiaaGreat
open Go.RowKit

section
variable {P : Program} {md : Region.Mode} {κ : Type} {Cl : κ → World} {l : List Oper} {ops : Array Oper} {st : Nat}

def inS (Cl : κ → World) (st : Nat) (listed : Array Bool) (w : World) : Prop := listed.getD st false = true ∨ ∃ k, w = Cl k
theorem inS_set {listed : Array Bool} {w : World} (i : Nat) (h : inS Cl st listed w) : inS Cl st (listed.setIfInBounds i true) w := by
  rcases h with h | h
  · left
    by_cases e : i = st
    · subst e
      have hlt : i < listed.size := by
        rcases Nat.lt_or_ge i listed.size with h' | h'
        · exact h'
        · simp [Array.getElem?_eq_none h'] at h
      simp [hlt]
    · simp only [Array.getD_eq_getD_getElem?, Array.getElem?_setIfInBounds_ne e] at h ⊢; exact h
  · exact .inr h
theorem inS_other {listed : Array Bool} {w : World} {i : Nat} (j : Nat) (e : i ≠ st) (h : inS Cl st ((listed.setIfInBounds i true).setIfInBounds j true) w) : inS Cl st (listed.setIfInBounds j true) w := by
  rcases h with h | h
  · left
    by_cases hji : j = i
    · subst hji
      simp only [Array.getD_eq_getD_getElem?, Array.getElem?_setIfInBounds_ne e] at h ⊢; exact h
    · rw [Array.setIfInBounds_comm _ _ (fun h => hji h.symm)] at h
      simp only [Array.getD_eq_getD_getElem?] at h ⊢
      rw [Array.getElem?_setIfInBounds_ne e] at h; exact h
  · exact .inr h
theorem inS_bw (hCl : ∀ k d, ∃ k', bw (Cl k) d = Cl k') {listed : Array Bool} {w : World} (d : Ext) (h : inS Cl st listed w) : inS Cl st listed (bw w d) := by
  rcases h with h | ⟨k, rfl⟩
  · exact .inl h
  · exact .inr (hCl k d)

def wpD (P : Program) (md : Region.Mode) (ops : Array Oper) (Cl : κ → World) (st : Nat) (Q : Act → World → Prop) : Nat → Array Bool → Act → World → Prop
  | 0, listed, a, w => Region.ready md ops listed = [] ∧ ∀ d, Q a (bw w d)
  | f + 1, listed, a, w => Region.ready md ops listed ≠ [] ∧ ∀ i ∈ Region.ready md ops listed, ∀ d, oneOp P ops i (fun a' w' => inS Cl st (listed.setIfInBounds i true) w' ∧ wpD P md ops Cl st Q f (listed.setIfInBounds i true) a' w') a (bw w d)
theorem wpD_ext {Q : Act → World → Prop} : ∀ {f : Nat} {listed : Array Bool} {a : Act} {w : World} (d : Ext), wpD P md ops Cl st Q f listed a w → wpD P md ops Cl st Q f listed a (bw w d)
  | 0, _, _, w, d, h => ⟨h.1, fun e => by rw [bw_bw]; exact h.2 _⟩
  | _ + 1, _, _, w, d, h => ⟨h.1, fun i hi e => by rw [bw_bw]; exact h.2 i hi _⟩
theorem wpD_sound {Q' : Exit → Act → World → Prop} : ∀ (f : Nat) (listed : Array Bool) (a : Act) (w : World), wpD P md ops Cl st (fun a w => Q' .normal a w) f listed a w → wpAny P md ops Q' f listed a w
  | 0, listed, a, w, h => ⟨h.1, by have := h.2 (noExt w); rwa [bw_noExt] at this⟩
  | f + 1, listed, a, w, h => by
    refine ⟨fun h0 => absurd h0 h.1, fun i hi => ?_⟩
    have h1 := h.2 i hi (noExt w)
    rw [bw_noExt] at h1
    unfold oneOp at h1
    unfold wpOp
    split
    · rename_i ho; simp only [ho] at h1; exact wpD_sound f _ _ _ h1.2
    · rename_i o ho
      simp only [ho] at h1
      split
      · rename_i hw; rw [if_pos hw] at h1
        exact Or.inl (wp_of_sOp (sOp_mono (fun a w hk => wpD_sound f _ a w hk.2) h1))
      · rename_i hw; rw [if_neg hw] at h1; exact wpD_sound f _ _ _ h1.2

/-- An operation that is pure, or quiet and ahead of the store, may be taken first. -/
theorem wpD_first {i : Nat} {oi : Oper} {v : Value} {Q : Act → World → Prop} (hCl : ∀ k d, ∃ k', bw (Cl k) d = Cl k') (hi : ops[i]? = some oi) (hsel : ∀ (j : Nat) (o : Oper) cs b, ops[j]? = some o → o.op ≠ .select cs b) (hne : i ≠ st) :
    ∀ (f : Nat) (listed : Array Bool) (a : Act) (w : World), inS Cl st listed w →
      (∀ j oj, ops[j]? = some oj → j ≠ i → listed.getD j true = false → (∀ e ∈ oj.after, Region.binds md e = true → e.on ≠ i) → oi.apart ops oj = true) →
      i ∈ Region.ready md ops listed → (YieldsM P ops (fun W : World => W) oi v a ∨ (YieldsM P ops Cl oi v a ∧ listed.getD st false = false ∧ ∃ os, ops[st]? = some os ∧ ∃ e ∈ os.after, Region.binds md e = true ∧ e.on = i)) →
      wpD P md ops Cl st Q f (listed.setIfInBounds i true) (a.put oi.dst v) w → wpD P md ops Cl st Q (f + 1) listed a w := by
  have one : ∀ {listed : Array Bool} {a : Act} {w : World} {K : Act → World → Prop}, inS Cl st listed w →
      (YieldsM P ops (fun W : World => W) oi v a ∨ (YieldsM P ops Cl oi v a ∧ listed.getD st false = false ∧ ∃ os, ops[st]? = some os ∧ ∃ e ∈ os.after, Region.binds md e = true ∧ e.on = i)) →
      K (a.put oi.dst v) w → (∀ d, K (a.put oi.dst v) (bw w d)) → oneOp P ops i K a w := by
    intro listed a w K hw hy h0 h1
    rcases hy with hy | ⟨hy, hs, _⟩
    · exact hy.oneOp hi ⟨w, rfl⟩ h0 h1
    · exact hy.oneOp hi (hw.resolve_left (by rw [hs]; exact Bool.false_ne_true)) h0 h1
  intro f
  induction f with
  | zero =>
    intro listed a w hw _ hr hy H
    refine ⟨List.ne_nil_of_mem hr, fun j hj d => ?_⟩
    by_cases hji : j = i
    · subst hji
      exact one (inS_bw hCl d hw) hy ⟨inS_set _ (inS_bw hCl d hw), wpD_ext d H⟩ (fun e => ⟨inS_set _ (inS_bw hCl e (inS_bw hCl d hw)), wpD_ext e (wpD_ext d H)⟩)
    · have := ready_mono hj hji
      rw [H.1] at this; cases this
  | succ f ih =>
    intro listed a w hw hfree hr hy H
    have hun := (mem_ready.1 hr).1
    refine ⟨List.ne_nil_of_mem hr, fun j hj d => ?_⟩
    by_cases hji : j = i
    · subst hji
      exact one (inS_bw hCl d hw) hy ⟨inS_set _ (inS_bw hCl d hw), wpD_ext d H⟩ (fun e => ⟨inS_set _ (inS_bw hCl e (inS_bw hCl d hw)), wpD_ext e (wpD_ext d H)⟩)
    · have h1 := H.2 j (ready_mono hj hji) d
      obtain ⟨hjun, oj, hoj, hall⟩ := mem_ready.1 hj
      have hunF : listed.getD i false = false := by
        rcases Nat.lt_or_ge i listed.size with h' | h'
        · simp [h'] at hun ⊢; exact hun
        · simp [Array.getElem?_eq_none h'] at hun
      have hnot : ∀ e ∈ oj.after, Region.binds md e = true → e.on ≠ i := fun e he hb heq => by
        have h2 := hall e he hb
        rw [heq, hunF] at h2
        cases h2
      have hap := hfree j oj hoj hji hjun hnot
      have hfree' : ∀ k ok, ops[k]? = some ok → k ≠ i → (listed.setIfInBounds j true).getD k true = false →
          (∀ e ∈ ok.after, Region.binds md e = true → e.on ≠ i) → oi.apart ops ok = true := fun k ok hk hki hu hno => by
        refine hfree k ok hk hki ?_ hno
        by_cases hjk : j = k
        · subst hjk; exact hjun
        · rw [getD_set_ne true hjk] at hu; exact hu
      have fin : ∀ (a' : Act) (w' : World), (YieldsM P ops (fun W : World => W) oi v a' ∨ (YieldsM P ops Cl oi v a' ∧ (listed.setIfInBounds j true).getD st false = false ∧ ∃ os, ops[st]? = some os ∧ ∃ e ∈ os.after, Region.binds md e = true ∧ e.on = i)) →
          inS Cl st ((listed.setIfInBounds i true).setIfInBounds j true) w' → wpD P md ops Cl st Q f ((listed.setIfInBounds i true).setIfInBounds j true) (a'.put oi.dst v) w' →
          inS Cl st (listed.setIfInBounds j true) w' ∧ wpD P md ops Cl st Q (f + 1) (listed.setIfInBounds j true) a' w' := fun a' w' hy' hin hk => by
        have hin' := inS_other j hne hin
        refine ⟨hin', ih (listed.setIfInBounds j true) a' w' hin' hfree' (ready_mono hr (Ne.symm hji)) hy' ?_⟩
        rw [Array.setIfInBounds_comm _ _ hji]
        exact hk
      rcases hy with hy | ⟨hy, hs, hedge⟩
      · have h2 := oneOp_put hoj hap (fun cs b => hsel i oi cs b hi) (fun cs b => hsel j oj cs b hoj) hy h1
        exact oneOp_mono (fun a' w' h3 => fin a' w' (.inl h3.1) h3.2.1 h3.2.2) h2
      · have hjst : j ≠ st := by
          rintro rfl
          obtain ⟨os, hos, e, he, hb, heq⟩ := hedge
          rw [hoj] at hos
          cases hos
          exact hnot e he hb heq
        have hs' : (listed.setIfInBounds j true).getD st false = false := by
          simp only [Array.getD_eq_getD_getElem?, Array.getElem?_setIfInBounds_ne hjst] at hs ⊢; exact hs
        have h2 := oneOp_put hoj hap (fun cs b => hsel i oi cs b hi) (fun cs b => hsel j oj cs b hoj) hy h1
        exact oneOp_mono (fun a' w' h3 => fin a' w' (.inr ⟨h3.1, hs', hedge⟩) h3.2.1 h3.2.2) h2

def wpMS (P : Program) (l : List Oper) (ops : Array Oper) (Cl : κ → World) (Q : Act → World → Prop) : List (Nat × Nat) → Act → World → Prop
  | [], a, w => ∀ d, Q a (bw w d)
  | (i, 0) :: s, a, w => ∃ o, l[i]? = some o ∧ (if Region.wanted o (yielded ops a.tmps) then mOp P Cl o a (fun a' => wpMS P l ops Cl Q s a' w) else wpMS P l ops Cl Q s (a.put o.dst undef) w)
  | (i, 1) :: s, a, w => ∃ o, l[i]? = some o ∧ ∀ d, (if Region.wanted o (yielded ops a.tmps) then sOp P o a (fun a' w' => (∃ k, w' = Cl k) ∧ wpMS P l ops Cl Q s a' w') (bw w d) else (∃ k, bw w d = Cl k) ∧ wpMS P l ops Cl Q s (a.put o.dst undef) (bw w d))
  | (i, 2) :: s, a, w => ∃ o, l[i]? = some o ∧ (if Region.wanted o (yielded ops a.tmps) then mOp P (fun W : World => W) o a (fun a' => wpMS P l ops Cl Q s a' w) else wpMS P l ops Cl Q s (a.put o.dst undef) w)
  | (i, 3) :: s, a, w => ∃ o, l[i]? = some o ∧ ∀ d, (if Region.wanted o (yielded ops a.tmps) then sOp P o a (fun a' w' => wpMS P l ops Cl Q s a' w') (bw w d) else wpMS P l ops Cl Q s (a.put o.dst undef) (bw w d))
  | (_, _ + 4) :: _, _, _ => False
def edgeB (md : Region.Mode) (ops : Array Oper) (st i : Nat) : Bool := match ops[st]? with | none => false | some os => os.after.any fun e => Region.binds md e && decide (e.on = i)
theorem edge_of {i : Nat} (h : edgeB md ops st i = true) : ∃ os, ops[st]? = some os ∧ ∃ e ∈ os.after, Region.binds md e = true ∧ e.on = i := by
  unfold edgeB at h
  cases ho : ops[st]? with
  | none => rw [ho] at h; cases h
  | some os =>
    rw [ho] at h
    obtain ⟨e, he, h2⟩ := Array.any_eq_true'.1 h
    simp only [Bool.and_eq_true, decide_eq_true_eq] at h2
    exact ⟨os, rfl, e, he, h2.1, h2.2⟩
def lexMS (md : Region.Mode) (ops : Array Oper) (st : Nat) : List (Nat × Nat) → Array Bool → Bool
  | [], listed => (Region.ready md ops listed).isEmpty
  | (i, 0) :: s, listed => decide (i ≠ st) && (!listed.getD st false) && edgeB md ops st i && (Region.ready md ops listed).contains i && Region.free md ops listed i && lexMS md ops st s (listed.setIfInBounds i true)
  | (i, 1) :: s, listed => decide (Region.ready md ops listed = [i]) && lexMS md ops st s (listed.setIfInBounds i true)
  | (i, 2) :: s, listed => decide (i ≠ st) && (Region.ready md ops listed).contains i && Region.free md ops listed i && lexMS md ops st s (listed.setIfInBounds i true)
  | (i, 3) :: s, listed => (listed.setIfInBounds i true).getD st false && decide (Region.ready md ops listed = [i]) && lexMS md ops st s (listed.setIfInBounds i true)
  | (_, _ + 4) :: _, _ => false

theorem wpD_of_wpMS {Q : Act → World → Prop} (hCl : ∀ k d, ∃ k', bw (Cl k) d = Cl k') (hl : ∀ j : Nat, l[j]? = ops[j]?) (hsel : Region.noSelect ops = true) :
    ∀ (s : List (Nat × Nat)) (listed : Array Bool) (a : Act) (w : World), inS Cl st listed w → lexMS md ops st s listed = true → wpMS P l ops Cl Q s a w → wpD P md ops Cl st Q s.length listed a w
  | [], listed, a, w, hw, hB, h => by
    simp only [lexMS, List.isEmpty_iff] at hB
    exact ⟨hB, h⟩
  | (k, 0) :: s, listed, a, w, hw, hB, h => by
    simp only [lexMS, Bool.and_eq_true, decide_eq_true_eq, Bool.not_eq_true'] at hB
    obtain ⟨⟨⟨⟨⟨hks, hst⟩, hed⟩, hr⟩, hf⟩, hB'⟩ := hB
    obtain ⟨o, ho, h⟩ := h
    have h0 : ops[k]? = some o := (hl k).symm.trans ho
    have hr' : k ∈ Region.ready md ops listed := by simpa using hr
    have hy : ∃ v, YieldsM P ops Cl o v a ∧ wpMS P l ops Cl Q s (a.put o.dst v) w := by
      by_cases hw1 : Region.wanted o (yielded ops a.tmps) = true
      · rw [if_pos hw1] at h
        obtain ⟨v, h1, h2⟩ := h
        exact ⟨v, .inl ⟨hw1, h1⟩, h2⟩
      · rw [if_neg hw1] at h
        exact ⟨undef, .inr ⟨by simpa using hw1, rfl⟩, h⟩
    obtain ⟨v, hy, hK⟩ := hy
    exact wpD_first hCl h0 (Region.noSelect_spec hsel) hks s.length listed a w hw (Region.free_spec h0 hf) hr' (.inr ⟨hy, hst, edge_of hed⟩) (wpD_of_wpMS hCl hl hsel s _ _ w (inS_set _ hw) hB' hK)
  | (k, 2) :: s, listed, a, w, hw, hB, h => by
    simp only [lexMS, Bool.and_eq_true, decide_eq_true_eq] at hB
    obtain ⟨⟨⟨hks, hr⟩, hf⟩, hB'⟩ := hB
    obtain ⟨o, ho, h⟩ := h
    have h0 : ops[k]? = some o := (hl k).symm.trans ho
    have hr' : k ∈ Region.ready md ops listed := by simpa using hr
    have hy : ∃ v, YieldsM P ops (fun W : World => W) o v a ∧ wpMS P l ops Cl Q s (a.put o.dst v) w := by
      by_cases hw1 : Region.wanted o (yielded ops a.tmps) = true
      · rw [if_pos hw1] at h
        obtain ⟨v, h1, h2⟩ := h
        exact ⟨v, .inl ⟨hw1, h1⟩, h2⟩
      · rw [if_neg hw1] at h
        exact ⟨undef, .inr ⟨by simpa using hw1, rfl⟩, h⟩
    obtain ⟨v, hy, hK⟩ := hy
    exact wpD_first hCl h0 (Region.noSelect_spec hsel) hks s.length listed a w hw (Region.free_spec h0 hf) hr' (.inl hy) (wpD_of_wpMS hCl hl hsel s _ _ w (inS_set _ hw) hB' hK)
  | (k, 1) :: s, listed, a, w, hw, hB, h => by
    simp only [lexMS, Bool.and_eq_true, decide_eq_true_eq] at hB
    obtain ⟨hr, hB'⟩ := hB
    obtain ⟨o, ho, h⟩ := h
    have h0 : ops[k]? = some o := (hl k).symm.trans ho
    refine ⟨by rw [hr]; simp, fun i hi d => ?_⟩
    rw [hr] at hi
    obtain rfl : i = k := by simpa using hi
    have hd := h d
    rw [oneOp_some h0]
    split
    · rename_i hw1; rw [if_pos hw1] at hd
      exact sOp_mono (fun a' w' hk => ⟨.inr hk.1, wpD_of_wpMS hCl hl hsel s _ _ w' (.inr hk.1) hB' hk.2⟩) hd
    · rename_i hw1; rw [if_neg hw1] at hd
      exact ⟨.inr hd.1, wpD_of_wpMS hCl hl hsel s _ _ _ (.inr hd.1) hB' hd.2⟩
  | (k, 3) :: s, listed, a, w, hw, hB, h => by
    simp only [lexMS, Bool.and_eq_true, decide_eq_true_eq] at hB
    obtain ⟨⟨hst, hr⟩, hB'⟩ := hB
    obtain ⟨o, ho, h⟩ := h
    have h0 : ops[k]? = some o := (hl k).symm.trans ho
    refine ⟨by rw [hr]; simp, fun i hi d => ?_⟩
    rw [hr] at hi
    obtain rfl : i = k := by simpa using hi
    have hd := h d
    rw [oneOp_some h0]
    split
    · rename_i hw1; rw [if_pos hw1] at hd
      exact sOp_mono (fun a' w' hk => ⟨.inl hst, wpD_of_wpMS hCl hl hsel s _ _ w' (.inl hst) hB' hk⟩) hd
    · rename_i hw1; rw [if_neg hw1] at hd
      exact ⟨.inl hst, wpD_of_wpMS hCl hl hsel s _ _ _ (.inl hst) hB' hd⟩
  | (_, _ + 4) :: _, _, _, _, _, hB, _ => by simp [lexMS] at hB

/-- The law: the class ahead of the store are the worlds that extend the one at the start. -/
theorem region_mixS {id : Nat} {Q : Exit → Act → World → Prop} {a : Act} {w : World} {l : List Oper} (st : Nat) (s : List (Nat × Nat)) (hm : P.follows .mixedOrders = true) (hsel : Region.noSelect l.toArray = true)
    (hB : lexMS .any l.toArray st s (Array.replicate l.toArray.size false) = true) (hn : s.length = l.toArray.size)
    (h : wpMS P l l.toArray (fun d => bw w d) (fun a w => Q .normal a w) s a w) : (Code.region id l.toArray true).wp P Q a w := by
  refine wp_region_any hm ?_
  have := wpD_of_wpMS (md := .any) (st := st) (fun k d => ⟨_, bw_bw w k d⟩) (fun j => by simp) hsel s _ a w (.inr ⟨noExt w, (bw_noExt w).symm⟩) hB h
  have := wpD_ext (⟨#[], w.drawn + 1⟩ : Ext) this
  rw [← bw_drewExt] at this
  have := wpD_sound (Q' := Q) _ _ _ _ this
  rwa [hn] at this
theorem wpMS_quiet {Q : Act → World → Prop} {a : Act} {w : World} {i : Nat} {o : Oper} {s : List (Nat × Nat)} (ho : l[i]? = some o)
    (h : ∀ K : Act → Prop, (∀ a, wpMS P l ops Cl Q s a w → K a) → if Region.wanted o (yielded ops a.tmps) then mOp P Cl o a K else K (a.put o.dst undef)) : wpMS P l ops Cl Q ((i, 0) :: s) a w :=
  ⟨o, ho, h _ (fun _ h => h)⟩
theorem wpMS_pure {Q : Act → World → Prop} {a : Act} {w : World} {i : Nat} {o : Oper} {s : List (Nat × Nat)} (ho : l[i]? = some o)
    (h : ∀ K : Act → Prop, (∀ a, wpMS P l ops Cl Q s a w → K a) → if Region.wanted o (yielded ops a.tmps) then mOp P (fun W : World => W) o a K else K (a.put o.dst undef)) : wpMS P l ops Cl Q ((i, 2) :: s) a w :=
  ⟨o, ho, h _ (fun _ h => h)⟩
theorem wpMS_special {Q : Act → World → Prop} {a : Act} {w : World} {i : Nat} {o : Oper} {s : List (Nat × Nat)} (ho : l[i]? = some o)
    (h : ∀ (K : Act → World → Prop), (∀ a' w', (∃ k, w' = Cl k) → wpMS P l ops Cl Q s a' w' → K a' w') → ∀ d, if Region.wanted o (yielded ops a.tmps) then sOp P o a K (bw w d) else K (a.put o.dst undef) (bw w d)) : wpMS P l ops Cl Q ((i, 1) :: s) a w :=
  ⟨o, ho, fun d => by
    have := h (fun a' w' => (∃ k, w' = Cl k) ∧ wpMS P l ops Cl Q s a' w') (fun _ _ h1 h2 => ⟨h1, h2⟩) d
    split
    · rename_i hw; rw [if_pos hw] at this; exact this
    · rename_i hw; rw [if_neg hw] at this; exact this⟩
theorem wpMS_store {Q : Act → World → Prop} {a : Act} {w : World} {i : Nat} {o : Oper} {s : List (Nat × Nat)} (ho : l[i]? = some o)
    (h : ∀ (K : Act → World → Prop), (∀ a' w', wpMS P l ops Cl Q s a' w' → K a' w') → ∀ d, if Region.wanted o (yielded ops a.tmps) then sOp P o a K (bw w d) else K (a.put o.dst undef) (bw w d)) : wpMS P l ops Cl Q ((i, 3) :: s) a w :=
  ⟨o, ho, fun d => by
    have := h (fun a' w' => wpMS P l ops Cl Q s a' w') (fun _ _ h2 => h2) d
    split
    · rename_i hw; rw [if_pos hw] at this; exact this
    · rename_i hw; rw [if_neg hw] at this; exact this⟩
theorem wpMS_nil {Q : Act → World → Prop} {a : Act} {w : World} (h : ∀ d, Q a (bw w d)) : wpMS P l ops Cl Q [] a w := h
end
end Go.Proofs.YtmomoeagnkjbiaaGreat
/- Insertion: the plain law. No function of the program. -/
namespace Go.Proofs.YtmomoeagnkjbiaaGreat

/-- Of the elements up to index i, those apart from the one at k are ascending, and this is not greater than those behind it. -/
def InsI (l : List Int) (i k : Nat) : Prop := ∀ a b, a < b → b ≤ i → b ≠ k → nth l a ≤ nth l b
def AscTo (l : List Int) (i : Nat) : Prop := ∀ a b, a < b → b < i → nth l a ≤ nth l b
def swpI (l : List Int) (k : Nat) : List Int := (l.set k (nth l (k - 1))).set (k - 1) (nth l k)
theorem swpI_len (l : List Int) (k : Nat) : (swpI l k).length = l.length := by unfold swpI; simp
theorem swpI_perm {l : List Int} {k : Nat} (h : k < l.length) : (swpI l k).Perm l := by
  unfold swpI
  rw [nth_lt h, nth_lt (show k - 1 < l.length by omega)]
  exact List.set_set_perm h (by omega)
theorem nth_set1 {l : List Int} {i j : Nat} {x : Int} (h : i < l.length) : nth (l.set i x) j = if i = j then x else nth l j := by
  unfold nth
  simp only [List.getD_eq_getElem?_getD, List.getElem?_set]
  by_cases e : i = j
  · subst e; simp [h]
  · simp [e]
theorem swpI_nth {l : List Int} {k j : Nat} (h : k < l.length) (h0 : 0 < k) : nth (swpI l k) j = if j = k then nth l (k - 1) else if j = k - 1 then nth l k else nth l j := by
  unfold swpI
  rw [nth_set1 (by rw [List.length_set]; omega), nth_set1 h]
  by_cases e1 : j = k
  · rw [if_pos e1, if_neg (by omega), if_pos e1.symm]
  · rw [if_neg e1]
    by_cases e2 : j = k - 1
    · rw [if_pos e2, if_pos e2.symm]
    · rw [if_neg e2, if_neg (fun h => e2 h.symm), if_neg (fun h => e1 h.symm)]
theorem InsI.start {l : List Int} {i : Nat} (h : AscTo l i) : InsI l i i := fun a b h1 h2 h3 => h a b h1 (by omega)
theorem InsI.step {l : List Int} {i k : Nat} (h : InsI l i k) (h0 : 0 < k) (hk : k ≤ i) (hi : i < l.length) (hlt : nth l k < nth l (k - 1)) : InsI (swpI l k) i (k - 1) := by
  intro a b h1 h2 h3
  have hkl : k < l.length := by omega
  rw [swpI_nth hkl h0, swpI_nth hkl h0]
  by_cases e1 : b = k
  · subst e1
    rw [if_pos rfl, if_neg (by omega)]
    by_cases e2 : a = b - 1
    · rw [if_pos e2]; omega
    · rw [if_neg e2]; exact h a (b - 1) (by omega) (by omega) (by omega)
  · rw [if_neg e1, if_neg h3]
    by_cases e2 : a = k
    · rw [if_pos e2]; exact h (k - 1) b (by omega) h2 e1
    · rw [if_neg e2]
      by_cases e3 : a = k - 1
      · rw [if_pos e3]; exact h k b (by omega) h2 e1
      · rw [if_neg e3]; exact h a b h1 h2 e1
theorem InsI.stop {l : List Int} {i k : Nat} (h : InsI l i k) (hk : k = 0 ∨ nth l (k - 1) ≤ nth l k) : AscTo l (i + 1) := by
  intro a b h1 h2
  by_cases e : b = k
  · subst e
    rcases hk with hk | hk
    · omega
    · by_cases e2 : a = b - 1
      · subst e2; exact hk
      · have := h a (b - 1) (by omega) (by omega) (by omega)
        omega
  · exact h a b h1 (by omega) e
theorem AscTo.pair {l : List Int} (h : AscTo l l.length) : l.Pairwise (· ≤ ·) := by
  refine List.pairwise_iff_getElem.2 fun i j hi hj hij => ?_
  have := h i j hij hj
  rw [nth_lt hi, nth_lt hj] at this
  exact this
theorem AscTo.one (l : List Int) : AscTo l 1 := fun a b h1 h2 => by omega
end Go.Proofs.YtmomoeagnkjbiaaGreat
/- The reference of average: Sorted. -/
namespace Go.Proofs.YtmomoeagnkjbiaaGreat
open Go.RowKit

structure SoI (W : World) (base g m c : Nat) (l L : List Int) : Prop where
  own : Ow W base (.slice (some ⟨g, 0, none⟩) m c) L
  len : L.length = m
  perm : L.Perm l
theorem SoI.on {w : World} {d d2 : Ext} {base g m c : Nat} {l L : List Int} (h : SoI (lay w [.inr d2]) base g m c l L) : SoI (lay w [.inr d, .inr d2]) base g m c l L := ⟨ow_on (A := [.inr d]) h.own, h.len, h.perm⟩
/-- A store into the row, behind a draw. -/
theorem ow_store2 {w : World} {d : Ext} {g n c base : Nat} {L : List Int} (e : Ext) (j : Nat) {x : Int} (h : Ow (lay w [.inr d]) base (.slice (some ⟨g, 0, none⟩) n c) L) (hg : w.heap.size ≤ g) (hx : (Lit.int .i64 x).wf = true) :
    ∃ d', (lay w [.inr e, .inr d]).setCell ⟨g, j, none⟩ (.int .i64 x) = lay w [.inr d'] ∧ Ow (lay w [.inr d']) base (.slice (some ⟨g, 0, none⟩) n c) (L.set j x) := by
  obtain ⟨d1, e1⟩ : ∃ x, lay w [.inr e, .inr d] = lay w [.inr x] := ⟨_, bw_bw _ _ _⟩
  have h1 := ow_on (A := [.inr e]) h
  change Ow (lay w [.inr e, .inr d]) base _ L at h1
  rw [e1] at h1 ⊢
  obtain ⟨d2, e2⟩ := bw_store (w := w) (d := d1) (g := g) (i := j) (v := .int .i64 x) hg
  have e3 : (lay w [.inr d1]).setCell ⟨g, j, none⟩ (.int .i64 x) = lay w [.inr d2] := e2
  have h2 := ow_store h1 j x hx
  rw [e3] at h2
  exact ⟨d2, e3, h2⟩
set_option maxHeartbeats 2000000 in
set_option maxRecDepth 100000 in
theorem r23_Sorted (v : Value) (l : List Int) (w : World) (hs : Sl w v l) (h1 : 1 ≤ l.length) (hn : l.length ≤ 1000000) :
    Calls Tryz.prog 94 #[v] w (RwO w (srtI l)) := by
  have HS := Lib.hid hs
  obtain ⟨b, o, cap, rfl, -⟩ := hs.open (by omega)
  obtain ⟨m, hm⟩ : ∃ m, l.length = m := ⟨_, rfl⟩
  rw [hm] at HS h1 hn ⊢
  have HM := Lib.hid hm
  clear hm hs
  refine lay_start ?_
  go_enter Tryz.func94, Tryz.ntmps94
  go_wp2_with (at_builtin; refine push_sl rfl _ _ rfl (lay w []) _ _ _ _ _ _ l ?_ (ow_empty (L := [])) (HS.out.lay _) (fun h => by cases h) rfl rfl (by rw [HM.out]; show 0 + m ≤ _; omega) ?_; exact lay_below (A := [_]); intro v' d' hv'; obtain ⟨g, c, hve, h2, h3, h4⟩ := hv'.form1 (show 0 < l.length by rw [HM.out]; omega); rw [show (([] : List Int) ++ l).length = m from HM.out] at hve h4; subst hve; replace hv' : Ow (lay w [.inr d']) (lay w []).heap.size (.slice (some ⟨g, 0, none⟩) m c) l := hv'; have HV := Lib.hid (SoI.mk hv' HM.out (List.Perm.refl l)); clear hv' h3)
  have hg : w.heap.size ≤ g := h2
  go_loopw [4] (fun v4 wr => ∃ (i : Nat) (L : List Int) (dd : Ext), 1 ≤ i ∧ i ≤ m ∧ v4 = .int .i64 (i : Int) ∧ wr = lay w [.inr dd] ∧ SoI (lay w [.inr dd]) (lay w []).heap.size g m c l L ∧ AscTo L i) (fun v4 _ => m - (intOf v4).toNat)
  case atStart => exact ⟨1, l, d', Nat.le_refl _, h1, rfl, rfl, HV.out, AscTo.one l⟩
  case round =>
    obtain ⟨i, L, dd, hi1, hi, rfl, rfl, hO, hA⟩ := hrel
    by_cases hlt : i < m
    · have x0 : (i : Int) < (m : Int) := by omega
      have HO := Lib.hid (And.intro hO hA)
      clear hO hA
      go_wp2_with fail
      go_loopw [5] (fun v5 wr => ∃ (k : Nat) (L : List Int) (d2 : Ext), k ≤ i ∧ v5 = .int .i64 (k : Int) ∧ wr = lay w [.inr d2] ∧ SoI (lay w [.inr d2]) (lay w []).heap.size g m c l L ∧ InsI L i k) (fun v5 _ => (intOf v5).toNat)
      case atStart => exact ⟨i, L, dd, Nat.le_refl _, rfl, rfl, HO.out.1, InsI.start HO.out.2⟩
      case round =>
        obtain ⟨k, L, d2, hk, rfl, rfl, hO2, hI⟩ := hrel
        have HO2 := Lib.hid (And.intro hO2 hI)
        have hL := hO2.len
        by_cases hk0 : k = 0
        · subst hk0
          have y0 : decide ((0 : Int) < ((0 : Nat) : Int)) = false := rfl
          clear hO2 hI
          go_wp2_with fail
          refine region_bw (by kernel_rfl) (by kernel_rfl) ?_
          repeat (go_big_quiet_step ((first | fail)))
          refine wpQuiet_nil ?_
          rintro w' ⟨d, rfl⟩
          rw [lay_bw]
          obtain ⟨d3, e3⟩ : ∃ x, lay w [.inr d, .inr d2] = lay w [.inr x] := ⟨_, bw_bw _ _ _⟩
          have HO3 := Lib.hid (HO2.out.1.on (d := d))
          rw [e3] at HO3 ⊢
          clear e3
          go_wp2_with fail
          go_roundw
          case rel => exact ⟨i + 1, L, d3, by omega, by omega, by first | rfl | exact congrArg (Value.int .i64) (by omega), rfl, HO3.out, HO2.out.2.stop (.inl rfl)⟩
          case measure => simp [intOf]; omega
        · have e1 := fun d' => (ow_on (A := [.inr d']) hO2.own).cell (i := k) (by omega)
          have e0 := fun d' => (ow_on (A := [.inr d']) hO2.own).cell (i := k - 1) (by omega)
          have c1 : ∀ d', (lay w [.inr d', .inr d2]).cell? ⟨g, k, none⟩ = some (.int .i64 (nth L k)) := e1
          have c0 : ∀ d', (lay w [.inr d', .inr d2]).cell? ⟨g, k - 1, none⟩ = some (.int .i64 (nth L (k - 1))) := e0
          have y0 : decide (0 < k) = true := decide_eq_true (by omega)
          have y00 : 0 < k := by omega
          have y1 : (0 : Int) ≤ (k : Int) := by omega
          have y2 : (k : Int) < (m : Int) := by omega
          have y3 : (0 : Int) ≤ (k : Int) - 1 := by omega
          have y33 : (1 : Int) ≤ (k : Int) := by omega
          have y4 : (k : Int) - 1 < (m : Int) := by omega
          have y5 : ((k : Int) - 1).toNat = k - 1 := by omega
          have w3 : IntKind.i64.wrap ((k : Int) - 1) = (k : Int) - 1 := IntWalk.i64_in _ (by omega)
          obtain ⟨X, hX⟩ : ∃ X, X = nth L k := ⟨_, rfl⟩
          obtain ⟨Y, hY⟩ : ∃ Y, Y = nth L (k - 1) := ⟨_, rfl⟩
          rw [← hX] at c1
          rw [← hY] at c0
          have HX := Lib.hid (And.intro hX hY)
          clear hO2 hI e1 e0 hX hY
          by_cases hxy : X < Y
          · have y6 : decide (X < Y) = true := decide_eq_true hxy
            go_wp2_with fail
            refine region_bw (by kernel_rfl) (by kernel_rfl) ?_
            repeat (go_big_quiet_step ((first | fail)))
            refine wpQuiet_nil ?_
            rintro w' ⟨d, rfl⟩
            rw [lay_bw]
            obtain ⟨d3, e3⟩ : ∃ x, lay w [.inr d, .inr d2] = lay w [.inr x] := ⟨_, bw_bw _ _ _⟩
            have HO3 := Lib.hid (HO2.out.1.on (d := d))
            rw [e3] at HO3 ⊢
            clear e3 c1 c0
            have e1 := fun d' => (ow_on (A := [.inr d']) HO3.out.own).cell (i := k) (by rw [HO3.out.len]; omega)
            have e0 := fun d' => (ow_on (A := [.inr d']) HO3.out.own).cell (i := k - 1) (by rw [HO3.out.len]; omega)
            rw [← HX.out.1] at e1
            rw [← HX.out.2] at e0
            have c1 : ∀ d', (lay w [.inr d', .inr d3]).cell? ⟨g, k, none⟩ = some (.int .i64 X) := e1
            have c0 : ∀ d', (lay w [.inr d', .inr d3]).cell? ⟨g, k - 1, none⟩ = some (.int .i64 Y) := e0
            clear e1 e0
            go_wp2_with fail
            refine region_mixS 15 [(0, 2), (1, 2), (2, 2), (3, 2), (4, 2), (5, 2), (6, 2), (7, 2), (8, 2), (9, 0), (10, 2), (11, 2), (12, 2), (13, 0), (14, 2), (15, 3), (16, 2), (17, 3)] (by kernel_rfl) (by kernel_rfl) (by kernel_rfl) rfl ?_
            repeat (first | (refine wpMS_pure rfl (fun K hK => ?_); go_simp; refine hK _ ?_; clear hK K) | (refine wpMS_quiet rfl (fun K hK => ?_); go_simp; first | (refine hK _ ?_; clear hK K) | (apply Exists.intro; refine ⟨fun _ => ?_, hK _ ?_⟩; (first | fail); clear hK K)))
            have f1 : ∀ d', (lay w [.inr d', .inr d3]).frozen? ⟨g, k, none⟩ = false := fun d' => ((HO3.out.on (d := d')).own).froz k
            have wX : (Lit.int .i64 X).wf = true := by rw [HX.out.1]; exact HO3.out.own.2 k (by rw [HO3.out.len]; omega)
            have wY : (Lit.int .i64 Y).wf = true := by rw [HX.out.2]; exact HO3.out.own.2 (k - 1) (by rw [HO3.out.len]; omega)
            refine wpMS_store rfl (fun K hK e1 => ?_)
            go_simp
            refine hK _ _ ?_
            clear hK K f1 c1 c0
            obtain ⟨d4, e4, hO4⟩ := ow_store2 e1 k HO3.out.own hg wY
            rw [e4]
            repeat (first | (refine wpMS_pure rfl (fun K hK => ?_); go_simp; refine hK _ ?_; clear hK K) | (refine wpMS_quiet rfl (fun K hK => ?_); go_simp; first | (refine hK _ ?_; clear hK K) | (apply Exists.intro; refine ⟨fun _ => ?_, hK _ ?_⟩; (first | fail); clear hK K)))
            have f0 : ∀ d', (lay w [.inr d', .inr d4]).frozen? ⟨g, k - 1, none⟩ = false := fun d' => (ow_on (A := [.inr d']) hO4).froz (k - 1)
            have c0 : ∀ d', (lay w [.inr d', .inr d4]).cell? ⟨g, k - 1, none⟩ = some (.int .i64 Y) := fun d' => by
              have h := (ow_on (A := [.inr d']) hO4).cell (i := k - 1) (by rw [List.length_set, HO3.out.len]; omega)
              rw [nth_set1 (by rw [HO3.out.len]; omega), if_neg (by omega), ← HX.out.2] at h
              exact h
            have HO4 := Lib.hid hO4
            clear hO4
            refine wpMS_store rfl (fun K hK e1 => ?_)
            go_simp
            refine hK _ _ ?_
            clear hK K f0 c0
            obtain ⟨d5, e5, hO5⟩ := ow_store2 e1 (k - 1) HO4.out hg wX
            rw [e5]
            refine wpMS_nil (fun e6 => ?_)
            obtain ⟨d6, e7⟩ : ∃ x, lay w [.inr e6, .inr d5] = lay w [.inr x] := ⟨_, bw_bw _ _ _⟩
            have hO6 := ow_on (A := [.inr e6]) hO5
            change Ow (lay w [.inr e6, .inr d5]) _ _ _ at hO6
            change Exit.inBlock _ _ _ _ (lay w [.inr e6, .inr d5])
            rw [e7] at hO6 ⊢
            rw [HX.out.1, HX.out.2] at hO6
            have HO6 : Hid (SoI (lay w [.inr d6]) (lay w []).heap.size g m c l (swpI L k)) := Lib.hid ⟨hO6, by rw [swpI_len]; exact HO3.out.len, (swpI_perm (by rw [HO3.out.len]; omega)).trans HO3.out.perm⟩
            have HI6 : Hid (InsI (swpI L k) i (k - 1)) := Lib.hid (HO2.out.2.step (by omega) hk (by rw [HO3.out.len]; exact hlt) (by obtain ⟨rfl, rfl⟩ := HX.out; exact hxy))
            clear hO5 hO6 e7 e5 e4
            go_wp2_with fail
            go_roundw
            case rel => exact ⟨k - 1, swpI L k, d6, by omega, by first | rfl | exact congrArg (Value.int .i64) (by omega), rfl, HO6.out, HI6.out⟩
            case measure => simp [intOf]; omega
          · have y6 : decide (X < Y) = false := decide_eq_false hxy
            go_wp2_with fail
            refine region_bw (by kernel_rfl) (by kernel_rfl) ?_
            repeat (go_big_quiet_step ((first | fail)))
            refine wpQuiet_nil ?_
            rintro w' ⟨d, rfl⟩
            rw [lay_bw]
            obtain ⟨d3, e3⟩ : ∃ x, lay w [.inr d, .inr d2] = lay w [.inr x] := ⟨_, bw_bw _ _ _⟩
            have HO3 := Lib.hid (HO2.out.1.on (d := d))
            rw [e3] at HO3 ⊢
            clear e3 c1 c0
            go_wp2_with fail
            go_roundw
            case rel => exact ⟨i + 1, L, d3, by omega, by omega, by first | rfl | exact congrArg (Value.int .i64) (by omega), rfl, HO3.out, HO2.out.2.stop (.inr (by obtain ⟨rfl, rfl⟩ := HX.out; omega))⟩
            case measure => simp [intOf]; omega
    · obtain rfl : i = m := by omega
      have HR := Lib.hid (srtI_eq (hO.len ▸ hA).pair hO.perm)
      have HO := Lib.hid hO
      clear hO hA
      go_wp2_with fail
      go_ret
      exact ⟨_, dd, rfl, rfl, by rw [HR.out]; exact HO.out.own⟩
end Go.Proofs.YtmomoeagnkjbiaaGreat
