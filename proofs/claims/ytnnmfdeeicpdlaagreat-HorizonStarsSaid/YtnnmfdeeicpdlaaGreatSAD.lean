/- Contracts and plain laws, several texts in one: MixS; Nm0; Nm1; Plain; Div; Shelf -/
import Derived.Test.YtnnmfdeeicpdlaaGreatProg
import Derived.WalkKit
import Derived.WalkSpells
import Derived.WalkLawsBesides
import Derived.Lib.Hide
import Derived.BigQuiet
import Derived.Shelf.Spec.BitsCarry
import Derived.Shelf.Small.Bits
import Derived.Shelf.Small.Wraps
import Derived.Shelf.Strconv.Itoa0
import Derived.Shelf.Sort.Plain
import Derived.Shelf.Bits.Mul64
import Derived.Shelf.Slices.Turned
import Derived.Ground.Names2Prog
import Derived.Shelf.Slices.Clone
import Derived.Shelf.Slices.CompactS
import Derived.Shelf.Slices.SearchI
import Derived.Shelf.Slices.Cells
import Derived.Shelf.Slices.In.SortNone
import Derived.Shelf.Slices.Empties
import Derived.Test.YtnnmfdeeicpdlaaGreatSAA
import Derived.Test.YtnnmfdeeicpdlaaGreatSAC
/- Regions that draw their order and store into memory that was there: a schedule in an order of one's own. Operations: 0: quiet, all of them ahead of the store st; 2: pure (the same value in every world), at any time; 1: it alone may come now (ahead of the store); 3: it alone may come now (the store, or behind it). No program in sight. -/
namespace Go.Proofs.YtnnmfdeeicpdlaaGreat
open Go.RowKit

section
variable {P : Program} {md : Region.Mode} {κ : Type} {Cl : κ → World} {l : List Oper} {ops : Array Oper} {st : Nat}

def inS (Cl : κ → World) (st : Nat) (listed : Array Bool) (w : World) : Prop := listed.getD st false = true ∨ ∃ k, w = Cl k
theorem inS_set {listed : Array Bool} {w : World} (i : Nat) (h : inS Cl st listed w) : inS Cl st (listed.setIfInBounds i true) w := by
  rcases h with h | h
  · left
    by_cases e : i = st
    · subst e
      have hlt : i < listed.size := by
        rcases Nat.lt_or_ge i listed.size with h' | h'
        · exact h'
        · simp [Array.getElem?_eq_none h'] at h
      simp [hlt]
    · simp only [Array.getD_eq_getD_getElem?, Array.getElem?_setIfInBounds_ne e] at h ⊢; exact h
  · exact .inr h
theorem inS_other {listed : Array Bool} {w : World} {i : Nat} (j : Nat) (e : i ≠ st) (h : inS Cl st ((listed.setIfInBounds i true).setIfInBounds j true) w) : inS Cl st (listed.setIfInBounds j true) w := by
  rcases h with h | h
  · left
    by_cases hji : j = i
    · subst hji
      simp only [Array.getD_eq_getD_getElem?, Array.getElem?_setIfInBounds_ne e] at h ⊢; exact h
    · rw [Array.setIfInBounds_comm _ _ (fun h => hji h.symm)] at h
      simp only [Array.getD_eq_getD_getElem?] at h ⊢
      rw [Array.getElem?_setIfInBounds_ne e] at h; exact h
  · exact .inr h
theorem inS_bw (hCl : ∀ k d, ∃ k', bw (Cl k) d = Cl k') {listed : Array Bool} {w : World} (d : Ext) (h : inS Cl st listed w) : inS Cl st listed (bw w d) := by
  rcases h with h | ⟨k, rfl⟩
  · exact .inl h
  · exact .inr (hCl k d)

def wpD (P : Program) (md : Region.Mode) (ops : Array Oper) (Cl : κ → World) (st : Nat) (Q : Act → World → Prop) : Nat → Array Bool → Act → World → Prop
  | 0, listed, a, w => Region.ready md ops listed = [] ∧ ∀ d, Q a (bw w d)
  | f + 1, listed, a, w => Region.ready md ops listed ≠ [] ∧ ∀ i ∈ Region.ready md ops listed, ∀ d, oneOp P ops i (fun a' w' => inS Cl st (listed.setIfInBounds i true) w' ∧ wpD P md ops Cl st Q f (listed.setIfInBounds i true) a' w') a (bw w d)
theorem wpD_ext {Q : Act → World → Prop} : ∀ {f : Nat} {listed : Array Bool} {a : Act} {w : World} (d : Ext), wpD P md ops Cl st Q f listed a w → wpD P md ops Cl st Q f listed a (bw w d)
  | 0, _, _, w, d, h => ⟨h.1, fun e => by rw [bw_bw]; exact h.2 _⟩
  | _ + 1, _, _, w, d, h => ⟨h.1, fun i hi e => by rw [bw_bw]; exact h.2 i hi _⟩
theorem wpD_sound {Q' : Exit → Act → World → Prop} : ∀ (f : Nat) (listed : Array Bool) (a : Act) (w : World), wpD P md ops Cl st (fun a w => Q' .normal a w) f listed a w → wpAny P md ops Q' f listed a w
  | 0, listed, a, w, h => ⟨h.1, by have := h.2 (noExt w); rwa [bw_noExt] at this⟩
  | f + 1, listed, a, w, h => by
    refine ⟨fun h0 => absurd h0 h.1, fun i hi => ?_⟩
    have h1 := h.2 i hi (noExt w)
    rw [bw_noExt] at h1
    unfold oneOp at h1
    unfold wpOp
    split
    · rename_i ho; simp only [ho] at h1; exact wpD_sound f _ _ _ h1.2
    · rename_i o ho
      simp only [ho] at h1
      split
      · rename_i hw; rw [if_pos hw] at h1
        exact Or.inl (wp_of_sOp (sOp_mono (fun a w hk => wpD_sound f _ a w hk.2) h1))
      · rename_i hw; rw [if_neg hw] at h1; exact wpD_sound f _ _ _ h1.2

theorem wpD_first {i : Nat} {oi : Oper} {v : Value} {Q : Act → World → Prop} (hCl : ∀ k d, ∃ k', bw (Cl k) d = Cl k') (hi : ops[i]? = some oi) (hsel : ∀ (j : Nat) (o : Oper) cs b, ops[j]? = some o → o.op ≠ .select cs b) (hne : i ≠ st) :
    ∀ (f : Nat) (listed : Array Bool) (a : Act) (w : World), inS Cl st listed w →
      (∀ j oj, ops[j]? = some oj → j ≠ i → listed.getD j true = false → (∀ e ∈ oj.after, Region.binds md e = true → e.on ≠ i) → oi.apart ops oj = true) →
      i ∈ Region.ready md ops listed → (YieldsM P ops (fun W : World => W) oi v a ∨ (YieldsM P ops Cl oi v a ∧ listed.getD st false = false ∧ ∃ os, ops[st]? = some os ∧ ∃ e ∈ os.after, Region.binds md e = true ∧ e.on = i)) →
      wpD P md ops Cl st Q f (listed.setIfInBounds i true) (a.put oi.dst v) w → wpD P md ops Cl st Q (f + 1) listed a w := by
  have one : ∀ {listed : Array Bool} {a : Act} {w : World} {K : Act → World → Prop}, inS Cl st listed w →
      (YieldsM P ops (fun W : World => W) oi v a ∨ (YieldsM P ops Cl oi v a ∧ listed.getD st false = false ∧ ∃ os, ops[st]? = some os ∧ ∃ e ∈ os.after, Region.binds md e = true ∧ e.on = i)) →
      K (a.put oi.dst v) w → (∀ d, K (a.put oi.dst v) (bw w d)) → oneOp P ops i K a w := by
    intro listed a w K hw hy h0 h1
    rcases hy with hy | ⟨hy, hs, _⟩
    · exact hy.oneOp hi ⟨w, rfl⟩ h0 h1
    · exact hy.oneOp hi (hw.resolve_left (by rw [hs]; exact Bool.false_ne_true)) h0 h1
  intro f
  induction f with
  | zero =>
    intro listed a w hw _ hr hy H
    refine ⟨List.ne_nil_of_mem hr, fun j hj d => ?_⟩
    by_cases hji : j = i
    · subst hji
      exact one (inS_bw hCl d hw) hy ⟨inS_set _ (inS_bw hCl d hw), wpD_ext d H⟩ (fun e => ⟨inS_set _ (inS_bw hCl e (inS_bw hCl d hw)), wpD_ext e (wpD_ext d H)⟩)
    · have := ready_mono hj hji
      rw [H.1] at this; cases this
  | succ f ih =>
    intro listed a w hw hfree hr hy H
    have hun := (mem_ready.1 hr).1
    refine ⟨List.ne_nil_of_mem hr, fun j hj d => ?_⟩
    by_cases hji : j = i
    · subst hji
      exact one (inS_bw hCl d hw) hy ⟨inS_set _ (inS_bw hCl d hw), wpD_ext d H⟩ (fun e => ⟨inS_set _ (inS_bw hCl e (inS_bw hCl d hw)), wpD_ext e (wpD_ext d H)⟩)
    · have h1 := H.2 j (ready_mono hj hji) d
      obtain ⟨hjun, oj, hoj, hall⟩ := mem_ready.1 hj
      have hunF : listed.getD i false = false := by
        rcases Nat.lt_or_ge i listed.size with h' | h'
        · simp [h'] at hun ⊢; exact hun
        · simp [Array.getElem?_eq_none h'] at hun
      have hnot : ∀ e ∈ oj.after, Region.binds md e = true → e.on ≠ i := fun e he hb heq => by
        have h2 := hall e he hb
        rw [heq, hunF] at h2
        cases h2
      have hap := hfree j oj hoj hji hjun hnot
      have hfree' : ∀ k ok, ops[k]? = some ok → k ≠ i → (listed.setIfInBounds j true).getD k true = false →
          (∀ e ∈ ok.after, Region.binds md e = true → e.on ≠ i) → oi.apart ops ok = true := fun k ok hk hki hu hno => by
        refine hfree k ok hk hki ?_ hno
        by_cases hjk : j = k
        · subst hjk; exact hjun
        · rw [getD_set_ne true hjk] at hu; exact hu
      have fin : ∀ (a' : Act) (w' : World), (YieldsM P ops (fun W : World => W) oi v a' ∨ (YieldsM P ops Cl oi v a' ∧ (listed.setIfInBounds j true).getD st false = false ∧ ∃ os, ops[st]? = some os ∧ ∃ e ∈ os.after, Region.binds md e = true ∧ e.on = i)) →
          inS Cl st ((listed.setIfInBounds i true).setIfInBounds j true) w' → wpD P md ops Cl st Q f ((listed.setIfInBounds i true).setIfInBounds j true) (a'.put oi.dst v) w' →
          inS Cl st (listed.setIfInBounds j true) w' ∧ wpD P md ops Cl st Q (f + 1) (listed.setIfInBounds j true) a' w' := fun a' w' hy' hin hk => by
        have hin' := inS_other j hne hin
        refine ⟨hin', ih (listed.setIfInBounds j true) a' w' hin' hfree' (ready_mono hr (Ne.symm hji)) hy' ?_⟩
        rw [Array.setIfInBounds_comm _ _ hji]
        exact hk
      rcases hy with hy | ⟨hy, hs, hedge⟩
      · have h2 := oneOp_put hoj hap (fun cs b => hsel i oi cs b hi) (fun cs b => hsel j oj cs b hoj) hy h1
        exact oneOp_mono (fun a' w' h3 => fin a' w' (.inl h3.1) h3.2.1 h3.2.2) h2
      · have hjst : j ≠ st := by
          rintro rfl
          obtain ⟨os, hos, e, he, hb, heq⟩ := hedge
          rw [hoj] at hos
          cases hos
          exact hnot e he hb heq
        have hs' : (listed.setIfInBounds j true).getD st false = false := by
          simp only [Array.getD_eq_getD_getElem?, Array.getElem?_setIfInBounds_ne hjst] at hs ⊢; exact hs
        have h2 := oneOp_put hoj hap (fun cs b => hsel i oi cs b hi) (fun cs b => hsel j oj cs b hoj) hy h1
        exact oneOp_mono (fun a' w' h3 => fin a' w' (.inr ⟨h3.1, hs', hedge⟩) h3.2.1 h3.2.2) h2

def wpMS (P : Program) (l : List Oper) (ops : Array Oper) (Cl : κ → World) (Q : Act → World → Prop) : List (Nat × Nat) → Act → World → Prop
  | [], a, w => ∀ d, Q a (bw w d)
  | (i, 0) :: s, a, w => ∃ o, l[i]? = some o ∧ (if Region.wanted o (yielded ops a.tmps) then mOp P Cl o a (fun a' => wpMS P l ops Cl Q s a' w) else wpMS P l ops Cl Q s (a.put o.dst undef) w)
  | (i, 1) :: s, a, w => ∃ o, l[i]? = some o ∧ ∀ d, (if Region.wanted o (yielded ops a.tmps) then sOp P o a (fun a' w' => (∃ k, w' = Cl k) ∧ wpMS P l ops Cl Q s a' w') (bw w d) else (∃ k, bw w d = Cl k) ∧ wpMS P l ops Cl Q s (a.put o.dst undef) (bw w d))
  | (i, 2) :: s, a, w => ∃ o, l[i]? = some o ∧ (if Region.wanted o (yielded ops a.tmps) then mOp P (fun W : World => W) o a (fun a' => wpMS P l ops Cl Q s a' w) else wpMS P l ops Cl Q s (a.put o.dst undef) w)
  | (i, 3) :: s, a, w => ∃ o, l[i]? = some o ∧ ∀ d, (if Region.wanted o (yielded ops a.tmps) then sOp P o a (fun a' w' => wpMS P l ops Cl Q s a' w') (bw w d) else wpMS P l ops Cl Q s (a.put o.dst undef) (bw w d))
  | (_, _ + 4) :: _, _, _ => False
def edgeB (md : Region.Mode) (ops : Array Oper) (st i : Nat) : Bool := match ops[st]? with | none => false | some os => os.after.any fun e => Region.binds md e && decide (e.on = i)
theorem edge_of {i : Nat} (h : edgeB md ops st i = true) : ∃ os, ops[st]? = some os ∧ ∃ e ∈ os.after, Region.binds md e = true ∧ e.on = i := by
  unfold edgeB at h
  cases ho : ops[st]? with
  | none => rw [ho] at h; cases h
  | some os =>
    rw [ho] at h
    obtain ⟨e, he, h2⟩ := Array.any_eq_true'.1 h
    simp only [Bool.and_eq_true, decide_eq_true_eq] at h2
    exact ⟨os, rfl, e, he, h2.1, h2.2⟩
def lexMS (md : Region.Mode) (ops : Array Oper) (st : Nat) : List (Nat × Nat) → Array Bool → Bool
  | [], listed => (Region.ready md ops listed).isEmpty
  | (i, 0) :: s, listed => decide (i ≠ st) && (!listed.getD st false) && edgeB md ops st i && (Region.ready md ops listed).contains i && Region.free md ops listed i && lexMS md ops st s (listed.setIfInBounds i true)
  | (i, 1) :: s, listed => decide (Region.ready md ops listed = [i]) && lexMS md ops st s (listed.setIfInBounds i true)
  | (i, 2) :: s, listed => decide (i ≠ st) && (Region.ready md ops listed).contains i && Region.free md ops listed i && lexMS md ops st s (listed.setIfInBounds i true)
  | (i, 3) :: s, listed => (listed.setIfInBounds i true).getD st false && decide (Region.ready md ops listed = [i]) && lexMS md ops st s (listed.setIfInBounds i true)
  | (_, _ + 4) :: _, _ => false

theorem wpD_of_wpMS {Q : Act → World → Prop} (hCl : ∀ k d, ∃ k', bw (Cl k) d = Cl k') (hl : ∀ j : Nat, l[j]? = ops[j]?) (hsel : Region.noSelect ops = true) :
    ∀ (s : List (Nat × Nat)) (listed : Array Bool) (a : Act) (w : World), inS Cl st listed w → lexMS md ops st s listed = true → wpMS P l ops Cl Q s a w → wpD P md ops Cl st Q s.length listed a w
  | [], listed, a, w, hw, hB, h => by
    simp only [lexMS, List.isEmpty_iff] at hB
    exact ⟨hB, h⟩
  | (k, 0) :: s, listed, a, w, hw, hB, h => by
    simp only [lexMS, Bool.and_eq_true, decide_eq_true_eq, Bool.not_eq_true'] at hB
    obtain ⟨⟨⟨⟨⟨hks, hst⟩, hed⟩, hr⟩, hf⟩, hB'⟩ := hB
    obtain ⟨o, ho, h⟩ := h
    have h0 : ops[k]? = some o := (hl k).symm.trans ho
    have hr' : k ∈ Region.ready md ops listed := by simpa using hr
    have hy : ∃ v, YieldsM P ops Cl o v a ∧ wpMS P l ops Cl Q s (a.put o.dst v) w := by
      by_cases hw1 : Region.wanted o (yielded ops a.tmps) = true
      · rw [if_pos hw1] at h
        obtain ⟨v, h1, h2⟩ := h
        exact ⟨v, .inl ⟨hw1, h1⟩, h2⟩
      · rw [if_neg hw1] at h
        exact ⟨undef, .inr ⟨by simpa using hw1, rfl⟩, h⟩
    obtain ⟨v, hy, hK⟩ := hy
    exact wpD_first hCl h0 (Region.noSelect_spec hsel) hks s.length listed a w hw (Region.free_spec h0 hf) hr' (.inr ⟨hy, hst, edge_of hed⟩) (wpD_of_wpMS hCl hl hsel s _ _ w (inS_set _ hw) hB' hK)
  | (k, 2) :: s, listed, a, w, hw, hB, h => by
    simp only [lexMS, Bool.and_eq_true, decide_eq_true_eq] at hB
    obtain ⟨⟨⟨hks, hr⟩, hf⟩, hB'⟩ := hB
    obtain ⟨o, ho, h⟩ := h
    have h0 : ops[k]? = some o := (hl k).symm.trans ho
    have hr' : k ∈ Region.ready md ops listed := by simpa using hr
    have hy : ∃ v, YieldsM P ops (fun W : World => W) o v a ∧ wpMS P l ops Cl Q s (a.put o.dst v) w := by
      by_cases hw1 : Region.wanted o (yielded ops a.tmps) = true
      · rw [if_pos hw1] at h
        obtain ⟨v, h1, h2⟩ := h
        exact ⟨v, .inl ⟨hw1, h1⟩, h2⟩
      · rw [if_neg hw1] at h
        exact ⟨undef, .inr ⟨by simpa using hw1, rfl⟩, h⟩
    obtain ⟨v, hy, hK⟩ := hy
    exact wpD_first hCl h0 (Region.noSelect_spec hsel) hks s.length listed a w hw (Region.free_spec h0 hf) hr' (.inl hy) (wpD_of_wpMS hCl hl hsel s _ _ w (inS_set _ hw) hB' hK)
  | (k, 1) :: s, listed, a, w, hw, hB, h => by
    simp only [lexMS, Bool.and_eq_true, decide_eq_true_eq] at hB
    obtain ⟨hr, hB'⟩ := hB
    obtain ⟨o, ho, h⟩ := h
    have h0 : ops[k]? = some o := (hl k).symm.trans ho
    refine ⟨by rw [hr]; simp, fun i hi d => ?_⟩
    rw [hr] at hi
    obtain rfl : i = k := by simpa using hi
    have hd := h d
    rw [oneOp_some h0]
    split
    · rename_i hw1; rw [if_pos hw1] at hd
      exact sOp_mono (fun a' w' hk => ⟨.inr hk.1, wpD_of_wpMS hCl hl hsel s _ _ w' (.inr hk.1) hB' hk.2⟩) hd
    · rename_i hw1; rw [if_neg hw1] at hd
      exact ⟨.inr hd.1, wpD_of_wpMS hCl hl hsel s _ _ _ (.inr hd.1) hB' hd.2⟩
  | (k, 3) :: s, listed, a, w, hw, hB, h => by
    simp only [lexMS, Bool.and_eq_true, decide_eq_true_eq] at hB
    obtain ⟨⟨hst, hr⟩, hB'⟩ := hB
    obtain ⟨o, ho, h⟩ := h
    have h0 : ops[k]? = some o := (hl k).symm.trans ho
    refine ⟨by rw [hr]; simp, fun i hi d => ?_⟩
    rw [hr] at hi
    obtain rfl : i = k := by simpa using hi
    have hd := h d
    rw [oneOp_some h0]
    split
    · rename_i hw1; rw [if_pos hw1] at hd
      exact sOp_mono (fun a' w' hk => ⟨.inl hst, wpD_of_wpMS hCl hl hsel s _ _ w' (.inl hst) hB' hk⟩) hd
    · rename_i hw1; rw [if_neg hw1] at hd
      exact ⟨.inl hst, wpD_of_wpMS hCl hl hsel s _ _ _ (.inl hst) hB' hd⟩
  | (_, _ + 4) :: _, _, _, _, _, hB, _ => by simp [lexMS] at hB

theorem region_mixS {id : Nat} {Q : Exit → Act → World → Prop} {a : Act} {w : World} {l : List Oper} (st : Nat) (s : List (Nat × Nat)) (hm : P.follows .mixedOrders = true) (hsel : Region.noSelect l.toArray = true)
    (hB : lexMS .any l.toArray st s (Array.replicate l.toArray.size false) = true) (hn : s.length = l.toArray.size)
    (h : wpMS P l l.toArray (fun d => bw w d) (fun a w => Q .normal a w) s a w) : (Code.region id l.toArray true).wp P Q a w := by
  refine wp_region_any hm ?_
  have := wpD_of_wpMS (md := .any) (st := st) (fun k d => ⟨_, bw_bw w k d⟩) (fun j => by simp) hsel s _ a w (.inr ⟨noExt w, (bw_noExt w).symm⟩) hB h
  have := wpD_ext (⟨#[], w.drawn + 1⟩ : Ext) this
  rw [← bw_drewExt] at this
  have := wpD_sound (Q' := Q) _ _ _ _ this
  rwa [hn] at this
theorem wpMS_quiet {Q : Act → World → Prop} {a : Act} {w : World} {i : Nat} {o : Oper} {s : List (Nat × Nat)} (ho : l[i]? = some o)
    (h : ∀ K : Act → Prop, (∀ a, wpMS P l ops Cl Q s a w → K a) → if Region.wanted o (yielded ops a.tmps) then mOp P Cl o a K else K (a.put o.dst undef)) : wpMS P l ops Cl Q ((i, 0) :: s) a w :=
  ⟨o, ho, h _ (fun _ h => h)⟩
theorem wpMS_pure {Q : Act → World → Prop} {a : Act} {w : World} {i : Nat} {o : Oper} {s : List (Nat × Nat)} (ho : l[i]? = some o)
    (h : ∀ K : Act → Prop, (∀ a, wpMS P l ops Cl Q s a w → K a) → if Region.wanted o (yielded ops a.tmps) then mOp P (fun W : World => W) o a K else K (a.put o.dst undef)) : wpMS P l ops Cl Q ((i, 2) :: s) a w :=
  ⟨o, ho, h _ (fun _ h => h)⟩
theorem wpMS_special {Q : Act → World → Prop} {a : Act} {w : World} {i : Nat} {o : Oper} {s : List (Nat × Nat)} (ho : l[i]? = some o)
    (h : ∀ (K : Act → World → Prop), (∀ a' w', (∃ k, w' = Cl k) → wpMS P l ops Cl Q s a' w' → K a' w') → ∀ d, if Region.wanted o (yielded ops a.tmps) then sOp P o a K (bw w d) else K (a.put o.dst undef) (bw w d)) : wpMS P l ops Cl Q ((i, 1) :: s) a w :=
  ⟨o, ho, fun d => by
    have := h (fun a' w' => (∃ k, w' = Cl k) ∧ wpMS P l ops Cl Q s a' w') (fun _ _ h1 h2 => ⟨h1, h2⟩) d
    split
    · rename_i hw; rw [if_pos hw] at this; exact this
    · rename_i hw; rw [if_neg hw] at this; exact this⟩
theorem wpMS_store {Q : Act → World → Prop} {a : Act} {w : World} {i : Nat} {o : Oper} {s : List (Nat × Nat)} (ho : l[i]? = some o)
    (h : ∀ (K : Act → World → Prop), (∀ a' w', wpMS P l ops Cl Q s a' w' → K a' w') → ∀ d, if Region.wanted o (yielded ops a.tmps) then sOp P o a K (bw w d) else K (a.put o.dst undef) (bw w d)) : wpMS P l ops Cl Q ((i, 3) :: s) a w :=
  ⟨o, ho, fun d => by
    have := h (fun a' w' => wpMS P l ops Cl Q s a' w') (fun _ _ h2 => h2) d
    split
    · rename_i hw; rw [if_pos hw] at this; exact this
    · rename_i hw; rw [if_neg hw] at this; exact this⟩
theorem wpMS_nil {Q : Act → World → Prop} {a : Act} {w : World} (h : ∀ d, Q a (bw w d)) : wpMS P l ops Cl Q [] a w := h
end
end Go.Proofs.YtnnmfdeeicpdlaaGreat
/- Numbers of four words: values and plain laws; the carries. -/
namespace Go.Proofs.YtnnmfdeeicpdlaaGreat
open Go.RowKit

def nt (l : List Nat) (i : Nat) : Nat := l.getD i 0
def valB (B : Nat) : List Nat → Nat
  | [] => 0
  | x :: l => x * B ^ l.length + valB B l
theorem nt_lt {l : List Nat} {i : Nat} (h : i < l.length) : l[i]? = some (nt l i) := by
  unfold nt
  simp [List.getD, h]
theorem nt_set {l : List Nat} {i j x : Nat} (h : i < l.length) : nt (l.set i x) j = if j = i then x else nt l j := by
  unfold nt
  by_cases hj : j = i
  · subst hj; simp [List.getD, h]
  · rw [if_neg hj]
    simp [List.getD, Ne.symm hj]
theorem valB_drop {B : Nat} : ∀ {l : List Nat} {i : Nat}, i < l.length → valB B (l.drop i) = nt l i * B ^ (l.length - i - 1) + valB B (l.drop (i + 1))
  | [], i, h => absurd h (Nat.not_lt_zero _)
  | x :: l, 0, _ => by
    simp only [List.drop_zero, List.drop_succ_cons, valB, nt, List.getD_cons_zero, List.length_cons]
    congr 2
  | x :: l, i + 1, h => by
    have := valB_drop (B := B) (l := l) (i := i) (by simpa using h)
    simp only [List.drop_succ_cons, List.length_cons, nt, List.getD_cons_succ] at this ⊢
    rw [this]
    congr 3
    omega
theorem valB_lt {B : Nat} (hB : 0 < B) : ∀ {l : List Nat}, (∀ x ∈ l, x < B) → valB B l < B ^ l.length
  | [], _ => by simp [valB]
  | x :: l, h => by
    have ih := valB_lt hB (l := l) (fun y hy => h y (List.mem_cons_of_mem _ hy))
    have hx := h x (List.mem_cons_self ..)
    have h2 : (x + 1) * B ^ l.length ≤ B * B ^ l.length := Nat.mul_le_mul_right _ hx
    rw [Nat.succ_mul] at h2
    simp only [valB, List.length_cons, Nat.pow_succ, Nat.mul_comm (B ^ l.length)]
    omega
theorem drop_set {l : List Nat} {i x : Nat} : (l.set i x).drop (i + 1) = l.drop (i + 1) := by
  rw [List.drop_set_of_lt (by omega)]
structure Wd (n : Nat) (l : List Nat) : Prop where
  len : l.length = n
  lt : ∀ i, nt l i < 18446744073709551616
theorem Wd.mem {n : Nat} {l : List Nat} (h : Wd n l) : ∀ x ∈ l, x < 18446744073709551616 := fun x hx => by
  obtain ⟨i, hi, rfl⟩ := List.getElem_of_mem hx
  have := h.lt i
  unfold nt at this
  simpa [List.getD, hi] using this
theorem Wd.set {n : Nat} {l : List Nat} (h : Wd n l) {i x : Nat} (hi : i < n) (hx : x < 18446744073709551616) : Wd n (l.set i x) := by
  refine ⟨by rw [List.length_set]; exact h.len, fun j => ?_⟩
  rw [nt_set (by rw [h.len]; exact hi)]
  split
  · exact hx
  · exact h.lt j
def nuA (l : List Nat) : Array Value := (l.map fun (x : Nat) => Value.int .u64 (x : Int)).toArray
theorem nuA_get {l : List Nat} {i : Nat} (h : i < l.length) : (nuA l)[i]? = some (.int .u64 (nt l i : Int)) := by
  unfold nuA
  simp [nt_lt h]
theorem nuA_set {l : List Nat} {i x : Nat} : (nuA l).setIfInBounds i (.int .u64 (x : Int)) = nuA (l.set i x) := by
  unfold nuA
  simp [List.map_set]
def nuV (l : List Nat) : Value := .agg #[.int .u64 (nt l 0 : Int), .int .u64 (nt l 1 : Int), .int .u64 (nt l 2 : Int), .int .u64 (nt l 3 : Int)]
theorem nuA_four {l : List Nat} (h : l.length = 4) : nuA l = #[.int .u64 (nt l 0 : Int), .int .u64 (nt l 1 : Int), .int .u64 (nt l 2 : Int), .int .u64 (nt l 3 : Int)] := by
  match l, h with
  | [a, b, c, d], _ => rfl
def val4 (l : List Nat) : Nat := valB 18446744073709551616 l
theorem val4_lt {l : List Nat} (h : Wd 4 l) : val4 l < 18446744073709551616 ^ 4 := by
  have := valB_lt (B := 18446744073709551616) (by decide) h.mem
  rw [h.len] at this
  exact this

theorem add64 (x y c : Nat) (hc : c ≤ 1) (w : World) : (callFunc 291 #[.int .u64 (x : Int), .int .u64 (y : Int), .int .u64 (c : Int)]).run Tryz.prog w =
    .ok (.value (.tuple #[.int .u64 (((x + y + c) % 18446744073709551616 : Nat) : Int), .int .u64 (((x + y + c) / 18446744073709551616 : Nat) : Int)])) w := by
  rw [run_callFunc_extern Tryz.func291 (by kernel_rfl) (by kernel_rfl) (by kernel_rfl) (e := add64Entry) (by kernel_rfl), run_add64 x y c (by omega) (by omega) (by omega) (by omega)]
  simp only [Result.andThen]
  congr 5 <;> omega
theorem sub64 (x y b : Nat) (hb : b ≤ 1) (w : World) : (callFunc 322 #[.int .u64 (x : Int), .int .u64 (y : Int), .int .u64 (b : Int)]).run Tryz.prog w =
    .ok (.value (.tuple #[.int .u64 (((x + 18446744073709551616 - y - b) % 18446744073709551616 : Nat) : Int), .int .u64 ((if x < y + b then 1 else 0 : Nat) : Int)])) w := by
  rw [run_callFunc_extern Tryz.func322 (by kernel_rfl) (by kernel_rfl) (by kernel_rfl) (e := sub64Entry) (by kernel_rfl), run_sub64 x y b hb]
  rfl
theorem sub_word {B x y b : Nat} (hx : x < B) (hy : y < B) (hb : b ≤ 1) : ∃ r c : Nat, r < B ∧ c ≤ 1 ∧ (x + B - y - b) % B = r ∧ (if x < y + b then 1 else 0) = c ∧ r + y + b = x + c * B := by
  by_cases h : x < y + b
  · refine ⟨x + B - y - b, 1, by omega, by omega, Nat.mod_eq_of_lt (by omega), if_pos h, by omega⟩
  · refine ⟨x - y - b, 0, by omega, by omega, ?_, if_neg h, by omega⟩
    rw [show x + B - y - b = x - y - b + B by omega, Nat.add_mod_right, Nat.mod_eq_of_lt (by omega)]
theorem add_word {B x y c : Nat} (hx : x < B) (hy : y < B) (hc : c ≤ 1) : ∃ r k : Nat, r < B ∧ k ≤ 1 ∧ (x + y + c) % B = r ∧ (x + y + c) / B = k ∧ r + k * B = x + y + c := by
  have h1 := Nat.div_add_mod (x + y + c) B
  have h2 := Nat.mod_lt (x + y + c) (show 0 < B by omega)
  refine ⟨_, _, h2, ?_, rfl, rfl, by rw [Nat.mul_comm]; omega⟩
  have : (x + y + c) / B < 2 := Nat.div_lt_of_lt_mul (by omega)
  omega
end Go.Proofs.YtnnmfdeeicpdlaaGreat
/- Differences of numbers of four words. -/
namespace Go.Proofs.YtnnmfdeeicpdlaaGreat
open Go.RowKit

def LowS (B : Nat) (a b r : List Nat) (k c : Nat) : Prop := valB B (r.drop k) + valB B (b.drop k) = valB B (a.drop k) + c * B ^ (4 - k)
theorem lowS_step {B : Nat} {a b r : List Nat} {i c d c' : Nat} (ha : a.length = 4) (hb : b.length = 4) (hr : r.length = 4) (hi : i < 4) (h : LowS B a b r (i + 1) c) (e : d + nt b i + c = nt a i + c' * B) : LowS B a b (r.set i d) i c' := by
  unfold LowS at *
  rw [valB_drop (l := r.set i d) (by rw [List.length_set, hr]; exact hi), valB_drop (l := b) (by rw [hb]; exact hi), valB_drop (l := a) (by rw [ha]; exact hi), drop_set, nt_set (by rw [hr]; exact hi), if_pos rfl, List.length_set, ha, hb, hr]
  have hp : B ^ (4 - i) = B ^ (4 - i - 1) * B := by rw [← Nat.pow_succ]; congr 1; omega
  rw [hp]
  rw [show 4 - (i + 1) = 4 - i - 1 by omega] at h
  generalize B ^ (4 - i - 1) = P at *
  have e2 : (d + nt b i + c) * P = (nt a i + c' * B) * P := by rw [e]
  grind
structure SubI (a b r : List Nat) (k c : Nat) : Prop where
  wd : Wd 4 r
  old : ∀ j, j < k → nt r j = nt a j
  c1 : c ≤ 1
  low : LowS 18446744073709551616 a b r k c
theorem SubI.start {a b : List Nat} (ha : Wd 4 a) (hb : Wd 4 b) : SubI a b a 4 0 := ⟨ha, fun _ _ => rfl, by omega, by
  unfold LowS
  rw [List.drop_eq_nil_of_le (by rw [ha.len]; exact Nat.le_refl 4), List.drop_eq_nil_of_le (by rw [hb.len]; exact Nat.le_refl 4)]
  simp [valB]⟩
theorem SubI.step {a b r : List Nat} {i c d c' : Nat} (h : SubI a b r (i + 1) c) (ha : Wd 4 a) (hb : Wd 4 b) (hi : i < 4) (hd : d < 18446744073709551616) (hc : c' ≤ 1) (e : d + nt b i + c = nt r i + c' * 18446744073709551616) : SubI a b (r.set i d) i c' :=
  ⟨h.wd.set hi hd, fun j hj => by rw [nt_set (by rw [h.wd.len]; exact hi), if_neg (by omega)]; exact h.old j (by omega), hc, lowS_step ha.len hb.len h.wd.len hi h.low (by rw [← h.old i (by omega)]; exact e)⟩
theorem SubI.done {a b r : List Nat} {c : Nat} (h : SubI a b r 0 c) : c ≤ 1 ∧ val4 r + val4 b = val4 a + c * 18446744073709551616 ^ 4 := ⟨h.c1, by have := h.low; unfold LowS at this; simpa [val4] using this⟩

set_option maxHeartbeats 1000000 in
set_option maxRecDepth 100000 in
theorem nm_sub (a b : List Nat) (ha : Wd 4 a) (hb : Wd 4 b) (w : World) :
    Calls Tryz.prog 280 #[nuV a, nuV b] w fun e w' => ∃ r d, e = .returned (nuV r) ∧ w' = bw w d ∧ Wd 4 r ∧ ∃ c, c ≤ 1 ∧ val4 r + val4 b = val4 a + c * 18446744073709551616 ^ 4 := by
  refine lay_start ?_
  unfold nuV
  go_enter Tryz.func280, Tryz.ntmps280
  go_wp2_with fail
  rw [← nuA_four ha.len, ← nuA_four hb.len]
  go_loopw [5, 6] (fun v5 v6 wr => ∃ (k c : Nat) (r : List Nat) (d : Ext), k ≤ 4 ∧ v5 = .int .u64 (c : Int) ∧ v6 = .int .i64 ((k : Int) - 1) ∧ wr = lay w [.inr d, .inl (.cells #[.int .u64 0, .int .u64 0, .int .u64 0, .int .u64 0] 265 (0, 0)), .inl (.cells (nuA b) 265 (0, 0)), .inl (.cells (nuA r) 265 (0, 0))] ∧ SubI a b r k c) (fun _ v6 _ => (intOf v6 + 1).toNat)
  case atStart => exact ⟨4, 0, a, noExt _, Nat.le_refl _, rfl, rfl, (bw_noExt _).symm, SubI.start ha hb⟩
  case round =>
    obtain ⟨k, c, r, d, hk, rfl, rfl, rfl, hS⟩ := hrel
    have HS := Lib.hid hS
    rcases k with _ | i
    · rw [show ((0 : Nat) : Int) - 1 = -1 from rfl]
      have g0 := nuA_get (l := r) (i := 0) (by rw [hS.wd.len]; decide)
      have g1 := nuA_get (l := r) (i := 1) (by rw [hS.wd.len]; decide)
      have g2 := nuA_get (l := r) (i := 2) (by rw [hS.wd.len]; decide)
      have g3 := nuA_get (l := r) (i := 3) (by rw [hS.wd.len]; decide)
      clear hS
      go_wp2_with fail
      obtain ⟨dz, ez⟩ := lay_all w [.inr d, .inl (.cells #[.int .u64 (nt r 0 : Int), .int .u64 (nt r 1 : Int), .int .u64 (nt r 2 : Int), .int .u64 (nt r 3 : Int)] 265 (0, 0)), .inl (.cells (nuA b) 265 (0, 0)), .inl (.cells (nuA r) 265 (0, 0))]
      exact bodyPost_ret (v := .agg #[.int .u64 (nt r 0 : Int), .int .u64 (nt r 1 : Int), .int .u64 (nt r 2 : Int), .int .u64 (nt r 3 : Int)]) (by simp [results, Tryz.results280, go_sem]) rfl ⟨r, dz, rfl, ez, HS.out.wd, c, HS.out.done⟩
    · rw [show ((i + 1 : Nat) : Int) - 1 = (i : Int) by omega]
      have hi : i < 4 := by omega
      have x0 : (0 : Int) ≤ (i : Int) := by omega
      have x1 : (i : Int) < 4 := by omega
      have x2 : (i : Int).toNat = i := by omega
      obtain ⟨X, hX⟩ : ∃ X, nt r i = X := ⟨_, rfl⟩
      obtain ⟨Y, hY⟩ : ∃ Y, nt b i = Y := ⟨_, rfl⟩
      have g0 := nuA_get (l := r) (i := i) (by rw [hS.wd.len]; exact hi)
      have g1 := nuA_get (l := b) (i := i) (by rw [hb.len]; exact hi)
      rw [hX] at g0
      rw [hY] at g1
      obtain ⟨D, c', hD, hc', e1, e2, e3⟩ := sub_word (x := X) (y := Y) (b := c) (B := 18446744073709551616) (by rw [← hX]; exact hS.wd.lt i) (by rw [← hY]; exact hb.lt i) hS.c1
      have hcall := fun W => sub64 X Y c hS.c1 W
      rw [e1, e2] at hcall
      have HN := Lib.hid (hS.step ha hb hi hD hc' (by rw [hX, hY]; exact e3))
      clear hS e1 e2 e3
      have hz : c ≤ 1 := HS.out.c1
      go_wp2_with fail
      refine region_mixS 13 [(0, 2), (1, 2), (2, 2), (3, 0), (4, 2), (5, 2), (6, 0), (7, 2), (8, 2), (9, 2), (10, 2), (11, 2), (12, 2), (13, 3), (14, 2)] (by kernel_rfl) (by kernel_rfl) (by kernel_rfl) rfl ?_
      repeat (first | (refine wpMS_pure rfl (fun K hK => ?_); go_simp; refine hK _ ?_; clear hK K) | (refine wpMS_quiet rfl (fun K hK => ?_); go_simp; first | (refine hK _ ?_; clear hK K) | (apply Exists.intro; refine ⟨fun _ => ?_, hK _ ?_⟩; (first | fail); clear hK K)))
      refine wpMS_store rfl (fun K hK e1 => ?_)
      rw [lay_bw]
      go_simp
      refine hK _ _ ?_
      clear hK K
      rw [nuA_set]
      repeat (first | (refine wpMS_pure rfl (fun K hK => ?_); go_simp; refine hK _ ?_; clear hK K) | (refine wpMS_quiet rfl (fun K hK => ?_); go_simp; first | (refine hK _ ?_; clear hK K) | (apply Exists.intro; refine ⟨fun _ => ?_, hK _ ?_⟩; (first | fail); clear hK K)))
      refine wpMS_nil (fun e2 => ?_)
      rw [lay_bw]
      obtain ⟨d3, e3⟩ := lay_fold w [.inr e2, .inr e1, .inr d] [.inl (.cells #[.int .u64 0, .int .u64 0, .int .u64 0, .int .u64 0] 265 (0, 0)), .inl (.cells (nuA b) 265 (0, 0)), .inl (.cells (nuA (r.set i D)) 265 (0, 0))]
      change lay w [.inr e2, .inr e1, .inr d, .inl (.cells #[.int .u64 0, .int .u64 0, .int .u64 0, .int .u64 0] 265 (0, 0)), .inl (.cells (nuA b) 265 (0, 0)), .inl (.cells (nuA (r.set i D)) 265 (0, 0))] = _ at e3
      rw [e3]
      clear e3
      go_wp2_with fail
      go_roundw
      case rel => exact ⟨i, c', r.set i D, d3, by omega, rfl, rfl, rfl, HN.out⟩
      case measure => simp [intOf]
end Go.Proofs.YtnnmfdeeicpdlaaGreat
/- Plain facts on integers: quotients rounded down and up, as Go reckons them. No program in sight. -/
namespace Go.Proofs.YtnnmfdeeicpdlaaGreat
theorem floor_neg {a b : Int} (hb : 1 ≤ b) (h : a.tmod b < 0) : a.tdiv b - 1 = a / b := by
  have h1 := Int.tmod_add_mul_tdiv a b
  have h2 : -b < a.tmod b := by have := Int.lt_tmod_of_pos a (by omega : 0 < b); omega
  symm
  rw [Int.ediv_eq_iff_of_pos (by omega), Int.sub_mul, Int.mul_comm (a.tdiv b) b]
  omega
theorem floor_pos {a b : Int} (hb : 1 ≤ b) (h : 0 ≤ a.tmod b) : a.tdiv b = a / b := by
  have h1 := Int.tmod_add_mul_tdiv a b
  have h2 : a.tmod b < b := Int.tmod_lt_of_pos a (by omega)
  symm
  rw [Int.ediv_eq_iff_of_pos (by omega), Int.mul_comm (a.tdiv b) b]
  omega
def cdiv (a b : Int) : Int := -((-a) / b)
theorem cdiv_pos {a b : Int} (hb : 1 ≤ b) (h : 0 < a.tmod b) : a.tdiv b + 1 = cdiv a b := by
  unfold cdiv
  have := floor_neg (a := -a) hb (by rw [Int.neg_tmod]; omega)
  rw [Int.neg_tdiv] at this; omega
theorem cdiv_neg {a b : Int} (hb : 1 ≤ b) (h : a.tmod b ≤ 0) : a.tdiv b = cdiv a b := by
  unfold cdiv
  have := floor_pos (a := -a) hb (by rw [Int.neg_tmod]; omega)
  rw [Int.neg_tdiv] at this; omega
theorem ediv_bd {a b : Int} (hb : 1 ≤ b) (L : Int) (h0 : 0 ≤ L) (h1 : -L ≤ a) (h2 : a ≤ L) : -L ≤ a / b ∧ a / b ≤ L := by
  constructor
  · rw [Int.le_ediv_iff_mul_le (by omega)]
    have : L * 1 ≤ L * b := Int.mul_le_mul_of_nonneg_left hb h0
    rw [Int.neg_mul]; omega
  · rcases Int.lt_or_le a 0 with h | h
    · have := Int.ediv_neg_of_neg_of_pos h (show 0 < b by omega); omega
    · have := Int.ediv_le_self b h; omega
theorem cdiv_bd {a b : Int} (hb : 1 ≤ b) (L : Int) (h0 : 0 ≤ L) (h1 : -L ≤ a) (h2 : a ≤ L) : -L ≤ cdiv a b ∧ cdiv a b ≤ L := by
  unfold cdiv
  have := ediv_bd (a := -a) hb L h0 (by omega) (by omega)
  omega
theorem tmod_wrap (n : Int) (c : Int) (hc : 1 ≤ c) : (n.tmod c < 0 → n.tmod c + c = n % c) ∧ (0 ≤ n.tmod c → n.tmod c = n % c) := by
  have h1 := Int.tmod_add_mul_tdiv n c
  have h2 := Int.emod_add_mul_ediv n c
  constructor
  · intro h
    have := floor_neg hc h
    rw [← this, Int.mul_sub] at h2; omega
  · intro h
    have := floor_pos hc h
    rw [← this] at h2; omega
theorem tmod_bd (n c : Int) (hc : 1 ≤ c) : -c < n.tmod c ∧ n.tmod c < c := by
  have := Int.lt_tmod_of_pos n (show 0 < c by omega)
  have := Int.tmod_lt_of_pos n (show 0 < c by omega)
  omega
end Go.Proofs.YtnnmfdeeicpdlaaGreat
/- The quotient of two words by one, as math/bits reckons it: the plain law (Knuth's digits, of any base B). No program in sight. -/
namespace Go.Proofs.YtnnmfdeeicpdlaaGreat

structure DI (B U y1 y0 c q r : Nat) : Prop where
  eq : q * y1 + r = U
  up : U * B + c < (q + 1) * (y1 * B + y0)
  qb : q ≤ B + 1
theorem di_init {B U y1 y0 c : Nat} (h1 : B ≤ 2 * y1) (h0 : y0 < B) (hU : U < y1 * B + y0) (hc : c < B) : DI B U y1 y0 c (U / y1) (U % y1) ∧ U % y1 < y1 := by
  have hlt : U % y1 < y1 := Nat.mod_lt _ (by omega)
  have he : U / y1 * y1 + U % y1 = U := by rw [Nat.mul_comm]; exact Nat.div_add_mod U y1
  refine ⟨⟨he, ?_, ?_⟩, hlt⟩
  · have h2 : U + 1 ≤ (U / y1 + 1) * y1 := by rw [Nat.succ_mul]; omega
    have h3 : (U + 1) * B ≤ (U / y1 + 1) * y1 * B := Nat.mul_le_mul_right _ h2
    have h4 : (U / y1 + 1) * (y1 * B + y0) = (U / y1 + 1) * y1 * B + (U / y1 + 1) * y0 := by rw [Nat.mul_add, Nat.mul_assoc]
    rw [h4]
    rw [Nat.succ_mul] at h3
    generalize (U / y1 + 1) * y1 * B = A at *
    generalize (U / y1 + 1) * y0 = C at *
    generalize U * B = D at *
    omega
  · have e : y1 * (B + 2) = y1 * B + y1 * 2 := Nat.mul_add _ _ _
    have h2 : U < y1 * (B + 2) := by
      rw [e]
      generalize y1 * B = A at *
      omega
    have := Nat.div_lt_of_lt_mul h2
    omega
theorem di_step {B U y1 y0 c q r : Nat} (h : DI B U y1 y0 c q r) (hU : U < y1 * B + y0) (hc : c < B) (hcond : B ≤ q ∨ r * B + c < q * y0) : 0 < q ∧ DI B U y1 y0 c (q - 1) (r + y1) ∧ q - 1 ≤ B := by
  have hq : 0 < q := by
    rcases hcond with h1 | h1
    · omega
    · rcases Nat.eq_zero_or_pos q with e | e
      · rw [e, Nat.zero_mul] at h1; omega
      · exact e
  obtain ⟨p, rfl⟩ : ∃ p, q = p + 1 := ⟨q - 1, by omega⟩
  have he := h.eq
  rw [Nat.succ_mul] at he
  refine ⟨hq, ⟨by rw [Nat.add_sub_cancel]; omega, ?_, by have := h.qb; omega⟩, by have := h.qb; omega⟩
  rw [Nat.add_sub_cancel]
  rcases hcond with h1 | h1
  · have h2 : (U + 1) * B ≤ (y1 * B + y0) * B := Nat.mul_le_mul_right _ hU
    have h3 : B * (y1 * B + y0) ≤ (p + 1) * (y1 * B + y0) := Nat.mul_le_mul_right _ h1
    rw [Nat.succ_mul] at h2
    rw [Nat.mul_comm B] at h3
    generalize (p + 1) * (y1 * B + y0) = A at *
    generalize (y1 * B + y0) * B = C at *
    generalize U * B = D at *
    omega
  · have h4 : (p + 1) * (y1 * B + y0) = (p + 1) * y1 * B + (p + 1) * y0 := by rw [Nat.mul_add, Nat.mul_assoc]
    have h5 : U * B = (p + 1) * y1 * B + r * B := by rw [← Nat.add_mul, h.eq]
    rw [h4, h5]
    generalize (p + 1) * y1 * B = A at *
    generalize (p + 1) * y0 = C at *
    generalize r * B = D at *
    omega
theorem di_done {B U y1 y0 c q r : Nat} (h : DI B U y1 y0 c q r) (hle : q * y0 ≤ r * B + c) : (U * B + c) / (y1 * B + y0) = q ∧ q * (y1 * B + y0) ≤ U * B + c := by
  have h4 : q * (y1 * B + y0) = q * y1 * B + q * y0 := by rw [Nat.mul_add, Nat.mul_assoc]
  have h5 : U * B = q * y1 * B + r * B := by rw [← Nat.add_mul, h.eq]
  have hup := h.up
  have hle2 : q * (y1 * B + y0) ≤ U * B + c := by
    rw [h4, h5]
    generalize q * y1 * B = A at *
    generalize q * y0 = C at *
    generalize r * B = D at *
    omega
  exact ⟨Nat.div_eq_of_lt_le hle2 hup, hle2⟩
theorem di_break {B y0 c q r : Nat} (h0 : y0 < B) (hq : q ≤ B) (hr : B ≤ r) : q * y0 ≤ r * B + c :=
  Nat.le_trans (Nat.mul_le_mul hq (Nat.le_of_lt h0)) (Nat.le_trans (Nat.mul_le_mul_right B hr) (Nat.le_add_right _ _))
theorem two_digits {B U c1 c0 y : Nat} (hy : 0 < y) : ((U * B + c1) * B + c0) / y = (U * B + c1) / y * B + ((U * B + c1) % y * B + c0) / y ∧
    ((U * B + c1) * B + c0) % y = ((U * B + c1) % y * B + c0) % y := by
  have h := Nat.div_add_mod (U * B + c1) y
  generalize U * B + c1 = T at *
  have e : T * B + c0 = y * (T / y * B) + (T % y * B + c0) := by
    have h2 : T * B = y * (T / y) * B + T % y * B := by rw [← Nat.add_mul, h]
    rw [h2, ← Nat.mul_assoc, Nat.add_assoc]
  constructor
  · rw [e, Nat.mul_add_div hy]
  · rw [e, Nat.mul_add_mod]
theorem shifted (M y s : Nat) : (M * 2 ^ s) / (y * 2 ^ s) = M / y ∧ (M * 2 ^ s) % (y * 2 ^ s) / 2 ^ s = M % y := by
  have hp : 0 < 2 ^ s := Nat.pow_pos (by decide)
  constructor
  · exact Nat.mul_div_mul_right M y hp
  · rw [Nat.mul_mod_mul_right, Nat.mul_div_cancel _ hp]
end Go.Proofs.YtnnmfdeeicpdlaaGreat
/- DERIVED: THE SHELF's CONTRACTS AT THIS DUMP, IN PLAIN WORDS (tools/lay-plain.mjs out of 'TryzShelf.lean', which tools/lay-shelf.mjs wrote): THE SAME DECLARATIONS UNDER THE SAME NAMES: 'import', 'namespace', 'open', 'def', 'theorem' AND NOTHING ELSE: no command of the shelf's: FOR A HAND-IN. Each laying: the table of numbers ('.._ren') and one theorem, a field a fact of the dump's own or the kernel's comparison; each contract: ONE APPLICATION. -/
namespace Go.Proofs
open Go.Shelf
def Tryz.lays134_ren : Go.Shelf.Ren := ⟨fun | 134 => 169 | 129 => 226 | n => n, fun | 53 => 132 | 3 => 3 | 4 => 4 | 46 => 124 | 5 => 5 | 9 => 9 | n => n, fun | n => n⟩
theorem Tryz.lays134 : Go.Proofs.Lays.n134 Tryz.prog Tryz.lays134_ren := {
  mixed := by kernel_rfl
  f129 := Tryz.func226.trans (congrArg some (by kernel_rfl))
  f134 := Tryz.func169.trans (congrArg some (by kernel_rfl))
  t3 := Tryz.underlying3
  a3 := Tryz.isAgg3
  z3 := Tryz.sizeOf3
  v3 := Tryz.zeroValue3
  t4 := Tryz.underlying4
  a4 := Tryz.isAgg4
  z4 := Tryz.sizeOf4
  v4 := Tryz.zeroValue4
  t5 := Tryz.underlying5
  a5 := Tryz.isAgg5
  z5 := Tryz.sizeOf5
  v5 := Tryz.zeroValue5
  t9 := Tryz.underlying9
  a9 := Tryz.isAgg9
  z9 := Tryz.sizeOf9
  v9 := Tryz.zeroValue9
  t46 := Tryz.underlying124
  a46 := Tryz.isAgg124
  z46 := Tryz.sizeOf124
  v46 := Tryz.zeroValue124
  t53 := Tryz.underlying132
  a53 := Tryz.isAgg132
  z53 := Tryz.sizeOf132
  v53 := Tryz.zeroValue132 }
theorem Tryz.bits_LeadingZeros64 (x : Int) (w : World) (h0 : 0 ≤ x) (h1 : x ≤ 18446744073709551615) :
    Calls Tryz.prog 169 #[.int .u64 x] w fun e w' => e = .returned (.int .i64 (64 - (Lib.bitLen x.toNat : Int))) ∧ w' = w := Any.bits_LeadingZeros64 Tryz.lays134 x w h0 h1
def Tryz.lays190_ren : Go.Shelf.Ren := ⟨fun | 190 => 163 | 125 => 224 | 258 => 223 | 128 => 272 | 129 => 226 | 302 => 263 | 303 => 264 | 304 => 265 | 305 => 266 | 306 => 267 | 307 => 268 | 308 => 269 | 309 => 270 | 310 => 271 | 333 => 314 | 329 => 315 | 330 => 316 | 334 => 317 | 335 => 318 | 336 => 319 | 344 => 343 | n => n, fun | 31 => 116 | 9 => 9 | 3 => 3 | 46 => 124 | 0 => 0 | 51 => 263 | 53 => 132 | 4 => 4 | 183 => 256 | 182 => 255 | 131 => 167 | 5 => 5 | 218 => 288 | 222 => 292 | 228 => 305 | 229 => 210 | n => n, fun | n => n⟩
theorem Tryz.lays190 : Go.Proofs.Lays.n190 Tryz.prog Tryz.lays190_ren := {
  mixed := by kernel_rfl
  f125 := Tryz.func224.trans (congrArg some (by kernel_rfl))
  f128 := Tryz.func272.trans (congrArg some (by kernel_rfl))
  f129 := Tryz.func226.trans (congrArg some (by kernel_rfl))
  f190 := Tryz.func163.trans (congrArg some (by kernel_rfl))
  f258 := Tryz.func223.trans (congrArg some (by kernel_rfl))
  f302 := Tryz.func263.trans (congrArg some (by kernel_rfl))
  f303 := Tryz.func264.trans (congrArg some (by kernel_rfl))
  f304 := Tryz.func265.trans (congrArg some (by kernel_rfl))
  f305 := Tryz.func266.trans (congrArg some (by kernel_rfl))
  f306 := Tryz.func267.trans (congrArg some (by kernel_rfl))
  f307 := Tryz.func268.trans (congrArg some (by kernel_rfl))
  f308 := Tryz.func269.trans (congrArg some (by kernel_rfl))
  f309 := Tryz.func270.trans (congrArg some (by kernel_rfl))
  f310 := Tryz.func271.trans (congrArg some (by kernel_rfl))
  f329 := Tryz.func315.trans (congrArg some (by kernel_rfl))
  f330 := Tryz.func316.trans (congrArg some (by kernel_rfl))
  f333 := Tryz.func314.trans (congrArg some (by kernel_rfl))
  f334 := Tryz.func317.trans (congrArg some (by kernel_rfl))
  f335 := Tryz.func318.trans (congrArg some (by kernel_rfl))
  f336 := Tryz.func319.trans (congrArg some (by kernel_rfl))
  f344 := Tryz.func343.trans (congrArg some (by kernel_rfl))
  t0 := Tryz.underlying0
  a0 := Tryz.isAgg0
  z0 := Tryz.sizeOf0
  v0 := Tryz.zeroValue0
  t3 := Tryz.underlying3
  a3 := Tryz.isAgg3
  z3 := Tryz.sizeOf3
  v3 := Tryz.zeroValue3
  t4 := Tryz.underlying4
  a4 := Tryz.isAgg4
  z4 := Tryz.sizeOf4
  v4 := Tryz.zeroValue4
  t5 := Tryz.underlying5
  a5 := Tryz.isAgg5
  z5 := Tryz.sizeOf5
  v5 := Tryz.zeroValue5
  t9 := Tryz.underlying9
  a9 := Tryz.isAgg9
  z9 := Tryz.sizeOf9
  v9 := Tryz.zeroValue9
  t31 := Tryz.underlying116
  a31 := Tryz.isAgg116
  z31 := Tryz.sizeOf116
  v31 := Tryz.zeroValue116
  t46 := Tryz.underlying124
  a46 := Tryz.isAgg124
  z46 := Tryz.sizeOf124
  v46 := Tryz.zeroValue124
  t51 := Tryz.underlying263
  a51 := Tryz.isAgg263
  z51 := Tryz.sizeOf263
  v51 := Tryz.zeroValue263
  t53 := Tryz.underlying132
  a53 := Tryz.isAgg132
  z53 := Tryz.sizeOf132
  v53 := Tryz.zeroValue132
  t131 := Tryz.underlying167
  a131 := Tryz.isAgg167
  z131 := Tryz.sizeOf167
  v131 := Tryz.zeroValue167
  t182 := Tryz.underlying255
  a182 := Tryz.isAgg255
  z182 := Tryz.sizeOf255
  v182 := Tryz.zeroValue255
  t183 := Tryz.underlying256
  a183 := Tryz.isAgg256
  z183 := Tryz.sizeOf256
  v183 := Tryz.zeroValue256
  t218 := Tryz.underlying288
  a218 := Tryz.isAgg288
  z218 := Tryz.sizeOf288
  v218 := Tryz.zeroValue288
  t222 := Tryz.underlying292
  a222 := Tryz.isAgg292
  z222 := Tryz.sizeOf292
  v222 := Tryz.zeroValue292
  t228 := Tryz.underlying305
  a228 := Tryz.isAgg305
  z228 := Tryz.sizeOf305
  v228 := Tryz.zeroValue305
  t229 := Tryz.underlying210
  a229 := Tryz.isAgg210
  z229 := Tryz.sizeOf210
  v229 := Tryz.zeroValue210 }
open Go.Sort Go.RowKit in
theorem Tryz.slices_Sort_string (blk off cap : Nat) (ss : List (List UInt8)) (w : World) (hH : Holds encStr w blk off ss.toArray) (hblk : blk < w.heap.size) (hsz : ss.length < 4611686018427387904) :
    Calls Tryz.prog 163 #[.slice (some ⟨blk, off, none⟩) ss.length cap] w fun e w' =>
      e = .returned (.tuple #[]) ∧ ∃ n os, w' = grow (putRow encStr (Sort.ahead w n) blk off (ss.mergeSort fun x y => decide (x ≤ y)).toArray) os := Any.slices_Sort_string Tryz.lays190 blk off cap ss w hH hblk hsz
def Tryz.lays264_ren : Go.Shelf.Ren := ⟨fun | 264 => 79 | n => n, fun | 53 => 132 | 46 => 124 | n => n, fun | n => n⟩
theorem Tryz.lays264 : Go.Proofs.Lays.n264 Tryz.prog Tryz.lays264_ren := {
  mixed := by kernel_rfl
  f264 := Tryz.func79.trans (congrArg some (by kernel_rfl))
  t46 := Tryz.underlying124
  a46 := Tryz.isAgg124
  z46 := Tryz.sizeOf124
  v46 := Tryz.zeroValue124
  t53 := Tryz.underlying132
  a53 := Tryz.isAgg132
  z53 := Tryz.sizeOf132
  v53 := Tryz.zeroValue132 }
open Go.RowKit Go.Lib in
theorem Tryz.bits_Mul64 (x y : Nat) (hx : x < 18446744073709551616) (hy : y < 18446744073709551616) (w : World) :
    Calls Tryz.prog 79 #[.int .u64 x, .int .u64 y] w fun e w' => e = .returned (.tuple #[.int .u64 ((x * y / 18446744073709551616 : Nat) : Int), .int .u64 ((x * y % 18446744073709551616 : Nat) : Int)]) ∧ w' = w := Any.bits_Mul64 Tryz.lays264 x y hx hy w
def Tryz.lays110_ren : Go.Shelf.Ren := ⟨fun | 110 => 71 | 109 => 165 | n => n, fun | 31 => 116 | 9 => 9 | 4 => 4 | 3 => 3 | 0 => 0 | n => n, fun | n => n⟩
theorem Tryz.lays110 : Go.Proofs.Lays.n110 Tryz.prog Tryz.lays110_ren := {
  mixed := by kernel_rfl
  f109 := Tryz.func165.trans (congrArg some (by kernel_rfl))
  f110 := Tryz.func71.trans (congrArg some (by kernel_rfl))
  t0 := Tryz.underlying0
  a0 := Tryz.isAgg0
  z0 := Tryz.sizeOf0
  v0 := Tryz.zeroValue0
  t3 := Tryz.underlying3
  a3 := Tryz.isAgg3
  z3 := Tryz.sizeOf3
  v3 := Tryz.zeroValue3
  t4 := Tryz.underlying4
  a4 := Tryz.isAgg4
  z4 := Tryz.sizeOf4
  v4 := Tryz.zeroValue4
  t9 := Tryz.underlying9
  a9 := Tryz.isAgg9
  z9 := Tryz.sizeOf9
  v9 := Tryz.zeroValue9
  t31 := Tryz.underlying116
  a31 := Tryz.isAgg116
  z31 := Tryz.sizeOf116
  v31 := Tryz.zeroValue116 }
open Go.Lib in
theorem Tryz.slices_Contains_string (b off n c : Nat) (zs : List ByteArray) (x : ByteArray) (w : World) (hz : n ≤ zs.length) (hbig : n ≤ 9223372036854775807) (hc : ∀ j, j < zs.length → w.cell? ⟨b, off + j, none⟩ = some (.string (zs.getD j ByteArray.empty))) :
    Calls Tryz.prog 71 #[.slice (some ⟨b, off, none⟩) n c, .string x] w fun e w' => e = .returned (.bool (Lib.containsS (zs.take n) x)) ∧ w' = w := Any.slices_Contains_string Tryz.lays110 b off n c zs x w hz hbig hc
open Go.Lib in
theorem Tryz.slices_Contains_string_empty (a : Option Addr) (c : Nat) (x : ByteArray) (w : World) :
    Calls Tryz.prog 71 #[.slice a 0 c, .string x] w fun e w' => e = .returned (.bool false) ∧ w' = w := Any.slices_Contains_string_empty Tryz.lays110 a c x w
def Tryz.laysNm215_ren : Go.Shelf.Ren := ⟨fun | 15 => 160 | n => n, fun | 22 => 112 | 3 => 3 | 4 => 4 | n => n, fun | n => n⟩
theorem Tryz.laysNm215 : Go.Proofs.Lays2.n15 Tryz.prog Tryz.laysNm215_ren := {
  mixed := by kernel_rfl
  f15 := Tryz.func160.trans (congrArg some (by kernel_rfl))
  t3 := Tryz.underlying3
  a3 := Tryz.isAgg3
  z3 := Tryz.sizeOf3
  v3 := Tryz.zeroValue3
  t4 := Tryz.underlying4
  a4 := Tryz.isAgg4
  z4 := Tryz.sizeOf4
  v4 := Tryz.zeroValue4
  t22 := Tryz.underlying112
  a22 := Tryz.isAgg112
  z22 := Tryz.sizeOf112
  v22 := Tryz.zeroValue112
  i3 := by kernel_rfl }
open Go.RowKit Go.Lib in
theorem Tryz.slices_Clone_int (b off n c : Nat) (zs : List Int) (w : World) (hz : n ≤ zs.length) (hbig : n * 8 ≤ 140737488355328) (hc : ∀ j, j < zs.length → w.cell? ⟨b, off + j, none⟩ = some (.int .i64 (zs.getD j 0))) :
    Calls Tryz.prog 160 #[.slice (some ⟨b, off, none⟩) n c] w fun e w' => ∃ v', e = .returned v' ∧ w'.ownsRow w.heap.size 3 1 v' n ((zs.take n).map (Value.int .i64)) ∧ v' ≠ .slice none 0 0 ∧ Below w.heap.size w w' := Any.slices_Clone_int Tryz.laysNm215 b off n c zs w hz hbig hc
open Go.RowKit Go.Lib in
theorem Tryz.slices_Clone_int_nil (n c : Nat) (w : World) :
    Calls Tryz.prog 160 #[.slice none n c] w fun e w' => e = .returned (.slice none 0 0) ∧ w' = w := Any.slices_Clone_int_nil Tryz.laysNm215 n c w
open Go.RowKit Go.Lib in
theorem Tryz.slices_Clone_int_zero (a : Addr) (c : Nat) (w : World) :
    Calls Tryz.prog 160 #[.slice (some a) 0 c] w fun e w' => ∃ v', e = .returned v' ∧ w'.ownsRow w.heap.size 3 1 v' 0 [] ∧ v' ≠ .slice none 0 0 ∧ Below w.heap.size w w' := Any.slices_Clone_int_zero Tryz.laysNm215 a c w
def Tryz.lays194_ren : Go.Shelf.Ren := ⟨fun | 194 => 164 | n => n, fun | 31 => 116 | 9 => 9 | 3 => 3 | 4 => 4 | 0 => 0 | n => n, fun | n => n⟩
theorem Tryz.lays194 : Go.Proofs.Lays.n194 Tryz.prog Tryz.lays194_ren := {
  mixed := by kernel_rfl
  f194 := Tryz.func164.trans (congrArg some (by kernel_rfl))
  t0 := Tryz.underlying0
  a0 := Tryz.isAgg0
  z0 := Tryz.sizeOf0
  v0 := Tryz.zeroValue0
  t3 := Tryz.underlying3
  a3 := Tryz.isAgg3
  z3 := Tryz.sizeOf3
  v3 := Tryz.zeroValue3
  t4 := Tryz.underlying4
  a4 := Tryz.isAgg4
  z4 := Tryz.sizeOf4
  v4 := Tryz.zeroValue4
  t9 := Tryz.underlying9
  a9 := Tryz.isAgg9
  z9 := Tryz.sizeOf9
  v9 := Tryz.zeroValue9
  t31 := Tryz.underlying116
  a31 := Tryz.isAgg116
  z31 := Tryz.sizeOf116
  v31 := Tryz.zeroValue116 }
open Go.RowKit Go.Lib Go.Sort in
theorem Tryz.slices_Compact_string (blk off cap : Nat) (zs : List (List UInt8)) (w : World) (hH : Holds encStr w blk off zs.toArray) (hsz : zs.length ≤ 9223372036854775807) (hcap : zs.length ≤ cap) :
    Calls Tryz.prog 164 #[.slice (some ⟨blk, off, none⟩) zs.length cap] w fun e w' => e = .returned (.slice (some ⟨blk, off, none⟩) (Lib.compact zs).length cap) ∧ ∃ q, w' = putRow encStr (Sort.ahead w q) blk off (Lib.compact zs ++ List.replicate (zs.length - (Lib.compact zs).length) []).toArray := Any.slices_Compact_string Tryz.lays194 blk off cap zs w hH hsz hcap
open Go.RowKit Go.Lib Go.Sort in
theorem Tryz.slices_Compact_string_empty (a : Option Addr) (cap : Nat) (w : World) :
    Calls Tryz.prog 164 #[.slice a 0 cap] w fun e w' => e = .returned (.slice a 0 cap) ∧ w' = w := Any.slices_Compact_string_empty Tryz.lays194 a cap w
def Tryz.laysNm225_ren : Go.Shelf.Ren := ⟨fun | 25 => 283 | 31 => 323 | 32 => 324 | 37 => 344 | n => n, fun | 22 => 112 | 3 => 3 | 4 => 4 | 40 => 124 | 0 => 0 | n => n, fun | n => n⟩
theorem Tryz.laysNm225 : Go.Proofs.Lays2.n25 Tryz.prog Tryz.laysNm225_ren := {
  mixed := by kernel_rfl
  f25 := Tryz.func283.trans (congrArg some (by kernel_rfl))
  f31 := Tryz.func323.trans (congrArg some (by kernel_rfl))
  f32 := Tryz.func324.trans (congrArg some (by kernel_rfl))
  f37 := Tryz.func344.trans (congrArg some (by kernel_rfl))
  t0 := Tryz.underlying0
  a0 := Tryz.isAgg0
  z0 := Tryz.sizeOf0
  v0 := Tryz.zeroValue0
  t3 := Tryz.underlying3
  a3 := Tryz.isAgg3
  z3 := Tryz.sizeOf3
  v3 := Tryz.zeroValue3
  t4 := Tryz.underlying4
  a4 := Tryz.isAgg4
  z4 := Tryz.sizeOf4
  v4 := Tryz.zeroValue4
  t22 := Tryz.underlying112
  a22 := Tryz.isAgg112
  z22 := Tryz.sizeOf112
  v22 := Tryz.zeroValue112
  t40 := Tryz.underlying124
  a40 := Tryz.isAgg124
  z40 := Tryz.sizeOf124
  v40 := Tryz.zeroValue124 }
open Go.RowKit Go.Lib in
theorem Tryz.slices_BinarySearch_int (b off n c : Nat) (zs : List Int) (x : Int) (w : World) (hz : n ≤ zs.length) (hbig : n < 4611686018427387904) (hc : ∀ j, j < zs.length → w.cell? ⟨b, off + j, none⟩ = some (.int .i64 (zs.getD j 0))) (hs : (zs.take n).Pairwise (· ≤ ·)) :
    Calls Tryz.prog 283 #[.slice (some ⟨b, off, none⟩) n c, .int .i64 x] w fun e w' => e = .returned (.tuple #[.int .i64 ((zs.take n).countP (· < x) : Nat), .bool ((zs.take n).contains x)]) ∧ ∃ q, w' = w.drewN q := Any.slices_BinarySearch_int Tryz.laysNm225 b off n c zs x w hz hbig hc hs
open Go.RowKit Go.Sort in
theorem Tryz.slices_Sort_string_none (p : Option Addr) (cap : Nat) (w : World) :
    Calls Tryz.prog 163 #[.slice p 0 cap] w fun e w' => e = .returned (.tuple #[]) ∧ w' = w := Any.slices_Sort_string_none Tryz.lays190 p cap w
open Go.RowKit Go.Lib in
theorem Tryz.slices_BinarySearch_int_empty (a : Option Addr) (c : Nat) (x : Int) (w : World) :
    Calls Tryz.prog 283 #[.slice a 0 c, .int .i64 x] w fun e w' => e = .returned (.tuple #[.int .i64 0, .bool false]) ∧ w' = w := Any.slices_BinarySearch_int_empty Tryz.laysNm225 a c x w
end Go.Proofs
