/- Contracts and plain laws, several texts in one: MixS; Cpy; Nwa; Nwb; Bnd; Opp; Nwc; Nwd; Mde -/
import Derived.Test.YthjfadfebhjhbaaGreatProg
import Derived.WalkKit
import Derived.WalkSpells
import Derived.WalkLawsBesides
import Derived.Lib.Hide
import Derived.BigQuiet
import Derived.Test.YthjfadfebhjhbaaGreatQAA
import Derived.Test.YthjfadfebhjhbaaGreatQAB
import Derived.Test.YthjfadfebhjhbaaGreatQAC
import Derived.Test.YthjfadfebhjhbaaGreatQAG
import Derived.Test.YthjfadfebhjhbaaGreatQAJ
import Derived.Test.YthjfadfebhjhbaaGreatQAM
import Derived.Test.YthjfadfebhjhbaaGreatQAN
/- Regions that draw their order and store into memory that was there: a schedule in an order of one's own. Operations: 0: quiet, all of them ahead of the store st; 2: pure (the same value in every world), at any time; 1: it alone may come now (ahead of the store); 3: it alone may come now (the store, or behind it). No program in sight. -/
namespace Go.Proofs.YthjfadfebhjhbaaGreat
open Go.RowKit

section
variable {P : Program} {md : Region.Mode} {κ : Type} {Cl : κ → World} {l : List Oper} {ops : Array Oper} {st : Nat}

def inS (Cl : κ → World) (st : Nat) (listed : Array Bool) (w : World) : Prop := listed.getD st false = true ∨ ∃ k, w = Cl k
theorem inS_set {listed : Array Bool} {w : World} (i : Nat) (h : inS Cl st listed w) : inS Cl st (listed.setIfInBounds i true) w := by
  rcases h with h | h
  · left
    by_cases e : i = st
    · subst e
      have hlt : i < listed.size := by
        rcases Nat.lt_or_ge i listed.size with h' | h'
        · exact h'
        · simp [Array.getElem?_eq_none h'] at h
      simp [hlt]
    · simp only [Array.getD_eq_getD_getElem?, Array.getElem?_setIfInBounds_ne e] at h ⊢; exact h
  · exact .inr h
theorem inS_other {listed : Array Bool} {w : World} {i : Nat} (j : Nat) (e : i ≠ st) (h : inS Cl st ((listed.setIfInBounds i true).setIfInBounds j true) w) : inS Cl st (listed.setIfInBounds j true) w := by
  rcases h with h | h
  · left
    by_cases hji : j = i
    · subst hji
      simp only [Array.getD_eq_getD_getElem?, Array.getElem?_setIfInBounds_ne e] at h ⊢; exact h
    · rw [Array.setIfInBounds_comm _ _ (fun h => hji h.symm)] at h
      simp only [Array.getD_eq_getD_getElem?] at h ⊢
      rw [Array.getElem?_setIfInBounds_ne e] at h; exact h
  · exact .inr h
theorem inS_bw (hCl : ∀ k d, ∃ k', bw (Cl k) d = Cl k') {listed : Array Bool} {w : World} (d : Ext) (h : inS Cl st listed w) : inS Cl st listed (bw w d) := by
  rcases h with h | ⟨k, rfl⟩
  · exact .inl h
  · exact .inr (hCl k d)

def wpD (P : Program) (md : Region.Mode) (ops : Array Oper) (Cl : κ → World) (st : Nat) (Q : Act → World → Prop) : Nat → Array Bool → Act → World → Prop
  | 0, listed, a, w => Region.ready md ops listed = [] ∧ ∀ d, Q a (bw w d)
  | f + 1, listed, a, w => Region.ready md ops listed ≠ [] ∧ ∀ i ∈ Region.ready md ops listed, ∀ d, oneOp P ops i (fun a' w' => inS Cl st (listed.setIfInBounds i true) w' ∧ wpD P md ops Cl st Q f (listed.setIfInBounds i true) a' w') a (bw w d)
theorem wpD_ext {Q : Act → World → Prop} : ∀ {f : Nat} {listed : Array Bool} {a : Act} {w : World} (d : Ext), wpD P md ops Cl st Q f listed a w → wpD P md ops Cl st Q f listed a (bw w d)
  | 0, _, _, w, d, h => ⟨h.1, fun e => by rw [bw_bw]; exact h.2 _⟩
  | _ + 1, _, _, w, d, h => ⟨h.1, fun i hi e => by rw [bw_bw]; exact h.2 i hi _⟩
theorem wpD_sound {Q' : Exit → Act → World → Prop} : ∀ (f : Nat) (listed : Array Bool) (a : Act) (w : World), wpD P md ops Cl st (fun a w => Q' .normal a w) f listed a w → wpAny P md ops Q' f listed a w
  | 0, listed, a, w, h => ⟨h.1, by have := h.2 (noExt w); rwa [bw_noExt] at this⟩
  | f + 1, listed, a, w, h => by
    refine ⟨fun h0 => absurd h0 h.1, fun i hi => ?_⟩
    have h1 := h.2 i hi (noExt w)
    rw [bw_noExt] at h1
    unfold oneOp at h1
    unfold wpOp
    split
    · rename_i ho; simp only [ho] at h1; exact wpD_sound f _ _ _ h1.2
    · rename_i o ho
      simp only [ho] at h1
      split
      · rename_i hw; rw [if_pos hw] at h1
        exact Or.inl (wp_of_sOp (sOp_mono (fun a w hk => wpD_sound f _ a w hk.2) h1))
      · rename_i hw; rw [if_neg hw] at h1; exact wpD_sound f _ _ _ h1.2

theorem wpD_first {i : Nat} {oi : Oper} {v : Value} {Q : Act → World → Prop} (hCl : ∀ k d, ∃ k', bw (Cl k) d = Cl k') (hi : ops[i]? = some oi) (hsel : ∀ (j : Nat) (o : Oper) cs b, ops[j]? = some o → o.op ≠ .select cs b) (hne : i ≠ st) :
    ∀ (f : Nat) (listed : Array Bool) (a : Act) (w : World), inS Cl st listed w →
      (∀ j oj, ops[j]? = some oj → j ≠ i → listed.getD j true = false → (∀ e ∈ oj.after, Region.binds md e = true → e.on ≠ i) → oi.apart ops oj = true) →
      i ∈ Region.ready md ops listed → (YieldsM P ops (fun W : World => W) oi v a ∨ (YieldsM P ops Cl oi v a ∧ listed.getD st false = false ∧ ∃ os, ops[st]? = some os ∧ ∃ e ∈ os.after, Region.binds md e = true ∧ e.on = i)) →
      wpD P md ops Cl st Q f (listed.setIfInBounds i true) (a.put oi.dst v) w → wpD P md ops Cl st Q (f + 1) listed a w := by
  have one : ∀ {listed : Array Bool} {a : Act} {w : World} {K : Act → World → Prop}, inS Cl st listed w →
      (YieldsM P ops (fun W : World => W) oi v a ∨ (YieldsM P ops Cl oi v a ∧ listed.getD st false = false ∧ ∃ os, ops[st]? = some os ∧ ∃ e ∈ os.after, Region.binds md e = true ∧ e.on = i)) →
      K (a.put oi.dst v) w → (∀ d, K (a.put oi.dst v) (bw w d)) → oneOp P ops i K a w := by
    intro listed a w K hw hy h0 h1
    rcases hy with hy | ⟨hy, hs, _⟩
    · exact hy.oneOp hi ⟨w, rfl⟩ h0 h1
    · exact hy.oneOp hi (hw.resolve_left (by rw [hs]; exact Bool.false_ne_true)) h0 h1
  intro f
  induction f with
  | zero =>
    intro listed a w hw _ hr hy H
    refine ⟨List.ne_nil_of_mem hr, fun j hj d => ?_⟩
    by_cases hji : j = i
    · subst hji
      exact one (inS_bw hCl d hw) hy ⟨inS_set _ (inS_bw hCl d hw), wpD_ext d H⟩ (fun e => ⟨inS_set _ (inS_bw hCl e (inS_bw hCl d hw)), wpD_ext e (wpD_ext d H)⟩)
    · have := ready_mono hj hji
      rw [H.1] at this; cases this
  | succ f ih =>
    intro listed a w hw hfree hr hy H
    have hun := (mem_ready.1 hr).1
    refine ⟨List.ne_nil_of_mem hr, fun j hj d => ?_⟩
    by_cases hji : j = i
    · subst hji
      exact one (inS_bw hCl d hw) hy ⟨inS_set _ (inS_bw hCl d hw), wpD_ext d H⟩ (fun e => ⟨inS_set _ (inS_bw hCl e (inS_bw hCl d hw)), wpD_ext e (wpD_ext d H)⟩)
    · have h1 := H.2 j (ready_mono hj hji) d
      obtain ⟨hjun, oj, hoj, hall⟩ := mem_ready.1 hj
      have hunF : listed.getD i false = false := by
        rcases Nat.lt_or_ge i listed.size with h' | h'
        · simp [h'] at hun ⊢; exact hun
        · simp [Array.getElem?_eq_none h'] at hun
      have hnot : ∀ e ∈ oj.after, Region.binds md e = true → e.on ≠ i := fun e he hb heq => by
        have h2 := hall e he hb
        rw [heq, hunF] at h2
        cases h2
      have hap := hfree j oj hoj hji hjun hnot
      have hfree' : ∀ k ok, ops[k]? = some ok → k ≠ i → (listed.setIfInBounds j true).getD k true = false →
          (∀ e ∈ ok.after, Region.binds md e = true → e.on ≠ i) → oi.apart ops ok = true := fun k ok hk hki hu hno => by
        refine hfree k ok hk hki ?_ hno
        by_cases hjk : j = k
        · subst hjk; exact hjun
        · rw [getD_set_ne true hjk] at hu; exact hu
      have fin : ∀ (a' : Act) (w' : World), (YieldsM P ops (fun W : World => W) oi v a' ∨ (YieldsM P ops Cl oi v a' ∧ (listed.setIfInBounds j true).getD st false = false ∧ ∃ os, ops[st]? = some os ∧ ∃ e ∈ os.after, Region.binds md e = true ∧ e.on = i)) →
          inS Cl st ((listed.setIfInBounds i true).setIfInBounds j true) w' → wpD P md ops Cl st Q f ((listed.setIfInBounds i true).setIfInBounds j true) (a'.put oi.dst v) w' →
          inS Cl st (listed.setIfInBounds j true) w' ∧ wpD P md ops Cl st Q (f + 1) (listed.setIfInBounds j true) a' w' := fun a' w' hy' hin hk => by
        have hin' := inS_other j hne hin
        refine ⟨hin', ih (listed.setIfInBounds j true) a' w' hin' hfree' (ready_mono hr (Ne.symm hji)) hy' ?_⟩
        rw [Array.setIfInBounds_comm _ _ hji]
        exact hk
      rcases hy with hy | ⟨hy, hs, hedge⟩
      · have h2 := oneOp_put hoj hap (fun cs b => hsel i oi cs b hi) (fun cs b => hsel j oj cs b hoj) hy h1
        exact oneOp_mono (fun a' w' h3 => fin a' w' (.inl h3.1) h3.2.1 h3.2.2) h2
      · have hjst : j ≠ st := by
          rintro rfl
          obtain ⟨os, hos, e, he, hb, heq⟩ := hedge
          rw [hoj] at hos
          cases hos
          exact hnot e he hb heq
        have hs' : (listed.setIfInBounds j true).getD st false = false := by
          simp only [Array.getD_eq_getD_getElem?, Array.getElem?_setIfInBounds_ne hjst] at hs ⊢; exact hs
        have h2 := oneOp_put hoj hap (fun cs b => hsel i oi cs b hi) (fun cs b => hsel j oj cs b hoj) hy h1
        exact oneOp_mono (fun a' w' h3 => fin a' w' (.inr ⟨h3.1, hs', hedge⟩) h3.2.1 h3.2.2) h2

def wpMS (P : Program) (l : List Oper) (ops : Array Oper) (Cl : κ → World) (Q : Act → World → Prop) : List (Nat × Nat) → Act → World → Prop
  | [], a, w => ∀ d, Q a (bw w d)
  | (i, 0) :: s, a, w => ∃ o, l[i]? = some o ∧ (if Region.wanted o (yielded ops a.tmps) then mOp P Cl o a (fun a' => wpMS P l ops Cl Q s a' w) else wpMS P l ops Cl Q s (a.put o.dst undef) w)
  | (i, 1) :: s, a, w => ∃ o, l[i]? = some o ∧ ∀ d, (if Region.wanted o (yielded ops a.tmps) then sOp P o a (fun a' w' => (∃ k, w' = Cl k) ∧ wpMS P l ops Cl Q s a' w') (bw w d) else (∃ k, bw w d = Cl k) ∧ wpMS P l ops Cl Q s (a.put o.dst undef) (bw w d))
  | (i, 2) :: s, a, w => ∃ o, l[i]? = some o ∧ (if Region.wanted o (yielded ops a.tmps) then mOp P (fun W : World => W) o a (fun a' => wpMS P l ops Cl Q s a' w) else wpMS P l ops Cl Q s (a.put o.dst undef) w)
  | (i, 3) :: s, a, w => ∃ o, l[i]? = some o ∧ ∀ d, (if Region.wanted o (yielded ops a.tmps) then sOp P o a (fun a' w' => wpMS P l ops Cl Q s a' w') (bw w d) else wpMS P l ops Cl Q s (a.put o.dst undef) (bw w d))
  | (_, _ + 4) :: _, _, _ => False
def edgeB (md : Region.Mode) (ops : Array Oper) (st i : Nat) : Bool := match ops[st]? with | none => false | some os => os.after.any fun e => Region.binds md e && decide (e.on = i)
theorem edge_of {i : Nat} (h : edgeB md ops st i = true) : ∃ os, ops[st]? = some os ∧ ∃ e ∈ os.after, Region.binds md e = true ∧ e.on = i := by
  unfold edgeB at h
  cases ho : ops[st]? with
  | none => rw [ho] at h; cases h
  | some os =>
    rw [ho] at h
    obtain ⟨e, he, h2⟩ := Array.any_eq_true'.1 h
    simp only [Bool.and_eq_true, decide_eq_true_eq] at h2
    exact ⟨os, rfl, e, he, h2.1, h2.2⟩
def lexMS (md : Region.Mode) (ops : Array Oper) (st : Nat) : List (Nat × Nat) → Array Bool → Bool
  | [], listed => (Region.ready md ops listed).isEmpty
  | (i, 0) :: s, listed => decide (i ≠ st) && (!listed.getD st false) && edgeB md ops st i && (Region.ready md ops listed).contains i && Region.free md ops listed i && lexMS md ops st s (listed.setIfInBounds i true)
  | (i, 1) :: s, listed => decide (Region.ready md ops listed = [i]) && lexMS md ops st s (listed.setIfInBounds i true)
  | (i, 2) :: s, listed => decide (i ≠ st) && (Region.ready md ops listed).contains i && Region.free md ops listed i && lexMS md ops st s (listed.setIfInBounds i true)
  | (i, 3) :: s, listed => (listed.setIfInBounds i true).getD st false && decide (Region.ready md ops listed = [i]) && lexMS md ops st s (listed.setIfInBounds i true)
  | (_, _ + 4) :: _, _ => false

theorem wpD_of_wpMS {Q : Act → World → Prop} (hCl : ∀ k d, ∃ k', bw (Cl k) d = Cl k') (hl : ∀ j : Nat, l[j]? = ops[j]?) (hsel : Region.noSelect ops = true) :
    ∀ (s : List (Nat × Nat)) (listed : Array Bool) (a : Act) (w : World), inS Cl st listed w → lexMS md ops st s listed = true → wpMS P l ops Cl Q s a w → wpD P md ops Cl st Q s.length listed a w
  | [], listed, a, w, hw, hB, h => by
    simp only [lexMS, List.isEmpty_iff] at hB
    exact ⟨hB, h⟩
  | (k, 0) :: s, listed, a, w, hw, hB, h => by
    simp only [lexMS, Bool.and_eq_true, decide_eq_true_eq, Bool.not_eq_true'] at hB
    obtain ⟨⟨⟨⟨⟨hks, hst⟩, hed⟩, hr⟩, hf⟩, hB'⟩ := hB
    obtain ⟨o, ho, h⟩ := h
    have h0 : ops[k]? = some o := (hl k).symm.trans ho
    have hr' : k ∈ Region.ready md ops listed := by simpa using hr
    have hy : ∃ v, YieldsM P ops Cl o v a ∧ wpMS P l ops Cl Q s (a.put o.dst v) w := by
      by_cases hw1 : Region.wanted o (yielded ops a.tmps) = true
      · rw [if_pos hw1] at h
        obtain ⟨v, h1, h2⟩ := h
        exact ⟨v, .inl ⟨hw1, h1⟩, h2⟩
      · rw [if_neg hw1] at h
        exact ⟨undef, .inr ⟨by simpa using hw1, rfl⟩, h⟩
    obtain ⟨v, hy, hK⟩ := hy
    exact wpD_first hCl h0 (Region.noSelect_spec hsel) hks s.length listed a w hw (Region.free_spec h0 hf) hr' (.inr ⟨hy, hst, edge_of hed⟩) (wpD_of_wpMS hCl hl hsel s _ _ w (inS_set _ hw) hB' hK)
  | (k, 2) :: s, listed, a, w, hw, hB, h => by
    simp only [lexMS, Bool.and_eq_true, decide_eq_true_eq] at hB
    obtain ⟨⟨⟨hks, hr⟩, hf⟩, hB'⟩ := hB
    obtain ⟨o, ho, h⟩ := h
    have h0 : ops[k]? = some o := (hl k).symm.trans ho
    have hr' : k ∈ Region.ready md ops listed := by simpa using hr
    have hy : ∃ v, YieldsM P ops (fun W : World => W) o v a ∧ wpMS P l ops Cl Q s (a.put o.dst v) w := by
      by_cases hw1 : Region.wanted o (yielded ops a.tmps) = true
      · rw [if_pos hw1] at h
        obtain ⟨v, h1, h2⟩ := h
        exact ⟨v, .inl ⟨hw1, h1⟩, h2⟩
      · rw [if_neg hw1] at h
        exact ⟨undef, .inr ⟨by simpa using hw1, rfl⟩, h⟩
    obtain ⟨v, hy, hK⟩ := hy
    exact wpD_first hCl h0 (Region.noSelect_spec hsel) hks s.length listed a w hw (Region.free_spec h0 hf) hr' (.inl hy) (wpD_of_wpMS hCl hl hsel s _ _ w (inS_set _ hw) hB' hK)
  | (k, 1) :: s, listed, a, w, hw, hB, h => by
    simp only [lexMS, Bool.and_eq_true, decide_eq_true_eq] at hB
    obtain ⟨hr, hB'⟩ := hB
    obtain ⟨o, ho, h⟩ := h
    have h0 : ops[k]? = some o := (hl k).symm.trans ho
    refine ⟨by rw [hr]; simp, fun i hi d => ?_⟩
    rw [hr] at hi
    obtain rfl : i = k := by simpa using hi
    have hd := h d
    rw [oneOp_some h0]
    split
    · rename_i hw1; rw [if_pos hw1] at hd
      exact sOp_mono (fun a' w' hk => ⟨.inr hk.1, wpD_of_wpMS hCl hl hsel s _ _ w' (.inr hk.1) hB' hk.2⟩) hd
    · rename_i hw1; rw [if_neg hw1] at hd
      exact ⟨.inr hd.1, wpD_of_wpMS hCl hl hsel s _ _ _ (.inr hd.1) hB' hd.2⟩
  | (k, 3) :: s, listed, a, w, hw, hB, h => by
    simp only [lexMS, Bool.and_eq_true, decide_eq_true_eq] at hB
    obtain ⟨⟨hst, hr⟩, hB'⟩ := hB
    obtain ⟨o, ho, h⟩ := h
    have h0 : ops[k]? = some o := (hl k).symm.trans ho
    refine ⟨by rw [hr]; simp, fun i hi d => ?_⟩
    rw [hr] at hi
    obtain rfl : i = k := by simpa using hi
    have hd := h d
    rw [oneOp_some h0]
    split
    · rename_i hw1; rw [if_pos hw1] at hd
      exact sOp_mono (fun a' w' hk => ⟨.inl hst, wpD_of_wpMS hCl hl hsel s _ _ w' (.inl hst) hB' hk⟩) hd
    · rename_i hw1; rw [if_neg hw1] at hd
      exact ⟨.inl hst, wpD_of_wpMS hCl hl hsel s _ _ _ (.inl hst) hB' hd⟩
  | (_, _ + 4) :: _, _, _, _, _, hB, _ => by simp [lexMS] at hB

theorem region_mixS {id : Nat} {Q : Exit → Act → World → Prop} {a : Act} {w : World} {l : List Oper} (st : Nat) (s : List (Nat × Nat)) (hm : P.follows .mixedOrders = true) (hsel : Region.noSelect l.toArray = true)
    (hB : lexMS .any l.toArray st s (Array.replicate l.toArray.size false) = true) (hn : s.length = l.toArray.size)
    (h : wpMS P l l.toArray (fun d => bw w d) (fun a w => Q .normal a w) s a w) : (Code.region id l.toArray true).wp P Q a w := by
  refine wp_region_any hm ?_
  have := wpD_of_wpMS (md := .any) (st := st) (fun k d => ⟨_, bw_bw w k d⟩) (fun j => by simp) hsel s _ a w (.inr ⟨noExt w, (bw_noExt w).symm⟩) hB h
  have := wpD_ext (⟨#[], w.drawn + 1⟩ : Ext) this
  rw [← bw_drewExt] at this
  have := wpD_sound (Q' := Q) _ _ _ _ this
  rwa [hn] at this
theorem wpMS_quiet {Q : Act → World → Prop} {a : Act} {w : World} {i : Nat} {o : Oper} {s : List (Nat × Nat)} (ho : l[i]? = some o)
    (h : ∀ K : Act → Prop, (∀ a, wpMS P l ops Cl Q s a w → K a) → if Region.wanted o (yielded ops a.tmps) then mOp P Cl o a K else K (a.put o.dst undef)) : wpMS P l ops Cl Q ((i, 0) :: s) a w :=
  ⟨o, ho, h _ (fun _ h => h)⟩
theorem wpMS_pure {Q : Act → World → Prop} {a : Act} {w : World} {i : Nat} {o : Oper} {s : List (Nat × Nat)} (ho : l[i]? = some o)
    (h : ∀ K : Act → Prop, (∀ a, wpMS P l ops Cl Q s a w → K a) → if Region.wanted o (yielded ops a.tmps) then mOp P (fun W : World => W) o a K else K (a.put o.dst undef)) : wpMS P l ops Cl Q ((i, 2) :: s) a w :=
  ⟨o, ho, h _ (fun _ h => h)⟩
theorem wpMS_special {Q : Act → World → Prop} {a : Act} {w : World} {i : Nat} {o : Oper} {s : List (Nat × Nat)} (ho : l[i]? = some o)
    (h : ∀ (K : Act → World → Prop), (∀ a' w', (∃ k, w' = Cl k) → wpMS P l ops Cl Q s a' w' → K a' w') → ∀ d, if Region.wanted o (yielded ops a.tmps) then sOp P o a K (bw w d) else K (a.put o.dst undef) (bw w d)) : wpMS P l ops Cl Q ((i, 1) :: s) a w :=
  ⟨o, ho, fun d => by
    have := h (fun a' w' => (∃ k, w' = Cl k) ∧ wpMS P l ops Cl Q s a' w') (fun _ _ h1 h2 => ⟨h1, h2⟩) d
    split
    · rename_i hw; rw [if_pos hw] at this; exact this
    · rename_i hw; rw [if_neg hw] at this; exact this⟩
theorem wpMS_store {Q : Act → World → Prop} {a : Act} {w : World} {i : Nat} {o : Oper} {s : List (Nat × Nat)} (ho : l[i]? = some o)
    (h : ∀ (K : Act → World → Prop), (∀ a' w', wpMS P l ops Cl Q s a' w' → K a' w') → ∀ d, if Region.wanted o (yielded ops a.tmps) then sOp P o a K (bw w d) else K (a.put o.dst undef) (bw w d)) : wpMS P l ops Cl Q ((i, 3) :: s) a w :=
  ⟨o, ho, fun d => by
    have := h (fun a' w' => wpMS P l ops Cl Q s a' w') (fun _ _ h2 => h2) d
    split
    · rename_i hw; rw [if_pos hw] at this; exact this
    · rename_i hw; rw [if_neg hw] at this; exact this⟩
theorem wpMS_nil {Q : Act → World → Prop} {a : Act} {w : World} (h : ∀ d, Q a (bw w d)) : wpMS P l ops Cl Q [] a w := h
end
end Go.Proofs.YthjfadfebhjhbaaGreat
/- almanac.copied: a deep copy of pages. -/
namespace Go.Proofs.YthjfadfebhjhbaaGreat
open Go.RowKit

def CpyPost (w : World) (l : List PgV) (e : Ending) (w' : World) : Prop := ∃ A c d, e = .returned (.slice A l.length c) ∧ w' = bw w d ∧ PgsD (fun b => w.heap.size ≤ b) (bw w d) (.slice A l.length c) l
theorem lsP_on {P : Nat → Prop} {w : World} {v : Value} {l : List Int} {A B : List (Obj ⊕ Ext)} (h : LsP P (lay w B) v l) : LsP P (lay w (A ++ B)) v l := h.keep lay_belowG.size fun b _ hb => lay_belowG.block b hb
theorem PgsD.form {P : Nat → Prop} {w : World} {v : Value} {l : List PgV} (h : PgsD P w v l) : ∃ a cap, v = .slice a l.length cap := by
  obtain ⟨ls, h1, h2, h3, h4⟩ := h
  obtain ⟨a, c, e⟩ := h1.form
  exact ⟨a, c, by rw [e, h3]⟩
set_option maxHeartbeats 4000000 in
set_option maxRecDepth 100000 in
theorem alm_copied {P : Nat → Prop} (v : Value) (l : List PgV) (w : World) (hv : PgsD P w v l) (hP : ∀ b, P b → b < w.heap.size) (hl : l.length ≤ 1000) (ht : ∀ p ∈ l, p.ts.length ≤ 1000) (hg : ∀ p ∈ l, ∀ t ∈ p.ts, t.g.length ≤ 1000 ∧ t.d.length ≤ 1000) :
    Calls Tryz.prog 88 #[v] w (CpyPost w l) := by
  obtain ⟨ls, h1, h2, h3, h4⟩ := hv
  have HC := Lib.hid (cln_Page v ls w h1 (by omega))
  by_cases hz : l = []
  · subst hz
    have hls : ls = [] := List.eq_nil_of_length_eq_zero h3
    subst hls
    obtain ⟨a, c, rfl⟩ := h1.form
    clear h1 h2 h4 hg ht hl h3 hP
    refine lay_start ?_
    go_enter Tryz.func88, Tryz.ntmps88
    go_wp2_with fail
    refine HC.out.mono ?_
    rintro e w' ⟨v', d1, rfl, rfl, hO⟩
    have HS := Lib.hid (hO.sl pgOk)
    obtain ⟨va, vc, rfl⟩ := hO.form
    clear hO
    go_wp2_with fail
    refine wp_loop_rounds 1 ?_
    rw [rounds_succ]
    go_wp2
    go_ret
    exact ⟨va, vc, d1, rfl, rfl, [], HS.out, fun b o n c e hn => by cases e; exact absurd hn (Nat.lt_irrefl 0), rfl, fun i x p hx => by simp at hx⟩
  · have hl0 : 0 < ls.length := by rw [h3]; exact List.length_pos_iff.2 hz
    obtain ⟨q, hq⟩ : ∃ q, l.length = q := ⟨_, rfl⟩
    have HQ := Lib.hid hq
    have HP := Lib.hid hP
    have HT := Lib.hid ht
    have HG := Lib.hid hg
    have HD := Lib.hid h4
    have HL3 := Lib.hid h3
    obtain ⟨a, c, rfl⟩ := h1.form
    have hq0 : 0 < q := by omega
    have hq1 : q ≤ 1000 := by omega
    have e3 : ls.length = q := by omega
    have HE := Lib.hid e3
    rw [e3] at HC ⊢
    clear h1 h2 h4 hg ht hl h3 hP hq hz hl0 e3
    refine lay_start ?_
    go_enter Tryz.func88, Tryz.ntmps88
    go_wp2_with fail
    refine HC.out.mono ?_
    rintro e w' ⟨v', d1, rfl, rfl, hO⟩
    obtain ⟨g0, cap, rfl, hg0, hgW, hcap⟩ := hO.form1 (by rw [HE.out]; exact hq0)
    rw [HE.out] at hO hcap ⊢
    have HO0 : Hid (CpO P w g0 q cap l 0 (lay w [.inr d1]) ls) := Lib.hid ⟨hO, HL3.out, fun j x p hx hp => ⟨(HD.out j x p hx hp).y, (HD.out j x p hx hp).m, (HD.out j x p hx hp).d⟩, fun j x p _ _ hj => absurd hj (Nat.not_lt_zero j), fun j x p hx hp _ => (HD.out j x p hx hp).ts.lay [.inr d1]⟩
    clear hO
    go_wp2_with fail
    go_loopw [11] (fun v11 wr => ∃ (i : Nat) (dd : Ext), i ≤ q ∧ v11 = .int .i64 (i : Int) ∧ wr = lay w [.inr dd] ∧ g0 < (lay w [.inr dd]).heap.size ∧ ∃ ls', CpO P w g0 q cap l i (lay w [.inr dd]) ls') (fun v11 _ => q - (intOf v11).toNat)
    case atStart => exact ⟨0, d1, Nat.zero_le _, rfl, rfl, hgW, ls, HO0.out⟩
    case round =>
      obtain ⟨i, dd, hi, rfl, rfl, hgd, ls', hO⟩ := hrel
      have HO := Lib.hid hO
      clear hO
      by_cases hlt : i < q
      · obtain ⟨p, hp⟩ : ∃ p, l[i]? = some p := ⟨_, List.getElem?_eq_getElem (by rw [HQ.out]; exact hlt)⟩
        obtain ⟨x, hx⟩ : ∃ x, ls'[i]? = some x := ⟨_, List.getElem?_eq_getElem (by rw [HO.out.len, HQ.out]; exact hlt)⟩
        obtain ⟨lt, k1, k2, k3, k4⟩ := HO.out.old i x p hx hp (Nat.le_refl i)
        have hpm : p ∈ l := List.mem_of_getElem? hp
        have htn := HT.out p hpm
        have HCt := Lib.hid (cln_Track _ lt _ k1 (by omega))
        have HEn := Lib.hid (fun d a2 n2 c2 hrow => HO.out.enter HP.out hx hp (d := d) (a2 := a2) (n2 := n2) (c2 := c2) hg0 hgd k1 k3 k4 hrow)
        have c3 := HO.out.own.cell pgOk hx (j := 3) (u := .slice x.ta x.tn x.tc) rfl
        have f3 := HO.out.own.froz (i * 4 + 3)
        change (lay w [.inr dd]).cell? ⟨g0, i * 4 + 3, none⟩ = _ at c3
        have x1 : (i : Int) < (q : Int) := by omega
        have x0 : (0 : Int) ≤ (i : Int) := by omega
        have HGt := Lib.hid (HG.out p hpm)
        obtain ⟨nt, hnt⟩ : ∃ nt, p.ts.length = nt := ⟨_, rfl⟩
        have HNt := Lib.hid hnt
        rw [hnt] at htn
        have hltn : lt.length = nt := by rw [k3, hnt]
        have HLt := Lib.hid hltn
        clear k1 k2 k3 k4 hpm hx hp hnt hltn
        generalize x.ta = xa at *
        generalize x.tn = xn at *
        generalize x.tc = xc at *
        go_wp2_with fail
        refine HCt.out.mono ?_
        rintro e w' ⟨v2, d2, rfl, rfl, hO2⟩
        obtain ⟨a2, c2, rfl⟩ := hO2.form
        rw [HLt.out] at hO2 ⊢
        have hE := HEn.out d2 a2 nt c2 hO2
        have f4 : (bw (lay w [.inr dd]) d2).frozen? ⟨g0, i * 4 + 3, none⟩ = false := by rw [bw_frozen _ _ _ _ hgd]; exact f3
        obtain ⟨d3, hd3⟩ := bw_storeG (w := w) (d := ⟨dd.blocks ++ d2.blocks, d2.drawn⟩) (g := g0) (i := i * 4 + 3) (v := .slice a2 nt c2) hg0
        have hww : bw (lay w [.inr dd]) d2 = bw w ⟨dd.blocks ++ d2.blocks, d2.drawn⟩ := bw_bw w dd d2
        have c4 : (bw (lay w [.inr dd]) d2).cell? ⟨g0, i * 4 + 3, none⟩ = some (.slice xa xn xc) := (bw_cell _ _ _ _ hgd).trans c3
        rw [hww] at f4 c4 ⊢
        rw [hww, hd3] at hE
        have HEt := Lib.hid hE
        obtain ⟨y, hy, hyv⟩ := hE.at_
        have c5 := hE.own.cell pgOk hy (j := 3) (u := .slice y.ta y.tn y.tc) rfl
        rw [← hyv] at c5
        change (bw w d3).cell? ⟨g0, i * 4 + 3, none⟩ = _ at c5
        have hgd3 : g0 < (bw w d3).heap.size := Nat.lt_of_lt_of_le hE.gS hE.sS
        have hS0 : w.heap.size ≤ (lay w [.inr dd]).heap.size := bw_le w dd
        clear hE hy hyv
        by_cases hn0 : nt = 0
        · subst hn0
          have HDn := Lib.hid (HEt.out.done (by rw [HNt.out]; exact Nat.le_refl _) hS0)
          go_wp2_with fail
          refine wp_loop_rounds 1 ?_
          rw [rounds_succ]
          go_wp2_with fail
          go_roundw
          case rel => exact ⟨i + 1, d3, by omega, by go_num, rfl, hgd3, _, HDn.out⟩
          case measure => simp [intOf]; omega
        · obtain ⟨g1, c2', hgg, hg1, hg1W, hcap2⟩ := hO2.form1 (by rw [HLt.out]; omega)
          rw [HLt.out] at hgg
          cases hgg
          obtain ⟨LS, hLS⟩ : ∃ LS, ls'.set i { x with ta := some ⟨g1, 0, none⟩, tn := nt, tc := c2 } = LS := ⟨_, rfl⟩
          obtain ⟨S, hSe⟩ : ∃ S, (lay w [.inr dd]).heap.size = S := ⟨_, rfl⟩
          have HE1 : Hid (CpI P w g0 q cap l i S (.slice (some ⟨g1, 0, none⟩) nt c2) p 0 (bw w d3) LS lt) := Lib.hid (by rw [← hLS, ← hSe]; exact HEt.out)
          have hg1d3 : g1 < (bw w d3).heap.size := by rw [← hd3, World.size_setCell, ← hww]; exact hg1W
          rw [hSe] at hS0 hg1
          clear HEt HEn hLS hSe hO2
          go_wp2_with fail
          clear hd3 hww f3 f4 c3 c4 c5
          go_loopw [30] (fun v30 wr => ∃ (k : Nat) (dk : Ext), k ≤ nt ∧ v30 = .int .i64 (k : Int) ∧ wr = lay w [.inr dk] ∧ g0 < (lay w [.inr dk]).heap.size ∧ g1 < (lay w [.inr dk]).heap.size ∧ ∃ lt', CpI P w g0 q cap l i S (.slice (some ⟨g1, 0, none⟩) nt c2) p k (lay w [.inr dk]) LS lt') (fun v30 _ => nt - (intOf v30).toNat)
          case atStart => exact ⟨0, d3, Nat.zero_le _, rfl, rfl, hgd3, hg1d3, lt, HE1.out⟩
          case round =>
            obtain ⟨k, dk, hk, rfl, rfl, gk0, gk1, lt', hI⟩ := hrel
            have HI := Lib.hid hI
            clear hI
            by_cases hkt : k < nt
            · obtain ⟨t, htt⟩ : ∃ t, p.ts[k]? = some t := ⟨_, List.getElem?_eq_getElem (by rw [HNt.out]; exact hkt)⟩
              obtain ⟨z, hzz⟩ : ∃ z, lt'[k]? = some z := ⟨_, List.getElem?_eq_getElem (by rw [HI.out.tlen, HNt.out]; exact hkt)⟩
              obtain ⟨y, hy, hyv⟩ := HI.out.at_
              have c5 := HI.out.own.cell pgOk hy (j := 3) (u := .slice y.ta y.tn y.tc) rfl
              rw [← hyv] at c5
              change (lay w [.inr dk]).cell? ⟨g0, i * 4 + 3, none⟩ = _ at c5
              have c6 : (lay w [.inr dk]).cell? ⟨g1, k * 6 + 1, none⟩ = some (.slice z.ga z.gn z.gc) := HI.out.row.cell tkOk hzz (j := 1) rfl
              have c7 : (lay w [.inr dk]).cell? ⟨g1, k * 6 + 2, none⟩ = some (.slice z.da z.dn z.dc) := HI.out.row.cell tkOk hzz (j := 2) rfl
              have c6q : ∀ d, (lay w [.inr d, .inr dk]).cell? ⟨g1, k * 6 + 1, none⟩ = some (.slice z.ga z.gn z.gc) := fun d => (bw_cell _ d _ _ gk1).trans c6
              have c7q : ∀ d, (lay w [.inr d, .inr dk]).cell? ⟨g1, k * 6 + 2, none⟩ = some (.slice z.da z.dn z.dc) := fun d => (bw_cell _ d _ _ gk1).trans c7
              have fz := HI.out.row.froz (k * 6 + 1)
              have fz2 := HI.out.row.froz (k * 6 + 2)
              obtain ⟨t1, t2⟩ := HI.out.told k z t hzz htt (Nat.le_refl k)
              have hgt := HGt.out t (List.mem_of_getElem? htt)
              have HCA := Lib.hid (fun d => cln_Int _ t.g (bw (lay w [.inr dk]) d) (t1.bw d) (by omega))
              have HCB := Lib.hid (fun x y z => cln_Int _ t.d (lay w [.inr x, .inr y, .inr z, .inr dk]) (lsP_on (A := [.inr x, .inr y, .inr z]) t2) (by omega))
              have HSt := Lib.hid (fun d A nA cA B nB cB hA hB => HI.out.step HP.out hS0 hzz htt hg1 gk1 (d := d) (A := A) (nA := nA) (cA := cA) (B := B) (nB := nB) (cB := cB) hA hB)
              have y1 : (k : Int) < (nt : Int) := by omega
              have y0 : (0 : Int) ≤ (k : Int) := by omega
              clear hy hyv hzz htt t1 t2 hgt
              generalize z.ga = za at *
              generalize z.gn = zn at *
              generalize z.gc = zc at *
              generalize z.da = zda at *
              generalize z.dn = zdn at *
              generalize z.dc = zdc at *
              go_wp2_with fail
              refine region_mixS 14 [(0, 2), (1, 2), (2, 2), (3, 2), (4, 2), (7, 2), (8, 2), (9, 2), (5, 0), (10, 0), (6, 1), (11, 1), (12, 2), (13, 2), (14, 3), (15, 2), (16, 2), (17, 3)] (by kernel_rfl) (by kernel_rfl) (by kernel_rfl) rfl ?_
              repeat (first | (refine wpMS_pure rfl (fun K hK => ?_); go_simp; refine hK _ ?_; clear hK K) | (refine wpMS_quiet rfl (fun K hK => ?_); go_simp; first | (refine hK _ ?_; clear hK K) | (apply Exists.intro; refine ⟨fun _ => ?_, hK _ ?_⟩; (first | fail); clear hK K)))
              refine wpMS_special rfl (fun K hK e1 => ?_)
              go_simp
              refine (HCA.out e1).mono ?_
              rintro e w' ⟨A, nA, cA, dA, rfl, rfl, hA⟩
              have HA1 := Lib.hid hA
              clear hA
              refine ⟨_, rfl, ?_⟩
              refine hK _ _ ⟨_, bw_bw _ _ _⟩ ?_
              clear hK K
              refine wpMS_special rfl (fun K hK e2 => ?_)
              go_simp
              refine (HCB.out e2 dA e1).mono ?_
              rintro e w' ⟨B, nB, cB, dB, rfl, rfl, hB⟩
              refine ⟨_, rfl, ?_⟩
              obtain ⟨dT, hdT⟩ := lay_in w [.inr dB, .inr e2, .inr dA, .inr e1] [.inr dk]
              have HB1 := Lib.hid hB
              clear hB
              refine hK _ _ ⟨dT, hdT⟩ ?_
              clear hK K
              rw [show bw (lay w [.inr e2, .inr dA, .inr e1, .inr dk]) dB = bw (lay w [.inr dk]) dT from hdT]
              repeat (first | (refine wpMS_pure rfl (fun K hK => ?_); go_simp; refine hK _ ?_; clear hK K) | (refine wpMS_quiet rfl (fun K hK => ?_); go_simp; first | (refine hK _ ?_; clear hK K) | (apply Exists.intro; refine ⟨fun _ => ?_, hK _ ?_⟩; (first | fail); clear hK K)))
              refine wpMS_store rfl (fun K hK e3 => ?_)
              obtain ⟨dU, hdU⟩ : ∃ x, bw (bw (lay w [.inr dk]) dT) e3 = bw (lay w [.inr dk]) x := ⟨_, bw_bw _ _ _⟩
              rw [hdU]
              have hdAll : lay w ([.inr e3, .inr dB, .inr e2, .inr dA, .inr e1] ++ [.inr dk]) = bw (lay w [.inr dk]) dU := by rw [← hdU, ← hdT]; rfl
              have hA2 : LsP (fun b => (lay w [.inr dk]).heap.size ≤ b ∧ b < (bw (lay w [.inr dk]) dU).heap.size) (bw (lay w [.inr dk]) dU) (.slice A nA cA) t.g := by
                have h := lsP_on (A := [.inr e3, .inr dB, .inr e2]) (B := [.inr dA, .inr e1, .inr dk]) HA1.out
                have hz : (lay w [.inr dA, .inr e1, .inr dk]).heap.size ≤ (bw (lay w [.inr dk]) dU).heap.size := by rw [← hdAll]; exact (lay_belowG (A := [.inr e3, .inr dB, .inr e2]) (B := [.inr dA, .inr e1, .inr dk])).size
                rw [← hdAll]
                rw [← hdAll] at hz
                exact h.mono fun b hb => ⟨Nat.le_trans (bw_le _ e1) hb.1, Nat.lt_of_lt_of_le hb.2 hz⟩
              have hB2 : LsP (fun b => (lay w [.inr dk]).heap.size ≤ b ∧ b < (bw (lay w [.inr dk]) dU).heap.size) (bw (lay w [.inr dk]) dU) (.slice B nB cB) t.d := by
                have h := lsP_on (A := [.inr e3]) (B := [.inr dB, .inr e2, .inr dA, .inr e1, .inr dk]) HB1.out
                have hz : (lay w [.inr dB, .inr e2, .inr dA, .inr e1, .inr dk]).heap.size ≤ (bw (lay w [.inr dk]) dU).heap.size := by rw [← hdAll]; exact (lay_belowG (A := [.inr e3]) (B := [.inr dB, .inr e2, .inr dA, .inr e1, .inr dk])).size
                have hz2 : (lay w [.inr dk]).heap.size ≤ (lay w [.inr e2, .inr dA, .inr e1, .inr dk]).heap.size := (lay_belowG (A := [.inr e2, .inr dA, .inr e1]) (B := [.inr dk])).size
                rw [← hdAll]
                rw [← hdAll] at hz
                exact h.mono fun b hb => ⟨Nat.le_trans hz2 hb.1, Nat.lt_of_lt_of_le hb.2 hz⟩
              have HFin := Lib.hid (HSt.out dU A nA cA B nB cB hA2 hB2)
              clear hA2 hB2 hdAll
              have f6 : (lay w [.inr dU, .inr dk]).frozen? ⟨g1, k * 6 + 1, none⟩ = false := (bw_frozen _ dU _ _ gk1).trans fz
              have f7 : (lay w [.inr dU, .inr dk]).frozen? ⟨g1, k * 6 + 2, none⟩ = false := (bw_frozen _ dU _ _ gk1).trans fz2
              have c6u := c6q dU
              have c7u := c7q dU
              go_simp
              refine hK _ _ ?_
              clear hK K
              repeat (first | (refine wpMS_pure rfl (fun K hK => ?_); go_simp; refine hK _ ?_; clear hK K) | (refine wpMS_quiet rfl (fun K hK => ?_); go_simp; first | (refine hK _ ?_; clear hK K) | (apply Exists.intro; refine ⟨fun _ => ?_, hK _ ?_⟩; (first | fail); clear hK K)))
              refine wpMS_store rfl (fun K hK e4 => ?_)
              have gU : g1 < ((lay w [.inr dU, .inr dk]).setCell ⟨g1, k * 6 + 1, none⟩ (.slice A nA cA)).heap.size := by rw [World.size_setCell]; exact Nat.lt_of_lt_of_le gk1 (bw_le _ dU)
              obtain ⟨dY, hdY⟩ : ∃ x, bw ((lay w [.inr dU, .inr dk]).setCell ⟨g1, k * 6 + 1, none⟩ (.slice A nA cA)) e4 = lay w [.inr x] := by
                obtain ⟨x, hx⟩ := bw_storeG (w := w) (d := ⟨dk.blocks ++ dU.blocks, dU.drawn⟩) (g := g1) (i := k * 6 + 1) (v := .slice A nA cA) (Nat.le_trans hS0 hg1)
                rw [show lay w [.inr dU, .inr dk] = bw w ⟨dk.blocks ++ dU.blocks, dU.drawn⟩ from bw_bw w dk dU, hx]
                exact ⟨_, bw_bw _ _ _⟩
              have c8 : (lay w [.inr dY]).cell? ⟨g1, k * 6 + 2, none⟩ = some (.slice zda zdn zdc) := by
                rw [← hdY, bw_cell _ _ _ _ gU]
                refine (World.cell?_setCell_other _ _ _ _ ?_).trans c7u
                intro h
                have : k * 6 + 1 = k * 6 + 2 := congrArg Addr.off h
                omega
              have f8 : (lay w [.inr dY]).frozen? ⟨g1, k * 6 + 2, none⟩ = false := by
                rw [← hdY, bw_frozen _ _ _ _ gU, World.frozen?_setCell]
                exact f7
              rw [hdY]
              go_simp
              refine hK _ _ ?_
              clear hK K
              refine wpMS_nil (fun e5 => ?_)
              have gY : g1 < (lay w [.inr dY]).heap.size := by rw [← hdY]; exact Nat.lt_of_lt_of_le gU (bw_le _ e4)
              have gY0 : g0 < (lay w [.inr dY]).heap.size := by rw [← hdY]; refine Nat.lt_of_lt_of_le ?_ (bw_le _ e4); rw [World.size_setCell]; exact Nat.lt_of_lt_of_le gk0 (bw_le _ dU)
              have hFin2 : ∃ LT, CpI P w g0 q cap l i S (.slice (some ⟨g1, 0, none⟩) nt c2) p (k + 1) (bw ((lay w [.inr dY]).setCell ⟨g1, k * 6 + 2, none⟩ (.slice B nB cB)) e5) LS LT := by
                rw [← hdY, bw_setCell _ _ _ _ _ gU]
                exact ⟨_, (HFin.out.bw e4).bw e5⟩
              obtain ⟨dF, hdF⟩ : ∃ x, bw ((lay w [.inr dY]).setCell ⟨g1, k * 6 + 2, none⟩ (.slice B nB cB)) e5 = lay w [.inr x] := by
                obtain ⟨x, hx⟩ := bw_storeG (w := w) (d := dY) (g := g1) (i := k * 6 + 2) (v := .slice B nB cB) (Nat.le_trans hS0 hg1)
                rw [show lay w [.inr dY] = bw w dY from rfl, hx]
                exact ⟨_, bw_bw _ _ _⟩
              have gF : g1 < (lay w [.inr dF]).heap.size := by rw [← hdF]; refine Nat.lt_of_lt_of_le ?_ (bw_le _ e5); rw [World.size_setCell]; exact gY
              have gF0 : g0 < (lay w [.inr dF]).heap.size := by rw [← hdF]; refine Nat.lt_of_lt_of_le ?_ (bw_le _ e5); rw [World.size_setCell]; exact gY0
              rw [hdF] at hFin2 ⊢
              have HFin3 := Lib.hid hFin2
              clear hFin2 HFin
              go_wp2_with fail
              go_roundw
              case rel => exact ⟨k + 1, dF, by omega, by go_num, rfl, gF0, gF, HFin3.out⟩
              case measure => simp [intOf]; omega
            · obtain rfl : k = nt := by omega
              have HDn := Lib.hid (HI.out.done (by rw [HNt.out]; exact Nat.le_refl _) hS0)
              have y1 : ¬ (k : Int) < (k : Int) := by omega
              go_wp2_with fail
              go_roundw
              case rel => exact ⟨i + 1, dk, by omega, by go_num, rfl, gk0, _, HDn.out⟩
              case measure => simp [intOf]; omega
      · obtain rfl : i = q := by omega
        have HB := Lib.hid (HO.out.done (by rw [HQ.out]; exact Nat.le_refl _) hg0)
        have x1 : ¬ (i : Int) < (i : Int) := by omega
        go_wp2_with fail
        go_ret
        exact ⟨some ⟨g0, 0, none⟩, cap, dd, by rw [HQ.out]; rfl, rfl, by rw [HQ.out]; exact HB.out⟩
end Go.Proofs.YthjfadfebhjhbaaGreat
/- almanac.New in full: the ways out ahead of the loop. -/
namespace Go.Proofs.YthjfadfebhjhbaaGreat
open Go.RowKit Go.Shelf

noncomputable def badP (l : List PgV) : Bool := l.any fun p => !pgB p
set_option maxHeartbeats 1000000 in
theorem alm_New_full {P : Nat → Prop} (vp vs : Value) (lp : List PgV) (w : World) (hp : PgsD P w vp lp) (h : 40 < lp.length) :
    Calls Tryz.prog 41 #[vp, vs] w fun e w' => e = .returned (.tuple #[.pointer none, .int .i64 4]) ∧ ∃ d, w' = bw w d := by
  obtain ⟨a, c, rfl⟩ := pgs_form hp
  obtain ⟨q, hq⟩ : ∃ q, lp.length = q := ⟨_, rfl⟩
  rw [hq] at h ⊢
  have x1 : (40 : Int) < (q : Int) := by omega
  clear hp hq
  refine lay_start ?_
  go_enter Tryz.func41, Tryz.ntmps41
  go_wp2_with fail
  all_goals exact bodyPost_ret (v := .tuple #[.pointer none, .int .i64 4]) (by simp [results, Tryz.results41, go_sem]) rfl ⟨rfl, lay_ex _ _⟩
set_option maxHeartbeats 1000000 in
theorem alm_New_arg {P : Nat → Prop} (vp vs : Value) (lp : List PgV) (ls : List StarV) (w : World) (hp : PgsD P w vp lp) (hv : SlG stR w vs ls) (h : lp.length ≤ 40) (hb : badP lp = true ∨ catB ls = false) :
    Calls Tryz.prog 41 #[vp, vs] w fun e w' => e = .returned (.tuple #[.pointer none, .int .i64 1]) ∧ ∃ d, w' = bw w d := by
  have HC := Lib.hid (fun L => cat_Valid vs ls (lay w L) (hv.lay L))
  have HB := Lib.hid (fun L => pgs_bad vp lp (lay w L) (hp.lay L))
  change Hid (∀ L, Calls _ _ _ _ fun e w' => e = .returned (.bool (badP lp)) ∧ _) at HB
  obtain ⟨a, c, rfl⟩ := pgs_form hp
  obtain ⟨q, hq⟩ : ∃ q, lp.length = q := ⟨_, rfl⟩
  rw [hq] at h HB ⊢
  have x1 : ¬ (40 : Int) < (q : Int) := by omega
  clear hp hq hv
  generalize badP lp = r at *
  generalize catB ls = y at *
  cases r
  · obtain rfl : y = false := by simpa using hb
    clear hb
    refine lay_start ?_
    go_enter Tryz.func41, Tryz.ntmps41
    go_wp2_with (first | (go_at_call 79; refine (HB.out _).mono ?_; rintro e w' ⟨rfl, d, rfl⟩) | (go_at_call 87; refine (HC.out _).mono ?_; rintro e w' ⟨rfl, d, rfl⟩))
    all_goals exact bodyPost_ret (v := .tuple #[.pointer none, .int .i64 1]) (by simp [results, Tryz.results41, go_sem]) rfl ⟨rfl, lay_ex _ _⟩
  · clear hb
    refine lay_start ?_
    go_enter Tryz.func41, Tryz.ntmps41
    go_wp2_with (first | (go_at_call 79; refine (HB.out _).mono ?_; rintro e w' ⟨rfl, d, rfl⟩) | (go_at_call 87; refine (HC.out _).mono ?_; rintro e w' ⟨rfl, d, rfl⟩))
    all_goals exact bodyPost_ret (v := .tuple #[.pointer none, .int .i64 1]) (by simp [results, Tryz.results41, go_sem]) rfl ⟨rfl, lay_ex _ _⟩
def twS (T : List ByteArray) (s : ByteArray) : Bool := isA s || Lib.containsS T s
set_option maxHeartbeats 1000000 in
theorem alm_New2 (x : StarV) (T : List ByteArray) (vt : Value) (b : Nat) (w : World) (hb : b < w.heap.size) (hc : w.cell? ⟨b, 0, none⟩ = some vt) (hT : SlG strR w vt T) :
    Calls Tryz.prog 93 #[.agg #[.string x.s, .int .i64 x.sha, .int .i64 x.dec, .int .i64 x.mag], .pointer (some ⟨b, 0, none⟩)] w fun e w' => e = .returned (.bool (twS T x.s)) ∧ ∃ d, w' = bw w d := by
  obtain ⟨xs, x1, x2, x3⟩ := x
  dsimp only
  have HT := Lib.hid (fun L => str_Contains vt T xs (lay w L) (hT.lay L))
  have ho : isA xs = (xs.toList == [65, 114, 105, 101, 115]) := rfl
  unfold twS
  obtain ⟨ta, tc, rfl⟩ := hT.form
  generalize T.length = n at *
  generalize Lib.containsS T xs = r at *
  clear hT
  cases h : isA xs
  all_goals
    rw [h] at ho
    have t1 := ho.symm
    clear ho h
    refine lay_start ?_
    go_enter Tryz.func93, Tryz.ntmps93
    go_wp2_with (go_at_call 92; refine (HT.out _).mono ?_; rintro e w' ⟨rfl, rfl⟩)
    go_ret
    exact ⟨rfl, lay_ex _ _⟩
end Go.Proofs.YthjfadfebhjhbaaGreat
/- almanac.New in full: the book while its days are put in. -/
namespace Go.Proofs.YthjfadfebhjhbaaGreat
open Go.RowKit Go.Shelf

def dysL (l : List PgV) : List Int := l.map fun p => numI p.y p.m p.d
def OrdK (l : List PgV) (k : Nat) : Prop := ∀ (i : Nat) p q, i + 1 < k → l[i]? = some p → l[i + 1]? = some q → numI p.y p.m p.d < numI q.y q.m q.d
structure NwI (w : World) (bk H : Nat) (vp vs vd : Value) (lp : List PgV) (ls : List StarV) (k : Nat) (W : World) (d : Ext) : Prop where
  size : W.heap.size = H
  below : Below w.heap.size w W
  bk0 : w.heap.size ≤ bk
  bk1 : bk < H
  c0 : W.cell? ⟨bk, 0, none⟩ = some vd
  c1 : W.cell? ⟨bk, 1, none⟩ = some vp
  c2 : W.cell? ⟨bk, 2, none⟩ = some vs
  fz : W.frozen? ⟨bk, 0, none⟩ = false
  row : Ow (bw W d) H vd ((dysL lp).take k)
  pgs : PgsD (fun b => w.heap.size ≤ b ∧ b ≠ bk) W vp lp
  sts : SlG stR W vs ls
  stb : Blk (fun b => w.heap.size ≤ b ∧ b ≠ bk) vs
theorem NwI.step {w : World} {bk H : Nat} {vp vs vd : Value} {lp : List PgV} {ls : List StarV} {k : Nat} {W : World} {d : Ext} (h : NwI w bk H vp vs vd lp ls k W d) {vd' : Value} {d' : Ext} {k' : Nat} (hr : Ow (bw W d') H vd' ((dysL lp).take k')) :
    NwI w bk H vp vs vd' lp ls k' (W.setCell ⟨bk, 0, none⟩ vd') d' := by
  have hb : bk < W.heap.size := by rw [h.size]; exact h.bk1
  have ho : ∀ b, (w.heap.size ≤ b ∧ b ≠ bk) → b < W.heap.size → (W.setCell ⟨bk, 0, none⟩ vd').heap[b]? = W.heap[b]? := fun b hb _ => heap_setCell_other _ ⟨bk, 0, none⟩ b _ hb.2
  refine ⟨by rw [World.size_setCell]; exact h.size, h.below.setCell h.bk0 _, h.bk0, h.bk1, World.cell?_setCell_same _ _ _ h.c0, ?_, ?_, ?_, ?_, ?_, ?_, h.stb⟩
  · exact (World.cell?_setCell_other _ _ _ _ (by intro e; cases e)).trans h.c1
  · exact (World.cell?_setCell_other _ _ _ _ (by intro e; cases e)).trans h.c2
  · rw [World.frozen?_setCell]; exact h.fz
  · rw [← bw_setCell W d' bk 0 vd' hb]
    exact ⟨ownsRow_setCell_below hr.1 h.bk1 _, hr.2⟩
  · exact h.pgs.keep (by rw [World.size_setCell]; exact Nat.le_refl _) ho
  · exact slG_keep h.sts h.stb (by rw [World.size_setCell]; exact Nat.le_refl _) ho
structure BkA (w : World) (bk : Nat) (lp : List PgV) (ls : List StarV) (W : World) : Prop where
  bk0 : w.heap.size ≤ bk
  ex : ∃ vd vp vs, Bk W bk vd vp vs ∧ Sl W vd (dysL lp) ∧ Blk (fun b => w.heap.size ≤ b ∧ b ≠ bk) vd ∧ PgsD (fun b => w.heap.size ≤ b ∧ b ≠ bk) W vp lp ∧ SlG stR W vs ls ∧ Blk (fun b => w.heap.size ≤ b ∧ b ≠ bk) vs
def NewPost (w : World) (lp : List PgV) (ls : List StarV) (e : Ending) (w' : World) : Prop :=
  ∃ bk d, e = .returned (.tuple #[.pointer (some ⟨bk, 0, none⟩), .int .i64 0]) ∧ w' = bw w d ∧ BkA w bk lp ls (bw w d)
theorem ow_blk {W : World} {H : Nat} {v : Value} {l : List Int} (h : Ow W H v l) : Blk (fun b => H ≤ b) v := fun b o n c e hn => by
  rcases h.1.2 with ⟨h1, _⟩ | ⟨g, cap, cur, h1, h2, _⟩
  · rw [h1] at e; cases e
  · rw [h1] at e; cases e; exact h2
end Go.Proofs.YthjfadfebhjhbaaGreat
/- The blocks that a reading met lie in the world. -/
namespace Go.Proofs.YthjfadfebhjhbaaGreat
open Go.RowKit

theorem LsP.bound {P : Nat → Prop} {w : World} {v : Value} {l : List Int} (h : LsP P w v l) : LsP (fun b => P b ∧ b < w.heap.size) w v l := by
  refine ⟨h.1, fun b o n c e hn => ⟨h.2 b o n c e hn, ?_⟩⟩
  obtain ⟨a, c', e1, _, _, h3⟩ := h.1
  obtain ⟨rfl, rfl, rfl⟩ := Value.slice.inj (e.symm.trans e1)
  obtain ⟨b', o', e2, h5, _⟩ := h3 (by intro h; rw [h] at hn; exact Nat.lt_irrefl 0 hn)
  cases e2; exact h5
theorem slG_bound {α : Type} {R : RecT α} {P : Nat → Prop} {w : World} {v : Value} {l : List α} (h : SlG R w v l) (hb : Blk P v) : Blk (fun b => P b ∧ b < w.heap.size) v := fun b o n c e hn => by
  refine ⟨hb b o n c e hn, ?_⟩
  obtain ⟨a, c', e1, _, _, h3⟩ := h
  obtain ⟨rfl, rfl, rfl⟩ := Value.slice.inj (e.symm.trans e1)
  obtain ⟨b', o', e2, h5, _⟩ := h3 (by intro h; rw [h] at hn; exact Nat.lt_irrefl 0 hn)
  cases e2; exact h5
theorem TkD.bound {P : Nat → Prop} {w : World} {x : TkW} {t : TrkV} (h : TkD P w x t) : TkD (fun b => P b ∧ b < w.heap.size) w x t := ⟨h.s, h.g.bound, h.d.bound, h.p, h.q, h.r⟩
theorem TksD.bound {P : Nat → Prop} {w : World} {v : Value} {l : List TrkV} (h : TksD P w v l) : TksD (fun b => P b ∧ b < w.heap.size) w v l := by
  obtain ⟨ls, h1, h2, h3, h4⟩ := h
  exact ⟨ls, h1, slG_bound h1 h2, h3, fun i x t a b => (h4 i x t a b).bound⟩
theorem PgD.bound {P : Nat → Prop} {w : World} {x : PgW} {t : PgV} (h : PgD P w x t) : PgD (fun b => P b ∧ b < w.heap.size) w x t := ⟨h.y, h.m, h.d, h.ts.bound⟩
theorem PgsD.bound {P : Nat → Prop} {w : World} {v : Value} {l : List PgV} (h : PgsD P w v l) : PgsD (fun b => P b ∧ b < w.heap.size) w v l := by
  obtain ⟨ls, h1, h2, h3, h4⟩ := h
  exact ⟨ls, h1, slG_bound h1 h2, h3, fun i x t a b => (h4 i x t a b).bound⟩
theorem owG_blk {α : Type} {R : RecT α} {W : World} {H : Nat} {v : Value} {l : List α} (h : OwG R W H v l) : Blk (fun b => H ≤ b) v := fun b o n c e hn => by
  rcases h.1.2 with ⟨h1, _⟩ | ⟨g, cap, cur, h1, h2, _⟩
  · rw [h1] at e; cases e
  · rw [h1] at e; cases e; exact h2
theorem PgsD.lay_on {P : Nat → Prop} {w : World} {v : Value} {l : List PgV} {A B : List (Obj ⊕ Ext)} (h : PgsD P (Go.Proofs.YthjfadfebhjhbaaGreat.lay w B) v l) : PgsD P (Go.Proofs.YthjfadfebhjhbaaGreat.lay w (A ++ B)) v l := h.keep lay_belowG.size fun b _ hb => lay_belowG.block b hb
theorem nwI_new (w : World) (L4 L3 : List (Obj ⊕ Ext)) (t : TypeId) (vp vs : Value) (lp : List PgV) (ls : List StarV)
    (hp : PgsD (fun b => w.heap.size ≤ b) (lay w L3) vp lp) (hs : OwG stR (lay w (L4 ++ L3)) w.heap.size vs ls) :
    NwI w (posn w (shp (L4 ++ L3))) (lay w (.inl (.cells #[.slice none 0 0, vp, vs] t (0, 0)) :: (L4 ++ L3))).heap.size vp vs (.slice none 0 0) lp ls 0 (lay w (.inl (.cells #[.slice none 0 0, vp, vs] t (0, 0)) :: (L4 ++ L3))) (noExt (lay w (.inl (.cells #[.slice none 0 0, vp, vs] t (0, 0)) :: (L4 ++ L3)))) := by
  obtain ⟨b0, b1, b2, b3⟩ := bk_new0 w (L4 ++ L3) t (.slice none 0 0) vp vs
  have hz : posn w (shp (L4 ++ L3)) = (lay w (L4 ++ L3)).heap.size := (lay_size w (L4 ++ L3)).symm
  have hle : w.heap.size ≤ (lay w (L4 ++ L3)).heap.size := (lay_extends w _).size
  have h3 : (lay w L3).heap.size ≤ (lay w (L4 ++ L3)).heap.size := (lay_belowG (A := L4) (B := L3)).size
  refine ⟨rfl, lay_extends w _, by rw [hz]; exact hle, b0, b1, b2, b3, ?_, ?_, ?_, ?_, ?_⟩
  · have h := lay_get w (.inl (.cells #[.slice none 0 0, vp, vs] t (0, 0)) :: (L4 ++ L3)) 0 _ rfl
    unfold World.frozen?
    rw [show posn w (shp (L4 ++ L3)) = posn w ((shp (.inl (.cells #[.slice none 0 0, vp, vs] t (0, 0)) :: (L4 ++ L3))).drop (0 + 1)) from rfl, h]
    rfl
  · rw [bw_noExt]; exact Ow.nil _ _
  · have := (hp.bound.lay_on (A := .inl (.cells #[.slice none 0 0, vp, vs] t (0, 0)) :: L4))
    exact this.mono fun b hb => ⟨hb.1, by rw [hz]; omega⟩
  · exact (hs.sl stOk).lay [.inl _]
  · exact (slG_bound (hs.sl stOk) (owG_blk hs)).mono fun b hb => ⟨hb.1, by rw [hz]; omega⟩
end Go.Proofs.YthjfadfebhjhbaaGreat
/- Opening pages off an argument: tracks, pages, rows of both, each with what lies in memory. -/
namespace Go.Proofs.YthjfadfebhjhbaaGreat
open Go.RowKit

section
variable {H : Type} {enc : TypeId × Value → H} {P : Program}
theorem blk_true (v : Value) : Blk (fun _ => True) v := fun _ _ _ _ _ _ => trivial
theorem list_of_fn {α β : Type} (ls : List α) (Q : α → β → Prop) (h : ∀ z ∈ ls, ∃ t, Q z t) : ∃ l : List β, ls.length = l.length ∧ ∀ (i : Nat) x t, ls[i]? = some x → l[i]? = some t → Q x t := by
  induction ls with
  | nil => exact ⟨[], rfl, fun i x t hx => by simp at hx⟩
  | cons z ls ih =>
    obtain ⟨t, ht⟩ := h z (List.mem_cons_self ..)
    obtain ⟨l, hl, hq⟩ := ih fun y hy => h y (List.mem_cons_of_mem _ hy)
    refine ⟨t :: l, by simp [hl], fun i x u hx hu => ?_⟩
    cases i with
    | zero => simp only [List.getElem?_cons_zero, Option.some.injEq] at hx hu; subst hx hu; exact ht
    | succ i => rw [List.getElem?_cons_succ] at hx hu; exact hq i x u hx hu
open Go.ChangeShapes Go.WideShapes Go.Deep in
theorem tk_elem {w : World} {t ts ti tt te : TypeId} {f0 f1 f2 f3 f4 f5 : Field} (hs : P.underlying t = some (.struct #[f0, f1, f2, f3, f4, f5])) (hone : oneCellFields P #[f0, f1, f2, f3, f4, f5] = true)
    (ht : f0.type = ts ∧ f1.type = tt ∧ f2.type = tt ∧ f3.type = ti ∧ f4.type = ti ∧ f5.type = ti)
    (hS : P.underlying ts = some .string) (hI : P.underlying ti = some (.int .i64)) (hT : P.underlying tt = some (.slice te)) (hE : P.underlying te = some (.int .i64)) (hc1 : P.cellsOf te = 1)
    (n : Nat) (cs : List Value) (y : DataW H × List MemPlace) (hf : DataW.trod enc P w 0 (fun _ => true) true n t cs = some y) (hl : cs.length = 6) : ∃ z, cs = tkR.enc z ∧ tkR.wf z ∧ ∃ t, TkD (fun _ => True) w z t := by
  match cs, hl with
  | [c0, c1, c2, c3, c4, c5], _ =>
    obtain ⟨xs, m, _, hx, _, hlen, hg⟩ := DataW.trod_struct hs hf
    obtain ⟨o0, k0⟩ := hone_of hone 0 f0 rfl
    obtain ⟨o1, k1⟩ := hone_of hone 1 f1 rfl
    obtain ⟨o2, k2⟩ := hone_of hone 2 f2 rfl
    obtain ⟨o3, k3⟩ := hone_of hone 3 f3 rfl
    obtain ⟨o4, k4⟩ := hone_of hone 4 f4 rfl
    obtain ⟨o5, k5⟩ := hone_of hone 5 f5 rfl
    match xs, hlen with
    | [y0, y1, y2, y3, y4, y5], _ =>
      have e0 : DataW.trod enc P w 0 (fun _ => true) true m f0.type [c0] = some y0 := by simpa [Value.cells, o0, k0] using hg 0 f0 rfl
      have e1 : DataW.trod enc P w 0 (fun _ => true) true m f1.type [c1] = some y1 := by simpa [Value.cells, o1, k1] using hg 1 f1 rfl
      have e2 : DataW.trod enc P w 0 (fun _ => true) true m f2.type [c2] = some y2 := by simpa [Value.cells, o2, k2] using hg 2 f2 rfl
      have e3 : DataW.trod enc P w 0 (fun _ => true) true m f3.type [c3] = some y3 := by simpa [Value.cells, o3, k3] using hg 3 f3 rfl
      have e4 : DataW.trod enc P w 0 (fun _ => true) true m f4.type [c4] = some y4 := by simpa [Value.cells, o4, k4] using hg 4 f4 rfl
      have e5 : DataW.trod enc P w 0 (fun _ => true) true m f5.type [c5] = some y5 := by simpa [Value.cells, o5, k5] using hg 5 f5 rfl
      obtain ⟨t0, t1, t2, t3, t4, t5⟩ := ht
      rw [t0] at e0; rw [t1] at e1; rw [t2] at e2; rw [t3] at e3; rw [t4] at e4; rw [t5] at e5
      obtain ⟨s, q0, _, ws⟩ := DataW.trod_string hS e0
      obtain ⟨lg, hlg⟩ := sl_of hT hE hc1 e1
      obtain ⟨ld, hld⟩ := sl_of hT hE hc1 e2
      obtain ⟨x3, q3, _, w3⟩ := DataW.trod_int hI e3
      obtain ⟨x4, q4, _, w4⟩ := DataW.trod_int hI e4
      obtain ⟨x5, q5, _, w5⟩ := DataW.trod_int hI e5
      simp only [List.cons.injEq, and_true] at q0 q3 q4 q5
      subst q0 q3 q4 q5
      obtain ⟨ga, gc, rfl, g2⟩ := id hlg
      obtain ⟨da, dc, rfl, d2⟩ := id hld
      exact ⟨⟨s, ga, lg.length, gc, da, ld.length, dc, x3, x4, x5⟩, rfl, ⟨ws, w3, w4, w5⟩, ⟨s, lg, ld, x3, x4, x5⟩, ⟨rfl, ⟨hlg, blk_true _⟩, ⟨hld, blk_true _⟩, rfl, rfl, rfl⟩⟩
open Go.ChangeShapes Go.WideShapes Go.Deep in
theorem pg_elem {w : World} {t td tt ti : TypeId} {f0 f1 g0 g1 g2 : Field} (hs : P.underlying t = some (.struct #[f0, f1])) (h0 : f0.type = td ∧ f0.offset = 0 ∧ P.cellsOf td = 3) (h1 : f1.type = tt ∧ f1.offset = 3 ∧ P.cellsOf tt = 1)
    (hd : P.underlying td = some (.struct #[g0, g1, g2])) (hone : oneCellFields P #[g0, g1, g2] = true) (hdt : g0.type = ti ∧ g1.type = ti ∧ g2.type = ti) (hI : P.underlying ti = some (.int .i64))
    (hts : ∀ n v y, DataW.trod enc P w 0 (fun _ => true) true n tt [v] = some y → ∃ l, TksD (fun _ => True) w v l)
    (n : Nat) (cs : List Value) (y : DataW H × List MemPlace) (hf : DataW.trod enc P w 0 (fun _ => true) true n t cs = some y) (hl : cs.length = 4) : ∃ z, cs = pgR.enc z ∧ pgR.wf z ∧ ∃ p, PgD (fun _ => True) w z p := by
  match cs, hl with
  | [c0, c1, c2, c3], _ =>
    obtain ⟨y0, y1, m, hx, _, e0, e1⟩ := trod_struct2 hs hf
    rw [h0.1, h0.2.1, h0.2.2] at e0
    rw [h1.1, h1.2.1, h1.2.2] at e1
    simp only [List.drop_zero, List.take_succ_cons, List.take_zero] at e0
    simp only [List.drop_succ_cons, List.drop_zero, List.take_succ_cons, List.take_zero] at e1
    obtain ⟨l, hl⟩ := hts _ _ _ e1
    obtain ⟨z0, z1, z2, m2, hx2, _, k0, k1, k2⟩ := trod_struct3 hd e0
    obtain ⟨o0, q0⟩ := hone_of hone 0 g0 rfl
    obtain ⟨o1, q1⟩ := hone_of hone 1 g1 rfl
    obtain ⟨o2, q2⟩ := hone_of hone 2 g2 rfl
    rw [o0, q0, hdt.1] at k0
    rw [o1, q1, hdt.2.1] at k1
    rw [o2, q2, hdt.2.2] at k2
    simp only [List.drop_zero, List.drop_succ_cons, List.take_succ_cons, List.take_zero] at k0 k1 k2
    obtain ⟨x0, u0, _, w0⟩ := DataW.trod_int hI k0
    obtain ⟨x1, u1, _, w1⟩ := DataW.trod_int hI k1
    obtain ⟨x2, u2, _, w2⟩ := DataW.trod_int hI k2
    simp only [List.cons.injEq, and_true] at u0 u1 u2
    subst u0 u1 u2
    obtain ⟨ls, hls⟩ := id hl
    obtain ⟨a, c, rfl⟩ := hls.1.form
    exact ⟨⟨x0, x1, x2, a, ls.length, c⟩, rfl, ⟨w0, w1, w2⟩, ⟨x0, x1, x2, l⟩, ⟨rfl, rfl, rfl, hl⟩⟩
end
theorem tk_elemI {H : Type} {enc : TypeId × Value → H} {w : World} (n : Nat) (cs : List Value) (y : DataW H × List MemPlace) (hf : DataW.trod enc Tryz.prog w 0 (fun _ => true) true n 126 cs = some y) (hl : cs.length = 6) : ∃ z, cs = tkR.enc z ∧ tkR.wf z ∧ ∃ t, TkD (fun _ => True) w z t :=
  tk_elem (ts := 9) (ti := 3) (tt := 96) (te := 3) Tryz.underlying126 (by kernel_rfl) ⟨rfl, rfl, rfl, rfl, rfl, rfl⟩ Tryz.underlying9 Tryz.underlying3 Tryz.underlying96 Tryz.underlying3 (by kernel_rfl) n cs y hf hl
theorem tks_elemI {H : Type} {enc : TypeId × Value → H} {w : World} (n : Nat) (v : Value) (y : DataW H × List MemPlace) (hf : DataW.trod enc Tryz.prog w 0 (fun _ => true) true n 136 [v] = some y) : ∃ l, TksD (fun _ => True) w v l := by
  have hC : Tryz.prog.cellsOf tkR.E = tkR.k := by kernel_rfl
  obtain ⟨ls, h1, h2⟩ := slG_of (Q := fun z => ∃ t, TkD (fun _ => True) w z t) tkOk tkOk.und hC (fun n cs y h hl => tk_elemI n cs y h hl) hf
  obtain ⟨l, hl, hq⟩ := list_of_fn ls _ h2
  exact ⟨l, ls, h1, blk_true _, hl, hq⟩
theorem pg_elemI {H : Type} {enc : TypeId × Value → H} {w : World} (n : Nat) (cs : List Value) (y : DataW H × List MemPlace) (hf : DataW.trod enc Tryz.prog w 0 (fun _ => true) true n 138 cs = some y) (hl : cs.length = 4) : ∃ z, cs = pgR.enc z ∧ pgR.wf z ∧ ∃ t, PgD (fun _ => True) w z t :=
  pg_elem (td := 135) (tt := 136) (ti := 3) Tryz.underlying138 ⟨rfl, rfl, by kernel_rfl⟩ ⟨rfl, rfl, by kernel_rfl⟩ Tryz.underlying135 (by kernel_rfl) ⟨rfl, rfl, rfl⟩ Tryz.underlying3 (fun n v y h => tks_elemI n v y h) n cs y hf hl
def InB (w : World) (b : Nat) : Prop := b < w.heap.size
set_option maxRecDepth 100000 in
theorem pgs_arg {H : Type} {enc : TypeId × Value → H} {w : World} {r : Reach} {b0 : Nat} {v : Value} {d : DataW H} {ps : List MemPlace} (hv : Value.okWide Tryz.prog w r b0 22 v) (h : DataW.Trod enc Tryz.prog w 0 (fun _ => true) true 22 v d ps) : ∃ l, PgsD (InB w) w v l := by
  have hC : Tryz.prog.cellsOf pgR.E = pgR.k := by kernel_rfl
  obtain ⟨ls, h1, h2⟩ := slG_arg (Q := fun z => ∃ t, PgD (fun _ => True) w z t) pgOk pgOk.und hC (fun n cs y h hl => pg_elemI n cs y h hl) hv h
  obtain ⟨l, hl, hq⟩ := list_of_fn ls _ h2
  have : PgsD (fun _ => True) w v l := ⟨ls, h1, blk_true _, hl, hq⟩
  exact ⟨l, this.bound.mono fun b hb => hb.2⟩
theorem open_strP {H : Type} {enc : TypeId × Value → H} {P : Program} {t : TypeId} {w : World} {r : Reach} {b0 : Nat} {v : Value} {d : DataW H} {ps : List MemPlace} (ht : P.underlying t = some .string) (hv : Value.okWide P w r b0 t v) (h : DataW.Trod enc P w 0 (fun _ => true) true t v d ps) : ∃ s : ByteArray, v = .string s ∧ s.size ≤ maxLen := by
  obtain ⟨s, rfl⟩ := Go.WideShapes.okWide_string ht hv
  obtain ⟨fuel, hf⟩ := h
  obtain ⟨s', e, _, hs⟩ := DataW.trod_string ht (by simpa [Value.cells] using hf)
  simp only [List.cons.injEq, Value.string.injEq, and_true] at e
  subst e
  exact ⟨s, rfl, hs⟩
end Go.Proofs.YthjfadfebhjhbaaGreat
/- almanac.New in full. -/
namespace Go.Proofs.YthjfadfebhjhbaaGreat
open Go.RowKit Go.Shelf

noncomputable def twB (lp : List PgV) (ls : List StarV) : Bool := Lib.containsS (tkL lp) ariesS || ls.any (fun x => twS (tkL lp) x.s)
def NewAll (w : World) (lp : List PgV) (ls : List StarV) (e : Ending) (w' : World) : Prop :=
  (OrdK lp lp.length ∧ twB lp ls = false ∧ NewPost w lp ls e w') ∨
  (OrdK lp lp.length ∧ twB lp ls = true ∧ e = .returned (.tuple #[.pointer none, .int .i64 10]) ∧ ∃ d, w' = bw w d) ∨
  (¬ OrdK lp lp.length ∧ e = .returned (.tuple #[.pointer none, .int .i64 17]) ∧ ∃ d, w' = bw w d)
theorem bad_all {lp : List PgV} (h : badP lp = false) : ∀ p ∈ lp, PgOk p := fun p hp => by
  unfold badP at h
  rw [List.any_eq_false] at h
  have := h p hp
  simpa [pgB_iff] using this
theorem bw_lay {w W : World} (h : Below w.heap.size w W) (L : List (Obj ⊕ Ext)) : ∃ d, lay W L = bw w d := by
  obtain ⟨d, rfl⟩ := bw_of h
  obtain ⟨e, he⟩ := lay_ex (bw w d) L
  exact ⟨_, he.trans (bw_bw _ _ _)⟩
theorem NwI.book {w : World} {bk H : Nat} {vp vs vd : Value} {lp : List PgV} {ls : List StarV} {k : Nat} {W : World} {d : Ext} (h : NwI w bk H vp vs vd lp ls k W d) (hk : lp.length ≤ k) (A : List (Obj ⊕ Ext)) {z : Ext} (hz : lay W (A ++ [.inr d]) = bw w z) : BkA w bk lp ls (bw w z) := by
  rw [← hz]
  have hr := h.row
  rw [List.take_of_length_le (by unfold dysL; rw [List.length_map]; exact hk)] at hr
  have hS : w.heap.size ≤ H := by rw [← h.size]; exact h.below.size
  exact ⟨h.bk0, vd, vp, vs, (show Bk W bk vd vp vs from ⟨by rw [h.size]; exact h.bk1, h.c0, h.c1, h.c2⟩).lay _, sl_on (A := A) (B := [.inr d]) hr.sl, (ow_blk hr).mono fun b hb => ⟨Nat.le_trans hS hb, by have := h.bk1; omega⟩, h.pgs.lay _, h.sts.lay _, h.stb⟩
theorem ow_form' {w : World} {base : Nat} {v : Value} {l : List Int} (h : Ow w base v l) : ∃ a n c, v = .slice a n c := by
  obtain ⟨a, c, e⟩ := h.form
  exact ⟨a, _, c, e⟩
set_option maxHeartbeats 4000000 in
set_option maxRecDepth 100000 in
theorem alm_New_main {P : Nat → Prop} (vp vs : Value) (lp : List PgV) (ls : List StarV) (w : World) (hp : PgsD P w vp lp) (hP : ∀ b, P b → b < w.heap.size) (hv : SlG stR w vs ls) (h : lp.length ≤ 40) (hb : badP lp = false) (hc : catB ls = true) :
    Calls Tryz.prog 41 #[vp, vs] w (NewAll w lp ls) := by
  have hok := bad_all hb
  have hlen := (catB_iff.1 hc).len
  have HOk := Lib.hid hok
  have HC := Lib.hid (fun L => cat_Valid vs ls (lay w L) (hv.lay L))
  rw [hc] at HC
  have HB := Lib.hid (fun L => pgs_bad vp lp (lay w L) (hp.lay L))
  change Hid (∀ L, Calls _ _ _ _ fun e w' => e = .returned (.bool (badP lp)) ∧ _) at HB
  rw [hb] at HB
  have HCp := Lib.hid (fun L => alm_copied vp lp (lay w L) (hp.lay L) (fun b hb => Nat.lt_of_lt_of_le (hP b hb) (lay_extends w L).size) (by omega) (fun p hpm => by have := (hok p hpm).len; omega) (fun p hpm t ht => by
    obtain ⟨i, hi, rfl⟩ := List.getElem_of_mem ht
    have := (hok p hpm).ok i p.ts[i] (List.getElem?_eq_getElem hi)
    have h1 := (trkB_iff.1 this.1).lg
    have h2 := (trkB_iff.1 this.1).ld
    omega))
  have HCl := Lib.hid (fun L => cln_Star vs ls (lay w L) (hv.lay L) (by omega))
  have HPg := Lib.hid hp
  have HVs := Lib.hid hv
  obtain ⟨a, c, rfl⟩ := pgs_form hp
  obtain ⟨q, hq⟩ : ∃ q, lp.length = q := ⟨_, rfl⟩
  have HQ := Lib.hid hq
  rw [hq] at h HB HCp HPg ⊢
  have x1 : ¬ (40 : Int) < (q : Int) := by omega
  clear hp hq hv hok hlen hb hc
  refine lay_start ?_
  go_enter Tryz.func41, Tryz.ntmps41
  go_wp2_with (first | (go_at_call 79; refine (HB.out _).mono ?_; rintro e w' ⟨rfl, d1, rfl⟩) | (go_at_call 87; refine (HC.out _).mono ?_; rintro e w' ⟨rfl, d2, rfl⟩))
  refine (HCp.out _).mono ?_
  rintro e w' ⟨A, cA, d3, rfl, rfl, hA⟩
  rw [lay_bw] at hA ⊢
  have HA := Lib.hid hA
  clear hA
  go_wp2_with fail
  refine (HCl.out _).mono ?_
  rintro e w' ⟨v', d4, rfl, rfl, h4⟩
  rw [lay_bw] at h4 ⊢
  obtain ⟨va, vc, rfl⟩ := h4.form
  have H4 := Lib.hid h4
  clear h4
  rw [HQ.out] at HA ⊢
  go_wp2_with fail
  obtain ⟨bk, hbk⟩ : ∃ bk, posn w [d4.n, d3.n, d2.n, d1.n] = bk := ⟨_, rfl⟩
  obtain ⟨W0, hW0⟩ : ∃ W0, lay w [.inl (.cells #[.slice none 0 0, .slice A q cA, .slice va ls.length vc] 148 (0, 0)), .inr d4, .inr d3, .inr d2, .inr d1] = W0 := ⟨_, rfl⟩
  have hI : NwI w bk W0.heap.size (.slice A q cA) (.slice va ls.length vc) (.slice none 0 0) lp ls 0 W0 (noExt W0) := by
    rw [← hbk, ← hW0]
    exact nwI_new w [.inr d4] [.inr d3, .inr d2, .inr d1] _ _ _ lp ls (HA.out.mono fun b hb => Nat.le_trans (lay_extends w [.inr d2, .inr d1]).size hb) (H4.out.le (lay_extends w [.inr d3, .inr d2, .inr d1]).size)
  have HI := Lib.hid hI
  rw [hbk, hW0]
  obtain ⟨H, hH⟩ : ∃ H, W0.heap.size = H := ⟨_, rfl⟩
  rw [hH] at HI
  clear hI hbk hW0 HA H4 hH
  go_loopw [30] (fun v30 wr => ∃ (i : Nat) (d : Ext) (W : World) (vd : Value), i ≤ q ∧ v30 = .int .i64 (i : Int) ∧ wr = lay W [.inr d] ∧ NwI w bk H (.slice A q cA) (.slice va ls.length vc) vd lp ls i W d ∧ OrdK lp i) (fun v30 _ => q - (intOf v30).toNat)
  case atStart => exact ⟨0, noExt W0, W0, _, Nat.zero_le _, rfl, (bw_noExt W0).symm, HI.out, fun i p q hi => absurd hi (by omega)⟩
  case round =>
    clear HI
    obtain ⟨i, d, W, vd, hi, rfl, rfl, hI, hO⟩ := hrel
    have HI := Lib.hid hI
    have HO := Lib.hid hO
    clear hI hO
    by_cases hlt : i < q
    · obtain ⟨p, hpp⟩ : ∃ p, lp[i]? = some p := ⟨_, List.getElem?_eq_getElem (by rw [HQ.out]; exact hlt)⟩
      have hpW : PgsD P W (.slice a q c) lp := HPg.out.keep HI.out.below.size (fun b _ hb => HI.out.below.block b hb)
      obtain ⟨b, o, cap, hv1, hcc, hbb, -, hr⟩ := hpW.open (by rw [HQ.out]; omega)
      rw [HQ.out] at hv1 hcc
      cases hv1
      obtain ⟨x, hw, hD, c0, c1, c2, c3⟩ := hr i p hpp
      have hok := HOk.out p (List.mem_of_getElem? hpp)
      have HNum := Lib.hid (fun L => cal_Number x.y x.m x.d (lay W L))
      have hdx := hok.dt
      rw [← hD.y, ← hD.m, ← hD.d] at hdx
      rw [hdx, if_pos rfl, if_pos rfl] at HNum
      have x2 : (i : Int) < (q : Int) := by omega
      have x3 : (0 : Int) ≤ (i : Int) := by omega
      clear hpW hr
      go_wp2_with fail
      refine (HNum.out _).mono ?_
      rintro e w' ⟨rfl, d5, rfl⟩
      obtain ⟨N0, hN0⟩ : ∃ N0, numI x.y x.m x.d = N0 := ⟨_, rfl⟩
      have HN0 := Lib.hid hN0
      rw [lay_bw, hN0]
      clear hN0 hdx
      have k0 := HI.out.c0
      have kz := HI.out.fz
      have kb : bk < W.heap.size := by rw [HI.out.size]; exact HI.out.bk1
      have HR0 : Hid (Ow (lay W [.inr d]) W.heap.size vd ((dysL lp).take i)) := Lib.hid (by rw [HI.out.size]; exact HI.out.row)
      have HRl : Hid (((dysL lp).take i).length ≤ 1000000000) := Lib.hid (by rw [List.length_take]; omega)
      have HNw : Hid ((Lit.int .i64 N0).wf = true) := Lib.hid (by
        have h1 := hok.lo
        have h2 := hok.hi
        rw [← hD.y, ← hD.m, ← hD.d, HN0.out] at h1 h2
        simp [Lit.wf, IntKind.min, IntKind.max, IntKind.bits, IntKind.signed]
        omega)
      have HTk : Hid ((dysL lp).take i ++ [N0] = (dysL lp).take (i + 1)) := Lib.hid (by
        rw [List.take_add_one]
        have : (dysL lp)[i]? = some N0 := by unfold dysL; rw [List.getElem?_map, hpp, ← HN0.out, hD.y, hD.m, hD.d]; rfl
        rw [this]; rfl)
      by_cases hi0 : i = 0
      · subst hi0
        have x4 : ¬ (0 : Int) < ((0 : Nat) : Int) := by decide
        go_wp2_with (at_builtin; refine push_int rfl _ _ rfl (lay W []) _ N0 3 (posn W [d5.n, 1, d.n]) vd _ (lay_below (A := [_, _, _, _]) (B := [])) (ow_on (A := [_, _, _]) HR0.out) (lay_get W _ 0 _ rfl) rfl rfl HRl.out HNw.out ?_; intro vd' d' hv'; obtain ⟨ga, gn, gc, eg⟩ := ow_form' hv'; subst eg; have HV' := Lib.hid hv'; clear hv')
        go_roundw
        case rel => exact ⟨1, d', W.setCell ⟨bk, 0, none⟩ (.slice ga gn gc), _, by omega, rfl, bw_setCell W d' bk 0 _ kb, HI.out.step (by have h := HV'.out; rw [HTk.out] at h; rw [← HI.out.size]; exact h), fun j p q hj => absurd hj (by omega)⟩
        case measure => simp [intOf]; omega
      · obtain ⟨j, rfl⟩ : ∃ j, i = j + 1 := ⟨i - 1, by omega⟩
        obtain ⟨p0, hp0⟩ : ∃ p0, lp[j]? = some p0 := ⟨_, List.getElem?_eq_getElem (by rw [HQ.out]; omega)⟩
        have hlr : ((dysL lp).take (j + 1)).length = j + 1 := by rw [List.length_take]; unfold dysL; rw [List.length_map, HQ.out]; omega
        obtain ⟨g, cap', hvd, hg1, hg2, hg3, hg4⟩ := HR0.out.form1 (by omega)
        rw [hlr] at hvd hg3
        obtain ⟨N1, hN1⟩ : ∃ N1, numI p0.y p0.m p0.d = N1 := ⟨_, rfl⟩
        have hnth : nth ((dysL lp).take (j + 1)) j = N1 := by
          have : ((dysL lp).take (j + 1))[j]? = some N1 := by
            rw [List.getElem?_take_of_lt (by omega)]
            unfold dysL; rw [List.getElem?_map, hp0, ← hN1]; rfl
          unfold nth
          rw [List.getD, this]; rfl
        have e1 : ∀ A, (lay W (A ++ [.inr d])).cell? ⟨g, j, none⟩ = some (.int .i64 N1) := fun A => by
          have h := (ow_on (A := A) HR0.out)
          rw [hvd] at h
          have := h.cell (i := j) (by omega)
          rw [hnth] at this
          exact this
        have e2 := e1 [.inr d5, .inl (.cells #[.int .i64 x.y, .int .i64 x.m, .int .i64 x.d, .slice x.ta x.tn x.tc] 138 (0, 0))]
        change (lay W [.inr d5, .inl (.cells #[.int .i64 x.y, .int .i64 x.m, .int .i64 x.d, .slice x.ta x.tn x.tc] 138 (0, 0)), .inr d]).cell? ⟨g, j, none⟩ = some (.int .i64 N1) at e2
        have HE1 := Lib.hid e1
        have HN1 := Lib.hid hN1
        have HP0 := Lib.hid hp0
        subst hvd
        clear e1 hN1 hp0 hnth hlr
        have x4 : (0 : Int) < (j : Int) + 1 := by omega
        have x5 : IntKind.i64.wrap ((j : Int) + 1 - 1) = (j : Int) := by rw [IntWalk.i64_in _ (by omega)]; omega
        have x6 : (0 : Int) ≤ (j : Int) := by omega
        have x7 : (j : Int) < (j : Int) + 1 := by omega
        have x8 : ((j + 1 : Nat) : Int) = (j : Int) + 1 := by omega
        rw [x8]
        rw [x8] at x2 x3
        by_cases hle : N0 ≤ N1
        · have HNo : Hid (¬ OrdK lp lp.length) := Lib.hid (fun h => by
            have := h j p0 p (by rw [HQ.out]; omega) HP0.out hpp
            rw [HN1.out, ← hD.y, ← hD.m, ← hD.d, HN0.out] at this
            omega)
          go_wp2_with fail
          exact bodyPost_ret (v := .tuple #[.pointer none, .int .i64 17]) (by simp [results, Tryz.results41, go_sem]) rfl (.inr (.inr ⟨HNo.out, rfl, bw_lay HI.out.below _⟩))
        · have hgt : N1 < N0 := by omega
          go_wp2_with (at_builtin; refine push_int rfl _ _ rfl (lay W []) _ N0 3 (posn W [d5.n, 1, d.n]) _ _ (lay_below (A := [_, _, _, _]) (B := [])) (ow_on (A := [_, _, _]) HR0.out) (lay_get W _ 0 _ rfl) rfl rfl HRl.out HNw.out ?_; intro vd' d' hv'; obtain ⟨ga, gn, gc, eg⟩ := ow_form' hv'; subst eg; have HV' := Lib.hid hv'; clear hv')
          go_roundw
          case rel => exact ⟨j + 2, d', W.setCell ⟨bk, 0, none⟩ (.slice ga gn gc), _, by omega, by go_num, bw_setCell W d' bk 0 _ kb, HI.out.step (by have h := HV'.out; rw [HTk.out] at h; rw [← HI.out.size]; exact h), fun u p' q' hu h1 h2 => by
            by_cases huj : u = j
            · subst huj
              rw [HP0.out] at h1; cases h1
              rw [hpp] at h2; cases h2
              rw [HN1.out, ← hD.y, ← hD.m, ← hD.d, HN0.out]; exact hgt
            · exact HO.out u p' q' (by omega) h1 h2⟩
          case measure => simp [intOf]; omega
    · have hiq : i = q := by omega
      have x2 : ¬ (i : Int) < (q : Int) := by omega
      have HOr : Hid (OrdK lp lp.length) := Lib.hid (by rw [HQ.out, ← hiq]; exact HO.out)
      have hF : Few lp := ⟨by rw [HQ.out]; omega, fun p hp => by have := (HOk.out p hp).len; omega⟩
      have hB : Bk W bk vd (.slice A q cA) (.slice va ls.length vc) := ⟨by rw [HI.out.size]; exact HI.out.bk1, HI.out.c0, HI.out.c1, HI.out.c2⟩
      have HT := Lib.hid (alm_tracked bk vd (.slice A q cA) (.slice va ls.length vc) lp (lay W [.inr d]) (hB.lay _) (HI.out.pgs.lay _) hF)
      clear hF hB
      go_wp2_with fail
      refine HT.out.mono ?_
      rintro e w' ⟨ta, tc, d6, rfl, rfl, hTn, hTs⟩
      rw [lay_bw] at hTs ⊢
      have HTs := Lib.hid hTs
      clear hTs hTn
      go_wp2_with fail
      have HCn := Lib.hid (str_Contains (.slice ta (tkL lp).length tc) (tkL lp) ariesS (lay W [.inl (.cells #[.slice ta (tkL lp).length tc] 119 (0, 0)), .inr d6, .inr d]) (slG_on (A := [_]) HTs.out))
      have eI : ∀ args w, (callFunc 93 args).run Tryz.prog w = .ok (.enter 93 args) w := enters_of Tryz.func93 (by kernel_rfl) rfl
      have HSt := Lib.hid (st_ContainsFunc 93 [.pointer (some ⟨posn W [d6.n, d.n], 0, none⟩)] (fun x => twS (tkL lp) x.s) vs ls (lay W [.inl (.cells #[.slice ta (tkL lp).length tc] 119 (0, 0)), .inr d6, .inr d]) ((HVs.out.ext HI.out.below).lay _) eI (fun x _ e =>
        (alm_New2 x (tkL lp) (.slice ta (tkL lp).length tc) (posn W [d6.n, d.n]) (lay W [.inr e, .inl (.cells #[.slice ta (tkL lp).length tc] 119 (0, 0)), .inr d6, .inr d]) (by simp only [lay_size, shp, posn, List.sum_cons, List.sum_nil]; omega) (by simp [go_sem]) (slG_on (A := [_, _]) HTs.out)).mono fun e w' ⟨h1, d2, h2⟩ => ⟨h1, _, h2.trans (bw_bw _ _ _)⟩))
      have HTw : Hid (twB lp ls = (Lib.containsS (tkL lp) ariesS || ls.any (fun x => twS (tkL lp) x.s))) := Lib.hid rfl
      clear eI
      generalize Lib.containsS (tkL lp) ariesS = r1 at *
      generalize ls.any (fun x => twS (tkL lp) x.s) = r2 at *
      go_wp2_with fail
      refine HCn.out.mono ?_
      rintro e w' ⟨rfl, rfl⟩
      cases r1
      · go_wp2_with fail
        refine HSt.out.mono ?_
        rintro e w' ⟨rfl, d7, rfl⟩
        cases r2
        · go_wp2_with fail
          obtain ⟨z, hz⟩ := bw_lay HI.out.below [.inr d7, .inl (.cells #[.slice ta (tkL lp).length tc] 119 (0, 0)), .inr d6, .inr d]
          exact bodyPost_ret (v := .tuple #[.pointer (some ⟨bk, 0, none⟩), .int .i64 0]) (by simp [results, Tryz.results41, go_sem]) rfl (.inl ⟨HOr.out, HTw.out, bk, z, rfl, hz, HI.out.book (by rw [HQ.out]; omega) [.inr d7, .inl (.cells #[.slice ta (tkL lp).length tc] 119 (0, 0)), .inr d6] hz⟩)
        · go_wp2_with fail
          exact bodyPost_ret (v := .tuple #[.pointer none, .int .i64 10]) (by simp [results, Tryz.results41, go_sem]) rfl (.inr (.inl ⟨HOr.out, HTw.out, rfl, bw_lay HI.out.below _⟩))
      · go_wp2_with fail
        exact bodyPost_ret (v := .tuple #[.pointer none, .int .i64 10]) (by simp [results, Tryz.results41, go_sem]) rfl (.inr (.inl ⟨HOr.out, HTw.out, rfl, bw_lay HI.out.below _⟩))
end Go.Proofs.YthjfadfebhjhbaaGreat
/- The reference's New in full. -/
namespace Go.Proofs.YthjfadfebhjhbaaGreat
open Go.RowKit Go.Shelf

theorem isA_iff {s : ByteArray} : isA s = true ↔ s = ariesS := by
  rw [← nmB_iff]
  unfold isA nmB
  rw [aries_list]
theorem fndS_iff {ls : List StarV} {s : ByteArray} : decide (0 ≤ fndS ls s) = true ↔ ∃ x ∈ ls, x.s = s := by
  unfold fndS
  rw [idxR_any, List.any_eq_true]
  constructor
  · rintro ⟨x, hx, h⟩; exact ⟨x, hx, nmB_iff.1 h⟩
  · rintro ⟨x, hx, h⟩; exact ⟨x, hx, nmB_iff.2 h⟩
open Classical in
noncomputable def newE (lp : List PgV) (ls : List StarV) : Int :=
  if 40 < lp.length then 4 else if badP lp = true ∨ catB ls = false then 1 else if ¬ OrdK lp lp.length then 17 else if twB lp ls = true then 10 else 0
theorem newE_full {lp : List PgV} {ls : List StarV} (h : 40 < lp.length) : 4 = newE lp ls := by unfold newE; rw [if_pos h]
theorem newE_arg {lp : List PgV} {ls : List StarV} (h : lp.length ≤ 40) (k : badP lp = true ∨ catB ls = false) : 1 = newE lp ls := by unfold newE; rw [if_neg (by omega), if_pos k]
theorem newE_ord {lp : List PgV} {ls : List StarV} (h : lp.length ≤ 40) (k : badP lp = false) (c : catB ls = true) (o : ¬ OrdK lp lp.length) : 17 = newE lp ls := by unfold newE; rw [if_neg (by omega), if_neg (by rw [k, c]; simp), if_pos o]
theorem newE_tw {lp : List PgV} {ls : List StarV} (h : lp.length ≤ 40) (k : badP lp = false) (c : catB ls = true) (o : OrdK lp lp.length) (t : twB lp ls = true) : 10 = newE lp ls := by unfold newE; rw [if_neg (by omega), if_neg (by rw [k, c]; simp), if_neg (by simpa using o), if_pos t]
theorem newE_ok {lp : List PgV} {ls : List StarV} (h : lp.length ≤ 40) (k : badP lp = false) (c : catB ls = true) (o : OrdK lp lp.length) (t : twB lp ls = false) : 0 = newE lp ls := by unfold newE; rw [if_neg (by omega), if_neg (by rw [k, c]; simp), if_neg (by simpa using o), if_neg (by rw [t]; decide)]
end Go.Proofs.YthjfadfebhjhbaaGreat
/- The law's large and made, in full. -/
namespace Go.Proofs.YthjfadfebhjhbaaGreat
open Go.RowKit Go.Shelf

def lgT (t : TrkV) : Bool := decide ((100 : Int) < (t.s.size : Int)) || decide ((40 : Int) < (t.g.length : Int)) || decide ((40 : Int) < (t.d.length : Int))
theorem tkD_len {P : Nat → Prop} {w : World} {x : TkW} {t : TrkV} (h : TkD P w x t) : x.gn = t.g.length ∧ x.dn = t.d.length := by
  obtain ⟨_, _, e1, _⟩ := h.g.1
  obtain ⟨_, _, e2, _⟩ := h.d.1
  exact ⟨(Value.slice.inj e1).2.1, (Value.slice.inj e2).2.1⟩
theorem TkD.bw' {P : Nat → Prop} {w : World} {x : TkW} {t : TrkV} (h : TkD P w x t) (d : Ext) : TkD P (Go.Proofs.YthjfadfebhjhbaaGreat.bw w d) x t := h.lay [.inr d]
theorem tksD_len {P : Nat → Prop} {w : World} {a : Option Addr} {n c : Nat} {l : List TrkV} (h : TksD P w (.slice a n c) l) : n = l.length := by
  obtain ⟨_, _, e⟩ := h.form
  exact (Value.slice.inj e).2.1
end Go.Proofs.YthjfadfebhjhbaaGreat
