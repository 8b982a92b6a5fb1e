/- Contracts and plain laws, several texts in one: MixS -/
import Derived.Test.YtkhhdpndcidmgaaGreatTAG
/- Regions that draw their order and store into memory that was there: a schedule in an order of one's own. Operations: 0: quiet, all of them ahead of the store st; 2: pure (the same value in every world), at any time; 1: it alone may come now (ahead of the store); 3: it alone may come now (the store, or behind it). No program in sight. -/
namespace Go.Proofs.YtkhhdpndcidmgaaGreat
open Go.RowKit

section
variable {P : Program} {md : Region.Mode} {κ : Type} {Cl : κ → World} {l : List Oper} {ops : Array Oper} {st : Nat}

def inS (Cl : κ → World) (st : Nat) (listed : Array Bool) (w : World) : Prop := listed.getD st false = true ∨ ∃ k, w = Cl k
theorem inS_set {listed : Array Bool} {w : World} (i : Nat) (h : inS Cl st listed w) : inS Cl st (listed.setIfInBounds i true) w := by
  rcases h with h | h
  · left
    by_cases e : i = st
    · subst e
      have hlt : i < listed.size := by
        rcases Nat.lt_or_ge i listed.size with h' | h'
        · exact h'
        · simp [Array.getElem?_eq_none h'] at h
      simp [hlt]
    · simp only [Array.getD_eq_getD_getElem?, Array.getElem?_setIfInBounds_ne e] at h ⊢; exact h
  · exact .inr h
theorem inS_other {listed : Array Bool} {w : World} {i : Nat} (j : Nat) (e : i ≠ st) (h : inS Cl st ((listed.setIfInBounds i true).setIfInBounds j true) w) : inS Cl st (listed.setIfInBounds j true) w := by
  rcases h with h | h
  · left
    by_cases hji : j = i
    · subst hji
      simp only [Array.getD_eq_getD_getElem?, Array.getElem?_setIfInBounds_ne e] at h ⊢; exact h
    · rw [Array.setIfInBounds_comm _ _ (fun h => hji h.symm)] at h
      simp only [Array.getD_eq_getD_getElem?] at h ⊢
      rw [Array.getElem?_setIfInBounds_ne e] at h; exact h
  · exact .inr h
theorem inS_bw (hCl : ∀ k d, ∃ k', bw (Cl k) d = Cl k') {listed : Array Bool} {w : World} (d : Ext) (h : inS Cl st listed w) : inS Cl st listed (bw w d) := by
  rcases h with h | ⟨k, rfl⟩
  · exact .inl h
  · exact .inr (hCl k d)

def wpD (P : Program) (md : Region.Mode) (ops : Array Oper) (Cl : κ → World) (st : Nat) (Q : Act → World → Prop) : Nat → Array Bool → Act → World → Prop
  | 0, listed, a, w => Region.ready md ops listed = [] ∧ ∀ d, Q a (bw w d)
  | f + 1, listed, a, w => Region.ready md ops listed ≠ [] ∧ ∀ i ∈ Region.ready md ops listed, ∀ d, oneOp P ops i (fun a' w' => inS Cl st (listed.setIfInBounds i true) w' ∧ wpD P md ops Cl st Q f (listed.setIfInBounds i true) a' w') a (bw w d)
theorem wpD_ext {Q : Act → World → Prop} : ∀ {f : Nat} {listed : Array Bool} {a : Act} {w : World} (d : Ext), wpD P md ops Cl st Q f listed a w → wpD P md ops Cl st Q f listed a (bw w d)
  | 0, _, _, w, d, h => ⟨h.1, fun e => by rw [bw_bw]; exact h.2 _⟩
  | _ + 1, _, _, w, d, h => ⟨h.1, fun i hi e => by rw [bw_bw]; exact h.2 i hi _⟩
theorem wpD_sound {Q' : Exit → Act → World → Prop} : ∀ (f : Nat) (listed : Array Bool) (a : Act) (w : World), wpD P md ops Cl st (fun a w => Q' .normal a w) f listed a w → wpAny P md ops Q' f listed a w
  | 0, listed, a, w, h => ⟨h.1, by have := h.2 (noExt w); rwa [bw_noExt] at this⟩
  | f + 1, listed, a, w, h => by
    refine ⟨fun h0 => absurd h0 h.1, fun i hi => ?_⟩
    have h1 := h.2 i hi (noExt w)
    rw [bw_noExt] at h1
    unfold oneOp at h1
    unfold wpOp
    split
    · rename_i ho; simp only [ho] at h1; exact wpD_sound f _ _ _ h1.2
    · rename_i o ho
      simp only [ho] at h1
      split
      · rename_i hw; rw [if_pos hw] at h1
        exact Or.inl (wp_of_sOp (sOp_mono (fun a w hk => wpD_sound f _ a w hk.2) h1))
      · rename_i hw; rw [if_neg hw] at h1; exact wpD_sound f _ _ _ h1.2

theorem wpD_first {i : Nat} {oi : Oper} {v : Value} {Q : Act → World → Prop} (hCl : ∀ k d, ∃ k', bw (Cl k) d = Cl k') (hi : ops[i]? = some oi) (hsel : ∀ (j : Nat) (o : Oper) cs b, ops[j]? = some o → o.op ≠ .select cs b) (hne : i ≠ st) :
    ∀ (f : Nat) (listed : Array Bool) (a : Act) (w : World), inS Cl st listed w →
      (∀ j oj, ops[j]? = some oj → j ≠ i → listed.getD j true = false → (∀ e ∈ oj.after, Region.binds md e = true → e.on ≠ i) → oi.apart ops oj = true) →
      i ∈ Region.ready md ops listed → (YieldsM P ops (fun W : World => W) oi v a ∨ (YieldsM P ops Cl oi v a ∧ listed.getD st false = false ∧ ∃ os, ops[st]? = some os ∧ ∃ e ∈ os.after, Region.binds md e = true ∧ e.on = i)) →
      wpD P md ops Cl st Q f (listed.setIfInBounds i true) (a.put oi.dst v) w → wpD P md ops Cl st Q (f + 1) listed a w := by
  have one : ∀ {listed : Array Bool} {a : Act} {w : World} {K : Act → World → Prop}, inS Cl st listed w →
      (YieldsM P ops (fun W : World => W) oi v a ∨ (YieldsM P ops Cl oi v a ∧ listed.getD st false = false ∧ ∃ os, ops[st]? = some os ∧ ∃ e ∈ os.after, Region.binds md e = true ∧ e.on = i)) →
      K (a.put oi.dst v) w → (∀ d, K (a.put oi.dst v) (bw w d)) → oneOp P ops i K a w := by
    intro listed a w K hw hy h0 h1
    rcases hy with hy | ⟨hy, hs, _⟩
    · exact hy.oneOp hi ⟨w, rfl⟩ h0 h1
    · exact hy.oneOp hi (hw.resolve_left (by rw [hs]; exact Bool.false_ne_true)) h0 h1
  intro f
  induction f with
  | zero =>
    intro listed a w hw _ hr hy H
    refine ⟨List.ne_nil_of_mem hr, fun j hj d => ?_⟩
    by_cases hji : j = i
    · subst hji
      exact one (inS_bw hCl d hw) hy ⟨inS_set _ (inS_bw hCl d hw), wpD_ext d H⟩ (fun e => ⟨inS_set _ (inS_bw hCl e (inS_bw hCl d hw)), wpD_ext e (wpD_ext d H)⟩)
    · have := ready_mono hj hji
      rw [H.1] at this; cases this
  | succ f ih =>
    intro listed a w hw hfree hr hy H
    have hun := (mem_ready.1 hr).1
    refine ⟨List.ne_nil_of_mem hr, fun j hj d => ?_⟩
    by_cases hji : j = i
    · subst hji
      exact one (inS_bw hCl d hw) hy ⟨inS_set _ (inS_bw hCl d hw), wpD_ext d H⟩ (fun e => ⟨inS_set _ (inS_bw hCl e (inS_bw hCl d hw)), wpD_ext e (wpD_ext d H)⟩)
    · have h1 := H.2 j (ready_mono hj hji) d
      obtain ⟨hjun, oj, hoj, hall⟩ := mem_ready.1 hj
      have hunF : listed.getD i false = false := by
        rcases Nat.lt_or_ge i listed.size with h' | h'
        · simp [h'] at hun ⊢; exact hun
        · simp [Array.getElem?_eq_none h'] at hun
      have hnot : ∀ e ∈ oj.after, Region.binds md e = true → e.on ≠ i := fun e he hb heq => by
        have h2 := hall e he hb
        rw [heq, hunF] at h2
        cases h2
      have hap := hfree j oj hoj hji hjun hnot
      have hfree' : ∀ k ok, ops[k]? = some ok → k ≠ i → (listed.setIfInBounds j true).getD k true = false →
          (∀ e ∈ ok.after, Region.binds md e = true → e.on ≠ i) → oi.apart ops ok = true := fun k ok hk hki hu hno => by
        refine hfree k ok hk hki ?_ hno
        by_cases hjk : j = k
        · subst hjk; exact hjun
        · rw [getD_set_ne true hjk] at hu; exact hu
      have fin : ∀ (a' : Act) (w' : World), (YieldsM P ops (fun W : World => W) oi v a' ∨ (YieldsM P ops Cl oi v a' ∧ (listed.setIfInBounds j true).getD st false = false ∧ ∃ os, ops[st]? = some os ∧ ∃ e ∈ os.after, Region.binds md e = true ∧ e.on = i)) →
          inS Cl st ((listed.setIfInBounds i true).setIfInBounds j true) w' → wpD P md ops Cl st Q f ((listed.setIfInBounds i true).setIfInBounds j true) (a'.put oi.dst v) w' →
          inS Cl st (listed.setIfInBounds j true) w' ∧ wpD P md ops Cl st Q (f + 1) (listed.setIfInBounds j true) a' w' := fun a' w' hy' hin hk => by
        have hin' := inS_other j hne hin
        refine ⟨hin', ih (listed.setIfInBounds j true) a' w' hin' hfree' (ready_mono hr (Ne.symm hji)) hy' ?_⟩
        rw [Array.setIfInBounds_comm _ _ hji]
        exact hk
      rcases hy with hy | ⟨hy, hs, hedge⟩
      · have h2 := oneOp_put hoj hap (fun cs b => hsel i oi cs b hi) (fun cs b => hsel j oj cs b hoj) hy h1
        exact oneOp_mono (fun a' w' h3 => fin a' w' (.inl h3.1) h3.2.1 h3.2.2) h2
      · have hjst : j ≠ st := by
          rintro rfl
          obtain ⟨os, hos, e, he, hb, heq⟩ := hedge
          rw [hoj] at hos
          cases hos
          exact hnot e he hb heq
        have hs' : (listed.setIfInBounds j true).getD st false = false := by
          simp only [Array.getD_eq_getD_getElem?, Array.getElem?_setIfInBounds_ne hjst] at hs ⊢; exact hs
        have h2 := oneOp_put hoj hap (fun cs b => hsel i oi cs b hi) (fun cs b => hsel j oj cs b hoj) hy h1
        exact oneOp_mono (fun a' w' h3 => fin a' w' (.inr ⟨h3.1, hs', hedge⟩) h3.2.1 h3.2.2) h2

def wpMS (P : Program) (l : List Oper) (ops : Array Oper) (Cl : κ → World) (Q : Act → World → Prop) : List (Nat × Nat) → Act → World → Prop
  | [], a, w => ∀ d, Q a (bw w d)
  | (i, 0) :: s, a, w => ∃ o, l[i]? = some o ∧ (if Region.wanted o (yielded ops a.tmps) then mOp P Cl o a (fun a' => wpMS P l ops Cl Q s a' w) else wpMS P l ops Cl Q s (a.put o.dst undef) w)
  | (i, 1) :: s, a, w => ∃ o, l[i]? = some o ∧ ∀ d, (if Region.wanted o (yielded ops a.tmps) then sOp P o a (fun a' w' => (∃ k, w' = Cl k) ∧ wpMS P l ops Cl Q s a' w') (bw w d) else (∃ k, bw w d = Cl k) ∧ wpMS P l ops Cl Q s (a.put o.dst undef) (bw w d))
  | (i, 2) :: s, a, w => ∃ o, l[i]? = some o ∧ (if Region.wanted o (yielded ops a.tmps) then mOp P (fun W : World => W) o a (fun a' => wpMS P l ops Cl Q s a' w) else wpMS P l ops Cl Q s (a.put o.dst undef) w)
  | (i, 3) :: s, a, w => ∃ o, l[i]? = some o ∧ ∀ d, (if Region.wanted o (yielded ops a.tmps) then sOp P o a (fun a' w' => wpMS P l ops Cl Q s a' w') (bw w d) else wpMS P l ops Cl Q s (a.put o.dst undef) (bw w d))
  | (_, _ + 4) :: _, _, _ => False
def edgeB (md : Region.Mode) (ops : Array Oper) (st i : Nat) : Bool := match ops[st]? with | none => false | some os => os.after.any fun e => Region.binds md e && decide (e.on = i)
theorem edge_of {i : Nat} (h : edgeB md ops st i = true) : ∃ os, ops[st]? = some os ∧ ∃ e ∈ os.after, Region.binds md e = true ∧ e.on = i := by
  unfold edgeB at h
  cases ho : ops[st]? with
  | none => rw [ho] at h; cases h
  | some os =>
    rw [ho] at h
    obtain ⟨e, he, h2⟩ := Array.any_eq_true'.1 h
    simp only [Bool.and_eq_true, decide_eq_true_eq] at h2
    exact ⟨os, rfl, e, he, h2.1, h2.2⟩
def lexMS (md : Region.Mode) (ops : Array Oper) (st : Nat) : List (Nat × Nat) → Array Bool → Bool
  | [], listed => (Region.ready md ops listed).isEmpty
  | (i, 0) :: s, listed => decide (i ≠ st) && (!listed.getD st false) && edgeB md ops st i && (Region.ready md ops listed).contains i && Region.free md ops listed i && lexMS md ops st s (listed.setIfInBounds i true)
  | (i, 1) :: s, listed => decide (Region.ready md ops listed = [i]) && lexMS md ops st s (listed.setIfInBounds i true)
  | (i, 2) :: s, listed => decide (i ≠ st) && (Region.ready md ops listed).contains i && Region.free md ops listed i && lexMS md ops st s (listed.setIfInBounds i true)
  | (i, 3) :: s, listed => (listed.setIfInBounds i true).getD st false && decide (Region.ready md ops listed = [i]) && lexMS md ops st s (listed.setIfInBounds i true)
  | (_, _ + 4) :: _, _ => false

theorem wpD_of_wpMS {Q : Act → World → Prop} (hCl : ∀ k d, ∃ k', bw (Cl k) d = Cl k') (hl : ∀ j : Nat, l[j]? = ops[j]?) (hsel : Region.noSelect ops = true) :
    ∀ (s : List (Nat × Nat)) (listed : Array Bool) (a : Act) (w : World), inS Cl st listed w → lexMS md ops st s listed = true → wpMS P l ops Cl Q s a w → wpD P md ops Cl st Q s.length listed a w
  | [], listed, a, w, hw, hB, h => by
    simp only [lexMS, List.isEmpty_iff] at hB
    exact ⟨hB, h⟩
  | (k, 0) :: s, listed, a, w, hw, hB, h => by
    simp only [lexMS, Bool.and_eq_true, decide_eq_true_eq, Bool.not_eq_true'] at hB
    obtain ⟨⟨⟨⟨⟨hks, hst⟩, hed⟩, hr⟩, hf⟩, hB'⟩ := hB
    obtain ⟨o, ho, h⟩ := h
    have h0 : ops[k]? = some o := (hl k).symm.trans ho
    have hr' : k ∈ Region.ready md ops listed := by simpa using hr
    have hy : ∃ v, YieldsM P ops Cl o v a ∧ wpMS P l ops Cl Q s (a.put o.dst v) w := by
      by_cases hw1 : Region.wanted o (yielded ops a.tmps) = true
      · rw [if_pos hw1] at h
        obtain ⟨v, h1, h2⟩ := h
        exact ⟨v, .inl ⟨hw1, h1⟩, h2⟩
      · rw [if_neg hw1] at h
        exact ⟨undef, .inr ⟨by simpa using hw1, rfl⟩, h⟩
    obtain ⟨v, hy, hK⟩ := hy
    exact wpD_first hCl h0 (Region.noSelect_spec hsel) hks s.length listed a w hw (Region.free_spec h0 hf) hr' (.inr ⟨hy, hst, edge_of hed⟩) (wpD_of_wpMS hCl hl hsel s _ _ w (inS_set _ hw) hB' hK)
  | (k, 2) :: s, listed, a, w, hw, hB, h => by
    simp only [lexMS, Bool.and_eq_true, decide_eq_true_eq] at hB
    obtain ⟨⟨⟨hks, hr⟩, hf⟩, hB'⟩ := hB
    obtain ⟨o, ho, h⟩ := h
    have h0 : ops[k]? = some o := (hl k).symm.trans ho
    have hr' : k ∈ Region.ready md ops listed := by simpa using hr
    have hy : ∃ v, YieldsM P ops (fun W : World => W) o v a ∧ wpMS P l ops Cl Q s (a.put o.dst v) w := by
      by_cases hw1 : Region.wanted o (yielded ops a.tmps) = true
      · rw [if_pos hw1] at h
        obtain ⟨v, h1, h2⟩ := h
        exact ⟨v, .inl ⟨hw1, h1⟩, h2⟩
      · rw [if_neg hw1] at h
        exact ⟨undef, .inr ⟨by simpa using hw1, rfl⟩, h⟩
    obtain ⟨v, hy, hK⟩ := hy
    exact wpD_first hCl h0 (Region.noSelect_spec hsel) hks s.length listed a w hw (Region.free_spec h0 hf) hr' (.inl hy) (wpD_of_wpMS hCl hl hsel s _ _ w (inS_set _ hw) hB' hK)
  | (k, 1) :: s, listed, a, w, hw, hB, h => by
    simp only [lexMS, Bool.and_eq_true, decide_eq_true_eq] at hB
    obtain ⟨hr, hB'⟩ := hB
    obtain ⟨o, ho, h⟩ := h
    have h0 : ops[k]? = some o := (hl k).symm.trans ho
    refine ⟨by rw [hr]; simp, fun i hi d => ?_⟩
    rw [hr] at hi
    obtain rfl : i = k := by simpa using hi
    have hd := h d
    rw [oneOp_some h0]
    split
    · rename_i hw1; rw [if_pos hw1] at hd
      exact sOp_mono (fun a' w' hk => ⟨.inr hk.1, wpD_of_wpMS hCl hl hsel s _ _ w' (.inr hk.1) hB' hk.2⟩) hd
    · rename_i hw1; rw [if_neg hw1] at hd
      exact ⟨.inr hd.1, wpD_of_wpMS hCl hl hsel s _ _ _ (.inr hd.1) hB' hd.2⟩
  | (k, 3) :: s, listed, a, w, hw, hB, h => by
    simp only [lexMS, Bool.and_eq_true, decide_eq_true_eq] at hB
    obtain ⟨⟨hst, hr⟩, hB'⟩ := hB
    obtain ⟨o, ho, h⟩ := h
    have h0 : ops[k]? = some o := (hl k).symm.trans ho
    refine ⟨by rw [hr]; simp, fun i hi d => ?_⟩
    rw [hr] at hi
    obtain rfl : i = k := by simpa using hi
    have hd := h d
    rw [oneOp_some h0]
    split
    · rename_i hw1; rw [if_pos hw1] at hd
      exact sOp_mono (fun a' w' hk => ⟨.inl hst, wpD_of_wpMS hCl hl hsel s _ _ w' (.inl hst) hB' hk⟩) hd
    · rename_i hw1; rw [if_neg hw1] at hd
      exact ⟨.inl hst, wpD_of_wpMS hCl hl hsel s _ _ _ (.inl hst) hB' hd⟩
  | (_, _ + 4) :: _, _, _, _, _, hB, _ => by simp [lexMS] at hB

theorem region_mixS {id : Nat} {Q : Exit → Act → World → Prop} {a : Act} {w : World} {l : List Oper} (st : Nat) (s : List (Nat × Nat)) (hm : P.follows .mixedOrders = true) (hsel : Region.noSelect l.toArray = true)
    (hB : lexMS .any l.toArray st s (Array.replicate l.toArray.size false) = true) (hn : s.length = l.toArray.size)
    (h : wpMS P l l.toArray (fun d => bw w d) (fun a w => Q .normal a w) s a w) : (Code.region id l.toArray true).wp P Q a w := by
  refine wp_region_any hm ?_
  have := wpD_of_wpMS (md := .any) (st := st) (fun k d => ⟨_, bw_bw w k d⟩) (fun j => by simp) hsel s _ a w (.inr ⟨noExt w, (bw_noExt w).symm⟩) hB h
  have := wpD_ext (⟨#[], w.drawn + 1⟩ : Ext) this
  rw [← bw_drewExt] at this
  have := wpD_sound (Q' := Q) _ _ _ _ this
  rwa [hn] at this
theorem wpMS_quiet {Q : Act → World → Prop} {a : Act} {w : World} {i : Nat} {o : Oper} {s : List (Nat × Nat)} (ho : l[i]? = some o)
    (h : ∀ K : Act → Prop, (∀ a, wpMS P l ops Cl Q s a w → K a) → if Region.wanted o (yielded ops a.tmps) then mOp P Cl o a K else K (a.put o.dst undef)) : wpMS P l ops Cl Q ((i, 0) :: s) a w :=
  ⟨o, ho, h _ (fun _ h => h)⟩
theorem wpMS_pure {Q : Act → World → Prop} {a : Act} {w : World} {i : Nat} {o : Oper} {s : List (Nat × Nat)} (ho : l[i]? = some o)
    (h : ∀ K : Act → Prop, (∀ a, wpMS P l ops Cl Q s a w → K a) → if Region.wanted o (yielded ops a.tmps) then mOp P (fun W : World => W) o a K else K (a.put o.dst undef)) : wpMS P l ops Cl Q ((i, 2) :: s) a w :=
  ⟨o, ho, h _ (fun _ h => h)⟩
theorem wpMS_special {Q : Act → World → Prop} {a : Act} {w : World} {i : Nat} {o : Oper} {s : List (Nat × Nat)} (ho : l[i]? = some o)
    (h : ∀ (K : Act → World → Prop), (∀ a' w', (∃ k, w' = Cl k) → wpMS P l ops Cl Q s a' w' → K a' w') → ∀ d, if Region.wanted o (yielded ops a.tmps) then sOp P o a K (bw w d) else K (a.put o.dst undef) (bw w d)) : wpMS P l ops Cl Q ((i, 1) :: s) a w :=
  ⟨o, ho, fun d => by
    have := h (fun a' w' => (∃ k, w' = Cl k) ∧ wpMS P l ops Cl Q s a' w') (fun _ _ h1 h2 => ⟨h1, h2⟩) d
    split
    · rename_i hw; rw [if_pos hw] at this; exact this
    · rename_i hw; rw [if_neg hw] at this; exact this⟩
theorem wpMS_store {Q : Act → World → Prop} {a : Act} {w : World} {i : Nat} {o : Oper} {s : List (Nat × Nat)} (ho : l[i]? = some o)
    (h : ∀ (K : Act → World → Prop), (∀ a' w', wpMS P l ops Cl Q s a' w' → K a' w') → ∀ d, if Region.wanted o (yielded ops a.tmps) then sOp P o a K (bw w d) else K (a.put o.dst undef) (bw w d)) : wpMS P l ops Cl Q ((i, 3) :: s) a w :=
  ⟨o, ho, fun d => by
    have := h (fun a' w' => wpMS P l ops Cl Q s a' w') (fun _ _ h2 => h2) d
    split
    · rename_i hw; rw [if_pos hw] at this; exact this
    · rename_i hw; rw [if_neg hw] at this; exact this⟩
theorem wpMS_nil {Q : Act → World → Prop} {a : Act} {w : World} (h : ∀ d, Q a (bw w d)) : wpMS P l ops Cl Q [] a w := h
end
end Go.Proofs.YtkhhdpndcidmgaaGreat
