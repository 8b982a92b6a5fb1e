/- Contracts and plain laws, several texts in one: MixT; MixP; MixC -/
import Derived.StillTail
import Derived.Deep.AppendLies
import Derived.Test.YtkhhdpndcidmgaaGreatTAF
/- Regions that draw their order, by a schedule, with a tail behind it: the last operations follow in the text's order, and may do to the world what they will. No program in sight. -/
namespace Go.Proofs.YtkhhdpndcidmgaaGreat
open Go.RowKit

section
variable {P : Program} {ops : Array Oper} {md : Region.Mode} {κ : Type} {Cl : κ → World}

def mixT (P : Program) (md : Region.Mode) (ops : Array Oper) (Cl : κ → World) (n : Nat) (L : Array Bool → Act → World → Prop) : Nat → Array Bool → Act → World → Prop
  | 0, listed, a, w => ∀ d, L listed a (bw w d)
  | f + 1, listed, a, w => Region.ready md ops listed ≠ [] ∧ ∀ i ∈ Region.ready md ops listed, i < n ∧ ∀ d, oneOp P ops i (fun a' w' => (∃ k, w' = Cl k) ∧ mixT P md ops Cl n L f (listed.setIfInBounds i true) a' w') a (bw w d)
theorem mixT_ext {n : Nat} {L : Array Bool → Act → World → Prop} : ∀ {f : Nat} {listed : Array Bool} {a : Act} {w : World} (d : Ext), mixT P md ops Cl n L f listed a w → mixT P md ops Cl n L f listed a (bw w d)
  | 0, _, _, w, d, h => fun e => by rw [bw_bw]; exact h _
  | _ + 1, _, _, w, d, h => ⟨h.1, fun i hi => ⟨(h.2 i hi).1, fun e => by rw [bw_bw]; exact (h.2 i hi).2 _⟩⟩
theorem mixT_sound {n g : Nat} {L : Array Bool → Act → World → Prop} {Q' : Exit → Act → World → Prop} (hL : ∀ listed a w, L listed a w → wpAny P md ops Q' g listed a w) :
    ∀ (f : Nat) (listed : Array Bool) (a : Act) (w : World), mixT P md ops Cl n L f listed a w → wpAny P md ops Q' (f + g) listed a w
  | 0, listed, a, w, h => by rw [Nat.zero_add]; have := h (noExt w); rw [bw_noExt] at this; exact hL _ _ _ this
  | f + 1, listed, a, w, h => by
    rw [show f + 1 + g = (f + g) + 1 by omega]
    refine ⟨fun h0 => absurd h0 h.1, fun i hi => ?_⟩
    have h1 := (h.2 i hi).2 (noExt w)
    rw [bw_noExt] at h1
    unfold oneOp at h1
    unfold wpOp
    split
    · rename_i ho; simp only [ho] at h1; exact mixT_sound hL f _ _ _ h1.2
    · rename_i o ho
      simp only [ho] at h1
      split
      · rename_i hw; rw [if_pos hw] at h1
        exact Or.inl (wp_of_sOp (sOp_mono (fun a w hk => mixT_sound hL f _ a w hk.2) h1))
      · rename_i hw; rw [if_neg hw] at h1; exact mixT_sound hL f _ _ _ h1.2

theorem mixT_first {n i : Nat} {oi : Oper} {v : Value} {L : Array Bool → Act → World → Prop} (hCl : ∀ k d, ∃ k', bw (Cl k) d = Cl k') (hi : ops[i]? = some oi) (hsel : ∀ (j : Nat) (o : Oper) cs b, ops[j]? = some o → o.op ≠ .select cs b)
    (hs : Region.sinkB md ops n = true) (hc : Region.chainB md ops n = true) (hn : n < ops.size) (hin : i < n) (hdone : ∀ listed a w, L listed a w → ∀ j ∈ Region.ready md ops listed, n ≤ j) :
    ∀ (f : Nat) (listed : Array Bool) (a : Act) (w : World), (∃ k, w = Cl k) → HeadInv md ops n listed →
      (∀ j oj, ops[j]? = some oj → j ≠ i → listed.getD j true = false → (∀ e ∈ oj.after, Region.binds md e = true → e.on ≠ i) → oi.apart ops oj = true) →
      i ∈ Region.ready md ops listed → YieldsM P ops Cl oi v a →
      mixT P md ops Cl n L f (listed.setIfInBounds i true) (a.put oi.dst v) w → mixT P md ops Cl n L (f + 1) listed a w := by
  have cl : ∀ w d, (∃ k, w = Cl k) → ∃ k, bw w d = Cl k := fun w d ⟨k, hk⟩ => by rw [hk]; exact hCl k d
  intro f
  induction f with
  | zero =>
    intro listed a w hw inv _ hr hy H
    have hun := (mem_ready.1 hr).1
    have early : ∀ j ∈ Region.ready md ops listed, j < n := fun j hj =>
      Nat.lt_of_not_le fun hle => tail_waits hs hc hn inv _ i rfl hin hun j hle hj
    refine ⟨List.ne_nil_of_mem hr, fun j hj => ⟨early j hj, fun d => ?_⟩⟩
    by_cases hji : j = i
    · subst hji
      exact hy.oneOp hi (cl w d hw) ⟨cl w d hw, mixT_ext d H⟩ (fun e => ⟨cl _ e (cl w d hw), mixT_ext e (mixT_ext d H)⟩)
    · exact absurd (hdone _ _ _ (H (noExt w)) j (ready_mono hj hji)) (Nat.not_le_of_lt (early j hj))
  | succ f ih =>
    intro listed a w hw inv hfree hr hy H
    have hun := (mem_ready.1 hr).1
    have early : ∀ j ∈ Region.ready md ops listed, j < n := fun j hj =>
      Nat.lt_of_not_le fun hle => tail_waits hs hc hn inv _ i rfl hin hun j hle hj
    refine ⟨List.ne_nil_of_mem hr, fun j hj => ⟨early j hj, fun d => ?_⟩⟩
    by_cases hji : j = i
    · subst hji
      exact hy.oneOp hi (cl w d hw) ⟨cl w d hw, mixT_ext d H⟩ (fun e => ⟨cl _ e (cl w d hw), mixT_ext e (mixT_ext d H)⟩)
    · have h1 := (H.2 j (ready_mono hj hji)).2 d
      obtain ⟨hjun, oj, hoj, hall⟩ := mem_ready.1 hj
      have hnot : ∀ e ∈ oj.after, Region.binds md e = true → e.on ≠ i := fun e he hb heq => by
        have h2 := hall e he hb
        rw [heq, getD_both hun] at h2
        cases h2
      have h2 := oneOp_put hoj (hfree j oj hoj hji hjun hnot) (fun cs b => hsel i oi cs b hi) (fun cs b => hsel j oj cs b hoj) hy h1
      have hfree' : ∀ k ok, ops[k]? = some ok → k ≠ i → (listed.setIfInBounds j true).getD k true = false →
          (∀ e ∈ ok.after, Region.binds md e = true → e.on ≠ i) → oi.apart ops ok = true := fun k ok hk hki hu hno => by
        refine hfree k ok hk hki ?_ hno
        by_cases hjk : j = k
        · subst hjk; exact hjun
        · rw [getD_set_ne true hjk] at hu; exact hu
      refine oneOp_mono (fun a' w' h3 => ⟨h3.2.1, ih (listed.setIfInBounds j true) a' w' h3.2.1 (inv.set hj (early j hj)) hfree' (ready_mono hr (Ne.symm hji)) h3.1 ?_⟩) h2
      rw [Array.setIfInBounds_comm _ _ hji]
      exact h3.2.2

end
end Go.Proofs.YtkhhdpndcidmgaaGreat
/- Regions that draw their order, by a schedule in an order of one's own, with a tail. No program in sight. -/
namespace Go.Proofs.YtkhhdpndcidmgaaGreat
open Go.RowKit

section
variable {P : Program} {md : Region.Mode} {κ : Type} {Cl : κ → World} {l : List Oper} {ops : Array Oper}

def wpMP (P : Program) (l : List Oper) (ops : Array Oper) (Cl : κ → World) (Q : Act → World → Prop) : List (Nat × Nat) → Act → World → Prop
  | [], a, w => ∀ d, Q a (bw w d)
  | (i, 0) :: s, a, w => ∃ o, l[i]? = some o ∧ (if Region.wanted o (yielded ops a.tmps) then mOp P Cl o a (fun a' => wpMP P l ops Cl Q s a' w) else wpMP P l ops Cl Q s (a.put o.dst undef) w)
  | (i, 1) :: s, a, w => ∃ o, l[i]? = some o ∧ ∀ d, (if Region.wanted o (yielded ops a.tmps) then sOp P o a (fun a' w' => (∃ k, w' = Cl k) ∧ wpMP P l ops Cl Q s a' w') (bw w d) else (∃ k, bw w d = Cl k) ∧ wpMP P l ops Cl Q s (a.put o.dst undef) (bw w d))
  | (_, _ + 2) :: _, _, _ => False
def lexMP (md : Region.Mode) (ops : Array Oper) (n g : Nat) : List (Nat × Nat) → Array Bool → Bool
  | [], listed => Region.seqB md ops g n listed
  | (i, 0) :: s, listed => decide (i < n) && (Region.ready md ops listed).contains i && Region.free md ops listed i && lexMP md ops n g s (listed.setIfInBounds i true)
  | (i, 1) :: s, listed => decide (i < n) && decide (Region.ready md ops listed = [i]) && lexMP md ops n g s (listed.setIfInBounds i true)
  | (_, _ + 2) :: _, _ => false

theorem mixT_of_wpMP {n g : Nat} {Lq : Act → World → Prop} (hCl : ∀ k d, ∃ k', bw (Cl k) d = Cl k') (hl : ∀ j : Nat, l[j]? = ops[j]?) (hsel : Region.noSelect ops = true) (hs : Region.sinkB md ops n = true) (hc : Region.chainB md ops n = true) (hn : n < ops.size) :
    ∀ (s : List (Nat × Nat)) (listed : Array Bool) (a : Act) (w : World), HeadInv md ops n listed → (∃ k, w = Cl k) → lexMP md ops n g s listed = true →
    wpMP P l ops Cl Lq s a w → mixT P md ops Cl n (fun listed' a' w' => Region.seqB md ops g n listed' = true ∧ Lq a' w') s.length listed a w
  | [], listed, a, w, inv, hw, hB, h => fun d => ⟨hB, h d⟩
  | (k, 0) :: s, listed, a, w, inv, hw, hB, h => by
    simp only [lexMP, Bool.and_eq_true, decide_eq_true_eq] at hB
    obtain ⟨⟨⟨hkn, hr⟩, hf⟩, hB'⟩ := hB
    obtain ⟨o, ho, h⟩ := h
    have h0 : ops[k]? = some o := (hl k).symm.trans ho
    have hr' : k ∈ Region.ready md ops listed := by simpa using hr
    have hy : ∃ v, YieldsM P ops Cl o v a ∧ wpMP P l ops Cl Lq s (a.put o.dst v) w := by
      by_cases hw1 : Region.wanted o (yielded ops a.tmps) = true
      · rw [if_pos hw1] at h
        obtain ⟨v, h1, h2⟩ := h
        exact ⟨v, .inl ⟨hw1, h1⟩, h2⟩
      · rw [if_neg hw1] at h
        exact ⟨undef, .inr ⟨by simpa using hw1, rfl⟩, h⟩
    obtain ⟨v, hy, hK⟩ := hy
    exact mixT_first hCl h0 (Region.noSelect_spec hsel) hs hc hn hkn (fun _ _ _ hL => seqB_ready hL.1) s.length listed a w hw inv (Region.free_spec h0 hf) hr' hy
      (mixT_of_wpMP hCl hl hsel hs hc hn s _ _ w (inv.set hr' hkn) hw hB' hK)
  | (k, 1) :: s, listed, a, w, inv, hw, hB, h => by
    simp only [lexMP, Bool.and_eq_true, decide_eq_true_eq] at hB
    obtain ⟨⟨hkn, hr⟩, hB'⟩ := hB
    obtain ⟨o, ho, h⟩ := h
    have h0 : ops[k]? = some o := (hl k).symm.trans ho
    have inv' := inv.set (i := k) (by rw [hr]; simp) hkn
    refine ⟨by rw [hr]; simp, fun i hi => ?_⟩
    rw [hr] at hi
    obtain rfl : i = k := by simpa using hi
    refine ⟨hkn, fun d => ?_⟩
    have hd := h d
    rw [oneOp_some h0]
    split
    · rename_i hw1; rw [if_pos hw1] at hd
      exact sOp_mono (fun a' w' hk' => ⟨hk'.1, mixT_of_wpMP hCl hl hsel hs hc hn s _ _ w' inv' hk'.1 hB' hk'.2⟩) hd
    · rename_i hw1; rw [if_neg hw1] at hd
      exact ⟨hd.1, mixT_of_wpMP hCl hl hsel hs hc hn s _ _ _ inv' hd.1 hB' hd.2⟩
  | (_, _ + 2) :: _, _, _, _, _, _, hB, _ => by simp [lexMP] at hB

theorem region_mixP {id : Nat} {Q : Exit → Act → World → Prop} {a : Act} {w : World} {l : List Oper} (s : List (Nat × Nat)) (hm : P.follows .mixedOrders = true) (hsel : Region.noSelect l.toArray = true)
    (hs : Region.sinkB .any l.toArray s.length = true) (hc : Region.chainB .any l.toArray s.length = true) (hn : s.length < l.toArray.size)
    (hB : lexMP .any l.toArray s.length (l.toArray.size - s.length) s (Array.replicate l.toArray.size false) = true)
    (h : wpMP P l l.toArray (fun d => bw w d) (fun a w => wpList P l.toArray Q (l.drop s.length) a w) s a w) : (Code.region id l.toArray true).wp P Q a w := by
  have hn' : s.length < l.length := by simpa using hn
  have hdl : (l.drop s.length).length = l.toArray.size - s.length := by simp
  have inv0 : HeadInv .any l.toArray s.length (Array.replicate l.toArray.size false) :=
    ⟨by simp, fun j oj _ hl => (by rw [getD_replicate_false] at hl; cases hl), fun t _ ht => getD_in (by simpa using ht) (getD_replicate_false _ _)⟩
  have H := mixT_of_wpMP (md := .any) (g := l.toArray.size - s.length) (fun k d => ⟨_, bw_bw w k d⟩) (fun j => by simp) hsel hs hc hn s _ a w inv0 ⟨noExt w, (bw_noExt w).symm⟩ hB h
  refine wp_region_any hm ?_
  have := mixT_ext (⟨#[], w.drawn + 1⟩ : Ext) H
  rw [← bw_drewExt] at this
  have := mixT_sound (Q' := Q) (g := l.toArray.size - s.length) (fun listed a' w' hL => by
    have := wpAny_of_seq (md := .any) (Q' := Q) (l.drop s.length) s.length listed a' w' (fun j => by simp [List.getElem?_drop]) (by rw [hdl]; exact hL.1) hL.2
    rwa [hdl] at this) _ _ _ _ this
  rw [show s.length + (l.toArray.size - s.length) = l.toArray.size by omega] at this
  exact this
theorem wpMP_quiet {Q : Act → World → Prop} {a : Act} {w : World} {i : Nat} {o : Oper} {s : List (Nat × Nat)} (ho : l[i]? = some o)
    (h : ∀ K : Act → Prop, (∀ a, wpMP P l ops Cl Q s a w → K a) → if Region.wanted o (yielded ops a.tmps) then mOp P Cl o a K else K (a.put o.dst undef)) : wpMP P l ops Cl Q ((i, 0) :: s) a w :=
  ⟨o, ho, h _ (fun _ h => h)⟩
theorem wpMP_special {Q : Act → World → Prop} {a : Act} {w : World} {i : Nat} {o : Oper} {s : List (Nat × Nat)} (ho : l[i]? = some o)
    (h : ∀ (K : Act → World → Prop), (∀ a' w', (∃ k, w' = Cl k) → wpMP P l ops Cl Q s a' w' → K a' w') → ∀ d, if Region.wanted o (yielded ops a.tmps) then sOp P o a K (bw w d) else K (a.put o.dst undef) (bw w d)) : wpMP P l ops Cl Q ((i, 1) :: s) a w :=
  ⟨o, ho, fun d => by
    have := h (fun a' w' => (∃ k, w' = Cl k) ∧ wpMP P l ops Cl Q s a' w') (fun _ _ h1 h2 => ⟨h1, h2⟩) d
    split
    · rename_i hw; rw [if_pos hw] at this; exact this
    · rename_i hw; rw [if_neg hw] at this; exact this⟩
theorem wpMP_nil {Q : Act → World → Prop} {a : Act} {w : World} (h : ∀ d, Q a (bw w d)) : wpMP P l ops Cl Q [] a w := h
end
end Go.Proofs.YtkhhdpndcidmgaaGreat
/- Regions that draw their order, by a schedule in an order of one's own, in a class of worlds of one's own; an append at a step of such a region. No program in sight. -/
namespace Go.Proofs.YtkhhdpndcidmgaaGreat
open Go.RowKit

section
variable {P : Program} {md : Region.Mode} {κ : Type} {Cl : κ → World} {l : List Oper} {ops : Array Oper}

def lexMC (md : Region.Mode) (ops : Array Oper) : List (Nat × Nat) → Array Bool → Bool
  | [], listed => (Region.ready md ops listed).isEmpty
  | (i, 0) :: s, listed => (Region.ready md ops listed).contains i && Region.free md ops listed i && lexMC md ops s (listed.setIfInBounds i true)
  | (i, 1) :: s, listed => decide (Region.ready md ops listed = [i]) && lexMC md ops s (listed.setIfInBounds i true)
  | (_, _ + 2) :: _, _ => false

theorem wpC_of_wpMP {Q : Act → World → Prop} (hCl : ∀ k d, ∃ k', bw (Cl k) d = Cl k') (hl : ∀ j : Nat, l[j]? = ops[j]?) (hsel : Region.noSelect ops = true) :
    ∀ (s : List (Nat × Nat)) (listed : Array Bool) (a : Act) (w : World), (∃ k, w = Cl k) → lexMC md ops s listed = true → wpMP P l ops Cl Q s a w → wpC P md ops Cl Q s.length listed a w
  | [], listed, a, w, hw, hB, h => by
    simp only [lexMC, List.isEmpty_iff] at hB
    exact ⟨hB, h⟩
  | (k, 0) :: s, listed, a, w, hw, hB, h => by
    simp only [lexMC, Bool.and_eq_true] at hB
    obtain ⟨⟨hr, hf⟩, hB'⟩ := hB
    obtain ⟨o, ho, h⟩ := h
    have h0 : ops[k]? = some o := (hl k).symm.trans ho
    have hr' : k ∈ Region.ready md ops listed := by simpa using hr
    have hy : ∃ v, YieldsM P ops Cl o v a ∧ wpMP P l ops Cl Q s (a.put o.dst v) w := by
      by_cases hw1 : Region.wanted o (yielded ops a.tmps) = true
      · rw [if_pos hw1] at h
        obtain ⟨v, h1, h2⟩ := h
        exact ⟨v, .inl ⟨hw1, h1⟩, h2⟩
      · rw [if_neg hw1] at h
        exact ⟨undef, .inr ⟨by simpa using hw1, rfl⟩, h⟩
    obtain ⟨v, hy, hK⟩ := hy
    exact wpC_first hCl h0 (Region.noSelect_spec hsel) s.length listed a w hw (Region.free_spec h0 hf) hr' hy (wpC_of_wpMP hCl hl hsel s _ _ w hw hB' hK)
  | (k, 1) :: s, listed, a, w, hw, hB, h => by
    simp only [lexMC, Bool.and_eq_true, decide_eq_true_eq] at hB
    obtain ⟨hr, hB'⟩ := hB
    obtain ⟨o, ho, h⟩ := h
    have h0 : ops[k]? = some o := (hl k).symm.trans ho
    refine ⟨by rw [hr]; simp, fun i hi d => ?_⟩
    rw [hr] at hi
    obtain rfl : i = k := by simpa using hi
    have hd := h d
    rw [oneOp_some h0]
    split
    · rename_i hw1; rw [if_pos hw1] at hd
      exact sOp_mono (fun a' w' hk => ⟨hk.1, wpC_of_wpMP hCl hl hsel s _ _ w' hk.1 hB' hk.2⟩) hd
    · rename_i hw1; rw [if_neg hw1] at hd
      exact ⟨hd.1, wpC_of_wpMP hCl hl hsel s _ _ _ hd.1 hB' hd.2⟩
  | (_, _ + 2) :: _, _, _, _, _, hB, _ => by simp [lexMC] at hB

theorem region_mixC {id : Nat} {Q : Exit → Act → World → Prop} {a : Act} {w : World} {l : List Oper} (s : List (Nat × Nat)) (W0 : World) (hm : P.follows .mixedOrders = true) (hsel : Region.noSelect l.toArray = true)
    (hB : lexMC .any l.toArray s (Array.replicate l.toArray.size false) = true) (hn : s.length = l.toArray.size) (hw : ∃ k, w = bw W0 k)
    (h : wpMP P l l.toArray (fun d => bw W0 d) (fun a w => Q .normal a w) s a w) : (Code.region id l.toArray true).wp P Q a w := by
  refine wp_region_any hm ?_
  have := wpC_of_wpMP (md := .any) (fun k d => ⟨_, bw_bw W0 k d⟩) (fun j => by simp) hsel s _ a w hw hB h
  have := wpC_ext (⟨#[], w.drawn + 1⟩ : Ext) this
  rw [← bw_drewExt] at this
  have := wpC_sound (Q' := Q) _ _ _ _ this
  rwa [hn] at this
end
end Go.Proofs.YtkhhdpndcidmgaaGreat
