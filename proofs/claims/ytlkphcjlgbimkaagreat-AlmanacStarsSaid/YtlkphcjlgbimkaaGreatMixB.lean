/- Regions that draw their order, by a schedule that may branch in two: where two operations that make memory are ready, each may come first. No program in sight. -/
import Derived.Test.YtlkphcjlgbimkaaGreatMixP
namespace Go.Proofs.YtlkphcjlgbimkaaGreat
open Go.RowKit

inductive Sch where
  | done : Sch
  | q : Nat → Sch → Sch
  | one : Nat → Sch → Sch
  | two : Nat → Sch → Nat → Sch → Sch
section
variable {P : Program} {md : Region.Mode} {κ : Type} {Cl : κ → World} {l : List Oper} {ops : Array Oper}

def spB (P : Program) (l : List Oper) (ops : Array Oper) (Cl : κ → World) (i : Nat) (X : Act → World → Prop) (a : Act) (w : World) : Prop :=
  ∃ o, l[i]? = some o ∧ ∀ d, (if Region.wanted o (yielded ops a.tmps) then sOp P o a (fun a' w' => (∃ k, w' = Cl k) ∧ X a' w') (bw w d) else (∃ k, bw w d = Cl k) ∧ X (a.put o.dst undef) (bw w d))
def wpMB (P : Program) (l : List Oper) (ops : Array Oper) (Cl : κ → World) (Q : Act → World → Prop) : Sch → Act → World → Prop
  | .done, a, w => ∀ d, Q a (bw w d)
  | .q i s, a, w => ∃ o, l[i]? = some o ∧ (if Region.wanted o (yielded ops a.tmps) then mOp P Cl o a (fun a' => wpMB P l ops Cl Q s a' w) else wpMB P l ops Cl Q s (a.put o.dst undef) w)
  | .one i s, a, w => spB P l ops Cl i (wpMB P l ops Cl Q s) a w
  | .two i s j t, a, w => spB P l ops Cl i (wpMB P l ops Cl Q s) a w ∧ spB P l ops Cl j (wpMB P l ops Cl Q t) a w
def lexMB (md : Region.Mode) (ops : Array Oper) (n g : Nat) : Nat → Sch → Array Bool → Bool
  | 0, .done, listed => Region.seqB md ops g n listed
  | f + 1, .q i s, listed => decide (i < n) && (Region.ready md ops listed).contains i && Region.free md ops listed i && lexMB md ops n g f s (listed.setIfInBounds i true)
  | f + 1, .one i s, listed => decide (i < n) && decide (Region.ready md ops listed = [i]) && lexMB md ops n g f s (listed.setIfInBounds i true)
  | f + 1, .two i s j t, listed => decide (i < n) && decide (j < n) && decide (Region.ready md ops listed = [i, j]) && lexMB md ops n g f s (listed.setIfInBounds i true) && lexMB md ops n g f t (listed.setIfInBounds j true)
  | _, _, _ => false

theorem mixT_of_wpMB {n g : Nat} {Lq : Act → World → Prop} (hCl : ∀ k d, ∃ k', bw (Cl k) d = Cl k') (hl : ∀ j : Nat, l[j]? = ops[j]?) (hsel : Region.noSelect ops = true) (hs : Region.sinkB md ops n = true) (hc : Region.chainB md ops n = true) (hn : n < ops.size) :
    ∀ (f : Nat) (s : Sch) (listed : Array Bool) (a : Act) (w : World), HeadInv md ops n listed → (∃ k, w = Cl k) → lexMB md ops n g f s listed = true →
    wpMB P l ops Cl Lq s a w → mixT P md ops Cl n (fun listed' a' w' => Region.seqB md ops g n listed' = true ∧ Lq a' w') f listed a w
  | 0, .done, listed, a, w, inv, hw, hB, h => fun d => ⟨hB, h d⟩
  | f + 1, .q k s, listed, a, w, inv, hw, hB, h => by
    simp only [lexMB, Bool.and_eq_true, decide_eq_true_eq] at hB
    obtain ⟨⟨⟨hkn, hr⟩, hf⟩, hB'⟩ := hB
    obtain ⟨o, ho, h⟩ := h
    have h0 : ops[k]? = some o := (hl k).symm.trans ho
    have hr' : k ∈ Region.ready md ops listed := by simpa using hr
    have hy : ∃ v, YieldsM P ops Cl o v a ∧ wpMB P l ops Cl Lq s (a.put o.dst v) w := by
      by_cases hw1 : Region.wanted o (yielded ops a.tmps) = true
      · rw [if_pos hw1] at h
        obtain ⟨v, h1, h2⟩ := h
        exact ⟨v, .inl ⟨hw1, h1⟩, h2⟩
      · rw [if_neg hw1] at h
        exact ⟨undef, .inr ⟨by simpa using hw1, rfl⟩, h⟩
    obtain ⟨v, hy, hK⟩ := hy
    exact mixT_first hCl h0 (Region.noSelect_spec hsel) hs hc hn hkn (fun _ _ _ hL => seqB_ready hL.1) f listed a w hw inv (Region.free_spec h0 hf) hr' hy
      (mixT_of_wpMB hCl hl hsel hs hc hn f s _ _ w (inv.set hr' hkn) hw hB' hK)
  | f + 1, .one k s, listed, a, w, inv, hw, hB, h => by
    simp only [lexMB, Bool.and_eq_true, decide_eq_true_eq] at hB
    obtain ⟨⟨hkn, hr⟩, hB'⟩ := hB
    obtain ⟨o, ho, h⟩ := h
    have h0 : ops[k]? = some o := (hl k).symm.trans ho
    have inv' := inv.set (i := k) (by rw [hr]; simp) hkn
    refine ⟨by rw [hr]; simp, fun i hi => ?_⟩
    rw [hr] at hi
    obtain rfl : i = k := by simpa using hi
    refine ⟨hkn, fun d => ?_⟩
    have hd := h d
    rw [oneOp_some h0]
    split
    · rename_i hw1; rw [if_pos hw1] at hd
      exact sOp_mono (fun a' w' hk' => ⟨hk'.1, mixT_of_wpMB hCl hl hsel hs hc hn f s _ _ w' inv' hk'.1 hB' hk'.2⟩) hd
    · rename_i hw1; rw [if_neg hw1] at hd
      exact ⟨hd.1, mixT_of_wpMB hCl hl hsel hs hc hn f s _ _ _ inv' hd.1 hB' hd.2⟩
  | f + 1, .two k s j t, listed, a, w, inv, hw, hB, h => by
    simp only [lexMB, Bool.and_eq_true, decide_eq_true_eq] at hB
    obtain ⟨⟨⟨⟨hkn, hjn⟩, hr⟩, hB1⟩, hB2⟩ := hB
    obtain ⟨⟨o1, ho1, h1⟩, o2, ho2, h2⟩ := h
    have e1 : ops[k]? = some o1 := (hl k).symm.trans ho1
    have e2 : ops[j]? = some o2 := (hl j).symm.trans ho2
    have inv1 := inv.set (i := k) (by rw [hr]; simp) hkn
    have inv2 := inv.set (i := j) (by rw [hr]; simp) hjn
    refine ⟨by rw [hr]; simp, fun i hi => ?_⟩
    rw [hr] at hi
    have hi' : i = k ∨ i = j := by simpa using hi
    rcases hi' with rfl | rfl
    · refine ⟨hkn, fun d => ?_⟩
      have hd := h1 d
      rw [oneOp_some e1]
      split
      · rename_i hw1; rw [if_pos hw1] at hd
        exact sOp_mono (fun a' w' hk' => ⟨hk'.1, mixT_of_wpMB hCl hl hsel hs hc hn f s _ _ w' inv1 hk'.1 hB1 hk'.2⟩) hd
      · rename_i hw1; rw [if_neg hw1] at hd
        exact ⟨hd.1, mixT_of_wpMB hCl hl hsel hs hc hn f s _ _ _ inv1 hd.1 hB1 hd.2⟩
    · refine ⟨hjn, fun d => ?_⟩
      have hd := h2 d
      rw [oneOp_some e2]
      split
      · rename_i hw1; rw [if_pos hw1] at hd
        exact sOp_mono (fun a' w' hk' => ⟨hk'.1, mixT_of_wpMB hCl hl hsel hs hc hn f t _ _ w' inv2 hk'.1 hB2 hk'.2⟩) hd
      · rename_i hw1; rw [if_neg hw1] at hd
        exact ⟨hd.1, mixT_of_wpMB hCl hl hsel hs hc hn f t _ _ _ inv2 hd.1 hB2 hd.2⟩
  | 0, .q _ _, _, _, _, _, _, hB, _ => by simp [lexMB] at hB
  | 0, .one _ _, _, _, _, _, _, hB, _ => by simp [lexMB] at hB
  | 0, .two _ _ _ _, _, _, _, _, _, hB, _ => by simp [lexMB] at hB
  | _ + 1, .done, _, _, _, _, _, hB, _ => by simp [lexMB] at hB

theorem region_mixB {id : Nat} {Q : Exit → Act → World → Prop} {a : Act} {w : World} {l : List Oper} (n : Nat) (s : Sch) (hm : P.follows .mixedOrders = true) (hsel : Region.noSelect l.toArray = true)
    (hs : Region.sinkB .any l.toArray n = true) (hc : Region.chainB .any l.toArray n = true) (hn : n < l.toArray.size)
    (hB : lexMB .any l.toArray n (l.toArray.size - n) n s (Array.replicate l.toArray.size false) = true)
    (h : wpMB P l l.toArray (fun d => bw w d) (fun a w => wpList P l.toArray Q (l.drop n) a w) s a w) : (Code.region id l.toArray true).wp P Q a w := by
  have hdl : (l.drop n).length = l.toArray.size - n := by simp
  have inv0 : HeadInv .any l.toArray n (Array.replicate l.toArray.size false) :=
    ⟨by simp, fun j oj _ hl => (by rw [getD_replicate_false] at hl; cases hl), fun t _ ht => getD_in (by simpa using ht) (getD_replicate_false _ _)⟩
  have H := mixT_of_wpMB (md := .any) (g := l.toArray.size - n) (fun k d => ⟨_, bw_bw w k d⟩) (fun j => by simp) hsel hs hc hn n s _ a w inv0 ⟨noExt w, (bw_noExt w).symm⟩ hB h
  refine wp_region_any hm ?_
  have := mixT_ext (⟨#[], w.drawn + 1⟩ : Ext) H
  rw [← bw_drewExt] at this
  have := mixT_sound (Q' := Q) (g := l.toArray.size - n) (fun listed a' w' hL => by
    have := wpAny_of_seq (md := .any) (Q' := Q) (l.drop n) n listed a' w' (fun j => by simp [List.getElem?_drop]) (by rw [hdl]; exact hL.1) hL.2
    rwa [hdl] at this) _ _ _ _ this
  rw [show n + (l.toArray.size - n) = l.toArray.size by omega] at this
  exact this
theorem wpMB_quiet {Q : Act → World → Prop} {a : Act} {w : World} {i : Nat} {o : Oper} {s : Sch} (ho : l[i]? = some o)
    (h : ∀ K : Act → Prop, (∀ a, wpMB P l ops Cl Q s a w → K a) → if Region.wanted o (yielded ops a.tmps) then mOp P Cl o a K else K (a.put o.dst undef)) : wpMB P l ops Cl Q (.q i s) a w :=
  ⟨o, ho, h _ (fun _ h => h)⟩
theorem spB_of {X : Act → World → Prop} {a : Act} {w : World} {i : Nat} {o : Oper} (ho : l[i]? = some o)
    (h : ∀ (K : Act → World → Prop), (∀ a' w', (∃ k, w' = Cl k) → X a' w' → K a' w') → ∀ d, if Region.wanted o (yielded ops a.tmps) then sOp P o a K (bw w d) else K (a.put o.dst undef) (bw w d)) : spB P l ops Cl i X a w :=
  ⟨o, ho, fun d => by
    have := h (fun a' w' => (∃ k, w' = Cl k) ∧ X a' w') (fun _ _ h1 h2 => ⟨h1, h2⟩) d
    split
    · rename_i hw; rw [if_pos hw] at this; exact this
    · rename_i hw; rw [if_neg hw] at this; exact this⟩
theorem wpMB_one {Q : Act → World → Prop} {a : Act} {w : World} {i : Nat} {s : Sch} (h : spB P l ops Cl i (wpMB P l ops Cl Q s) a w) : wpMB P l ops Cl Q (.one i s) a w := h
theorem wpMB_two {Q : Act → World → Prop} {a : Act} {w : World} {i j : Nat} {s t : Sch} (h1 : spB P l ops Cl i (wpMB P l ops Cl Q s) a w) (h2 : spB P l ops Cl j (wpMB P l ops Cl Q t) a w) : wpMB P l ops Cl Q (.two i s j t) a w := ⟨h1, h2⟩
theorem wpMB_done {Q : Act → World → Prop} {a : Act} {w : World} (h : ∀ d, Q a (bw w d)) : wpMB P l ops Cl Q .done a w := h
end
end Go.Proofs.YtlkphcjlgbimkaaGreat
